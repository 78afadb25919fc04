/- Contracts, joined. -/
import Derived.Test.YtlglgcmpeabdnaaGreatDoorMrp3
import Derived.Test.YtlglgcmpeabdnaaGreatDoorAiX
import Derived.Test.YtlglgcmpeabdnaaGreatDoorProg
section
/- MADE BY PROGRAM (wip/tools/gen.py): the abstract code of functions. -/
namespace Go.Proofs.YtlglgcmpeabdnaaGreatDoorAi
open Go AC AOp Opd
set_option linter.unusedVariables false
set_option maxRecDepth 100000
def c_spec_ReadPattern : AC := seq (reg [⟨(some 2), alloc [.int .i64 0, .int .u32 0, .int .u32 0, .sl [] true], none⟩, ⟨(some 3), mv (c (.int .i64 0)), none⟩]) (seq (reg [⟨(some 16), mv (t 0), none⟩, ⟨(some 17), calle (c (.fn 26 [])) [t 16, c (.int .u8 10)] [], none⟩, ⟨(some 4), mv (t 17), none⟩]) (seq (seq (reg [⟨(some 18), mv (t 0), none⟩, ⟨(some 19), lens (t 18), none⟩, ⟨(some 20), bin .gtr (t 19) (c (.int .i64 400)), none⟩, ⟨(some 21), mv (t 20), none⟩, ⟨(some 22), mv (t 4), some (21, false)⟩, ⟨(some 23), len (t 22), some (21, false)⟩, ⟨(some 24), bin .neq (t 23) (c (.int .i64 4)), some (21, false)⟩, ⟨(some 25), pick (t 21) (c (.bool true)) (t 24), none⟩, ⟨(some 26), mv (t 25), none⟩, ⟨(some 27), mv (t 4), some (26, false)⟩, ⟨(some 28), iad 1 (t 27) (c (.int .i64 0)), some (26, false)⟩, ⟨(some 29), ld (t 28) 1 false, some (26, false)⟩, ⟨(some 30), lens (t 29), some (26, false)⟩, ⟨(some 31), bin .lss (t 30) (c (.int .i64 8)), some (26, false)⟩, ⟨(some 32), pick (t 26) (c (.bool true)) (t 31), none⟩, ⟨(some 33), mv (t 32), none⟩, ⟨(some 34), mv (t 4), some (33, false)⟩, ⟨(some 35), iad 1 (t 34) (c (.int .i64 0)), some (33, false)⟩, ⟨(some 36), ld (t 35) 1 false, some (33, false)⟩, ⟨(some 37), sls (t 36) none (some (c (.int .i64 8))), some (33, false)⟩, ⟨(some 38), bin .neq (t 37) (c (.str ⟨#[112, 97, 116, 116, 101, 114, 110, 32]⟩)), some (33, false)⟩, ⟨(some 39), pick (t 33) (c (.bool true)) (t 38), none⟩]) (cond (t 39) (seq (reg [⟨(some 40), bld [.int .i64 0, .int .u32 0, .int .u32 0, .sl [] true] [], none⟩, ⟨none, st (t 2) 4 (t 40), none⟩, ⟨(some 3), mv (c (.int .i64 5)), none⟩]) (ret)) (skip))) (seq (reg [⟨(some 42), mv (t 4), none⟩, ⟨(some 43), iad 1 (t 42) (c (.int .i64 0)), none⟩, ⟨(some 44), ld (t 43) 1 false, none⟩, ⟨(some 45), sls (t 44) (some (c (.int .i64 8))) none, none⟩, ⟨(some 46), callq (c (.fn 27 [])) [t 45], none⟩, ⟨(some 41), mv (t 46), none⟩, ⟨(some 47), ext (t 41) 0, none⟩, ⟨(some 48), ext (t 41) 1, none⟩, ⟨(some 5), alloc [.int .i64 0, .int .u32 0], none⟩, ⟨none, st (t 5) 2 (t 47), none⟩, ⟨(some 6), mv (t 48), none⟩]) (seq (reg [⟨(some 49), mv (t 4), none⟩, ⟨(some 50), iad 1 (t 49) (c (.int .i64 1)), none⟩, ⟨(some 51), ld (t 50) 1 false, none⟩, ⟨(some 52), calle (c (.fn 26 [])) [t 51, c (.int .u8 32)] [], none⟩, ⟨(some 7), mv (t 52), none⟩]) (seq (reg [⟨(some 53), mv (t 4), none⟩, ⟨(some 54), iad 1 (t 53) (c (.int .i64 2)), none⟩, ⟨(some 55), ld (t 54) 1 false, none⟩, ⟨(some 56), calle (c (.fn 26 [])) [t 55, c (.int .u8 32)] [], none⟩, ⟨(some 8), mv (t 56), none⟩]) (seq (seq (reg [⟨(some 57), mv (t 6), none⟩, ⟨(some 58), bin .neq (t 57) (c (.int .i64 0)), none⟩, ⟨(some 59), mv (t 58), none⟩, ⟨(some 60), mv (t 7), some (59, false)⟩, ⟨(some 61), iad 1 (t 60) (c (.int .i64 0)), some (59, false)⟩, ⟨(some 62), ld (t 61) 1 false, some (59, false)⟩, ⟨(some 63), bin .neq (t 62) (c (.str ⟨#[108, 111, 111, 112, 115]⟩)), some (59, false)⟩, ⟨(some 64), pick (t 59) (c (.bool true)) (t 63), none⟩, ⟨(some 65), mv (t 64), none⟩, ⟨(some 66), mv (t 8), some (65, false)⟩, ⟨(some 67), iad 1 (t 66) (c (.int .i64 0)), some (65, false)⟩, ⟨(some 68), ld (t 67) 1 false, some (65, false)⟩, ⟨(some 69), bin .neq (t 68) (c (.str ⟨#[119, 101, 105, 103, 104, 116, 115]⟩)), some (65, false)⟩, ⟨(some 70), pick (t 65) (c (.bool true)) (t 69), none⟩]) (cond (t 70) (seq (reg [⟨(some 71), bld [.int .i64 0, .int .u32 0, .int .u32 0, .sl [] true] [], none⟩, ⟨none, st (t 2) 4 (t 71), none⟩, ⟨(some 3), mv (c (.int .i64 5)), none⟩]) (ret)) (skip))) (seq (reg [⟨(some 72), ld (t 5) 2 true, none⟩, ⟨(some 73), bld [.int .i64 0, .int .u32 0, .int .u32 0, .sl [] true] [(0, 2, t 72)], none⟩, ⟨(some 9), alloc [.int .i64 0, .int .u32 0, .int .u32 0, .sl [] true], none⟩, ⟨none, st (t 9) 4 (t 73), none⟩]) (seq (seq (reg [⟨(some 10), mv (c (.int .i64 1)), none⟩]) (block 0 (loop (seq (seq (reg [⟨(some 74), mv (t 10), none⟩, ⟨(some 75), mv (t 7), none⟩, ⟨(some 76), len (t 75), none⟩, ⟨(some 77), bin .lss (t 74) (t 76), none⟩]) (cond (t 77) (skip) (exit 0))) (seq (block 1 (seq (reg [⟨(some 81), mv (t 7), none⟩, ⟨(some 82), mv (t 10), none⟩, ⟨(some 83), iad 1 (t 81) (t 82), none⟩, ⟨(some 84), ld (t 83) 1 false, none⟩, ⟨(some 85), callq (c (.fn 28 [])) [t 84], none⟩, ⟨(some 80), mv (t 85), none⟩, ⟨(some 86), ext (t 80) 0, none⟩, ⟨(some 87), ext (t 80) 1, none⟩, ⟨(some 11), mv (t 86), none⟩, ⟨(some 12), mv (t 87), none⟩]) (seq (seq (reg [⟨(some 88), mv (t 12), none⟩, ⟨(some 89), un .not (t 88), none⟩, ⟨(some 90), mv (t 89), none⟩, ⟨(some 91), mv (t 11), some (90, false)⟩, ⟨(some 92), fad (t 5) 0, some (90, false)⟩, ⟨(some 93), ld (t 92) 1 false, some (90, false)⟩, ⟨(some 94), bin .geq (t 91) (t 93), some (90, false)⟩, ⟨(some 95), pick (t 90) (c (.bool true)) (t 94), none⟩]) (cond (t 95) (seq (reg [⟨(some 96), bld [.int .i64 0, .int .u32 0, .int .u32 0, .sl [] true] [], none⟩, ⟨none, st (t 2) 4 (t 96), none⟩, ⟨(some 3), mv (c (.int .i64 5)), none⟩]) (ret)) (skip))) (reg [⟨(some 97), fad (t 9) 2, none⟩, ⟨(some 98), ld (t 97) 1 false, none⟩, ⟨(some 99), mv (t 11), none⟩, ⟨(some 100), conv .u64 (t 99), none⟩, ⟨(some 101), bin .shl (c (.int .u32 1)) (t 100), none⟩, ⟨(some 102), bin .or (t 98) (t 101), none⟩, ⟨(some 103), fad (t 9) 2, none⟩, ⟨none, st (t 103) 1 (t 102), none⟩])))) (reg [⟨(some 78), mv (t 10), none⟩, ⟨(some 79), bin .add (t 78) (c (.int .i64 1)), none⟩, ⟨(some 10), mv (t 79), none⟩])))))) (seq (seq (reg [⟨(some 13), mv (c (.int .i64 1)), none⟩]) (block 2 (loop (seq (seq (reg [⟨(some 104), mv (t 13), none⟩, ⟨(some 105), mv (t 8), none⟩, ⟨(some 106), len (t 105), none⟩, ⟨(some 107), bin .lss (t 104) (t 106), none⟩]) (cond (t 107) (skip) (exit 2))) (seq (block 3 (seq (reg [⟨(some 111), mv (t 8), none⟩, ⟨(some 112), mv (t 13), none⟩, ⟨(some 113), iad 1 (t 111) (t 112), none⟩, ⟨(some 114), ld (t 113) 1 false, none⟩, ⟨(some 115), callq (c (.fn 29 [])) [t 114], none⟩, ⟨(some 110), mv (t 115), none⟩, ⟨(some 116), ext (t 110) 0, none⟩, ⟨(some 117), ext (t 110) 1, none⟩, ⟨(some 14), alloc [.int .i64 0, .int .i64 0], none⟩, ⟨none, st (t 14) 2 (t 116), none⟩, ⟨(some 15), mv (t 117), none⟩]) (seq (seq (reg [⟨(some 118), mv (t 15), none⟩, ⟨(some 119), un .not (t 118), none⟩]) (cond (t 119) (seq (reg [⟨(some 120), bld [.int .i64 0, .int .u32 0, .int .u32 0, .sl [] true] [], none⟩, ⟨none, st (t 2) 4 (t 120), none⟩, ⟨(some 3), mv (c (.int .i64 5)), none⟩]) (ret)) (skip))) (reg [⟨(some 121), fad (t 9) 3, none⟩, ⟨(some 122), ld (t 121) 1 false, none⟩, ⟨(some 123), ld (t 14) 2 true, none⟩, ⟨(some 124), bsl 2 1 [.int .i64 0, .int .i64 0] [(0, t 123)], none⟩, ⟨(some 125), app 2 16 (t 122) (t 124), none⟩, ⟨(some 126), fad (t 9) 3, none⟩, ⟨none, st (t 126) 1 (t 125), none⟩])))) (reg [⟨(some 108), mv (t 13), none⟩, ⟨(some 109), bin .add (t 108) (c (.int .i64 1)), none⟩, ⟨(some 13), mv (t 109), none⟩])))))) (seq (seq (seq shift (reg [⟨(some 127), calle (c (.fn 30 [])) [t 9] [], none⟩, ⟨(some 128), un .not (t 127), none⟩, ⟨(some 129), mv (t 128), none⟩, ⟨(some 130), ld (t 9) 4 true, some (129, false)⟩, ⟨(some 131), callq (c (.fn 31 [])) [t 130], some (129, false)⟩, ⟨(some 132), mv (t 0), some (129, false)⟩, ⟨(some 133), bin .neq (t 131) (t 132), some (129, false)⟩, ⟨(some 134), pick (t 129) (c (.bool true)) (t 133), none⟩])) (cond (t 134) (seq (reg [⟨(some 135), bld [.int .i64 0, .int .u32 0, .int .u32 0, .sl [] true] [], none⟩, ⟨none, st (t 2) 4 (t 135), none⟩, ⟨(some 3), mv (c (.int .i64 5)), none⟩]) (ret)) (skip))) (seq (reg [⟨(some 136), ld (t 9) 4 true, none⟩, ⟨none, st (t 2) 4 (t 136), none⟩, ⟨(some 3), mv (c (.int .i64 0)), none⟩]) (ret))))))))))))
def r_spec_ReadPattern : List ARes := [.cell 2 4 true, .tmp 3]
theorem k_spec_ReadPattern : acLin Go.Proofs.Tryz.prog 7 1 (inQ [27, 28, 29, 31] [26, 30]) [⟨false, none, [], [], none⟩, ⟨false, none, [], [], none⟩, ⟨false, none, [], [], none⟩, ⟨false, none, [], [], none⟩, ⟨false, none, [], [], none⟩, ⟨false, none, [], [], none⟩, ⟨false, none, [], [], none⟩, ⟨false, none, [], [], none⟩, ⟨false, none, [], [], none⟩, ⟨false, none, [], [], none⟩, ⟨false, none, [], [], none⟩, ⟨false, none, [], [], none⟩, ⟨false, none, [], [], none⟩, ⟨false, none, [], [], none⟩, ⟨false, none, [], [], none⟩, ⟨false, none, [], [], none⟩, ⟨false, none, [], [], none⟩, ⟨false, none, [], [], none⟩, ⟨false, none, [], [], none⟩, ⟨false, none, [], [], none⟩, ⟨false, none, [], [], none⟩, ⟨false, none, [], [], none⟩, ⟨false, none, [], [], none⟩, ⟨false, none, [], [], none⟩, ⟨false, none, [], [], none⟩, ⟨false, none, [], [], none⟩, ⟨false, none, [], [], none⟩, ⟨false, none, [], [], none⟩, ⟨false, none, [], [], none⟩, ⟨false, none, [], [], none⟩, ⟨true, none, [], [], none⟩] = some (c_spec_ReadPattern, r_spec_ReadPattern) := by kernel_rfl
def c_laws_FnExactReadPattern : AC := seq (reg [⟨(some 2), mv (c (.bool false)), none⟩]) (seq (seq (reg [⟨(some 11), mv (t 0), none⟩, ⟨(some 12), lens (t 11), none⟩, ⟨(some 13), bin .gtr (t 12) (c (.int .i64 1048576)), none⟩]) (cond (t 13) (seq (reg [⟨(some 2), mv (c (.bool true)), none⟩]) (ret)) (skip))) (seq (reg [⟨(some 15), mv (t 0), none⟩, ⟨(some 16), callq (c (.fn 7 [])) [t 15], none⟩, ⟨(some 14), mv (t 16), none⟩, ⟨(some 17), ext (t 14) 0, none⟩, ⟨(some 18), ext (t 14) 1, none⟩, ⟨(some 3), alloc [.int .i64 0, .int .u32 0, .int .u32 0, .sl [] true], none⟩, ⟨none, st (t 3) 4 (t 17), none⟩, ⟨(some 4), mv (t 18), none⟩]) (seq (reg [⟨(some 20), mv (t 0), none⟩, ⟨(some 21), calle (c (.fn 8 [])) [t 20] [], none⟩, ⟨(some 19), mv (t 21), none⟩, ⟨(some 22), ext (t 19) 0, none⟩, ⟨(some 23), ext (t 19) 1, none⟩, ⟨(some 5), alloc [.int .i64 0, .int .u32 0, .int .u32 0, .sl [] true], none⟩, ⟨none, st (t 5) 4 (t 22), none⟩, ⟨(some 6), mv (t 23), none⟩]) (seq (seq (reg [⟨(some 24), ld (t 5) 4 true, none⟩, ⟨(some 25), ld (t 3) 4 true, none⟩, ⟨(some 26), calle (c (.fn 9 [])) [t 24, t 25] [], none⟩, ⟨(some 27), un .not (t 26), none⟩, ⟨(some 28), mv (t 27), none⟩, ⟨(some 29), mv (t 6), some (28, false)⟩, ⟨(some 30), mv (t 4), some (28, false)⟩, ⟨(some 31), bin .neq (t 29) (t 30), some (28, false)⟩, ⟨(some 32), pick (t 28) (c (.bool true)) (t 31), none⟩]) (cond (t 32) (seq (reg [⟨(some 2), mv (c (.bool false)), none⟩]) (ret)) (skip))) (seq (reg [⟨(some 7), mv (c (.int .i64 1)), none⟩]) (seq (reg [⟨(some 33), ld (t 5) 4 true, none⟩, ⟨(some 34), mv (t 7), none⟩, ⟨(some 35), calle (c (.fn 10 [])) [t 33, t 34] [], none⟩, ⟨(some 7), mv (t 35), none⟩]) (seq (reg [⟨(some 8), mv (c (.int .i64 1)), none⟩]) (seq (reg [⟨(some 36), ld (t 5) 4 true, none⟩, ⟨(some 37), mv (t 8), none⟩, ⟨(some 38), calle (c (.fn 11 [])) [t 36, t 37] [], none⟩, ⟨(some 8), mv (t 38), none⟩]) (seq (seq (reg [⟨(some 39), mv (t 8), none⟩, ⟨(some 40), bin .lss (t 39) (c (.int .i64 0)), none⟩]) (cond (t 40) (seq (reg [⟨(some 2), mv (c (.bool false)), none⟩]) (ret)) (skip))) (seq (seq (reg [⟨(some 41), mv (t 8), none⟩, ⟨(some 42), mv (t 7), none⟩, ⟨(some 43), bin .neq (t 41) (t 42), none⟩]) (cond (t 43) (seq (reg [⟨(some 2), mv (c (.bool false)), none⟩]) (ret)) (skip))) (seq (reg [⟨(some 45), mv (t 0), none⟩, ⟨(some 46), calle (c (.fn 8 [])) [t 45] [], none⟩, ⟨(some 44), mv (t 46), none⟩, ⟨(some 47), ext (t 44) 0, none⟩, ⟨(some 48), ext (t 44) 1, none⟩, ⟨(some 9), alloc [.int .i64 0, .int .u32 0, .int .u32 0, .sl [] true], none⟩, ⟨none, st (t 9) 4 (t 47), none⟩, ⟨(some 10), mv (t 48), none⟩]) (seq (seq (reg [⟨(some 49), ld (t 9) 4 true, none⟩, ⟨(some 50), ld (t 3) 4 true, none⟩, ⟨(some 51), calle (c (.fn 9 [])) [t 49, t 50] [], none⟩, ⟨(some 52), un .not (t 51), none⟩, ⟨(some 53), mv (t 52), none⟩, ⟨(some 54), mv (t 10), some (53, false)⟩, ⟨(some 55), mv (t 4), some (53, false)⟩, ⟨(some 56), bin .neq (t 54) (t 55), some (53, false)⟩, ⟨(some 57), pick (t 53) (c (.bool true)) (t 56), none⟩]) (cond (t 57) (seq (reg [⟨(some 2), mv (c (.bool false)), none⟩]) (ret)) (skip))) (seq (reg [⟨(some 8), mv (c (.int .i64 1)), none⟩]) (seq (reg [⟨(some 58), ld (t 5) 4 true, none⟩, ⟨(some 59), mv (t 8), none⟩, ⟨(some 60), calle (c (.fn 11 [])) [t 58, t 59] [], none⟩, ⟨(some 8), mv (t 60), none⟩]) (seq (seq (reg [⟨(some 61), mv (t 8), none⟩, ⟨(some 62), bin .lss (t 61) (c (.int .i64 0)), none⟩]) (cond (t 62) (seq (reg [⟨(some 2), mv (c (.bool false)), none⟩]) (ret)) (skip))) (seq (seq (reg [⟨(some 63), mv (t 8), none⟩, ⟨(some 64), mv (t 7), none⟩, ⟨(some 65), bin .neq (t 63) (t 64), none⟩]) (cond (t 65) (seq (reg [⟨(some 2), mv (c (.bool false)), none⟩]) (ret)) (skip))) (seq (reg [⟨(some 2), mv (c (.bool true)), none⟩]) (ret))))))))))))))))))
def r_laws_FnExactReadPattern : List ARes := [.tmp 2]
theorem k_laws_FnExactReadPattern : acLin Go.Proofs.Tryz.prog 3 1 (inQ [7] [8, 9, 10, 11]) [] = some (c_laws_FnExactReadPattern, r_laws_FnExactReadPattern) := by kernel_rfl
end Go.Proofs.YtlglgcmpeabdnaaGreatDoorAi
end

section
/- Contracts: ReadPattern of the reference. -/
namespace Go.Proofs.YtlglgcmpeabdnaaGreatDoorAi
open Go Go.RowKit
set_option linter.unusedVariables false
set_option linter.unusedSimpArgs false
set_option maxRecDepth 20000

theorem Shift.frs {N : Nat} {t : Nat → AV} {o0 o1 o2 o3 o4 : Option (List AV)} {a b c : AV} {L : List Fr} : Shift N ⟨t, ⟨[o0, o1, o2, o3, o4, some [a, b, c, .ref 6 2 0 L.length .full], some (flatA (frsA L))]⟩⟩ ⟨t, ⟨[o0, o1, o2, o3, o4, some [a, b, c, .sl (frsA L) false], none]⟩⟩ := by
  refine Shift.freeze (b := 6) (cs := flatA (frsA L)) rfl (fun i => .inr (Fz.refl _ _ _)) rfl (fun i l' h => ?_)
  match i, h with
  | 0, h => exact ⟨by decide, l', h, rfl, fun i x x' e1 e2 => .inl (by rw [e1] at e2; exact (Option.some.inj e2).symm)⟩
  | 1, h => exact ⟨by decide, l', h, rfl, fun i x x' e1 e2 => .inl (by rw [e1] at e2; exact (Option.some.inj e2).symm)⟩
  | 2, h => exact ⟨by decide, l', h, rfl, fun i x x' e1 e2 => .inl (by rw [e1] at e2; exact (Option.some.inj e2).symm)⟩
  | 3, h => exact ⟨by decide, l', h, rfl, fun i x x' e1 e2 => .inl (by rw [e1] at e2; exact (Option.some.inj e2).symm)⟩
  | 4, h => exact ⟨by decide, l', h, rfl, fun i x x' e1 e2 => .inl (by rw [e1] at e2; exact (Option.some.inj e2).symm)⟩
  | 5, h =>
    have h : some [a, b, c, .sl (frsA L) false] = some l' := h
    injection h with h
    subst h
    refine ⟨by decide, _, rfl, rfl, fun i u u' e1 e2 => ?_⟩
    match i, e1, e2 with
    | 0, e1, e2 => cases e1; cases e2; exact .inl rfl
    | 1, e1, e2 => cases e1; cases e2; exact .inl rfl
    | 2, e1, e2 => cases e1; cases e2; exact .inl rfl
    | 3, e1, e2 =>
      cases e1; cases e2
      exact .inr (.inr ⟨2, 0, L.length, .full, frsA L, false, rfl, rfl, (fun h => by cases h), by simp, by simp, frsA_cells L, .inl (by simp; exact (List.take_of_length_le (by simp)).symm)⟩)
    | k + 4, e1, e2 => cases e1
  | 6, h => cases h
  | k + 7, h => cases h
/-! ### what is read -/
def bgP (s p : ByteArray) : Bool := decide (p.size ≤ s.size) && (s.extract 0 p.size == p)
def wgtB : ByteArray := ⟨#[119, 101, 105, 103, 104, 116, 115]⟩
def sL (n : Nat) : List ByteArray → Nat → Option Nat
  | [], l => some l
  | w :: r, l => if l01B w = true ∧ l01V w < n then sL n r (l ||| 2 ^ (l01V w).toNat) else none
def sF : List ByteArray → List Fr → Option (List Fr)
  | [], L => some L
  | w :: r, L => if rdOk w = true then sF r (L ++ [⟨rdP w, rdQ w⟩]) else none
def spW (s : ByteArray) : List ByteArray := splitL s 10
def sp0 (s : ByteArray) : ByteArray := (spW s)[0]?.getD noB
def sp1 (s : ByteArray) : List ByteArray := splitL ((spW s)[1]?.getD noB) 32
def sp2 (s : ByteArray) : List ByteArray := splitL ((spW s)[2]?.getD noB) 32
open Classical in
noncomputable def spO (s : ByteArray) : Option (Nat × Nat × Nat × List Fr) := if (s.size ≤ 400 ∧ (spW s).length = 4) ∧ bgP (sp0 s) patB = true then (rsO ((sp0 s).extract 8 (sp0 s).size)).bind fun g => if ((sp1 s)[0]?.getD noB == loopsB) = true ∧ ((sp2 s)[0]?.getD noB == wgtB) = true then (sL g.1 (sp1 s).tail 0).bind fun l => (sF (sp2 s).tail []).bind fun L => if ipF s g.1 g.2 l L then some (g.1, g.2, l, L) else none else none else none
def spA : Option (Nat × Nat × Nat × List Fr) → AV
  | some (n, e, l, L) => .tup [.agg [.int .i64 n, .int .u32 e, .int .u32 l, .sl (frsA L) false], .int .i64 0]
  | none => .tup [.agg [.int .i64 0, .int .u32 0, .int .u32 0, .sl [] true], .int .i64 5]
@[simp] theorem spA_lt (o : Option (Nat × Nat × Nat × List Fr)) (k : Nat) : (spA o).lt k = true := by
  cases o with
  | none => rfl
  | some x =>
    obtain ⟨n, e, l, L⟩ := x
    simp [spA]
theorem shl5 : ∀ k : Nat, k < 5 → IntKind.u32.wrap (2 ^ min k IntKind.u32.bits) = 2 ^ k := by decide
theorem or_lt32 {l k : Nat} (hl : l < 32) (hk : k < 5) : l ||| 2 ^ k < 32 := by
  have h2 : 2 ^ k < 32 := by
    have : k = 0 ∨ k = 1 ∨ k = 2 ∨ k = 3 ∨ k = 4 := by omega
    rcases this with rfl | rfl | rfl | rfl | rfl <;> decide
  exact Nat.or_lt_two_pow (n := 5) hl h2
theorem or_loops5 {l k : Nat} (hl : l < 32) (hk : k < 5) : IntKind.u32.wrap (BitVec.ofInt IntKind.u32.bits (l : Int) ||| BitVec.ofInt IntKind.u32.bits ((2 : Int) ^ k)).toNat = ((l ||| 2 ^ k : Nat) : Int) := by
  have h2 : 2 ^ k < 32 := by
    have : k = 0 ∨ k = 1 ∨ k = 2 ∨ k = 3 ∨ k = 4 := by omega
    rcases this with rfl | rfl | rfl | rfl | rfl <;> decide
  have ho := or32 (a := l) (b := 2 ^ k) (by omega) (by omega)
  have hcast : ((2 ^ k : Nat) : Int) = 2 ^ k := by simp
  rw [hcast] at ho
  exact ho
noncomputable def sp_readPtS : List AV → Option (AV) := pf (ι := (ByteArray)) (α := AV) (fun s => s.size ≤ 1048576) (fun s => [.str s]) (fun s => spA (spO s))
theorem sp_readPtS_eq (s : ByteArray) (h : s.size ≤ 1048576) : sp_readPtS [.str s] = some (spA (spO s)) := by
  unfold sp_readPtS
  exact pf_eq (ι := (ByteArray)) (α := AV) s h (by rintro s' _ e; simp_all [Int.natCast_inj])
set_option maxHeartbeats 8000000 in
theorem q_spec_ReadPattern : QP PP 7 sp_readPtS := by
  refine QP_pf (fun s h => ?_) fun s h => ?_
  · exact ⟨by first | rfl | simp, by first | rfl | simp⟩
  replace h : s.size ≤ 1048576 := h
  refine P_code (Quiet.q1 q_spec_ReadGraph (Quiet.q1 q_spec_l01Number (Quiet.q1 q_spec_l02Read (Quiet.q1 q_spec_PatternText (Quiet.e1 n_spec_l01Split.toE (Quiet.e1 m_spec_l07Ok.toE Quiet.nil)))))) hmix k_spec_ReadPattern rfl ?_ ?_
  · first | rfl | simp
  show wpc 0 PP _ c_spec_ReadPattern (initSt [.str s] .nil) (endP r_spec_ReadPattern (spA (spO s)))
  have hsp := sp_split_eq s 10 ⟨h, by omega, by omega⟩
  rw [flat_strs] at hsp
  have hne : splitL s 10 ≠ [] := (splF_len s 10 _ _ _ _).2
  have hsz := splitL_size s 10
  obtain ⟨R, hR⟩ : ∃ R, R = spO s := ⟨_, rfl⟩
  rw [← hR]
  unfold spO at hR
  have eW : spW s = splitL s 10 := rfl
  have e0 : sp0 s = (splitL s 10)[0]?.getD noB := rfl
  have e1 : sp1 s = splitL ((splitL s 10)[1]?.getD noB) 32 := rfl
  have e2 : sp2 s = splitL ((splitL s 10)[2]?.getD noB) 32 := rfl
  rw [eW, e0, e1, e2] at hR
  clear eW e0 e1 e2
  generalize splitL s 10 = W at *
  have r3 : ∀ n, ltL n (strsA W) = true := fun n => by rw [← flat_strs]; simp
  have rr : ∀ f, renL f (strsA W) = strsA W := fun f => by rw [← flat_strs]; simp
  by_cases hs : s.size ≤ 400
  · have hsi : ¬ (400 : Int) < s.size := by omega
    by_cases h4 : W.length = 4
    · obtain ⟨w0, w1, w2, w3, rfl⟩ : ∃ a b c d, W = [a, b, c, d] := by
        match W, h4 with
        | [a, b, c, d], _ => exact ⟨a, b, c, d, rfl⟩
      have hR : R = (open Classical in if (s.size ≤ 400 ∧ 4 = 4) ∧ bgP w0 patB = true then (rsO (w0.extract 8 w0.size)).bind fun g => if ((splitL w1 32)[0]?.getD noB == loopsB) = true ∧ ((splitL w2 32)[0]?.getD noB == wgtB) = true then (sL g.1 (splitL w1 32).tail 0).bind fun l => (sF (splitL w2 32).tail []).bind fun L => if ipF s g.1 g.2 l L then some (g.1, g.2, l, L) else none else none else none) := hR
      have z0 := hsz w0 (by simp)
      have z1 := hsz w1 (by simp)
      have z2 := hsz w2 (by simp)
      by_cases h8 : w0.size < 8
      · have h8i : (w0.size : Int) < 8 := by omega
        have hR2 : R = none := by
          rw [hR, if_neg]
          rintro ⟨_, hb⟩
          unfold bgP at hb
          simp only [Bool.and_eq_true, decide_eq_true_eq] at hb
          have : patB.size = 8 := rfl
          omega
        clear hR
        subst hR2
        simp -dsimp -implicitDefEqProofs [c_spec_ReadPattern, r_spec_ReadPattern, hsp, rr, hsi, h8i, spA, hsub]
      have h8i : ¬ (w0.size : Int) < 8 := by omega
      have h8n : 8 ≤ w0.size := by omega
      cases hp : (w0.extract 0 8 == patB) with
      | false =>
        have hp' : (w0.extract 0 8 != (⟨#[112, 97, 116, 116, 101, 114, 110, 32]⟩ : ByteArray)) = true := by
          show (!(w0.extract 0 8 == patB)) = true
          rw [hp]; rfl
        have hR2 : R = none := by
          rw [hR, if_neg]
          rintro ⟨_, hb⟩
          unfold bgP at hb
          rw [Bool.and_eq_true] at hb
          have h2 : (w0.extract 0 8 == patB) = true := hb.2
          rw [hp] at h2; cases h2
        clear hR
        subst hR2
        simp -dsimp -implicitDefEqProofs [c_spec_ReadPattern, r_spec_ReadPattern, hsp, rr, hsi, h8i, h8n, hp', spA, hsub]
      | true =>
      have hp' : (w0.extract 0 8 != (⟨#[112, 97, 116, 116, 101, 114, 110, 32]⟩ : ByteArray)) = false := by
        show (!(w0.extract 0 8 == patB)) = false
        rw [hp]; rfl
      rw [if_pos ⟨⟨hs, rfl⟩, by unfold bgP; rw [decide_eq_true (show patB.size ≤ w0.size from h8n), Bool.true_and]; exact hp⟩] at hR
      have hgr := sp_readGrS_eq (w0.extract 8 w0.size) (by rw [ByteArray.size_extract]; omega)
      have hs1 := sp_split_eq w1 32 ⟨by omega, by omega, by omega⟩
      have hs2 := sp_split_eq w2 32 ⟨by omega, by omega, by omega⟩
      rw [flat_strs] at hs1 hs2
      have hp1 : splitL w1 32 ≠ [] := (splF_len w1 32 _ _ _ _).2
      have hp2 : splitL w2 32 ≠ [] := (splF_len w2 32 _ _ _ _).2
      have y1 := splitL_size w1 32
      have y2 := splitL_size w2 32
      have m1 := (splF_len w1 32 w1.size 0 0 []).1
      have m2 := (splF_len w2 32 w2.size 0 0 []).1
      change (splitL w1 32).length ≤ _ at m1
      change (splitL w2 32).length ≤ _ at m2
      simp only [List.length_nil] at m1 m2
      generalize splitL w1 32 = P1 at *
      generalize splitL w2 32 = P2 at *
      have t3 : ∀ n, ltL n (strsA P1) = true := fun n => by rw [← flat_strs]; simp
      have tr : ∀ f, renL f (strsA P1) = strsA P1 := fun f => by rw [← flat_strs]; simp
      have u3 : ∀ n, ltL n (strsA P2) = true := fun n => by rw [← flat_strs]; simp
      have ur : ∀ f, renL f (strsA P2) = strsA P2 := fun f => by rw [← flat_strs]; simp
      have l1 : 0 < P1.length := List.length_pos_iff.2 hp1
      have l2 : 0 < P2.length := List.length_pos_iff.2 hp2
      have l1i : (0 : Int) < P1.length := by omega
      have l2i : (0 : Int) < P2.length := by omega
      have a1 : P1[0]? = some P1[0] := List.getElem?_eq_getElem l1
      have a2 : P2[0]? = some P2[0] := List.getElem?_eq_getElem l2
      rw [a1, a2, Option.getD_some, Option.getD_some] at hR
      cases hg : rsO (w0.extract 8 w0.size) with
      | none =>
        rw [hg] at hgr hR
        have hR2 : R = none := hR
        clear hR
        subst hR2
        simp -dsimp -implicitDefEqProofs [c_spec_ReadPattern, r_spec_ReadPattern, hsp, rr, hsi, h8i, h8n, hp', hgr, rgA, hs1, hs2, tr, ur, spA, hsub]
      | some g =>
      obtain ⟨n, e⟩ := g
      have hne5 := rgO_lt (s := w0.extract 8 w0.size) (n := n) (m := e) (by rw [graph_same]; exact hg)
      rw [hg] at hgr hR
      rw [Option.bind_some] at hR
      cases hq1 : (P1[0] == loopsB) with
      | false =>
        have hq1' : (P1[0] != (⟨#[108, 111, 111, 112, 115]⟩ : ByteArray)) = true := by
          show (!(P1[0] == loopsB)) = true
          rw [hq1]; rfl
        have hR2 : R = none := by rw [hR, if_neg]; intro h; rw [hq1] at h; exact absurd h.1 (by decide)
        clear hR
        subst hR2
        simp -dsimp -implicitDefEqProofs [c_spec_ReadPattern, r_spec_ReadPattern, hsp, rr, hsi, h8i, h8n, hp', hgr, rgA, hs1, hs2, tr, ur, l1, l1i, a1, hq1', spA, hsub]
      | true =>
      have hq1' : (P1[0] != (⟨#[108, 111, 111, 112, 115]⟩ : ByteArray)) = false := by
        show (!(P1[0] == loopsB)) = false
        rw [hq1]; rfl
      cases hq2 : (P2[0] == wgtB) with
      | false =>
        have hq2' : (P2[0] != (⟨#[119, 101, 105, 103, 104, 116, 115]⟩ : ByteArray)) = true := by
          show (!(P2[0] == wgtB)) = true
          rw [hq2]; rfl
        have hR2 : R = none := by rw [hR, if_neg]; intro h; rw [hq2] at h; exact absurd h.2 (by decide)
        clear hR
        subst hR2
        simp -dsimp -implicitDefEqProofs [c_spec_ReadPattern, r_spec_ReadPattern, hsp, rr, hsi, h8i, h8n, hp', hgr, rgA, hs1, hs2, tr, ur, l1, l1i, a1, hq1', l2, l2i, a2, hq2', spA, hsub]
      | true =>
      have hq2' : (P2[0] != (⟨#[119, 101, 105, 103, 104, 116, 115]⟩ : ByteArray)) = false := by
        show (!(P2[0] == wgtB)) = false
        rw [hq2]; rfl
      rw [if_pos ⟨hq1, hq2⟩] at hR
      obtain ⟨F1, hF1⟩ : ∃ F : Nat → Option (Nat × Nat × Nat × List Fr), F = fun l => (sF P2.tail []).bind fun L => (open Classical in if ipF s n e l L then some (n, e, l, L) else none) := ⟨_, rfl⟩
      have hR1 : R = (sL n (P1.drop 1) 0).bind F1 := by rw [hR, hF1, List.drop_one]
      clear hR
      simp -dsimp -implicitDefEqProofs [c_spec_ReadPattern, r_spec_ReadPattern, hsp, rr, hsi, h8i, h8n, hp', hgr, rgA, hs1, hs2, tr, ur, l1, l1i, a1, hq1', l2, l2i, a2, hq2']
      refine wpLoop_st (fun (x : Nat × Nat) => ⟨tl [(0, .str s), (2, .ptr 0 0), (5, .ptr 2 0), (7, .ref 3 1 0 P1.length .full), (8, .ref 4 1 0 P2.length .full), (9, .ptr 5 0), (10, .int .i64 x.1)], ⟨[some [.int .i64 0, .int .u32 0, .int .u32 0, .sl [] true], some (strsA [w0, w1, w2, w3]), some [.int .i64 n, .int .u32 e], some (strsA P1), some (strsA P2), some [.int .i64 n, .int .u32 e, .int .u32 x.2, .sl [] true]]⟩⟩) (fun x => (1 ≤ x.1 ∧ x.1 ≤ P1.length) ∧ x.2 < 32 ∧ R = (sL n (P1.drop x.1) x.2).bind F1) (fun x => P1.length - x.1) (1, 0) ⟨⟨Nat.le_refl _, l1⟩, by decide, hR1⟩ (Sub.keep (by simp) (by simp [hsub, r3, rr, t3, tr, u3, ur]) (by simp)) ?_
      rintro ⟨k, l⟩ ⟨⟨hk1, hk⟩, hl, hRk⟩
      simp only at hk1 hk hl hRk
      simp -dsimp -implicitDefEqProofs
      refine brW_of (fun h => ?_) (fun h => ?_) <;> simp only [decide_eq_true_eq, decide_eq_false_iff_not] at h
      · have hx : k < P1.length := by omega
        have hwk := wrapNat (i := k) (by omega)
        have q1 : P1[k]? = some P1[k] := List.getElem?_eq_getElem hx
        have hni := sp_l01Num_eq P1[k] (by have := y1 _ (List.getElem_mem hx); omega)
        have hd : P1.drop k = P1[k] :: P1.drop (k + 1) := List.drop_eq_getElem_cons hx
        rw [hd] at hRk
        have hgl : sL n (P1[k] :: P1.drop (k + 1)) l = if l01B P1[k] = true ∧ l01V P1[k] < n then sL n (P1.drop (k + 1)) (l ||| 2 ^ (l01V P1[k]).toNat) else none := by rw [sL]
        have hv0 := l01V_in P1[k]
        generalize hww : P1[k] = w at *
        cases hb : l01B w with
        | false =>
          rw [hb] at hni
          rw [if_neg (fun h => by rw [hb] at h; exact absurd h.1 (by decide))] at hgl
          have hR2 : R = none := by rw [hRk, hgl]; rfl
          clear hRk hR1
          subst hR2
          simp -dsimp -implicitDefEqProofs [hx, q1, hww, hni, spA, hsub]
        | true =>
          rw [hb] at hni
          obtain ⟨j, hj⟩ := Int.eq_ofNat_of_zero_le hv0.1
          by_cases hjn : l01V w < n
          · rw [if_pos ⟨hb, hjn⟩, hj, Int.toNat_natCast] at hgl
            rw [hj] at hni hjn
            have hj5 : j < 5 := by omega
            have hjg : ¬ (n : Int) ≤ (j : Int) := by omega
            have hj0 : ¬ (j : Int) < 0 := by omega
            have hu : IntKind.u64.wrap (j : Int) = j := wrapU64 (by omega) (by omega)
            have hsh := shl5 j hj5
            have ho := or_loops5 hl hj5
            simp at ho
            rw [hgl] at hRk
            simp -dsimp -implicitDefEqProofs [hx, q1, hww, hni, hjg, hj0, hu, hsh, ho, hwk]
            exact .mk (k + 1, l ||| 2 ^ j) ⟨⟨by simp only; omega, by simp only; omega⟩, or_lt32 hl hj5, hRk⟩ (by simp only; omega) (Sub.keep (by simp) (by simp [hsub, r3, rr, t3, tr, u3, ur]) (by simp [hwk]))
          · rw [if_neg (fun h => hjn h.2)] at hgl
            have hjg : (n : Int) ≤ l01V w := by omega
            have hR2 : R = none := by rw [hRk, hgl]; rfl
            clear hRk hR1
            subst hR2
            simp -dsimp -implicitDefEqProofs [hx, q1, hww, hni, hjg, spA, hsub]
      · have hi : k = P1.length := by omega
        subst hi
        rw [List.drop_length, sL, Option.bind_some, hF1] at hRk
        obtain ⟨F2, hF2⟩ : ∃ F : List Fr → Option (Nat × Nat × Nat × List Fr), F = fun L => (open Classical in if ipF s n e l L then some (n, e, l, L) else none) := ⟨_, rfl⟩
        have hR2 : R = (sF (P2.drop 1) []).bind F2 := by rw [hRk, hF2, List.drop_one]
        clear hRk hR1 hF1
        simp -dsimp -implicitDefEqProofs
        refine wpLoop_st (fun (L : List Fr) => ⟨tl [(0, .str s), (2, .ptr 0 0), (8, .ref 4 1 0 P2.length .full), (9, .ptr 5 0), (13, .int .i64 ((L.length : Int) + 1))], ⟨some [.int .i64 0, .int .u32 0, .int .u32 0, .sl [] true] :: some (strsA [w0, w1, w2, w3]) :: some [.int .i64 n, .int .u32 e] :: some (strsA P1) :: some (strsA P2) :: some [.int .i64 n, .int .u32 e, .int .u32 l, lvE 6 L] :: obE L⟩⟩) (fun L => L.length + 1 ≤ P2.length ∧ R = (sF (P2.drop (L.length + 1)) L).bind F2) (fun L => P2.length - L.length) [] ⟨l2, hR2⟩ (Sub.keep (by simp [obE_nil]) (by simp [hsub, r3, rr, t3, tr, u3, ur, obE_nil, lvE_nil]) (by simp)) ?_
        rintro L ⟨hk, hRk⟩
        have hwk : IntKind.wrap .i64 ((L.length : Int) + 1 + 1) = (L.length : Int) + 1 + 1 := wrapI64 (by omega) (by omega)
        by_cases hL : L = []
        · subst hL
          have hRk : R = (sF (P2.drop 1) []).bind F2 := hRk
          simp -dsimp -implicitDefEqProofs [obE_nil, lvE_nil]
          refine brW_of (fun h => ?_) (fun h => ?_) <;> simp only [decide_eq_true_eq, decide_eq_false_iff_not] at h
          · have hx : 1 < P2.length := by omega
            have hxi : (1 : Int) < P2.length := by omega
            have q1 : P2[1]? = some P2[1] := List.getElem?_eq_getElem hx
            have hrd := sp_l02Read_eq P2[1] (by have := y2 _ (List.getElem_mem hx); omega)
            have hd : P2.drop 1 = P2[1] :: P2.drop (1 + 1) := List.drop_eq_getElem_cons hx
            rw [hd] at hRk
            have hgl : sF (P2[1] :: P2.drop (1 + 1)) [] = if rdOk P2[1] = true then sF (P2.drop (1 + 1)) ([] ++ [⟨rdP P2[1], rdQ P2[1]⟩]) else none := by rw [sF]
            generalize hww : P2[1] = w at *
            cases hb : rdOk w with
            | false =>
              rw [hb] at hrd
              rw [if_neg (by rw [hb]; decide)] at hgl
              have hR3 : R = none := by rw [hRk, hgl]; rfl
              clear hRk hR2
              subst hR3
              simp -dsimp -implicitDefEqProofs [hx, hxi, q1, hww, hrd, spA, hsub, obE_nil, lvE_nil]
            | true =>
              rw [hb] at hrd
              rw [if_pos hb] at hgl
              obtain ⟨L1, hL1⟩ : ∃ L1 : List Fr, L1 = [⟨rdP w, rdQ w⟩] := ⟨_, rfl⟩
              have n1 : L1.length = 1 := by rw [hL1]; rfl
              have e5 : L1 ≠ [] := by rw [hL1]; simp
              have e6 : flatA (frsA L1) = [.int .i64 (rdP w), .int .i64 (rdQ w)] := by rw [hL1]; rfl
              have hR3 : R = (sF (P2.drop (L1.length + 1)) L1).bind F2 := by rw [hRk, hgl, n1, hL1]; rfl
              have w2 : IntKind.wrap .i64 (1 + 1) = 2 := by decide
              have w3 : IntKind.wrap .i64 2 = 2 := by decide
              have g1 : 1 * 17 ≤ mostBytes := by decide
              simp -dsimp -implicitDefEqProofs [hx, hxi, q1, hww, hrd, g1, obE_nil, lvE_nil]
              exact .mk L1 ⟨by omega, hR3⟩ (by simp only [List.length_nil]; omega) (Sub.mk' (fun b => if b = 6 then 8 else b) (by simp [obE_cons e5]) (by intro b hb; simp [obE_cons e5] at hb <;> omega) (by first | rfl | (rw [obE_cons e5]; rfl)) (by simp [hsub, obE_cons e5, lvE_cons e5, r3, rr, t3, tr, u3, ur, e6, n1]) (by simp [w2, w3, n1, lvE_cons e5, obE_cons e5]))
          · have hdn : P2.drop 1 = [] := List.drop_eq_nil_of_le (by omega)
            rw [hdn, sF, Option.bind_some, hF2] at hRk
            have hpn : patOk n e l [] = false := by
              cases hp : patOk n e l [] with
              | false => rfl
              | true => have := patOk_in hp; simp at this; omega
            have hR3 : R = none := by rw [hRk]; exact if_neg (fun h => by rw [ipF, hpn] at h; exact absurd h.1 (by decide))
            have hv := sp_l07Ok_eq n e l [] ⟨by omega, by omega, by simp [maxLen]⟩
            rw [hpn] at hv
            have hv : sp_l07Ok [.int .i64 n, .int .u32 e, .int .u32 l, .sl [] false] [] = some (.bool false, [.int .i64 n, .int .u32 e, .int .u32 l, .sl [] false]) := hv
            clear hRk hR2
            subst hR3
            simp -dsimp -implicitDefEqProofs [obE_nil, lvE_nil]
            refine ⟨_, Shift.refl _, ?_⟩
            simp -dsimp -implicitDefEqProofs [hv, spA, hsub, obE_nil, lvE_nil]
        · have g2 : ¬ ((L.length + 1) * 2 ≤ L.length * 2) := by omega
          have g3 : (flatA (frsA L)).take (L.length * 2) = flatA (frsA L) := List.take_of_length_le (by simp)
          simp -dsimp -implicitDefEqProofs [obE_cons hL, lvE_cons hL]
          refine brW_of (fun h => ?_) (fun h => ?_) <;> simp only [decide_eq_true_eq, decide_eq_false_iff_not] at h
          · have hx : L.length + 1 < P2.length := by omega
            have hxi : (L.length : Int) + 1 < P2.length := by omega
            have hi0 : (0 : Int) ≤ (L.length : Int) + 1 := by omega
            have q1 : P2[L.length + 1]? = some P2[L.length + 1] := List.getElem?_eq_getElem hx
            have hrd := sp_l02Read_eq P2[L.length + 1] (by have := y2 _ (List.getElem_mem hx); omega)
            have hd : P2.drop (L.length + 1) = P2[L.length + 1] :: P2.drop (L.length + 1 + 1) := List.drop_eq_getElem_cons hx
            rw [hd] at hRk
            have hgl : sF (P2[L.length + 1] :: P2.drop (L.length + 1 + 1)) L = if rdOk P2[L.length + 1] = true then sF (P2.drop (L.length + 1 + 1)) (L ++ [⟨rdP P2[L.length + 1], rdQ P2[L.length + 1]⟩]) else none := by rw [sF]
            generalize hww : P2[L.length + 1] = w at *
            cases hb : rdOk w with
            | false =>
              rw [hb] at hrd
              rw [if_neg (by rw [hb]; decide)] at hgl
              have hR3 : R = none := by rw [hRk, hgl]; rfl
              clear hRk hR2
              subst hR3
              simp -dsimp -implicitDefEqProofs [hx, hxi, hi0, q1, hww, hrd, spA, hsub, obE_cons hL, lvE_cons hL]
            | true =>
              rw [hb] at hrd
              rw [if_pos hb] at hgl
              have e5 : L ++ [(⟨rdP w, rdQ w⟩ : Fr)] ≠ [] := by simp
              have e6 := frE_snoc L (rdP w) (rdQ w)
              have n1 : (L ++ [(⟨rdP w, rdQ w⟩ : Fr)]).length = L.length + 1 := by simp
              have hR3 : R = (sF (P2.drop ((L ++ [(⟨rdP w, rdQ w⟩ : Fr)]).length + 1)) (L ++ [⟨rdP w, rdQ w⟩])).bind F2 := by rw [hRk, hgl, n1]
              have g1 : (L.length + 1) * 17 ≤ mostBytes := by simp only [mostBytes]; omega
              simp -dsimp -implicitDefEqProofs [hx, hxi, hi0, q1, hww, hrd, g1, g2, g3, e6, hwk, obE_cons hL, lvE_cons hL]
              exact .mk (L ++ [⟨rdP w, rdQ w⟩]) ⟨by rw [n1]; omega, hR3⟩ (by rw [n1]; omega) (Sub.mk' (fun b => if b = 6 then 9 else b) (by simp [obE_cons e5]) (by intro b hb; simp [obE_cons e5] at hb <;> omega) (by first | rfl | (rw [obE_cons e5]; rfl)) (by simp [hsub, obE_cons e5, lvE_cons e5, r3, rr, t3, tr, u3, ur]) (by simp [hwk, lvE_cons e5, obE_cons e5]))
          · have hdn : P2.drop (L.length + 1) = [] := List.drop_eq_nil_of_le (by omega)
            rw [hdn, sF, Option.bind_some, hF2] at hRk
            have hRk : R = (open Classical in if ipF s n e l L then some (n, e, l, L) else none) := hRk
            have hv := sp_l07Ok_eq n e l L ⟨by omega, by omega, by simp only [maxLen]; omega⟩
            have htx := sp_patText_eq n e l L ⟨by omega, by omega, by simp only [maxLen]; omega⟩
            unfold patTT at htx
            rw [Int.toNat_natCast] at htx
            simp -dsimp -implicitDefEqProofs [obE_cons hL, lvE_cons hL]
            refine ⟨_, Shift.frs, ?_⟩
            cases hp : patOk n e l L with
            | false =>
              rw [hp] at hv
              have hR3 : R = none := by rw [hRk, if_neg]; intro h; rw [ipF, hp] at h; exact absurd h.1 (by decide)
              clear hRk hR2
              subst hR3
              simp -dsimp -implicitDefEqProofs [hv, spA, hsub]
            | true =>
              rw [hp] at hv
              rw [if_pos hp] at htx
              cases hq : (patT n e l L == s) with
              | false =>
                have hq' : (patT n e l L != s) = true := by unfold bne; rw [hq]; rfl
                have hR3 : R = none := by rw [hRk, if_neg]; intro h; rw [ipF, hq] at h; exact absurd h.2 (by decide)
                clear hRk hR2
                subst hR3
                simp -dsimp -implicitDefEqProofs [hv, htx, hq, hq', spA, hsub]
              | true =>
                have hq' : (patT n e l L != s) = false := by unfold bne; rw [hq]; rfl
                have hR3 : R = some (n, e, l, L) := by rw [hRk, if_pos]; exact ⟨hp, hq⟩
                clear hRk hR2
                subst hR3
                simp -dsimp -implicitDefEqProofs [hv, htx, hq, hq', spA, hsub]
    · have hR2 : R = none := by rw [hR, if_neg fun h => h4 h.1.2]
      clear hR
      subst hR2
      have h4i : ¬ (W.length : Int) = 4 := by omega
      have h4b : ((W.length : Int) != 4) = true := by simpa using h4i
      simp -dsimp -implicitDefEqProofs [c_spec_ReadPattern, r_spec_ReadPattern, hsp, rr, hsi, h4, h4i, h4b, spA, hsub]
  · have hR2 : R = none := by rw [hR, if_neg fun h => hs h.1.1]
    clear hR
    subst hR2
    have hsi : (400 : Int) < s.size := by omega
    simp -dsimp -implicitDefEqProofs [c_spec_ReadPattern, r_spec_ReadPattern, hsp, rr, hsi, spA, hsub]
end Go.Proofs.YtlglgcmpeabdnaaGreatDoorAi
end

section
/- Plain law: pieces of texts. -/
namespace Go.Proofs.YtlglgcmpeabdnaaGreatDoorAi
open Go Go.RowKit
set_option linter.unusedVariables false
set_option linter.unusedSimpArgs false
set_option maxRecDepth 20000

/-! ### bytes -/
def geB (a : ByteArray) (m : Nat) : Prop := ∀ b ∈ a.data.toList, m ≤ b.toNat
theorem geB_app {a b : ByteArray} {m : Nat} (ha : geB a m) (hb : geB b m) : geB (a ++ b) m := by
  intro x hx
  rw [ByteArray.data_append, Array.toList_append] at hx
  rcases List.mem_append.1 hx with hx | hx
  · exact ha x hx
  · exact hb x hx
theorem geB_le {a : ByteArray} {m k : Nat} (h : geB a m) (hk : k ≤ m) : geB a k := fun b hb => Nat.le_trans hk (h b hb)
theorem geB_lacks {a : ByteArray} {m : Nat} (h : geB a m) {c : UInt8} (hc : c.toNat < m) : lacks a c := by
  intro b hb e
  subst e
  have := h b hb
  omega
theorem geB_dec (n : Int) : geB (decB n) 45 := by
  intro b hb
  have e : (decB n).data.toList = Go.Lib.itoa n := by simp [decB]
  rw [e] at hb
  unfold Go.Lib.itoa at hb
  split at hb
  · rcases List.mem_cons.1 hb with rfl | hb
    · decide
    · have := (decD_dig _ b hb).1; omega
  · have := (decD_dig _ b hb).1; omega
theorem geB_fr (p q : Int) : geB (frT p q) 45 := by
  unfold frT
  split
  · exact geB_dec p
  · exact geB_app (geB_app (geB_dec p) (by intro b hb; have : b = 47 := by simpa [slashB] using hb
                                           subst this; decide)) (geB_dec q)
theorem geB_sep : geB sepB 32 := by
  intro b hb
  have : b = 32 := by simpa [sepB] using hb
  subst this; decide
theorem geB_tail : ∀ (L : List Fr), geB (tailT L) 32
  | [] => by intro b hb; rw [tailT] at hb; simp [noB] at hb
  | x :: L => by
    rw [tailT]
    refine geB_app (geB_app geB_sep ?_) (geB_tail L)
    unfold edgeW
    exact geB_le (geB_app (geB_app (geB_dec _) (by intro b hb; have : b = 45 := by simpa [dashB] using hb
                                                   subst this; decide)) (geB_dec _)) (by omega)
theorem geB_gr (e : Int) (n : Nat) : geB (grT e n) 32 := by
  have eg : grT e n = graphB ++ (decB n ++ tailT (pairsE e n)) := by unfold grT; rw [edT_tail, ByteArray.append_assoc]
  rw [eg]
  refine geB_app ?_ (geB_app (geB_le (geB_dec _) (by omega)) (geB_tail _))
  unfold geB
  decide
theorem cpA_app (p r : ByteArray) : cpA (p ++ r) p = r := by
  have hp : Go.Lib.hasPrefix (p ++ r).data.toList p.data.toList = true := by
    unfold Go.Lib.hasPrefix
    rw [ByteArray.data_append, Array.toList_append]
    exact List.isPrefixOf_iff_prefix.2 (List.prefix_append _ _)
  unfold cpA Go.Lib.trimPrefix
  rw [if_pos hp, ByteArray.data_append, Array.toList_append, List.drop_left]
/-! ### pieces -/
def tlC (c : UInt8) (A : ByteArray) : List ByteArray → ByteArray
  | [] => A
  | x :: M => A ++ ⟨#[c]⟩ ++ tlC c x M
theorem pieces_tlC (c : UInt8) : ∀ (M : List ByteArray) (A : ByteArray), lacks A c → (∀ x ∈ M, lacks x c) → piecesB (tlC c A M) ⟨#[c]⟩ = A :: M
  | [], A, hA, _ => pieces_miss hA
  | x :: M, A, hA, hM => by
    show piecesB (A ++ ⟨#[c]⟩ ++ tlC c x M) ⟨#[c]⟩ = _
    rw [pieces_hit hA, pieces_tlC c M x (hM x (List.mem_cons_self ..)) fun y hy => hM y (List.mem_cons_of_mem _ hy)]
theorem split_tlC (c : UInt8) : ∀ (M : List ByteArray) (A : ByteArray), lacks A c → (∀ x ∈ M, lacks x c) → splitL (tlC c A M) (c.toNat : Int) = A :: M
  | [], A, hA, _ => splitL_miss hA
  | x :: M, A, hA, hM => by
    show splitL (A ++ ⟨#[c]⟩ ++ tlC c x M) (c.toNat : Int) = _
    rw [splitL_hit hA, split_tlC c M x (hM x (List.mem_cons_self ..)) fun y hy => hM y (List.mem_cons_of_mem _ hy)]
theorem tlC_snoc (c : UInt8) (x : ByteArray) : ∀ (M : List ByteArray) (A : ByteArray), tlC c A (M ++ [x]) = tlC c A M ++ (⟨#[c]⟩ ++ x)
  | [], A => by
    show A ++ ⟨#[c]⟩ ++ x = A ++ (⟨#[c]⟩ ++ x)
    rw [ByteArray.append_assoc]
  | y :: M, A => by
    show A ++ ⟨#[c]⟩ ++ tlC c y (M ++ [x]) = A ++ ⟨#[c]⟩ ++ tlC c y M ++ (⟨#[c]⟩ ++ x)
    rw [tlC_snoc c x M y]
    simp only [ByteArray.append_assoc]
theorem app_cancel {a b c : ByteArray} (h : a ++ b = a ++ c) : b = c := by
  have h1 := congrArg (fun x : ByteArray => x.data.toList) h
  simp only [ByteArray.data_append, Array.toList_append] at h1
  apply ByteArray.ext
  apply Array.ext'
  exact List.append_cancel_left h1
end Go.Proofs.YtlglgcmpeabdnaaGreatDoorAi
end

section
/- Plain law: both readings of patterns agree. -/
namespace Go.Proofs.YtlglgcmpeabdnaaGreatDoorAi
open Go Go.RowKit
set_option linter.unusedVariables false
set_option linter.unusedSimpArgs false
set_option maxRecDepth 20000

/-! ### the three lines of a pattern -/
def lpM (l : Int) : Nat → List ByteArray
  | 0 => []
  | i + 1 => if loopB l i = true then lpM l i ++ [decB i] else lpM l i
theorem lpW_words (l : Int) (A : ByteArray) : ∀ i : Nat, lpW l (A ++ loopsB) i = A ++ tlC 32 loopsB (lpM l i)
  | 0 => rfl
  | i + 1 => by
    rw [lpW, lpM, lpW_words l A i]
    split
    · rw [tlC_snoc, ByteArray.append_assoc]; rfl
    · rfl
theorem lpM_mem (l : Int) : ∀ (i : Nat) (x : ByteArray), x ∈ lpM l i → ∃ j : Nat, x = decB j
  | 0, x, h => by cases h
  | i + 1, x, h => by
    rw [lpM] at h
    split at h
    · rcases List.mem_append.1 h with h | h
      · exact lpM_mem l i x h
      · obtain rfl := List.mem_singleton.1 h
        exact ⟨i, rfl⟩
    · exact lpM_mem l i x h
theorem wsW_words (w : ByteArray) (L : List Fr) : wsW w L = tlC 32 w (L.map frS) := by
  have key : ∀ j, j ≤ L.length → wsW w (L.take j) = tlC 32 w ((L.take j).map frS) := by
    intro j
    induction j with
    | zero => intro _; rfl
    | succ j ih =>
      intro hj
      have hsn := take_snoc L j (by omega)
      rw [wsW_snoc w L j (by omega), hsn, List.map_append, List.map_singleton, tlC_snoc, ih (by omega)]
      rfl
  have := key L.length (Nat.le_refl _)
  rw [List.take_length] at this
  exact this
theorem fracsT_words (x : Fr) (r : List Fr) : fracsT (x :: r) = tlC 32 (frS x) (r.map frS) := by
  have h1 := wsW_join noB (x :: r) (x :: r).length (by simp) (Nat.le_refl _)
  rw [List.take_length, wsW_words] at h1
  have h2 : tlC 32 noB ((x :: r).map frS) = noB ++ (sepB ++ tlC 32 (frS x) (r.map frS)) := by
    show noB ++ ⟨#[32]⟩ ++ tlC 32 (frS x) (r.map frS) = _
    rw [ByteArray.append_assoc]; rfl
  rw [h2] at h1
  exact (app_cancel (app_cancel h1)).symm
theorem tlC_geB (m : Nat) (c : UInt8) (hc : m ≤ c.toNat) : ∀ (M : List ByteArray) (A : ByteArray), geB A m → (∀ x ∈ M, geB x m) → geB (tlC c A M) m
  | [], A, hA, _ => hA
  | x :: M, A, hA, hM => by
    refine geB_app (geB_app hA ?_) (tlC_geB m c hc M x (hM x (List.mem_cons_self ..)) fun y hy => hM y (List.mem_cons_of_mem _ hy))
    intro b hb
    have : b = c := by simpa using hb
    subst this
    exact hc
def pt0 (n e : Nat) : ByteArray := patB ++ grT e n
def pt1 (n l : Nat) : ByteArray := tlC 32 loopsB (lpM l n)
def pt2 (L : List Fr) : ByteArray := weisB ++ fracsT L
theorem pat_lines (n e l : Nat) (L : List Fr) : patT n e l L = tlC 10 (pt0 n e) [pt1 n l, pt2 L, noB] := by
  unfold patT
  have h1 : patW0 n e = (pt0 n e ++ lineB) ++ loopsB := rfl
  rw [h1, lpW_words]
  show pt0 n e ++ lineB ++ pt1 n l ++ (weiB ++ fracsT L ++ lineB) = pt0 n e ++ lineB ++ (pt1 n l ++ lineB ++ (pt2 L ++ lineB ++ noB))
  have h2 : weiB = lineB ++ weisB := by apply ByteArray.ext; rfl
  have h3 : lineB ++ noB = lineB := by apply ByteArray.ext; rfl
  have h4 : pt2 L ++ lineB ++ noB = pt2 L ++ lineB := by rw [ByteArray.append_assoc, h3]
  rw [h2, h4]
  unfold pt2
  simp only [ByteArray.append_assoc]
theorem geB_noB (m : Nat) : geB noB m := by intro b hb; simp [noB] at hb
theorem pt0_lacks (n e : Nat) : lacks (pt0 n e) 10 := geB_lacks (m := 32) (geB_app (by unfold geB; decide) (geB_gr _ _)) (by decide)
theorem pt1_lacks (n l : Nat) : lacks (pt1 n l) 10 := geB_lacks (m := 32) (tlC_geB 32 32 (by decide) _ _ (by unfold geB; decide) fun x hx => by
  obtain ⟨j, rfl⟩ := lpM_mem _ _ _ hx
  exact geB_le (geB_dec _) (by omega)) (by decide)
theorem fracsT_geB : ∀ L : List Fr, geB (fracsT L) 32
  | [] => by intro b hb; simp [fracsT, joinT_nil] at hb
  | x :: r => by
    rw [fracsT_words]
    refine tlC_geB 32 32 (by decide) _ _ (geB_le (geB_fr _ _) (by omega)) fun y hy => ?_
    obtain ⟨z, _, rfl⟩ := List.mem_map.1 hy
    exact geB_le (geB_fr _ _) (by omega)
theorem pt2_lacks (L : List Fr) : lacks (pt2 L) 10 := geB_lacks (m := 32) (geB_app (by unfold geB; decide) (fracsT_geB L)) (by decide)
/-! ### words are read -/
theorem gL_app : ∀ (M K : List ByteArray) (l : Nat), gL (M ++ K) l = (gL M l).bind (gL K)
  | [], K, l => by simp [gL]
  | w :: r, K, l => by
    rw [List.cons_append, gL, gL]
    split
    · exact gL_app r K _
    · rfl
theorem sL_app (n : Nat) : ∀ (M K : List ByteArray) (l : Nat), sL n (M ++ K) l = (sL n M l).bind (sL n K)
  | [], K, l => by simp [sL]
  | w :: r, K, l => by
    rw [List.cons_append, sL, sL]
    split
    · exact sL_app n r K _
    · rfl
def lbN (l : Nat) : Nat → Nat
  | 0 => 0
  | i + 1 => if l.testBit i = true then lbN l i ||| 2 ^ i else lbN l i
theorem lbN_bit (l : Nat) : ∀ (i j : Nat), (lbN l i).testBit j = (decide (j < i) && l.testBit j)
  | 0, j => by simp [lbN]
  | i + 1, j => by
    rw [lbN]
    by_cases hb : l.testBit i = true
    · rw [if_pos hb, Nat.testBit_or, lbN_bit l i j, Nat.testBit_two_pow]
      by_cases hij : i = j
      · subst hij; simp [hb]
      · have : decide (j < i + 1) = decide (j < i) := by
          apply decide_eq_decide.2; omega
        rw [this]; simp [hij]
    · rw [if_neg hb, lbN_bit l i j]
      by_cases hij : j = i
      · subst hij
        have : l.testBit j = false := by simpa using hb
        simp [this]
      · have : decide (j < i + 1) = decide (j < i) := by
          apply decide_eq_decide.2; omega
        rw [this]
theorem lbN_all {l n : Nat} (h : l < 2 ^ n) : lbN l n = l := by
  apply Nat.eq_of_testBit_eq
  intro j
  rw [lbN_bit]
  by_cases hj : j < n
  · simp [hj]
  · have : l.testBit j = false := Nat.testBit_lt_two_pow (Nat.lt_of_lt_of_le h (Nat.pow_le_pow_right (by omega) (by omega)))
    simp [hj, this]
theorem loopB_nat (l i : Nat) : loopB (l : Int) (i : Int) = l.testBit i := by unfold loopB; simp
theorem gL_loops (l : Nat) : ∀ i : Nat, i ≤ 4 → gL (lpM l i) 0 = some (lbN l i)
  | 0, _ => rfl
  | i + 1, h => by
    rw [lpM, lbN, loopB_nat]
    by_cases hb : l.testBit i = true
    · have hn := num_dec (i : Int) (by omega) (by omega)
      rw [if_pos hb, if_pos hb, gL_app, gL_loops l i (by omega), Option.bind_some, gL, if_pos ⟨hn.2, by rw [hn.1]; omega, by rw [hn.1]; omega⟩, hn.1, Int.toNat_natCast, gL]
    · rw [if_neg hb, if_neg hb]; exact gL_loops l i (by omega)
theorem sL_loops (l n : Nat) (hn5 : n ≤ 5) : ∀ i : Nat, i ≤ n → sL n (lpM l i) 0 = some (lbN l i)
  | 0, _ => rfl
  | i + 1, h => by
    rw [lpM, lbN, loopB_nat]
    by_cases hb : l.testBit i = true
    · have hn := l01_dec (i : Int) (by omega) (by omega)
      rw [if_pos hb, if_pos hb, sL_app, sL_loops l n hn5 i (by omega), Option.bind_some, sL, if_pos ⟨hn.2, by rw [hn.1]; omega⟩, hn.1, Int.toNat_natCast, sL]
    · rw [if_neg hb, if_neg hb]; exact sL_loops l n hn5 i (by omega)
theorem gF_all : ∀ (M acc : List Fr), (∀ x ∈ M, frOk x.p x.q = true) → gF (M.map frS) acc = some (acc ++ M)
  | [], acc, _ => by simp [gF]
  | x :: M, acc, h => by
    have hx := h x (List.mem_cons_self ..)
    have hr := impl_reads hx
    have hrk : readOk (frS x) = true := by
      unfold frS readOk
      rw [hr.1, hr.2.1, hr.2.2.1, hr.2.2.2, hx, beq_ba]; rfl
    have e1 : numV (topS (frS x)) = x.p := hr.1
    have e2 : numV (botS (frS x)) = x.q := hr.2.1
    rw [List.map_cons, gF, if_pos hrk, e1, e2, gF_all M _ fun y hy => h y (List.mem_cons_of_mem _ hy)]
    simp
theorem sF_all : ∀ (M acc : List Fr), (∀ x ∈ M, frOk x.p x.q = true) → sF (M.map frS) acc = some (acc ++ M)
  | [], acc, _ => by simp [sF]
  | x :: M, acc, h => by
    have hx := h x (List.mem_cons_self ..)
    have hr := spec_reads hx
    have ef : fracT x.p x.q = frT x.p x.q := by unfold fracT; rw [if_pos hx]
    have hrk : rdOk (frS x) = true := by
      unfold frS rdOk
      rw [hr.1, hr.2.1, hr.2.2.1, hr.2.2.2, hx, ef, beq_ba]; rfl
    have e1 : rdP (frS x) = x.p := hr.1
    have e2 : rdQ (frS x) = x.q := hr.2.1
    rw [List.map_cons, sF, if_pos hrk, e1, e2, sF_all M _ fun y hy => h y (List.mem_cons_of_mem _ hy)]
    simp
/-! ### a text of a pattern is read by both -/
theorem reads_pt {n e l : Nat} {L : List Fr} (hp : patOk n e l L = true) (hs : (patT n e l L).size ≤ 400) : ipO (patT n e l L) = some (n, e, l, L) ∧ spO (patT n e l L) = some (n, e, l, L) := by
  obtain ⟨hn, hlen, hall, hg⟩ := patOk_in hp
  have hn4 : n ≤ 4 := by omega
  have hl : l < 2 ^ n := by
    have h1 := hp
    unfold patOk at h1
    simp only [Bool.and_eq_true] at h1
    have h2 := (of_decide_eq_true h1.1.1.1.1.2).2
    rw [Int.toNat_natCast] at h2
    exact_mod_cast h2
  have hok := allOk_get hall
  have hF : ipF (patT n e l L) n e l L := ⟨hp, beq_ba _⟩
  have hgr := reads_graph hg
  have hpl := pat_lines n e l L
  have hM : ∀ x ∈ [pt1 n l, pt2 L, noB], lacks x 10 := by
    intro x hx
    simp only [List.mem_cons, List.not_mem_nil, or_false] at hx
    rcases hx with rfl | rfl | rfl
    · exact pt1_lacks n l
    · exact pt2_lacks L
    · exact geB_lacks (m := 32) (geB_noB _) (by decide)
  have hlb := lbN_all hl
  have h32 : ∀ x ∈ lpM l n, lacks x 32 := fun x hx => by
    obtain ⟨j, rfl⟩ := lpM_mem _ _ _ hx
    exact geB_lacks (geB_dec _) (by decide)
  have hlo : lacks loopsB 32 := geB_lacks (m := 33) (by unfold geB; decide) (by decide)
  have hwg : lacks wgtB 32 := geB_lacks (m := 33) (by unfold geB; decide) (by decide)
  have hfl : ∀ x ∈ L.map frS, lacks x 32 := fun x hx => by
    obtain ⟨y, _, rfl⟩ := List.mem_map.1 hx
    exact geB_lacks (geB_fr _ _) (by decide)
  obtain ⟨x, r, hxr⟩ : ∃ x r, L = x :: r := by
    cases L with
    | nil => simp at hlen; omega
    | cons x r => exact ⟨x, r, rfl⟩
  constructor
  · have hW : ipW (patT n e l L) = [pt0 n e, pt1 n l, pt2 L, noB] := by
      unfold ipW
      rw [hpl]
      exact pieces_tlC 10 _ _ (pt0_lacks n e) hM
    have h0 : cpA (pt0 n e) patB = grT e n := cpA_app _ _
    have h1 : piecesB (pt1 n l) sepB = loopsB :: lpM l n := pieces_tlC 32 _ _ hlo h32
    have h2 : cpA (pt2 L) weisB = fracsT L := cpA_app _ _
    have h3 : rfO (fracsT L) = some L := by
      unfold rfO
      rw [hxr, fracsT_words]
      have : piecesB (tlC 32 (frS x) (r.map frS)) sepB = frS x :: r.map frS := pieces_tlC 32 _ _ (geB_lacks (geB_fr _ _) (by decide)) fun y hy => hfl y (by rw [hxr]; exact List.mem_cons_of_mem _ hy)
      rw [this]
      have := gF_all (x :: r) [] (by rw [← hxr]; exact hok)
      rw [List.nil_append, List.map_cons] at this
      exact this
    unfold ipO
    rw [if_pos ⟨hs, by rw [hW]; rfl⟩, hW]
    show (rgO (cpA (pt0 n e) patB)).bind _ = _
    rw [h0, hgr.1, Option.bind_some]
    show (rfO (cpA (pt2 L) weisB)).bind _ = _
    rw [h2, h3, Option.bind_some]
    show (gL (piecesB (pt1 n l) sepB).tail 0).bind _ = _
    rw [h1, List.tail_cons, gL_loops l n hn4, hlb, Option.bind_some, if_pos hF]
  · have hW : spW (patT n e l L) = [pt0 n e, pt1 n l, pt2 L, noB] := by
      unfold spW
      rw [hpl]
      exact split_tlC 10 _ _ (pt0_lacks n e) hM
    have e0 : sp0 (patT n e l L) = pt0 n e := by unfold sp0; rw [hW]; rfl
    have e1 : sp1 (patT n e l L) = loopsB :: lpM l n := by
      unfold sp1; rw [hW]
      exact split_tlC 32 _ _ hlo h32
    have e2 : sp2 (patT n e l L) = wgtB :: L.map frS := by
      unfold sp2; rw [hW]
      have : pt2 L = tlC 32 wgtB (L.map frS) := by
        rw [hxr]
        show weisB ++ fracsT (x :: r) = wgtB ++ ⟨#[32]⟩ ++ tlC 32 (frS x) (r.map frS)
        rw [fracsT_words]
        rfl
      show splitL (pt2 L) 32 = _
      rw [this]
      exact split_tlC 32 _ _ hwg hfl
    have hb : bgP (pt0 n e) patB = true := by
      unfold bgP pt0
      rw [ext_left, beq_ba, ByteArray.size_append, decide_eq_true (by omega)]; rfl
    have hx8 : (pt0 n e).extract 8 (pt0 n e).size = grT e n := ext_right patB (grT e n)
    unfold spO
    rw [if_pos ⟨⟨hs, by rw [hW]; rfl⟩, by rw [e0]; exact hb⟩, e0, hx8, hgr.2, Option.bind_some, e1, e2, if_pos ⟨beq_ba _, beq_ba _⟩, List.tail_cons, List.tail_cons]
    show (sL n (lpM l n) 0).bind _ = _
    rw [sL_loops l n (by omega) n (Nat.le_refl _), hlb, Option.bind_some, sF_all L [] hok, List.nil_append, Option.bind_some, if_pos hF]
/-! ### only such texts are read -/
theorem ipO_in {s : ByteArray} {x : Nat × Nat × Nat × List Fr} (h : ipO s = some x) : s.size ≤ 400 ∧ ipF s x.1 x.2.1 x.2.2.1 x.2.2.2 := by
  unfold ipO at h
  split at h
  · rename_i hs
    obtain ⟨g, _, h⟩ := Option.bind_eq_some_iff.1 h
    obtain ⟨L, _, h⟩ := Option.bind_eq_some_iff.1 h
    obtain ⟨l, _, h⟩ := Option.bind_eq_some_iff.1 h
    split at h
    · rename_i hF
      obtain rfl := Option.some.inj h
      exact ⟨hs.1, hF⟩
    · cases h
  · cases h
theorem spO_in {s : ByteArray} {x : Nat × Nat × Nat × List Fr} (h : spO s = some x) : s.size ≤ 400 ∧ ipF s x.1 x.2.1 x.2.2.1 x.2.2.2 := by
  unfold spO at h
  split at h
  · rename_i hs
    obtain ⟨g, _, h⟩ := Option.bind_eq_some_iff.1 h
    split at h
    · obtain ⟨l, _, h⟩ := Option.bind_eq_some_iff.1 h
      obtain ⟨L, _, h⟩ := Option.bind_eq_some_iff.1 h
      split at h
      · rename_i hF
        obtain rfl := Option.some.inj h
        exact ⟨hs.1.1, hF⟩
      · cases h
    · cases h
  · cases h
theorem pt_reads {s : ByteArray} {x : Nat × Nat × Nat × List Fr} (hs : s.size ≤ 400) (h : ipF s x.1 x.2.1 x.2.2.1 x.2.2.2) : ipO s = some x ∧ spO s = some x := by
  obtain ⟨n, e, l, L⟩ := x
  have he := h.2
  rw [ba_eq, decide_eq_true_eq] at he
  have he : patT n e l L = s := he
  have := reads_pt h.1 (by rw [he]; exact hs)
  rw [he] at this
  exact this
theorem pt_same (s : ByteArray) : ipO s = spO s := by
  cases h1 : ipO s with
  | some x => obtain ⟨a, b⟩ := ipO_in h1; exact (pt_reads a b).2.symm
  | none =>
    cases h2 : spO s with
    | none => rfl
    | some x =>
      obtain ⟨a, b⟩ := spO_in h2
      have := (pt_reads a b).1
      rw [h1] at this
      cases this
end Go.Proofs.YtlglgcmpeabdnaaGreatDoorAi
end

section
/- Law: ReadPattern. -/
namespace Go.Proofs.YtlglgcmpeabdnaaGreatDoorAi
open Go Go.RowKit
set_option linter.unusedVariables false
set_option linter.unusedSimpArgs false
set_option maxRecDepth 20000

set_option maxHeartbeats 4000000 in
theorem law_readPattern (xs : List AV) (h : WtA [.str] xs) : T PP 3 xs .nil fun r _ => r = .bool true := by
  simp only [WtA_cons, WtA_nil] at h
  obtain ⟨x, _, rfl, hx, rfl⟩ := h
  obtain ⟨s, rfl, hs⟩ := (WtV_str x).1 hx
  refine (P_code (r := .bool true) (Quiet.q1 q_spec_ReadPattern (Quiet.e1 n_impl_ReadPattern.toE (Quiet.e1 q_laws_eqPattern.toR (Quiet.e1 e_laws_markPattern (Quiet.e1 q_laws_heldPattern.toR Quiet.nil))))) hmix k_laws_FnExactReadPattern rfl rfl ?_).mono fun r A' h => h.1
  by_cases c : (1048576 : Int) < s.size
  · simp -dsimp -implicitDefEqProofs [c_laws_FnExactReadPattern, r_laws_FnExactReadPattern, c]
  · have hS := sp_readPtS_eq s (by omega)
    have hI := sp_readPt_eq s (by omega)
    rw [pt_same s] at hI
    cases ho : spO s with
    | none =>
      rw [ho] at hS hI
      simp -dsimp -implicitDefEqProofs [c_laws_FnExactReadPattern, r_laws_FnExactReadPattern, c, hS, hI, spA, rpA, rpB, eqPat_nil, heldPat_nil, k1_ok]
    | some x =>
      obtain ⟨n, e, l, L⟩ := x
      obtain ⟨_, hF⟩ := spO_in ho
      have hF : ipF s n e l L := hF
      obtain ⟨hn, hlen, _, _⟩ := patOk_in hF.1
      have hL : L ≠ [] := by intro h0; rw [h0] at hlen; simp at hlen; omega
      rw [ho] at hS hI
      have hq := eqPat_refl n e l L (by simp only [maxLen]; omega)
      have hmk := fun t => sp_markPat_eq n e l L 1 t ⟨k1_ok, by omega⟩
      have hhd := sp_heldPat_eq n e l L.length 1 ⟨k1_ok, by omega⟩
      have hneg : ¬ (1 + 2 * (L.length : Int) < 0) := by omega
      simp -dsimp -implicitDefEqProofs [c_laws_FnExactReadPattern, r_laws_FnExactReadPattern, c, hS, hI, spA, rpA, rpB, lvE_cons hL, obE_cons hL, hq, hmk, hhd, hneg]
end Go.Proofs.YtlglgcmpeabdnaaGreatDoorAi
end
