/- MADE BY PROGRAM (wip/tools/gen.py): the abstract code of functions. -/
import Derived.Test.YtkgodhdpcomjbaaAiX
import Derived.Test.YtkgodhdpcomjbaaProg
namespace Go.Proofs.YtkgodhdpcomjbaaAi
open Go AC AOp Opd
set_option linter.unusedVariables false
set_option maxRecDepth 100000
def c_laws_toPatternN : AC := seq (reg [⟨(some 1), box 4 (t 0), none⟩, ⟨(some 2), alloc [.int .i64 0, .int .u32 0, .int .u32 0, .sl [] true], none⟩]) (seq (reg [⟨(some 3), alloc [.int .i64 0, .int .u32 0, .int .u32 0, .sl [] true], none⟩]) (seq (reg [⟨(some 4), fad (t 1) 0, none⟩, ⟨(some 5), ld (t 4) 2 true, none⟩, ⟨(some 6), callq (c (.fn 22 [])) [t 5], none⟩, ⟨(some 7), fad (t 3) 0, none⟩, ⟨none, st (t 7) 2 (t 6), none⟩]) (seq (reg [⟨(some 8), fad (t 1) 2, none⟩, ⟨(some 9), ld (t 8) 1 false, none⟩, ⟨(some 10), fad (t 3) 2, none⟩, ⟨none, st (t 10) 1 (t 9), none⟩]) (seq (reg [⟨(some 11), fad (t 1) 3, none⟩, ⟨(some 12), ld (t 11) 1 false, none⟩, ⟨(some 13), calle (c (.fn 64 [])) [t 12] [], none⟩, ⟨(some 14), fad (t 3) 3, none⟩, ⟨none, st (t 14) 1 (t 13), none⟩]) (seq (reg [⟨(some 15), ld (t 3) 4 true, none⟩, ⟨none, st (t 2) 4 (t 15), none⟩]) (ret))))))
def r_laws_toPatternN : List ARes := [.cell 2 4 true]
theorem k_laws_toPatternN : acLin Go.Proofs.Try.prog 16 1 (inQ [22] [64]) [] = some (c_laws_toPatternN, r_laws_toPatternN) := by kernel_rfl
end Go.Proofs.YtkgodhdpcomjbaaAi
