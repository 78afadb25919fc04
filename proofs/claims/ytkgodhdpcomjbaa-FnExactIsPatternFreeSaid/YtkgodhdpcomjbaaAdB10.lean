/- The law of EvenPattern. -/
import Derived.Test.YtkgodhdpcomjbaaAdB3
import Derived.Test.YtkgodhdpcomjbaaAdB5
import Derived.Test.YtkgodhdpcomjbaaAdB9
namespace Go.Proofs.YtkgodhdpcomjbaaAi
open Go Go.RowKit
set_option linter.unusedVariables false
set_option linter.unusedSimpArgs false
set_option maxRecDepth 20000

@[simp] theorem evenL_len (n : Int) : (evenL n).length = n.toNat := by simp [evenL]
abbrev tyGraph : Ty := .st [.int .i64, .int .u32]
theorem eqPat_refl (a b c : Int) (ps : List Fr) (h : ps.length ≤ maxLen) : sp_eqPattern [.agg [.int .i64 a, .int .u32 b, .int .u32 c, .sl (frsA ps) false], .agg [.int .i64 a, .int .u32 b, .int .u32 c, .sl (frsA ps) false]] = some (.bool true) := by
  rw [sp_eqPattern_eq a b c ps a b c ps h]; simp
theorem eqPat_nil (a b c : Int) : sp_eqPattern [.agg [.int .i64 a, .int .u32 b, .int .u32 c, .sl [] false], .agg [.int .i64 a, .int .u32 b, .int .u32 c, .sl [] false]] = some (.bool true) := eqPat_refl a b c [] (by simp [maxLen])
theorem heldPat_nil (a b c k : Int) (h : kOk k) : sp_heldPat [.agg [.int .i64 a, .int .u32 b, .int .u32 c, .sl [] false], .int .i64 k] = some (.int .i64 k) := by
  have := sp_heldPat_eq a b c 0 k ⟨h, by omega⟩
  simpa [marksF, mapA] using this
theorem k1_ok : kOk 1 := by unfold kOk; omega
end Go.Proofs.YtkgodhdpcomjbaaAi
