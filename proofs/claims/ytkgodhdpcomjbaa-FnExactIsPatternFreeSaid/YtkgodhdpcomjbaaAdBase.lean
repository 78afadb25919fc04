/- The program, for contracts. -/
import Derived.Test.YtkgodhdpcomjbaaAiZ
import Derived.Test.YtkgodhdpcomjbaaProg
namespace Go.Proofs.YtkgodhdpcomjbaaAi
open Go Go.RowKit
noncomputable abbrev PP : Program := Go.Proofs.Try.prog
theorem hmix : PP.follows .mixedOrders = true := by kernel_rfl
end Go.Proofs.YtkgodhdpcomjbaaAi
