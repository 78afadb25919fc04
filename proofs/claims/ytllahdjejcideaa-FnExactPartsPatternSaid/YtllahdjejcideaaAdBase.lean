/- The program, for contracts. -/
import Derived.Test.YtllahdjejcideaaAiZ
import Derived.Test.YtllahdjejcideaaProg
namespace Go.Proofs.YtllahdjejcideaaAi
open Go Go.RowKit
noncomputable abbrev PP : Program := Go.Proofs.Try.prog
theorem hmix : PP.follows .mixedOrders = true := by kernel_rfl
end Go.Proofs.YtllahdjejcideaaAi
