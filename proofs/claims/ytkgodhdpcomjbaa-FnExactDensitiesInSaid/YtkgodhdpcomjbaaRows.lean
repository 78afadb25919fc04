/-
  No cell of these rows narrows 'for every input' (looked for: loops, veiled, ifaces, maps, wideKeys, modest, calm, conditions, laid).
  DERIVED. THE GIVEN ROWS OF THIS SEAT. 11 by the template 'for every input the law returns true; each argument reads behind the call as it read before'; 0 by the template 'total and deterministic' (their statements: YtkgodhdpcomjbaaTotals.lean).
  GIVEN WITH THE SEED: the statements are not yours to turn. If you find one false, say at which input.
  Laid BY PROGRAM, IN A SANDBOX (cutbox-rows.mjs): the forced cells as the released guide's own fill.sh prints them over the translation ad3dacb3c8fb2058… (all of the seat's roots in one cut). By AI agents, Wed Nov 11 2026. No macro, syntax, notation, axiom, sorry.
-/
import Derived.Test.YtkgodhdpcomjbaaChecked
import GoSem.Claim
import GoSem.ClaimJoined
import GoSem.ClaimMapViews
import Derived.JoinedTies
import Derived.KernelRfl
namespace Go.Proofs.Ytkgodhdpcomjbaa
/- THE CELL 'sum', in the pinned program and in every row, IS THE sha256 OF THE DUMP (.gsa) THAT YtkgodhdpcomjbaaProg.lean LOADS. Nothing in Lean hashes anything: it is a label: what it is worth is what the hold of that sum in a sandbox is worth. -/
noncomputable def Try.pinned : Pinned := { name := "ytkgodhdpcomjbaa", sum := "ad3dacb3c8fb2058e43662f4bcd335a99bc3d80289872b5676e47dcdc873d148", checked := Try.checked }
namespace Rows
def none {H : Type} : Left H := { results := [], args := [] }

/-- 'laws.FnExactOppositePattern': WHATEVER THE INPUT: true; the input reads as it did. -/
def fnExactOppositePatternSpec : ChangeSpec := { name := "fnExactOppositePattern", fn := fun _ => fun
  | [d] => { results := [.lit (.bool true)], args := [d] }
  | _ => none }
def fnExactOppositePatternRow : OpenClaim := { program := "ytkgodhdpcomjbaa", sum := "ad3dacb3c8fb2058e43662f4bcd335a99bc3d80289872b5676e47dcdc873d148", func := "loop.example/g01169/laws.FnExactOppositePattern", spec := "fnExactOppositePattern", unfollowed := true, recurses := true, apart := false }
def FnExactOppositePatternSaid : Prop := fnExactOppositePatternRow.holds Try.pinned (OpenSpec.ofChange fnExactOppositePatternSpec)

/-- ITS FALSE NEIGHBOUR: 'it returns false'. Refute it at one input. -/
def fnExactOppositePatternWrong : ChangeSpec := { name := "fnExactOppositePattern", fn := fun _ => fun
  | [d] => { results := [.lit (.bool false)], args := [d] }
  | _ => none }
def FnExactOppositePatternWrongFalsely : Prop := fnExactOppositePatternRow.holds Try.pinned (OpenSpec.ofChange fnExactOppositePatternWrong)

/-- 'laws.FnExactChanceIn': WHATEVER THE INPUT: true; the input reads as it did. -/
def fnExactChanceInSpec : ChangeSpec := { name := "fnExactChanceIn", fn := fun _ => fun
  | [d1, d2] => { results := [.lit (.bool true)], args := [d1, d2] }
  | _ => none }
def fnExactChanceInRow : OpenClaim := { program := "ytkgodhdpcomjbaa", sum := "ad3dacb3c8fb2058e43662f4bcd335a99bc3d80289872b5676e47dcdc873d148", func := "loop.example/g01169/laws.FnExactChanceIn", spec := "fnExactChanceIn", unfollowed := true, recurses := true, apart := false }
def FnExactChanceInSaid : Prop := fnExactChanceInRow.holds Try.pinned (OpenSpec.ofChange fnExactChanceInSpec)

/-- ITS FALSE NEIGHBOUR: 'it returns false'. Refute it at one input. -/
def fnExactChanceInWrong : ChangeSpec := { name := "fnExactChanceIn", fn := fun _ => fun
  | [d1, d2] => { results := [.lit (.bool false)], args := [d1, d2] }
  | _ => none }
def FnExactChanceInWrongFalsely : Prop := fnExactChanceInRow.holds Try.pinned (OpenSpec.ofChange fnExactChanceInWrong)

/-- 'laws.FnExactBlowUp': WHATEVER THE INPUT: true; the input reads as it did. -/
def fnExactBlowUpSpec : ChangeSpec := { name := "fnExactBlowUp", fn := fun _ => fun
  | [d1, d2] => { results := [.lit (.bool true)], args := [d1, d2] }
  | _ => none }
def fnExactBlowUpRow : OpenClaim := { program := "ytkgodhdpcomjbaa", sum := "ad3dacb3c8fb2058e43662f4bcd335a99bc3d80289872b5676e47dcdc873d148", func := "loop.example/g01169/laws.FnExactBlowUp", spec := "fnExactBlowUp", unfollowed := true, recurses := true, apart := false }
def FnExactBlowUpSaid : Prop := fnExactBlowUpRow.holds Try.pinned (OpenSpec.ofChange fnExactBlowUpSpec)

/-- ITS FALSE NEIGHBOUR: 'it returns false'. Refute it at one input. -/
def fnExactBlowUpWrong : ChangeSpec := { name := "fnExactBlowUp", fn := fun _ => fun
  | [d1, d2] => { results := [.lit (.bool false)], args := [d1, d2] }
  | _ => none }
def FnExactBlowUpWrongFalsely : Prop := fnExactBlowUpRow.holds Try.pinned (OpenSpec.ofChange fnExactBlowUpWrong)

/-- 'laws.FnExactSplitPart': WHATEVER THE INPUT: true; the input reads as it did. -/
def fnExactSplitPartSpec : ChangeSpec := { name := "fnExactSplitPart", fn := fun _ => fun
  | [d1, d2, d3] => { results := [.lit (.bool true)], args := [d1, d2, d3] }
  | _ => none }
def fnExactSplitPartRow : OpenClaim := { program := "ytkgodhdpcomjbaa", sum := "ad3dacb3c8fb2058e43662f4bcd335a99bc3d80289872b5676e47dcdc873d148", func := "loop.example/g01169/laws.FnExactSplitPart", spec := "fnExactSplitPart", unfollowed := true, recurses := true, apart := false }
def FnExactSplitPartSaid : Prop := fnExactSplitPartRow.holds Try.pinned (OpenSpec.ofChange fnExactSplitPartSpec)

/-- ITS FALSE NEIGHBOUR: 'it returns false'. Refute it at one input. -/
def fnExactSplitPartWrong : ChangeSpec := { name := "fnExactSplitPart", fn := fun _ => fun
  | [d1, d2, d3] => { results := [.lit (.bool false)], args := [d1, d2, d3] }
  | _ => none }
def FnExactSplitPartWrongFalsely : Prop := fnExactSplitPartRow.holds Try.pinned (OpenSpec.ofChange fnExactSplitPartWrong)

/-- 'laws.FnExactFirstMapOf': WHATEVER THE INPUT: true; the input reads as it did. -/
def fnExactFirstMapOfSpec : ChangeSpec := { name := "fnExactFirstMapOf", fn := fun _ => fun
  | [d1, d2] => { results := [.lit (.bool true)], args := [d1, d2] }
  | _ => none }
def fnExactFirstMapOfRow : OpenClaim := { program := "ytkgodhdpcomjbaa", sum := "ad3dacb3c8fb2058e43662f4bcd335a99bc3d80289872b5676e47dcdc873d148", func := "loop.example/g01169/laws.FnExactFirstMapOf", spec := "fnExactFirstMapOf", unfollowed := true, recurses := true, apart := false }
def FnExactFirstMapOfSaid : Prop := fnExactFirstMapOfRow.holds Try.pinned (OpenSpec.ofChange fnExactFirstMapOfSpec)

/-- ITS FALSE NEIGHBOUR: 'it returns false'. Refute it at one input. -/
def fnExactFirstMapOfWrong : ChangeSpec := { name := "fnExactFirstMapOf", fn := fun _ => fun
  | [d1, d2] => { results := [.lit (.bool false)], args := [d1, d2] }
  | _ => none }
def FnExactFirstMapOfWrongFalsely : Prop := fnExactFirstMapOfRow.holds Try.pinned (OpenSpec.ofChange fnExactFirstMapOfWrong)

/-- 'laws.FnExactIsPatternFree': WHATEVER THE INPUT: true; the input reads as it did. -/
def fnExactIsPatternFreeSpec : ChangeSpec := { name := "fnExactIsPatternFree", fn := fun _ => fun
  | [d1, d2] => { results := [.lit (.bool true)], args := [d1, d2] }
  | _ => none }
def fnExactIsPatternFreeRow : OpenClaim := { program := "ytkgodhdpcomjbaa", sum := "ad3dacb3c8fb2058e43662f4bcd335a99bc3d80289872b5676e47dcdc873d148", func := "loop.example/g01169/laws.FnExactIsPatternFree", spec := "fnExactIsPatternFree", unfollowed := true, recurses := true, apart := false }
def FnExactIsPatternFreeSaid : Prop := fnExactIsPatternFreeRow.holds Try.pinned (OpenSpec.ofChange fnExactIsPatternFreeSpec)

/-- ITS FALSE NEIGHBOUR: 'it returns false'. Refute it at one input. -/
def fnExactIsPatternFreeWrong : ChangeSpec := { name := "fnExactIsPatternFree", fn := fun _ => fun
  | [d1, d2] => { results := [.lit (.bool false)], args := [d1, d2] }
  | _ => none }
def FnExactIsPatternFreeWrongFalsely : Prop := fnExactIsPatternFreeRow.holds Try.pinned (OpenSpec.ofChange fnExactIsPatternFreeWrong)

/-- 'laws.FnExactJoinParts': WHATEVER THE INPUT: true; the input reads as it did. -/
def fnExactJoinPartsSpec : ChangeSpec := { name := "fnExactJoinParts", fn := fun _ => fun
  | [d1, d2, d3] => { results := [.lit (.bool true)], args := [d1, d2, d3] }
  | _ => none }
def fnExactJoinPartsRow : OpenClaim := { program := "ytkgodhdpcomjbaa", sum := "ad3dacb3c8fb2058e43662f4bcd335a99bc3d80289872b5676e47dcdc873d148", func := "loop.example/g01169/laws.FnExactJoinParts", spec := "fnExactJoinParts", unfollowed := true, recurses := true, apart := false }
def FnExactJoinPartsSaid : Prop := fnExactJoinPartsRow.holds Try.pinned (OpenSpec.ofChange fnExactJoinPartsSpec)

/-- ITS FALSE NEIGHBOUR: 'it returns false'. Refute it at one input. -/
def fnExactJoinPartsWrong : ChangeSpec := { name := "fnExactJoinParts", fn := fun _ => fun
  | [d1, d2, d3] => { results := [.lit (.bool false)], args := [d1, d2, d3] }
  | _ => none }
def FnExactJoinPartsWrongFalsely : Prop := fnExactJoinPartsRow.holds Try.pinned (OpenSpec.ofChange fnExactJoinPartsWrong)

/-- 'laws.FnExactDensityIn': WHATEVER THE INPUT: true; the input reads as it did. -/
def fnExactDensityInSpec : ChangeSpec := { name := "fnExactDensityIn", fn := fun _ => fun
  | [d1, d2] => { results := [.lit (.bool true)], args := [d1, d2] }
  | _ => none }
def fnExactDensityInRow : OpenClaim := { program := "ytkgodhdpcomjbaa", sum := "ad3dacb3c8fb2058e43662f4bcd335a99bc3d80289872b5676e47dcdc873d148", func := "loop.example/g01169/laws.FnExactDensityIn", spec := "fnExactDensityIn", unfollowed := true, recurses := true, apart := false }
def FnExactDensityInSaid : Prop := fnExactDensityInRow.holds Try.pinned (OpenSpec.ofChange fnExactDensityInSpec)

/-- ITS FALSE NEIGHBOUR: 'it returns false'. Refute it at one input. -/
def fnExactDensityInWrong : ChangeSpec := { name := "fnExactDensityIn", fn := fun _ => fun
  | [d1, d2] => { results := [.lit (.bool false)], args := [d1, d2] }
  | _ => none }
def FnExactDensityInWrongFalsely : Prop := fnExactDensityInRow.holds Try.pinned (OpenSpec.ofChange fnExactDensityInWrong)

/-- 'laws.FnExactBestWeights': WHATEVER THE INPUT: true; the input reads as it did. -/
def fnExactBestWeightsSpec : ChangeSpec := { name := "fnExactBestWeights", fn := fun _ => fun
  | [d1, d2, d3, d4] => { results := [.lit (.bool true)], args := [d1, d2, d3, d4] }
  | _ => none }
def fnExactBestWeightsRow : OpenClaim := { program := "ytkgodhdpcomjbaa", sum := "ad3dacb3c8fb2058e43662f4bcd335a99bc3d80289872b5676e47dcdc873d148", func := "loop.example/g01169/laws.FnExactBestWeights", spec := "fnExactBestWeights", unfollowed := true, recurses := true, apart := false }
def FnExactBestWeightsSaid : Prop := fnExactBestWeightsRow.holds Try.pinned (OpenSpec.ofChange fnExactBestWeightsSpec)

/-- ITS FALSE NEIGHBOUR: 'it returns false'. Refute it at one input. -/
def fnExactBestWeightsWrong : ChangeSpec := { name := "fnExactBestWeights", fn := fun _ => fun
  | [d1, d2, d3, d4] => { results := [.lit (.bool false)], args := [d1, d2, d3, d4] }
  | _ => none }
def FnExactBestWeightsWrongFalsely : Prop := fnExactBestWeightsRow.holds Try.pinned (OpenSpec.ofChange fnExactBestWeightsWrong)

/-- 'laws.FnExactDensitiesIn': WHATEVER THE INPUT: true; the input reads as it did. -/
def fnExactDensitiesInSpec : ChangeSpec := { name := "fnExactDensitiesIn", fn := fun _ => fun
  | [d1, d2] => { results := [.lit (.bool true)], args := [d1, d2] }
  | _ => none }
def fnExactDensitiesInRow : OpenClaim := { program := "ytkgodhdpcomjbaa", sum := "ad3dacb3c8fb2058e43662f4bcd335a99bc3d80289872b5676e47dcdc873d148", func := "loop.example/g01169/laws.FnExactDensitiesIn", spec := "fnExactDensitiesIn", unfollowed := true, recurses := true, apart := false }
def FnExactDensitiesInSaid : Prop := fnExactDensitiesInRow.holds Try.pinned (OpenSpec.ofChange fnExactDensitiesInSpec)

/-- ITS FALSE NEIGHBOUR: 'it returns false'. Refute it at one input. -/
def fnExactDensitiesInWrong : ChangeSpec := { name := "fnExactDensitiesIn", fn := fun _ => fun
  | [d1, d2] => { results := [.lit (.bool false)], args := [d1, d2] }
  | _ => none }
def FnExactDensitiesInWrongFalsely : Prop := fnExactDensitiesInRow.holds Try.pinned (OpenSpec.ofChange fnExactDensitiesInWrong)

/-- 'laws.FnDivided': WHATEVER THE INPUT: true; the input reads as it did. -/
def fnDividedSpec : ChangeSpec := { name := "fnDivided", fn := fun _ => fun
  | [d1, d2] => { results := [.lit (.bool true)], args := [d1, d2] }
  | _ => none }
def fnDividedRow : OpenClaim := { program := "ytkgodhdpcomjbaa", sum := "ad3dacb3c8fb2058e43662f4bcd335a99bc3d80289872b5676e47dcdc873d148", func := "loop.example/g01169/laws.FnDivided", spec := "fnDivided", unfollowed := true, recurses := true, apart := false }
def FnDividedSaid : Prop := fnDividedRow.holds Try.pinned (OpenSpec.ofChange fnDividedSpec)

/-- ITS FALSE NEIGHBOUR: 'it returns false'. Refute it at one input. -/
def fnDividedWrong : ChangeSpec := { name := "fnDivided", fn := fun _ => fun
  | [d1, d2] => { results := [.lit (.bool false)], args := [d1, d2] }
  | _ => none }
def FnDividedWrongFalsely : Prop := fnDividedRow.holds Try.pinned (OpenSpec.ofChange fnDividedWrong)

/- THE SECOND FORM. 'bulk': how many values and letters a reading holds, each counted each time it is reached (what is shared counts as often as it is met; a slice's spare places count too). A statement '..UptoSaid' is the law's where the arguments, and the package variables that the reading takes, are together of bulk at most 1048576: NARROWER than '..Said'. Prove '..Said' where nothing that the law and all that it calls make is longer than what came in: it says more and counts as full. Else prove '..UptoSaid'. A law counts once. -/
mutual
def uptoBulk {H : Type} : DataW H → Nat
  | .lit (.string bytes) => bytes.length + 1
  | .lit _ => 1
  | .nil => 1
  | .ptr d => uptoBulk d + 1
  | .slice elems spare => uptoBulkAll elems + uptoBulkAll spare + 1
  | .agg parts => uptoBulkAll parts + 1
  | .iface _ d => uptoBulk d + 1
  | .map entries => uptoBulkEntries entries + 1
  | .held _ => 1
def uptoBulkAll {H : Type} : List (DataW H) → Nat
  | [] => 0
  | d :: r => uptoBulk d + uptoBulkAll r
def uptoBulkEntries {H : Type} : List (Lit × DataW H) → Nat
  | [] => 0
  | x :: r => uptoBulkEntry x + uptoBulkEntries r
def uptoBulkEntry {H : Type} : Lit × DataW H → Nat
  | (.string bytes, d) => bytes.length + uptoBulk d + 1
  | (_, d) => uptoBulk d + 1
 end
def uptoSmall : (H : Type) → List (DataW H) → Bool := fun _ ds => decide (uptoBulkAll ds ≤ 1048576)
def OpenSpec.upto (s : _root_.Go.ChangeSpec) : _root_.Go.OpenSpec := { _root_.Go.OpenSpec.ofChange s with cond := some uptoSmall }

/-- 'laws.FnExactOppositePattern', WHERE WHAT IT READS IS OF BULK AT MOST 1048576: true; the input reads as it did. -/
def fnExactOppositePatternUptoRow : OpenClaim := { program := "ytkgodhdpcomjbaa", sum := "ad3dacb3c8fb2058e43662f4bcd335a99bc3d80289872b5676e47dcdc873d148", func := "loop.example/g01169/laws.FnExactOppositePattern", spec := "fnExactOppositePattern", unfollowed := true, recurses := true, apart := false, narrowed := true }
def FnExactOppositePatternUptoSaid : Prop := fnExactOppositePatternUptoRow.holds Try.pinned (OpenSpec.upto fnExactOppositePatternSpec)

/-- 'laws.FnExactChanceIn', WHERE WHAT IT READS IS OF BULK AT MOST 1048576: true; the input reads as it did. -/
def fnExactChanceInUptoRow : OpenClaim := { program := "ytkgodhdpcomjbaa", sum := "ad3dacb3c8fb2058e43662f4bcd335a99bc3d80289872b5676e47dcdc873d148", func := "loop.example/g01169/laws.FnExactChanceIn", spec := "fnExactChanceIn", unfollowed := true, recurses := true, apart := false, narrowed := true }
def FnExactChanceInUptoSaid : Prop := fnExactChanceInUptoRow.holds Try.pinned (OpenSpec.upto fnExactChanceInSpec)

/-- 'laws.FnExactBlowUp', WHERE WHAT IT READS IS OF BULK AT MOST 1048576: true; the input reads as it did. -/
def fnExactBlowUpUptoRow : OpenClaim := { program := "ytkgodhdpcomjbaa", sum := "ad3dacb3c8fb2058e43662f4bcd335a99bc3d80289872b5676e47dcdc873d148", func := "loop.example/g01169/laws.FnExactBlowUp", spec := "fnExactBlowUp", unfollowed := true, recurses := true, apart := false, narrowed := true }
def FnExactBlowUpUptoSaid : Prop := fnExactBlowUpUptoRow.holds Try.pinned (OpenSpec.upto fnExactBlowUpSpec)

/-- 'laws.FnExactSplitPart', WHERE WHAT IT READS IS OF BULK AT MOST 1048576: true; the input reads as it did. -/
def fnExactSplitPartUptoRow : OpenClaim := { program := "ytkgodhdpcomjbaa", sum := "ad3dacb3c8fb2058e43662f4bcd335a99bc3d80289872b5676e47dcdc873d148", func := "loop.example/g01169/laws.FnExactSplitPart", spec := "fnExactSplitPart", unfollowed := true, recurses := true, apart := false, narrowed := true }
def FnExactSplitPartUptoSaid : Prop := fnExactSplitPartUptoRow.holds Try.pinned (OpenSpec.upto fnExactSplitPartSpec)

/-- 'laws.FnExactFirstMapOf', WHERE WHAT IT READS IS OF BULK AT MOST 1048576: true; the input reads as it did. -/
def fnExactFirstMapOfUptoRow : OpenClaim := { program := "ytkgodhdpcomjbaa", sum := "ad3dacb3c8fb2058e43662f4bcd335a99bc3d80289872b5676e47dcdc873d148", func := "loop.example/g01169/laws.FnExactFirstMapOf", spec := "fnExactFirstMapOf", unfollowed := true, recurses := true, apart := false, narrowed := true }
def FnExactFirstMapOfUptoSaid : Prop := fnExactFirstMapOfUptoRow.holds Try.pinned (OpenSpec.upto fnExactFirstMapOfSpec)

/-- 'laws.FnExactIsPatternFree', WHERE WHAT IT READS IS OF BULK AT MOST 1048576: true; the input reads as it did. -/
def fnExactIsPatternFreeUptoRow : OpenClaim := { program := "ytkgodhdpcomjbaa", sum := "ad3dacb3c8fb2058e43662f4bcd335a99bc3d80289872b5676e47dcdc873d148", func := "loop.example/g01169/laws.FnExactIsPatternFree", spec := "fnExactIsPatternFree", unfollowed := true, recurses := true, apart := false, narrowed := true }
def FnExactIsPatternFreeUptoSaid : Prop := fnExactIsPatternFreeUptoRow.holds Try.pinned (OpenSpec.upto fnExactIsPatternFreeSpec)

/-- 'laws.FnExactJoinParts', WHERE WHAT IT READS IS OF BULK AT MOST 1048576: true; the input reads as it did. -/
def fnExactJoinPartsUptoRow : OpenClaim := { program := "ytkgodhdpcomjbaa", sum := "ad3dacb3c8fb2058e43662f4bcd335a99bc3d80289872b5676e47dcdc873d148", func := "loop.example/g01169/laws.FnExactJoinParts", spec := "fnExactJoinParts", unfollowed := true, recurses := true, apart := false, narrowed := true }
def FnExactJoinPartsUptoSaid : Prop := fnExactJoinPartsUptoRow.holds Try.pinned (OpenSpec.upto fnExactJoinPartsSpec)

/-- 'laws.FnExactDensityIn', WHERE WHAT IT READS IS OF BULK AT MOST 1048576: true; the input reads as it did. -/
def fnExactDensityInUptoRow : OpenClaim := { program := "ytkgodhdpcomjbaa", sum := "ad3dacb3c8fb2058e43662f4bcd335a99bc3d80289872b5676e47dcdc873d148", func := "loop.example/g01169/laws.FnExactDensityIn", spec := "fnExactDensityIn", unfollowed := true, recurses := true, apart := false, narrowed := true }
def FnExactDensityInUptoSaid : Prop := fnExactDensityInUptoRow.holds Try.pinned (OpenSpec.upto fnExactDensityInSpec)

/-- 'laws.FnExactBestWeights', WHERE WHAT IT READS IS OF BULK AT MOST 1048576: true; the input reads as it did. -/
def fnExactBestWeightsUptoRow : OpenClaim := { program := "ytkgodhdpcomjbaa", sum := "ad3dacb3c8fb2058e43662f4bcd335a99bc3d80289872b5676e47dcdc873d148", func := "loop.example/g01169/laws.FnExactBestWeights", spec := "fnExactBestWeights", unfollowed := true, recurses := true, apart := false, narrowed := true }
def FnExactBestWeightsUptoSaid : Prop := fnExactBestWeightsUptoRow.holds Try.pinned (OpenSpec.upto fnExactBestWeightsSpec)

/-- 'laws.FnExactDensitiesIn', WHERE WHAT IT READS IS OF BULK AT MOST 1048576: true; the input reads as it did. -/
def fnExactDensitiesInUptoRow : OpenClaim := { program := "ytkgodhdpcomjbaa", sum := "ad3dacb3c8fb2058e43662f4bcd335a99bc3d80289872b5676e47dcdc873d148", func := "loop.example/g01169/laws.FnExactDensitiesIn", spec := "fnExactDensitiesIn", unfollowed := true, recurses := true, apart := false, narrowed := true }
def FnExactDensitiesInUptoSaid : Prop := fnExactDensitiesInUptoRow.holds Try.pinned (OpenSpec.upto fnExactDensitiesInSpec)

/-- 'laws.FnDivided', WHERE WHAT IT READS IS OF BULK AT MOST 1048576: true; the input reads as it did. -/
def fnDividedUptoRow : OpenClaim := { program := "ytkgodhdpcomjbaa", sum := "ad3dacb3c8fb2058e43662f4bcd335a99bc3d80289872b5676e47dcdc873d148", func := "loop.example/g01169/laws.FnDivided", spec := "fnDivided", unfollowed := true, recurses := true, apart := false, narrowed := true }
def FnDividedUptoSaid : Prop := fnDividedUptoRow.holds Try.pinned (OpenSpec.upto fnDividedSpec)

end Rows
end Go.Proofs.Ytkgodhdpcomjbaa
