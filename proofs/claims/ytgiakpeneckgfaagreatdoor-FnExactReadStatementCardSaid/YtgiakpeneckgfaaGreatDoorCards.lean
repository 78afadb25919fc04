/-
  DERIVED. GIVEN WITH THE SEED: THE CARDS: each row of YtgiakpeneckgfaaGreatDoorRows.lean that lists a variable, with what it lists TIED to the program's text (the seventh form; the later family's looks); each row that meets fmt, with fmt's text TOLD by the authors' own Lean function (tested against real Go, not proved from fmt's source: count such statements apart). THE CARD IS WHAT COUNTS. Prove the row's statement (the work); the ties are given (YtgiakpeneckgfaaGreatDoorTie.lean); close each card by the builder's one call (the guide's Derived/Test/ToyasCard.lean, 'card_holds'). Laid BY PROGRAM, IN A SANDBOX (cutbox-door.mjs). By AI agents, Wed Nov 11 2026. No macro, syntax, notation, axiom, sorry.
-/
import Derived.Test.YtgiakpeneckgfaaGreatDoorRows
import GoSem.ClaimSeven
namespace Go.Proofs.YtgiakpeneckgfaaGreatDoor
namespace Rows

/-- THE TIED CARD OF 'laws.FnExactReadStatement'. -/
def fnExactReadStatementCard : Claim7 := { stood := { row := fnExactReadStatementRow, standIns := [], harness := (true, "e751343b95c53ebe958dfa3e54f0e0b58e531275eabfd3fe01171b275fb4133f"), looks := true }, kinds := [], alts := [], laidByText := true, laidKinds := [.data, .data, .data, .data, .sentinel, .sentinel, .pinned], laidTests := true, laidLooks := .later }
def FnExactReadStatementCardSaid : Prop := Claim7.holds Tryz.pinned (.plain (OpenSpec.ofChange fnExactReadStatementSpec)) fnExactReadStatementCard

/-- THE SECOND FORM's CARD OF 'laws.FnExactReadStatement'. -/
def fnExactReadStatementUptoCard : Claim7 := { stood := { row := fnExactReadStatementUptoRow, standIns := [], harness := (true, "e751343b95c53ebe958dfa3e54f0e0b58e531275eabfd3fe01171b275fb4133f"), looks := true }, kinds := [], alts := [], laidByText := true, laidKinds := [.data, .data, .data, .data, .sentinel, .sentinel, .pinned], laidTests := true, laidLooks := .later }
def FnExactReadStatementUptoCardSaid : Prop := Claim7.holds Tryz.pinned (.plain (OpenSpec.upto fnExactReadStatementSpec)) fnExactReadStatementUptoCard
end Rows
end Go.Proofs.YtgiakpeneckgfaaGreatDoor
