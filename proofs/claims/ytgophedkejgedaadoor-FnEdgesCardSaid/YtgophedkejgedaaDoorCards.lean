/-
  DERIVED. GIVEN WITH THE SEED: THE CARDS: each row of YtgophedkejgedaaDoorRows.lean that lists a variable, with what it lists TIED to the program's text (the seventh form; the later family's looks); each row that meets fmt, with fmt's text TOLD by the authors' own Lean function (tested against real Go, not proved from fmt's source: count such statements apart). THE CARD IS WHAT COUNTS. Prove the row's statement (the work); the ties are given (YtgophedkejgedaaDoorTie.lean); close each card by the builder's one call (the guide's Derived/Test/ToyasCard.lean, 'card_holds'). Laid BY PROGRAM, IN A SANDBOX (cutbox-door.mjs). By AI agents, Wed Nov 11 2026. No macro, syntax, notation, axiom, sorry.
-/
import Derived.Test.YtgophedkejgedaaDoorRows
import GoSem.ClaimSeven
namespace Go.Proofs.YtgophedkejgedaaDoor
namespace Rows

/-- THE TIED CARD OF 'laws.FnExactSumText'. -/
def fnExactSumTextCard : Claim7 := { stood := { row := fnExactSumTextRow, standIns := [], harness := (true, "47c664a6369e60f8729efec5b0d11be97fe12323ec086bc50a0ef8a8143e9783"), looks := true }, kinds := [], alts := [], laidByText := true, laidKinds := [.data, .data, .data], laidTests := true, laidLooks := .later }
def FnExactSumTextCardSaid : Prop := Claim7.holds Tryd.pinned (.plain (OpenSpec.ofChange fnExactSumTextSpec)) fnExactSumTextCard

/-- THE TIED CARD OF 'laws.FnExactReadDeed'. -/
def fnExactReadDeedCard : Claim7 := { stood := { row := fnExactReadDeedRow, standIns := [], harness := (true, "47c664a6369e60f8729efec5b0d11be97fe12323ec086bc50a0ef8a8143e9783"), looks := true }, kinds := [], alts := [], laidByText := true, laidKinds := [.data, .data, .data, .data, .sentinel, .sentinel, .pinned], laidTests := true, laidLooks := .later }
def FnExactReadDeedCardSaid : Prop := Claim7.holds Tryd.pinned (.plain (OpenSpec.ofChange fnExactReadDeedSpec)) fnExactReadDeedCard

/-- THE TIED CARD OF 'laws.FnFractions'. -/
def fnFractionsCard : Claim7 := { stood := { row := fnFractionsRow, standIns := [], harness := (true, "47c664a6369e60f8729efec5b0d11be97fe12323ec086bc50a0ef8a8143e9783"), looks := true }, kinds := [], alts := [], laidByText := true, laidKinds := [.data, .data, .data, .sentinel, .sentinel], laidTests := true, laidLooks := .later }
def FnFractionsCardSaid : Prop := Claim7.holds Tryd.pinned (.plain (OpenSpec.ofChange fnFractionsSpec)) fnFractionsCard

/-- THE TIED CARD OF 'laws.FnEdges'. -/
def fnEdgesCard : Claim7 := { stood := { row := fnEdgesRow, standIns := [], harness := (true, "47c664a6369e60f8729efec5b0d11be97fe12323ec086bc50a0ef8a8143e9783"), looks := true }, kinds := [], alts := [], laidByText := true, laidKinds := [.data, .data, .data, .data, .sentinel, .sentinel, .pinned], laidTests := true, laidLooks := .later }
def FnEdgesCardSaid : Prop := Claim7.holds Tryd.pinned (.plain (OpenSpec.ofChange fnEdgesSpec)) fnEdgesCard

/-- THE SECOND FORM's CARD OF 'laws.FnExactSumText'. -/
def fnExactSumTextUptoCard : Claim7 := { stood := { row := fnExactSumTextUptoRow, standIns := [], harness := (true, "47c664a6369e60f8729efec5b0d11be97fe12323ec086bc50a0ef8a8143e9783"), looks := true }, kinds := [], alts := [], laidByText := true, laidKinds := [.data, .data, .data], laidTests := true, laidLooks := .later }
def FnExactSumTextUptoCardSaid : Prop := Claim7.holds Tryd.pinned (.plain (OpenSpec.upto fnExactSumTextSpec)) fnExactSumTextUptoCard

/-- THE SECOND FORM's CARD OF 'laws.FnExactReadDeed'. -/
def fnExactReadDeedUptoCard : Claim7 := { stood := { row := fnExactReadDeedUptoRow, standIns := [], harness := (true, "47c664a6369e60f8729efec5b0d11be97fe12323ec086bc50a0ef8a8143e9783"), looks := true }, kinds := [], alts := [], laidByText := true, laidKinds := [.data, .data, .data, .data, .sentinel, .sentinel, .pinned], laidTests := true, laidLooks := .later }
def FnExactReadDeedUptoCardSaid : Prop := Claim7.holds Tryd.pinned (.plain (OpenSpec.upto fnExactReadDeedSpec)) fnExactReadDeedUptoCard

/-- THE SECOND FORM's CARD OF 'laws.FnFractions'. -/
def fnFractionsUptoCard : Claim7 := { stood := { row := fnFractionsUptoRow, standIns := [], harness := (true, "47c664a6369e60f8729efec5b0d11be97fe12323ec086bc50a0ef8a8143e9783"), looks := true }, kinds := [], alts := [], laidByText := true, laidKinds := [.data, .data, .data, .sentinel, .sentinel], laidTests := true, laidLooks := .later }
def FnFractionsUptoCardSaid : Prop := Claim7.holds Tryd.pinned (.plain (OpenSpec.upto fnFractionsSpec)) fnFractionsUptoCard

/-- THE SECOND FORM's CARD OF 'laws.FnEdges'. -/
def fnEdgesUptoCard : Claim7 := { stood := { row := fnEdgesUptoRow, standIns := [], harness := (true, "47c664a6369e60f8729efec5b0d11be97fe12323ec086bc50a0ef8a8143e9783"), looks := true }, kinds := [], alts := [], laidByText := true, laidKinds := [.data, .data, .data, .data, .sentinel, .sentinel, .pinned], laidTests := true, laidLooks := .later }
def FnEdgesUptoCardSaid : Prop := Claim7.holds Tryd.pinned (.plain (OpenSpec.upto fnEdgesSpec)) fnEdgesUptoCard
end Rows
end Go.Proofs.YtgophedkejgedaaDoor
