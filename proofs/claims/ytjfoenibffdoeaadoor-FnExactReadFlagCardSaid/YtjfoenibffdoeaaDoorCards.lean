/-
  DERIVED. GIVEN WITH THE SEED: THE CARDS: each row of YtjfoenibffdoeaaDoorRows.lean that lists a variable, with what it lists TIED to the program's text (the seventh form; the later family's looks); each row that meets fmt, with fmt's text TOLD by the authors' own Lean function (tested against real Go, not proved from fmt's source: count such statements apart). THE CARD IS WHAT COUNTS. Prove the row's statement (the work); the ties are given (YtjfoenibffdoeaaDoorTie.lean); close each card by the builder's one call (the guide's Derived/Test/ToyasCard.lean, 'card_holds'). Laid BY PROGRAM, IN A SANDBOX (cutbox-door.mjs). By AI agents, Wed Nov 11 2026. No macro, syntax, notation, axiom, sorry.
-/
import Derived.Test.YtjfoenibffdoeaaDoorRows
import GoSem.ClaimSeven
namespace Go.Proofs.YtjfoenibffdoeaaDoor
namespace Rows

/-- THE TIED CARD OF 'laws.FnExactFractionText'. -/
def fnExactFractionTextCard : Claim7 := { stood := { row := fnExactFractionTextRow, standIns := [], harness := (true, "c0e00d8d4a921e4d2200ae6f4b4567bf193ebefbf0d7a4573d89a8b3676f89cf"), looks := true }, kinds := [], alts := [], laidByText := true, laidKinds := [.data, .data, .data], laidTests := true, laidLooks := .later }
def FnExactFractionTextCardSaid : Prop := Claim7.holds Tryd.pinned (.plain (OpenSpec.ofChange fnExactFractionTextSpec)) fnExactFractionTextCard

/-- THE TIED CARD OF 'laws.FnExactDeedText'. -/
def fnExactDeedTextCard : Claim7 := { stood := { row := fnExactDeedTextRow, standIns := [], harness := (true, "c0e00d8d4a921e4d2200ae6f4b4567bf193ebefbf0d7a4573d89a8b3676f89cf"), looks := true }, kinds := [], alts := [], laidByText := true, laidKinds := [.data, .data, .data], laidTests := true, laidLooks := .later }
def FnExactDeedTextCardSaid : Prop := Claim7.holds Tryd.pinned (.plain (OpenSpec.ofChange fnExactDeedTextSpec)) fnExactDeedTextCard

/-- THE TIED CARD OF 'laws.FnExactGraphText'. -/
def fnExactGraphTextCard : Claim7 := { stood := { row := fnExactGraphTextRow, standIns := [], harness := (true, "c0e00d8d4a921e4d2200ae6f4b4567bf193ebefbf0d7a4573d89a8b3676f89cf"), looks := true }, kinds := [], alts := [], laidByText := true, laidKinds := [.data, .data, .data], laidTests := true, laidLooks := .later }
def FnExactGraphTextCardSaid : Prop := Claim7.holds Tryd.pinned (.plain (OpenSpec.ofChange fnExactGraphTextSpec)) fnExactGraphTextCard

/-- THE TIED CARD OF 'laws.FnExactFlagText'. -/
def fnExactFlagTextCard : Claim7 := { stood := { row := fnExactFlagTextRow, standIns := [], harness := (true, "c0e00d8d4a921e4d2200ae6f4b4567bf193ebefbf0d7a4573d89a8b3676f89cf"), looks := true }, kinds := [], alts := [], laidByText := true, laidKinds := [.data, .data, .data], laidTests := true, laidLooks := .later }
def FnExactFlagTextCardSaid : Prop := Claim7.holds Tryd.pinned (.plain (OpenSpec.ofChange fnExactFlagTextSpec)) fnExactFlagTextCard

/-- THE TIED CARD OF 'laws.FnExactMatrixText'. -/
def fnExactMatrixTextCard : Claim7 := { stood := { row := fnExactMatrixTextRow, standIns := [], harness := (true, "c0e00d8d4a921e4d2200ae6f4b4567bf193ebefbf0d7a4573d89a8b3676f89cf"), looks := true }, kinds := [], alts := [], laidByText := true, laidKinds := [.data, .data, .data], laidTests := true, laidLooks := .later }
def FnExactMatrixTextCardSaid : Prop := Claim7.holds Tryd.pinned (.plain (OpenSpec.ofChange fnExactMatrixTextSpec)) fnExactMatrixTextCard

/-- THE TIED CARD OF 'laws.FnExactPatternText'. -/
def fnExactPatternTextCard : Claim7 := { stood := { row := fnExactPatternTextRow, standIns := [], harness := (true, "c0e00d8d4a921e4d2200ae6f4b4567bf193ebefbf0d7a4573d89a8b3676f89cf"), looks := true }, kinds := [], alts := [], laidByText := true, laidKinds := [.data, .data, .data], laidTests := true, laidLooks := .later }
def FnExactPatternTextCardSaid : Prop := Claim7.holds Tryd.pinned (.plain (OpenSpec.ofChange fnExactPatternTextSpec)) fnExactPatternTextCard

/-- THE TIED CARD OF 'laws.FnExactSumText'. -/
def fnExactSumTextCard : Claim7 := { stood := { row := fnExactSumTextRow, standIns := [], harness := (true, "c0e00d8d4a921e4d2200ae6f4b4567bf193ebefbf0d7a4573d89a8b3676f89cf"), looks := true }, kinds := [], alts := [], laidByText := true, laidKinds := [.data, .data, .data], laidTests := true, laidLooks := .later }
def FnExactSumTextCardSaid : Prop := Claim7.holds Tryd.pinned (.plain (OpenSpec.ofChange fnExactSumTextSpec)) fnExactSumTextCard

/-- THE TIED CARD OF 'laws.FnExactReadFraction'. -/
def fnExactReadFractionCard : Claim7 := { stood := { row := fnExactReadFractionRow, standIns := [], harness := (true, "c0e00d8d4a921e4d2200ae6f4b4567bf193ebefbf0d7a4573d89a8b3676f89cf"), looks := true }, kinds := [], alts := [], laidByText := true, laidKinds := [.data, .data, .data, .sentinel, .sentinel], laidTests := true, laidLooks := .later }
def FnExactReadFractionCardSaid : Prop := Claim7.holds Tryd.pinned (.plain (OpenSpec.ofChange fnExactReadFractionSpec)) fnExactReadFractionCard

/-- THE TIED CARD OF 'laws.FnExactReadGraph'. -/
def fnExactReadGraphCard : Claim7 := { stood := { row := fnExactReadGraphRow, standIns := [], harness := (true, "c0e00d8d4a921e4d2200ae6f4b4567bf193ebefbf0d7a4573d89a8b3676f89cf"), looks := true }, kinds := [], alts := [], laidByText := true, laidKinds := [.data, .data, .data, .data, .sentinel, .sentinel, .pinned], laidTests := true, laidLooks := .later }
def FnExactReadGraphCardSaid : Prop := Claim7.holds Tryd.pinned (.plain (OpenSpec.ofChange fnExactReadGraphSpec)) fnExactReadGraphCard

/-- THE TIED CARD OF 'laws.FnExactReadFlag'. -/
def fnExactReadFlagCard : Claim7 := { stood := { row := fnExactReadFlagRow, standIns := [], harness := (true, "c0e00d8d4a921e4d2200ae6f4b4567bf193ebefbf0d7a4573d89a8b3676f89cf"), looks := true }, kinds := [], alts := [], laidByText := true, laidKinds := [.data, .data, .data, .data, .sentinel, .sentinel, .pinned], laidTests := true, laidLooks := .later }
def FnExactReadFlagCardSaid : Prop := Claim7.holds Tryd.pinned (.plain (OpenSpec.ofChange fnExactReadFlagSpec)) fnExactReadFlagCard

/-- THE SECOND FORM's CARD OF 'laws.FnExactFractionText'. -/
def fnExactFractionTextUptoCard : Claim7 := { stood := { row := fnExactFractionTextUptoRow, standIns := [], harness := (true, "c0e00d8d4a921e4d2200ae6f4b4567bf193ebefbf0d7a4573d89a8b3676f89cf"), looks := true }, kinds := [], alts := [], laidByText := true, laidKinds := [.data, .data, .data], laidTests := true, laidLooks := .later }
def FnExactFractionTextUptoCardSaid : Prop := Claim7.holds Tryd.pinned (.plain (OpenSpec.upto fnExactFractionTextSpec)) fnExactFractionTextUptoCard

/-- THE SECOND FORM's CARD OF 'laws.FnExactDeedText'. -/
def fnExactDeedTextUptoCard : Claim7 := { stood := { row := fnExactDeedTextUptoRow, standIns := [], harness := (true, "c0e00d8d4a921e4d2200ae6f4b4567bf193ebefbf0d7a4573d89a8b3676f89cf"), looks := true }, kinds := [], alts := [], laidByText := true, laidKinds := [.data, .data, .data], laidTests := true, laidLooks := .later }
def FnExactDeedTextUptoCardSaid : Prop := Claim7.holds Tryd.pinned (.plain (OpenSpec.upto fnExactDeedTextSpec)) fnExactDeedTextUptoCard

/-- THE SECOND FORM's CARD OF 'laws.FnExactGraphText'. -/
def fnExactGraphTextUptoCard : Claim7 := { stood := { row := fnExactGraphTextUptoRow, standIns := [], harness := (true, "c0e00d8d4a921e4d2200ae6f4b4567bf193ebefbf0d7a4573d89a8b3676f89cf"), looks := true }, kinds := [], alts := [], laidByText := true, laidKinds := [.data, .data, .data], laidTests := true, laidLooks := .later }
def FnExactGraphTextUptoCardSaid : Prop := Claim7.holds Tryd.pinned (.plain (OpenSpec.upto fnExactGraphTextSpec)) fnExactGraphTextUptoCard

/-- THE SECOND FORM's CARD OF 'laws.FnExactFlagText'. -/
def fnExactFlagTextUptoCard : Claim7 := { stood := { row := fnExactFlagTextUptoRow, standIns := [], harness := (true, "c0e00d8d4a921e4d2200ae6f4b4567bf193ebefbf0d7a4573d89a8b3676f89cf"), looks := true }, kinds := [], alts := [], laidByText := true, laidKinds := [.data, .data, .data], laidTests := true, laidLooks := .later }
def FnExactFlagTextUptoCardSaid : Prop := Claim7.holds Tryd.pinned (.plain (OpenSpec.upto fnExactFlagTextSpec)) fnExactFlagTextUptoCard

/-- THE SECOND FORM's CARD OF 'laws.FnExactMatrixText'. -/
def fnExactMatrixTextUptoCard : Claim7 := { stood := { row := fnExactMatrixTextUptoRow, standIns := [], harness := (true, "c0e00d8d4a921e4d2200ae6f4b4567bf193ebefbf0d7a4573d89a8b3676f89cf"), looks := true }, kinds := [], alts := [], laidByText := true, laidKinds := [.data, .data, .data], laidTests := true, laidLooks := .later }
def FnExactMatrixTextUptoCardSaid : Prop := Claim7.holds Tryd.pinned (.plain (OpenSpec.upto fnExactMatrixTextSpec)) fnExactMatrixTextUptoCard

/-- THE SECOND FORM's CARD OF 'laws.FnExactPatternText'. -/
def fnExactPatternTextUptoCard : Claim7 := { stood := { row := fnExactPatternTextUptoRow, standIns := [], harness := (true, "c0e00d8d4a921e4d2200ae6f4b4567bf193ebefbf0d7a4573d89a8b3676f89cf"), looks := true }, kinds := [], alts := [], laidByText := true, laidKinds := [.data, .data, .data], laidTests := true, laidLooks := .later }
def FnExactPatternTextUptoCardSaid : Prop := Claim7.holds Tryd.pinned (.plain (OpenSpec.upto fnExactPatternTextSpec)) fnExactPatternTextUptoCard

/-- THE SECOND FORM's CARD OF 'laws.FnExactSumText'. -/
def fnExactSumTextUptoCard : Claim7 := { stood := { row := fnExactSumTextUptoRow, standIns := [], harness := (true, "c0e00d8d4a921e4d2200ae6f4b4567bf193ebefbf0d7a4573d89a8b3676f89cf"), looks := true }, kinds := [], alts := [], laidByText := true, laidKinds := [.data, .data, .data], laidTests := true, laidLooks := .later }
def FnExactSumTextUptoCardSaid : Prop := Claim7.holds Tryd.pinned (.plain (OpenSpec.upto fnExactSumTextSpec)) fnExactSumTextUptoCard

/-- THE SECOND FORM's CARD OF 'laws.FnExactReadFraction'. -/
def fnExactReadFractionUptoCard : Claim7 := { stood := { row := fnExactReadFractionUptoRow, standIns := [], harness := (true, "c0e00d8d4a921e4d2200ae6f4b4567bf193ebefbf0d7a4573d89a8b3676f89cf"), looks := true }, kinds := [], alts := [], laidByText := true, laidKinds := [.data, .data, .data, .sentinel, .sentinel], laidTests := true, laidLooks := .later }
def FnExactReadFractionUptoCardSaid : Prop := Claim7.holds Tryd.pinned (.plain (OpenSpec.upto fnExactReadFractionSpec)) fnExactReadFractionUptoCard

/-- THE SECOND FORM's CARD OF 'laws.FnExactReadGraph'. -/
def fnExactReadGraphUptoCard : Claim7 := { stood := { row := fnExactReadGraphUptoRow, standIns := [], harness := (true, "c0e00d8d4a921e4d2200ae6f4b4567bf193ebefbf0d7a4573d89a8b3676f89cf"), looks := true }, kinds := [], alts := [], laidByText := true, laidKinds := [.data, .data, .data, .data, .sentinel, .sentinel, .pinned], laidTests := true, laidLooks := .later }
def FnExactReadGraphUptoCardSaid : Prop := Claim7.holds Tryd.pinned (.plain (OpenSpec.upto fnExactReadGraphSpec)) fnExactReadGraphUptoCard

/-- THE SECOND FORM's CARD OF 'laws.FnExactReadFlag'. -/
def fnExactReadFlagUptoCard : Claim7 := { stood := { row := fnExactReadFlagUptoRow, standIns := [], harness := (true, "c0e00d8d4a921e4d2200ae6f4b4567bf193ebefbf0d7a4573d89a8b3676f89cf"), looks := true }, kinds := [], alts := [], laidByText := true, laidKinds := [.data, .data, .data, .data, .sentinel, .sentinel, .pinned], laidTests := true, laidLooks := .later }
def FnExactReadFlagUptoCardSaid : Prop := Claim7.holds Tryd.pinned (.plain (OpenSpec.upto fnExactReadFlagSpec)) fnExactReadFlagUptoCard
end Rows
end Go.Proofs.YtjfoenibffdoeaaDoor
