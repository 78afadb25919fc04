/-
  DERIVED. GIVEN WITH THE SEED: THE CARDS: each row of YtgophedkejgedaaGreatDoorRows.lean that lists a variable, with what it lists TIED to the program's text (the seventh form; the later family's looks); each row that meets fmt, with fmt's text TOLD by the authors' own Lean function (tested against real Go, not proved from fmt's source: count such statements apart). THE CARD IS WHAT COUNTS. Prove the row's statement (the work); the ties are given (YtgophedkejgedaaGreatDoorTie.lean); close each card by the builder's one call (the guide's Derived/Test/ToyasCard.lean, 'card_holds'). Laid BY PROGRAM, IN A SANDBOX (cutbox-door.mjs). By AI agents, Wed Nov 11 2026. No macro, syntax, notation, axiom, sorry.
-/
import Derived.Test.YtgophedkejgedaaGreatDoorRows
import GoSem.ClaimSeven
namespace Go.Proofs.YtgophedkejgedaaGreatDoor
namespace Rows

/-- THE TIED CARD OF 'laws.FnExactStatementText'. -/
def fnExactStatementTextCard : Claim7 := { stood := { row := fnExactStatementTextRow, standIns := [], harness := (true, "1627abe83ed7fea06e4ebfa7bf6cb347c82dd052454fcc9c008b14945276dbb2"), looks := true }, kinds := [], alts := [], laidByText := true, laidKinds := [.data, .data, .data], laidTests := true, laidLooks := .later }
def FnExactStatementTextCardSaid : Prop := Claim7.holds Tryz.pinned (.plain (OpenSpec.ofChange fnExactStatementTextSpec)) fnExactStatementTextCard

/-- THE TIED CARD OF 'laws.FnExactCertificateText'. -/
def fnExactCertificateTextCard : Claim7 := { stood := { row := fnExactCertificateTextRow, standIns := [], harness := (true, "1627abe83ed7fea06e4ebfa7bf6cb347c82dd052454fcc9c008b14945276dbb2"), looks := true }, kinds := [], alts := [], laidByText := true, laidKinds := [.data, .data, .data], laidTests := true, laidLooks := .later }
def FnExactCertificateTextCardSaid : Prop := Claim7.holds Tryz.pinned (.plain (OpenSpec.ofChange fnExactCertificateTextSpec)) fnExactCertificateTextCard

/-- THE TIED CARD OF 'laws.FnExactReadSum'. -/
def fnExactReadSumCard : Claim7 := { stood := { row := fnExactReadSumRow, standIns := [], harness := (true, "1627abe83ed7fea06e4ebfa7bf6cb347c82dd052454fcc9c008b14945276dbb2"), looks := true }, kinds := [], alts := [], laidByText := true, laidKinds := [.data, .data, .data, .data, .sentinel, .sentinel, .pinned], laidTests := true, laidLooks := .later }
def FnExactReadSumCardSaid : Prop := Claim7.holds Tryz.pinned (.plain (OpenSpec.ofChange fnExactReadSumSpec)) fnExactReadSumCard

/-- THE SECOND FORM's CARD OF 'laws.FnExactStatementText'. -/
def fnExactStatementTextUptoCard : Claim7 := { stood := { row := fnExactStatementTextUptoRow, standIns := [], harness := (true, "1627abe83ed7fea06e4ebfa7bf6cb347c82dd052454fcc9c008b14945276dbb2"), looks := true }, kinds := [], alts := [], laidByText := true, laidKinds := [.data, .data, .data], laidTests := true, laidLooks := .later }
def FnExactStatementTextUptoCardSaid : Prop := Claim7.holds Tryz.pinned (.plain (OpenSpec.upto fnExactStatementTextSpec)) fnExactStatementTextUptoCard

/-- THE SECOND FORM's CARD OF 'laws.FnExactCertificateText'. -/
def fnExactCertificateTextUptoCard : Claim7 := { stood := { row := fnExactCertificateTextUptoRow, standIns := [], harness := (true, "1627abe83ed7fea06e4ebfa7bf6cb347c82dd052454fcc9c008b14945276dbb2"), looks := true }, kinds := [], alts := [], laidByText := true, laidKinds := [.data, .data, .data], laidTests := true, laidLooks := .later }
def FnExactCertificateTextUptoCardSaid : Prop := Claim7.holds Tryz.pinned (.plain (OpenSpec.upto fnExactCertificateTextSpec)) fnExactCertificateTextUptoCard

/-- THE SECOND FORM's CARD OF 'laws.FnExactReadSum'. -/
def fnExactReadSumUptoCard : Claim7 := { stood := { row := fnExactReadSumUptoRow, standIns := [], harness := (true, "1627abe83ed7fea06e4ebfa7bf6cb347c82dd052454fcc9c008b14945276dbb2"), looks := true }, kinds := [], alts := [], laidByText := true, laidKinds := [.data, .data, .data, .data, .sentinel, .sentinel, .pinned], laidTests := true, laidLooks := .later }
def FnExactReadSumUptoCardSaid : Prop := Claim7.holds Tryz.pinned (.plain (OpenSpec.upto fnExactReadSumSpec)) fnExactReadSumUptoCard
end Rows
end Go.Proofs.YtgophedkejgedaaGreatDoor
