/-
  DERIVED. GIVEN WITH THE SEED: THE CARDS: each row of YtlglgcmpeabdnaaGreatDoorRows.lean that lists a variable, with what it lists TIED to the program's text (the seventh form; the later family's looks); each row that meets fmt, with fmt's text TOLD by the authors' own Lean function (tested against real Go, not proved from fmt's source: count such statements apart). THE CARD IS WHAT COUNTS. Prove the row's statement (the work); the ties are given (YtlglgcmpeabdnaaGreatDoorTie.lean); close each card by the builder's one call (the guide's Derived/Test/ToyasCard.lean, 'card_holds'). Laid BY PROGRAM, IN A SANDBOX (cutbox-door.mjs). By AI agents, Wed Nov 11 2026. No macro, syntax, notation, axiom, sorry.
-/
import Derived.Test.YtlglgcmpeabdnaaGreatDoorRows
import GoSem.ClaimSeven
namespace Go.Proofs.YtlglgcmpeabdnaaGreatDoor
namespace Rows

/-- THE TIED CARD OF 'laws.FnExactReadPattern'. -/
def fnExactReadPatternCard : Claim7 := { stood := { row := fnExactReadPatternRow, standIns := [], harness := (true, "c90e51202ca41e6b96a5bfd96a20f56c75bca07d51793c9093b54b6bd8911fd6"), looks := true }, kinds := [], alts := [], laidByText := true, laidKinds := [.data, .data, .data, .data, .sentinel, .sentinel, .pinned], laidTests := true, laidLooks := .later }
def FnExactReadPatternCardSaid : Prop := Claim7.holds Tryz.pinned (.plain (OpenSpec.ofChange fnExactReadPatternSpec)) fnExactReadPatternCard

/-- THE TIED CARD OF 'laws.FnExactCertificateText'. -/
def fnExactCertificateTextCard : Claim7 := { stood := { row := fnExactCertificateTextRow, standIns := [], harness := (true, "c90e51202ca41e6b96a5bfd96a20f56c75bca07d51793c9093b54b6bd8911fd6"), looks := true }, kinds := [], alts := [], laidByText := true, laidKinds := [.data, .data, .data], laidTests := true, laidLooks := .later }
def FnExactCertificateTextCardSaid : Prop := Claim7.holds Tryz.pinned (.plain (OpenSpec.ofChange fnExactCertificateTextSpec)) fnExactCertificateTextCard

/-- THE TIED CARD OF 'laws.FnExactReadCertificate'. -/
def fnExactReadCertificateCard : Claim7 := { stood := { row := fnExactReadCertificateRow, standIns := [], harness := (true, "c90e51202ca41e6b96a5bfd96a20f56c75bca07d51793c9093b54b6bd8911fd6"), looks := true }, kinds := [], alts := [], laidByText := true, laidKinds := [.data, .data, .data, .data, .sentinel, .sentinel, .pinned], laidTests := true, laidLooks := .later }
def FnExactReadCertificateCardSaid : Prop := Claim7.holds Tryz.pinned (.plain (OpenSpec.ofChange fnExactReadCertificateSpec)) fnExactReadCertificateCard

/-- THE TIED CARD OF 'laws.FnExactReadMatrix'. -/
def fnExactReadMatrixCard : Claim7 := { stood := { row := fnExactReadMatrixRow, standIns := [], harness := (true, "c90e51202ca41e6b96a5bfd96a20f56c75bca07d51793c9093b54b6bd8911fd6"), looks := true }, kinds := [], alts := [], laidByText := true, laidKinds := [.data, .data, .data, .data, .sentinel, .sentinel, .pinned], laidTests := true, laidLooks := .later }
def FnExactReadMatrixCardSaid : Prop := Claim7.holds Tryz.pinned (.plain (OpenSpec.ofChange fnExactReadMatrixSpec)) fnExactReadMatrixCard

/-- THE SECOND FORM's CARD OF 'laws.FnExactReadPattern'. -/
def fnExactReadPatternUptoCard : Claim7 := { stood := { row := fnExactReadPatternUptoRow, standIns := [], harness := (true, "c90e51202ca41e6b96a5bfd96a20f56c75bca07d51793c9093b54b6bd8911fd6"), looks := true }, kinds := [], alts := [], laidByText := true, laidKinds := [.data, .data, .data, .data, .sentinel, .sentinel, .pinned], laidTests := true, laidLooks := .later }
def FnExactReadPatternUptoCardSaid : Prop := Claim7.holds Tryz.pinned (.plain (OpenSpec.upto fnExactReadPatternSpec)) fnExactReadPatternUptoCard

/-- THE SECOND FORM's CARD OF 'laws.FnExactCertificateText'. -/
def fnExactCertificateTextUptoCard : Claim7 := { stood := { row := fnExactCertificateTextUptoRow, standIns := [], harness := (true, "c90e51202ca41e6b96a5bfd96a20f56c75bca07d51793c9093b54b6bd8911fd6"), looks := true }, kinds := [], alts := [], laidByText := true, laidKinds := [.data, .data, .data], laidTests := true, laidLooks := .later }
def FnExactCertificateTextUptoCardSaid : Prop := Claim7.holds Tryz.pinned (.plain (OpenSpec.upto fnExactCertificateTextSpec)) fnExactCertificateTextUptoCard

/-- THE SECOND FORM's CARD OF 'laws.FnExactReadCertificate'. -/
def fnExactReadCertificateUptoCard : Claim7 := { stood := { row := fnExactReadCertificateUptoRow, standIns := [], harness := (true, "c90e51202ca41e6b96a5bfd96a20f56c75bca07d51793c9093b54b6bd8911fd6"), looks := true }, kinds := [], alts := [], laidByText := true, laidKinds := [.data, .data, .data, .data, .sentinel, .sentinel, .pinned], laidTests := true, laidLooks := .later }
def FnExactReadCertificateUptoCardSaid : Prop := Claim7.holds Tryz.pinned (.plain (OpenSpec.upto fnExactReadCertificateSpec)) fnExactReadCertificateUptoCard

/-- THE SECOND FORM's CARD OF 'laws.FnExactReadMatrix'. -/
def fnExactReadMatrixUptoCard : Claim7 := { stood := { row := fnExactReadMatrixUptoRow, standIns := [], harness := (true, "c90e51202ca41e6b96a5bfd96a20f56c75bca07d51793c9093b54b6bd8911fd6"), looks := true }, kinds := [], alts := [], laidByText := true, laidKinds := [.data, .data, .data, .data, .sentinel, .sentinel, .pinned], laidTests := true, laidLooks := .later }
def FnExactReadMatrixUptoCardSaid : Prop := Claim7.holds Tryz.pinned (.plain (OpenSpec.upto fnExactReadMatrixSpec)) fnExactReadMatrixUptoCard
end Rows
end Go.Proofs.YtlglgcmpeabdnaaGreatDoor
