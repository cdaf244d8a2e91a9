/-
  DERIVED. GIVEN WITH THE SEED: THE CARDS: each row of YtpfmjagbjdkdcaaGreatDoorRows.lean that lists a variable, with what it lists TIED to the program's text (the seventh form; the later family's looks); each row that meets fmt, with fmt's text TOLD by the authors' own Lean function (tested against real Go, not proved from fmt's source: count such statements apart). THE CARD IS WHAT COUNTS. Prove the row's statement (the work); the ties are given (YtpfmjagbjdkdcaaGreatDoorTie.lean); close each card by the builder's one call (the guide's Derived/Test/ToyasCard.lean, 'card_holds'). Laid BY PROGRAM, IN A SANDBOX (cutbox-door.mjs). By AI agents, Wed Nov 11 2026. No macro, syntax, notation, axiom, sorry.
-/
import Derived.Test.YtpfmjagbjdkdcaaGreatDoorRows
import GoSem.ClaimSeven
namespace Go.Proofs.YtpfmjagbjdkdcaaGreatDoor
namespace Rows

/-- THE TIED CARD OF 'loggialaw29.AuditKinds'. -/
def auditKindsCard : Claim7 := { stood := { row := auditKindsRow, standIns := [], harness := (true, "3f9c722b613980fdeee0819f72990f08c2c896580171bccfd7ea070f5b8a8be8"), looks := true }, kinds := [], alts := [], laidByText := true, laidKinds := [.data, .data, .data, .sentinel, .sentinel], laidTests := true, laidLooks := .later }
def AuditKindsCardSaid : Prop := Claim7.holds Tryz.pinned (.plain (OpenSpec.ofChange auditKindsSpec)) auditKindsCard

/-- THE TIED CARD OF 'loggialaw29.AuditNobody'. -/
def auditNobodyCard : Claim7 := { stood := { row := auditNobodyRow, standIns := [], harness := (true, "3f9c722b613980fdeee0819f72990f08c2c896580171bccfd7ea070f5b8a8be8"), looks := true }, kinds := [], alts := [], laidByText := true, laidKinds := [.data, .data, .data, .sentinel, .sentinel], laidTests := true, laidLooks := .later }
def AuditNobodyCardSaid : Prop := Claim7.holds Tryz.pinned (.plain (OpenSpec.ofChange auditNobodySpec)) auditNobodyCard

/-- THE SECOND FORM's CARD OF 'loggialaw29.AuditKinds'. -/
def auditKindsUptoCard : Claim7 := { stood := { row := auditKindsUptoRow, standIns := [], harness := (true, "3f9c722b613980fdeee0819f72990f08c2c896580171bccfd7ea070f5b8a8be8"), looks := true }, kinds := [], alts := [], laidByText := true, laidKinds := [.data, .data, .data, .sentinel, .sentinel], laidTests := true, laidLooks := .later }
def AuditKindsUptoCardSaid : Prop := Claim7.holds Tryz.pinned (.plain (OpenSpec.upto auditKindsSpec)) auditKindsUptoCard

/-- THE SECOND FORM's CARD OF 'loggialaw29.AuditNobody'. -/
def auditNobodyUptoCard : Claim7 := { stood := { row := auditNobodyUptoRow, standIns := [], harness := (true, "3f9c722b613980fdeee0819f72990f08c2c896580171bccfd7ea070f5b8a8be8"), looks := true }, kinds := [], alts := [], laidByText := true, laidKinds := [.data, .data, .data, .sentinel, .sentinel], laidTests := true, laidLooks := .later }
def AuditNobodyUptoCardSaid : Prop := Claim7.holds Tryz.pinned (.plain (OpenSpec.upto auditNobodySpec)) auditNobodyUptoCard
end Rows
end Go.Proofs.YtpfmjagbjdkdcaaGreatDoor
