/-
  DERIVED. GIVEN WITH THE SEED: THE CARDS: each row of YtpajpdkliohepaaDoorRows.lean that lists a variable, with what it lists TIED to the program's text (the seventh form; the later family's looks); each row that meets fmt, with fmt's text TOLD by the authors' own Lean function (tested against real Go, not proved from fmt's source: count such statements apart). THE CARD IS WHAT COUNTS. Prove the row's statement (the work); the ties are given (YtpajpdkliohepaaDoorTie.lean); close each card by the builder's one call (the guide's Derived/Test/ToyasCard.lean, 'card_holds'). Laid BY PROGRAM, IN A SANDBOX (cutbox-door.mjs). By AI agents, Wed Nov 11 2026. No macro, syntax, notation, axiom, sorry.
-/
import Derived.Test.YtpajpdkliohepaaDoorRows
import GoSem.ClaimSeven
namespace Go.Proofs.YtpajpdkliohepaaDoor
namespace Rows

/-- THE TIED CARD OF 'loggialaw31.LinesEvents'. -/
def linesEventsCard : Claim7 := { stood := { row := linesEventsRow, standIns := [], harness := (true, "2fddeab718ae6d20c7d194e4fc1df4afa1137cd3a4cfafa2842f723dad9a6c0f"), looks := true }, kinds := [], alts := [], laidByText := true, laidKinds := [.data, .data, .data, .sentinel, .sentinel], laidTests := true, laidLooks := .later }
def LinesEventsCardSaid : Prop := Claim7.holds Tryd.pinned (.plain (OpenSpec.ofChange linesEventsSpec)) linesEventsCard

/-- THE TIED CARD OF 'loggialaw31.LinesQuote'. -/
def linesQuoteCard : Claim7 := { stood := { row := linesQuoteRow, standIns := [], harness := (true, "2fddeab718ae6d20c7d194e4fc1df4afa1137cd3a4cfafa2842f723dad9a6c0f"), looks := true }, kinds := [], alts := [], laidByText := true, laidKinds := [.data, .data, .data, .sentinel, .sentinel], laidTests := true, laidLooks := .later }
def LinesQuoteCardSaid : Prop := Claim7.holds Tryd.pinned (.plain (OpenSpec.ofChange linesQuoteSpec)) linesQuoteCard

/-- THE TIED CARD OF 'loggialaw31.LinesTexts'. -/
def linesTextsCard : Claim7 := { stood := { row := linesTextsRow, standIns := [], harness := (true, "2fddeab718ae6d20c7d194e4fc1df4afa1137cd3a4cfafa2842f723dad9a6c0f"), looks := true }, kinds := [], alts := [], laidByText := true, laidKinds := [.data, .data, .data, .data, .sentinel, .sentinel, .pinned], laidTests := true, laidLooks := .later }
def LinesTextsCardSaid : Prop := Claim7.holds Tryd.pinned (.plain (OpenSpec.ofChange linesTextsSpec)) linesTextsCard

/-- THE TIED CARD OF 'loggialaw31.LinesBack'. -/
def linesBackCard : Claim7 := { stood := { row := linesBackRow, standIns := [], harness := (true, "2fddeab718ae6d20c7d194e4fc1df4afa1137cd3a4cfafa2842f723dad9a6c0f"), looks := true }, kinds := [], alts := [], laidByText := true, laidKinds := [.data, .data, .data, .data, .sentinel, .sentinel, .pinned], laidTests := true, laidLooks := .later }
def LinesBackCardSaid : Prop := Claim7.holds Tryd.pinned (.plain (OpenSpec.ofChange linesBackSpec)) linesBackCard

/-- THE SECOND FORM's CARD OF 'loggialaw31.LinesEvents'. -/
def linesEventsUptoCard : Claim7 := { stood := { row := linesEventsUptoRow, standIns := [], harness := (true, "2fddeab718ae6d20c7d194e4fc1df4afa1137cd3a4cfafa2842f723dad9a6c0f"), looks := true }, kinds := [], alts := [], laidByText := true, laidKinds := [.data, .data, .data, .sentinel, .sentinel], laidTests := true, laidLooks := .later }
def LinesEventsUptoCardSaid : Prop := Claim7.holds Tryd.pinned (.plain (OpenSpec.upto linesEventsSpec)) linesEventsUptoCard

/-- THE SECOND FORM's CARD OF 'loggialaw31.LinesQuote'. -/
def linesQuoteUptoCard : Claim7 := { stood := { row := linesQuoteUptoRow, standIns := [], harness := (true, "2fddeab718ae6d20c7d194e4fc1df4afa1137cd3a4cfafa2842f723dad9a6c0f"), looks := true }, kinds := [], alts := [], laidByText := true, laidKinds := [.data, .data, .data, .sentinel, .sentinel], laidTests := true, laidLooks := .later }
def LinesQuoteUptoCardSaid : Prop := Claim7.holds Tryd.pinned (.plain (OpenSpec.upto linesQuoteSpec)) linesQuoteUptoCard

/-- THE SECOND FORM's CARD OF 'loggialaw31.LinesTexts'. -/
def linesTextsUptoCard : Claim7 := { stood := { row := linesTextsUptoRow, standIns := [], harness := (true, "2fddeab718ae6d20c7d194e4fc1df4afa1137cd3a4cfafa2842f723dad9a6c0f"), looks := true }, kinds := [], alts := [], laidByText := true, laidKinds := [.data, .data, .data, .data, .sentinel, .sentinel, .pinned], laidTests := true, laidLooks := .later }
def LinesTextsUptoCardSaid : Prop := Claim7.holds Tryd.pinned (.plain (OpenSpec.upto linesTextsSpec)) linesTextsUptoCard

/-- THE SECOND FORM's CARD OF 'loggialaw31.LinesBack'. -/
def linesBackUptoCard : Claim7 := { stood := { row := linesBackUptoRow, standIns := [], harness := (true, "2fddeab718ae6d20c7d194e4fc1df4afa1137cd3a4cfafa2842f723dad9a6c0f"), looks := true }, kinds := [], alts := [], laidByText := true, laidKinds := [.data, .data, .data, .data, .sentinel, .sentinel, .pinned], laidTests := true, laidLooks := .later }
def LinesBackUptoCardSaid : Prop := Claim7.holds Tryd.pinned (.plain (OpenSpec.upto linesBackSpec)) linesBackUptoCard
end Rows
end Go.Proofs.YtpajpdkliohepaaDoor
