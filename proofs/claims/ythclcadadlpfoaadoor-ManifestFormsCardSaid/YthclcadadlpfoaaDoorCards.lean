/-
  DERIVED. GIVEN WITH THE SEED: THE CARDS: each row of YthclcadadlpfoaaDoorRows.lean that lists a variable, with what it lists TIED to the program's text (the seventh form; the later family's looks); each row that meets fmt, with fmt's text TOLD by the authors' own Lean function (tested against real Go, not proved from fmt's source: count such statements apart). THE CARD IS WHAT COUNTS. Prove the row's statement (the work); the ties are given (YthclcadadlpfoaaDoorTie.lean); close each card by the builder's one call (the guide's Derived/Test/ToyasCard.lean, 'card_holds'). Laid BY PROGRAM, IN A SANDBOX (cutbox-door.mjs). By AI agents, Wed Nov 11 2026. No macro, syntax, notation, axiom, sorry.
-/
import Derived.Test.YthclcadadlpfoaaDoorRows
import GoSem.ClaimSeven
namespace Go.Proofs.YthclcadadlpfoaaDoor
namespace Rows

/-- THE TIED CARD OF 'loggialaw16.ManifestForms'. -/
def manifestFormsCard : Claim7 := { stood := { row := manifestFormsRow, standIns := [], harness := (true, "43aeda2ad14b496b7f01a99148fe50bfe2f36ccef1233fb5bfe3fff6e421c0b5"), looks := false }, kinds := [], alts := [], laidByText := true, laidKinds := [.data, .data, .data], laidTests := true, laidLooks := .later }
def ManifestFormsCardSaid : Prop := Claim7.holds Tryd.pinned (.plain (OpenSpec.ofChange manifestFormsSpec)) manifestFormsCard

/-- THE SECOND FORM's CARD OF 'loggialaw16.ManifestForms'. -/
def manifestFormsUptoCard : Claim7 := { stood := { row := manifestFormsUptoRow, standIns := [], harness := (true, "43aeda2ad14b496b7f01a99148fe50bfe2f36ccef1233fb5bfe3fff6e421c0b5"), looks := false }, kinds := [], alts := [], laidByText := true, laidKinds := [.data, .data, .data], laidTests := true, laidLooks := .later }
def ManifestFormsUptoCardSaid : Prop := Claim7.holds Tryd.pinned (.plain (OpenSpec.upto manifestFormsSpec)) manifestFormsUptoCard
end Rows
end Go.Proofs.YthclcadadlpfoaaDoor
