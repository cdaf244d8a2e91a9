/-
  DERIVED. GIVEN WITH THE SEED: THE CARDS: each row of YtaoolpnnomhnoaaGreatDoorRows.lean that lists a variable, with what it lists TIED to the program's text (the seventh form; the later family's looks); each row that meets fmt, with fmt's text TOLD by the authors' own Lean function (tested against real Go, not proved from fmt's source: count such statements apart). THE CARD IS WHAT COUNTS. Prove the row's statement (the work); the ties are given (YtaoolpnnomhnoaaGreatDoorTie.lean); close each card by the builder's one call (the guide's Derived/Test/ToyasCard.lean, 'card_holds'). Laid BY PROGRAM, IN A SANDBOX (cutbox-door.mjs). By AI agents, Wed Nov 11 2026. No macro, syntax, notation, axiom, sorry.
-/
import Derived.Test.YtaoolpnnomhnoaaGreatDoorRows
import GoSem.ClaimSeven
namespace Go.Proofs.YtaoolpnnomhnoaaGreatDoor
namespace Rows

/-- THE TIED CARD OF 'loggialaw16.ManifestWhole'. -/
def manifestWholeCard : Claim7 := { stood := { row := manifestWholeRow, standIns := [], harness := (true, "8306e7e87f6544a2a50579b1d5888a9ddb48416cf28d01608c2ebb725773cb75"), looks := false }, kinds := [], alts := [], laidByText := true, laidKinds := [.data, .data, .data], laidTests := true, laidLooks := .later }
def ManifestWholeCardSaid : Prop := Claim7.holds Tryz.pinned (.plain (OpenSpec.ofChange manifestWholeSpec)) manifestWholeCard

/-- THE TIED CARD OF 'loggialaw16.ManifestSaves'. -/
def manifestSavesCard : Claim7 := { stood := { row := manifestSavesRow, standIns := [], harness := (true, "8306e7e87f6544a2a50579b1d5888a9ddb48416cf28d01608c2ebb725773cb75"), looks := false }, kinds := [], alts := [], laidByText := true, laidKinds := [.data, .data, .data], laidTests := true, laidLooks := .later }
def ManifestSavesCardSaid : Prop := Claim7.holds Tryz.pinned (.plain (OpenSpec.ofChange manifestSavesSpec)) manifestSavesCard

/-- THE SECOND FORM's CARD OF 'loggialaw16.ManifestWhole'. -/
def manifestWholeUptoCard : Claim7 := { stood := { row := manifestWholeUptoRow, standIns := [], harness := (true, "8306e7e87f6544a2a50579b1d5888a9ddb48416cf28d01608c2ebb725773cb75"), looks := false }, kinds := [], alts := [], laidByText := true, laidKinds := [.data, .data, .data], laidTests := true, laidLooks := .later }
def ManifestWholeUptoCardSaid : Prop := Claim7.holds Tryz.pinned (.plain (OpenSpec.upto manifestWholeSpec)) manifestWholeUptoCard

/-- THE SECOND FORM's CARD OF 'loggialaw16.ManifestSaves'. -/
def manifestSavesUptoCard : Claim7 := { stood := { row := manifestSavesUptoRow, standIns := [], harness := (true, "8306e7e87f6544a2a50579b1d5888a9ddb48416cf28d01608c2ebb725773cb75"), looks := false }, kinds := [], alts := [], laidByText := true, laidKinds := [.data, .data, .data], laidTests := true, laidLooks := .later }
def ManifestSavesUptoCardSaid : Prop := Claim7.holds Tryz.pinned (.plain (OpenSpec.upto manifestSavesSpec)) manifestSavesUptoCard
end Rows
end Go.Proofs.YtaoolpnnomhnoaaGreatDoor
