/- Texts of one proof, joined. -/
import Derived.Test.YtlfinaeklaimjaaGreatDoorRows
import Derived.Test.YtlfinaeklaimjaaGreatDoorCards
import Derived.Test.YtlfinaeklaimjaaGreatDoorTie
import Derived.WalkKit
import Derived.ProofKit
set_option linter.unusedSimpArgs false
set_option linter.unusedVariables false
namespace Go.Proofs.YtlfinaeklaimjaaGreatDoor
noncomputable section
section
theorem kf1 : (mapsRowed Tryz.pinned.checked.prog) = true := by kernel_rfl
theorem kf4 : (Rows.storeNobodyRow.inPlace == Tryz.pinned.checked.prog.inPlace 3) = true := by kernel_rfl
theorem kf5 : (Rows.storeNobodyRow.unfollowed == Tryz.pinned.checked.prog.unfollowed 3) = true := by kernel_rfl
theorem kf6 : (Rows.storeNobodyRow.recurses == Tryz.pinned.checked.prog.recurses 3) = true := by kernel_rfl
theorem kf7 : (Rows.storeNobodyRow.named == Tryz.pinned.checked.prog.varsNamed 3) = true := by kernel_rfl
theorem kf8 : Rows.storeNobodyRow.wfByText (OpenSpec.ofChange Rows.storeNobodySpec) = true := by kernel_rfl
theorem kf9 : true = Tryz.pinned.checked.prog.looks [] := by kernel_rfl
theorem kfA : Tryz.prog.funcNamed "loggia/loggialaw23.StoreNobody" = some 3 := by kernel_rfl
theorem kfB : false = Rows.storeNobodyRow.goesBy Tryz.pinned.checked.prog := by kernel_rfl
theorem kfC : Tryz.pinned.checked.prog.mainIs = some (true, ("727b73197f97c8ee8b8c41a8299c2fd2852a06d92eae794e5a1334529afc7e2a" : String).toList) := by kernel_rfl
end
end
end Go.Proofs.YtlfinaeklaimjaaGreatDoor
