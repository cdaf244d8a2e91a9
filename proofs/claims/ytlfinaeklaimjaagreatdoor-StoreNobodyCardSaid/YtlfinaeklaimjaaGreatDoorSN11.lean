/- Texts of one proof, joined. -/
import Derived.Test.YtlfinaeklaimjaaGreatDoorSN10
set_option linter.unusedSimpArgs false
set_option linter.unusedVariables false
namespace Go.Proofs.YtlfinaeklaimjaaGreatDoor
noncomputable section
end
end Go.Proofs.YtlfinaeklaimjaaGreatDoor
namespace Go.Proofs.YtlfinaeklaimjaaGreatDoor.Am
noncomputable section
open Go.Proofs.YtlfinaeklaimjaaGreatDoor Go.RowKit
def encB : List Value := [76, 83, 69, 71, 14, 61, 178, 134, 45, 1, 1, 11, 0, 10, 1, 3, 109, 115, 103, 3, 120, 32, 121, 1, 184, 23, 202, 160, 10, 12, 158, 3, 117, 23, 1, 0, 3, 0, 1, 0, 1, 0, 3, 0, 1, 1, 18, 38, 122, 105, 139, 2, 16, 0, 5, 109, 115, 103, 58, 120, 0, 6, 1, 4, 1, 121, 6, 6, 1, 8, 4, 14, 164, 57, 0, 2, 64, 0, 8, 0, 1, 16, 5, 27, 190, 31, 21, 10, 10, 2, 2, 2].map fun n => .int .u8 (.ofNat n)
def docO (k2 : Nat) : AObj := .cells [.int .i64 1, .int .i64 5, .slice (some ⟨k2, 0, some 0⟩) 1 1] 88 (0, 0) 3
def fldO : AObj := .cells [sv [109, 115, 103], sv [120, 32, 121]] 81 (0, 0) 2
def resO : AObj := .cells encB 5 (0, 0) 1
abbrev G0 : Nat := 1 + 1
def chkE (v : Value) (A' : AS) : Bool :=
  veq 60 v (.tuple #[.slice (some ⟨G0 + 2 + 999, 0, some 0⟩) 92 92, .int .i64 0]) && isO (A'.h.get G0) (docO (G0 + 1)) && isO (A'.h.get (G0 + 1)) fldO && isO (A'.h.get (G0 + 2 + 999)) resO
def h0E : HT AObj := HT.set 64 (HT.set 64 .nil G0 (some (docO (G0 + 1)))) (G0 + 1) (some fldO)
set_option maxRecDepth 1000000 in
theorem enc_run : callK Tryz.prog G0 orcS (runR Tryz.prog G0 orcS 3000) 145 [.slice (some ⟨G0, 0, some 0⟩) 1 1] ⟨h0E, G0 + 2⟩ chkE = true := by kernel_rfl
end
end Go.Proofs.YtlfinaeklaimjaaGreatDoor.Am
namespace Go.Proofs.YtlfinaeklaimjaaGreatDoor
noncomputable section
end
end Go.Proofs.YtlfinaeklaimjaaGreatDoor
