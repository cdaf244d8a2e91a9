/- Texts of one proof, joined. -/
import Derived.Test.YtlfinaeklaimjaaGreatDoorSN12
set_option linter.unusedSimpArgs false
set_option linter.unusedVariables false
namespace Go.Proofs.YtlfinaeklaimjaaGreatDoor
noncomputable section
end
end Go.Proofs.YtlfinaeklaimjaaGreatDoor
namespace Go.Proofs.YtlfinaeklaimjaaGreatDoor.Am
noncomputable section
open Go.Proofs.YtlfinaeklaimjaaGreatDoor Go.RowKit
set_option maxRecDepth 1000000 in
theorem awake23_run : ∀ t fz, callK Tryz.prog G0 orcE (runR Tryz.prog G0 orcE 5000) 22 [] ⟨hSyn t fz, 1 + 3⟩ bK = true := fun t fz => by kernel_rfl
theorem awake23_any (w : World) (h : Syn w) : Calls Tryz.prog 22 #[] w fun e w' => e = .returned (.bool true) ∧ Ext w w' := by
  have hlt := h.lt
  obtain ⟨t, fz, b, o, hc⟩ := h
  exact callsIn_wide.1 (startR_ok (by kernel_rfl) hlt (orcE_ok hlt) noNum (wrSyn none hc) (Nat.le_refl _) (LR.nil _) (awake23_run t fz))
end
end Go.Proofs.YtlfinaeklaimjaaGreatDoor.Am
namespace Go.Proofs.YtlfinaeklaimjaaGreatDoor
noncomputable section
end
end Go.Proofs.YtlfinaeklaimjaaGreatDoor
