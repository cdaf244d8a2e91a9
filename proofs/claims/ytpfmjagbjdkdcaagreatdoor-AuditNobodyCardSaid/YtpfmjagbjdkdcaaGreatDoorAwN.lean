/- AuditNobody, run by the kernel. -/
import Derived.Test.YtpfmjagbjdkdcaaGreatDoorAwA
set_option linter.unusedSimpArgs false
set_option linter.unusedVariables false
namespace Go.Proofs.YtpfmjagbjdkdcaaGreatDoor.Am
open Go.Proofs.YtpfmjagbjdkdcaaGreatDoor Go.RowKit

set_option maxRecDepth 1000000 in
theorem nob_run0 : ∀ t fz n c, callK Tryz.prog (1 + 1) orcI (runK Tryz.prog (1 + 1) orcI 5000) 4 [.slice none n c] ⟨hSyn t fz, 1 + 3⟩ bK = true := fun t fz n c => by kernel_rfl
set_option maxRecDepth 1000000 in
theorem nob_run1 : ∀ t fz n c, callK Tryz.prog (1 + 1) orcI (runK Tryz.prog (1 + 1) orcI 5000) 4 [.slice (some ⟨1 + 2, 0, none⟩) n c] ⟨hSyn t fz, 1 + 3⟩ bK = true := fun t fz n c => by kernel_rfl
theorem auditNobody_any (A : Option Addr) (n c : Nat) (w : World) (hA : ∀ a, A = some a → a.spot = none) (h : Syn w) : Calls Tryz.prog 4 #[.slice A n c] w fun e w' => e = .returned (.bool true) ∧ Ext w w' := by
  have hlt := h.lt
  obtain ⟨t, fz, b, o, hc⟩ := h
  cases A with
  | none => exact callsIn_wide.1 (startA_ok (args' := [.slice none n c]) (by kernel_rfl) hlt orcI_ok noNum (wrSyn none hc) (Nat.le_refl _) (.cons (.nils _ _) (LR.nil _)) (nob_run0 t fz n c))
  | some a =>
    have hs := hA a rfl
    obtain ⟨p, q, s⟩ := a
    obtain rfl : s = none := hs
    exact callsIn_wide.1 (startA_ok (args' := [.slice (some ⟨p, q, none⟩) n c]) (by kernel_rfl) hlt orcI_ok noNum (wrSyn (some ⟨p, q, none⟩) hc) (Nat.le_refl _) (.cons (.sl ⟨⟨p, q, none⟩, by simp [fSyn], by simp⟩ rfl) (LR.nil _)) (nob_run1 t fz n c))
end Go.Proofs.YtpfmjagbjdkdcaaGreatDoor.Am
