/- loggialaw16: awake. -/
import Derived.Test.YtijnomopcpgikaaDoorMfK
namespace Go.Proofs.YtijnomopcpgikaaDoor
open Go.RowKit

theorem file7 : fileP 7 2 = [115, 101, 103, 45, 48, 48, 48, 48, 48, 48, 48, 55] := by
  have h : dig8 (7 : Int).toNat = [48, 48, 48, 48, 48, 48, 48, 55] := by
    show dig8 7 = _
    unfold dig8
    rw [Lib.decDigits_one (by omega)]
    rfl
  unfold fileP
  rw [h]
  rfl
theorem log12 : logP 12 = [108, 111, 103, 45, 48, 48, 48, 48, 48, 48, 49, 50] := by
  have h : dig8 (12 : Int).toNat = [48, 48, 48, 48, 48, 48, 49, 50] := by
    show dig8 12 = _
    unfold dig8
    rw [Lib.decDigits_two (by omega) (by omega)]
    rfl
  unfold logP
  rw [h]
  rfl
def nilM : Mf := ⟨[], 0, 0, 0, 0, 0⟩
theorem nilM_ok (w : World) (base : Nat) : nilM.Ok w base none 0 :=
  ⟨⟨rfl, .inl rfl, nofun, Nat.le_refl _, by show 0 ≤ _; omega, nofun⟩, by unfold I64ok; decide, by unfold I64ok; decide, by unfold I64ok; decide, by unfold I64ok; decide, by unfold I64ok; decide⟩
set_option maxRecDepth 100000 in
set_option maxHeartbeats 4000000 in
theorem awake_any (w : World) : Calls Tryd.prog 13 #[] w fun e w' => e = .returned (.bool true) ∧ Ext w w' := by
  have hnew := hide new_any
  have hfile : ∀ W, Calls Tryd.prog 17 #[.agg #[.int .i64 7, .int .i64 2, .int .i64 0, .int .i64 0, .int .i64 0, .int .i64 0, .int .i64 0]] W fun e w' => e = .returned (.string ⟨#[115, 101, 103, 45, 48, 48, 48, 48, 48, 48, 48, 55]⟩) ∧ Ext W w' := fun W => by
    have h := file_any ⟨7, 2, 0, 0, 0, 0, 0⟩ W (eights_small W 7 (by omega))
    rw [show fileP (Pt.id ⟨7, 2, 0, 0, 0, 0, 0⟩) (Pt.st ⟨7, 2, 0, 0, 0, 0, 0⟩) = _ from file7] at h
    exact h
  have hlog : ∀ W, Calls Tryd.prog 16 #[.int .i64 12] W fun e w' => e = .returned (.string ⟨#[108, 111, 103, 45, 48, 48, 48, 48, 48, 48, 49, 50]⟩) ∧ Ext W w' := fun W => by
    have h := log_any 12 W (eights_small W 12 (by omega))
    rw [log12] at h
    exact h
  have hck : ∀ W, Calls Tryd.prog 23 #[.agg #[.slice none 0 0, .int .i64 0, .int .i64 0, .int .i64 0, .int .i64 0, .int .i64 0]] W fun e w' => e = .returned (.int .i64 160) ∧ Ext W w' := fun W => check_any 0 nilM none 0 W (nilM_ok W 0)
  replace hfile := hide hfile
  replace hlog := hide hlog
  replace hck := hide hck
  unfold Mf.val newM at hnew
  go_enter Tryd.func13, Tryd.ntmps13
  go_wp2_with fail
  refine (hnew.out _).mono ?_
  rintro e w1 ⟨rfl, hE1⟩
  go_wp2_with fail
  refine (hfile.out _).mono ?_
  rintro e w2 ⟨rfl, hE2⟩
  go_wp2_with fail
  refine (hlog.out _).mono ?_
  rintro e w3 ⟨rfl, hE3⟩
  have hE := hide (((Ext.refl w1).alloc _).trans (hE2.trans hE3))
  have hr := (Row.new w1 24 #[.slice none 0 0, .int .i64 (-9223372036854775808), .int .i64 0, .int .i64 1, .int .i64 1, .int .i64 (-9223372036854775808)]).ext (hE2.trans hE3)
  have x1 := hr.cell 1 rfl
  have x3 := hr.cell 3 rfl
  have hEE := hide (hE1.trans hE.out)
  go_wp2_with fail
  refine (hck.out _).mono ?_
  rintro e w4 ⟨rfl, hE4⟩
  go_wp2_with fail
  go_ret
  exact ⟨rfl, hEE.out.trans hE4⟩
end Go.Proofs.YtijnomopcpgikaaDoor
