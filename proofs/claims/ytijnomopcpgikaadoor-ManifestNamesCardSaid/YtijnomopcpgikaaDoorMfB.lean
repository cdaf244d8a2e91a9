/- loggia/manifest, loggiaref16: which numbers and partitions may be. -/
import Derived.Test.YtijnomopcpgikaaDoorMfA
import Derived.WalkKit
namespace Go.Proofs.YtijnomopcpgikaaDoor
open Go.RowKit

def numP (n : Int) : Bool := decide (1 ≤ n) && decide (n ≤ 99999999)
def partP (p : Pt) : Bool := numP p.id && (decide (p.st = 2) || decide (p.st = 3)) && decide (p.lo ≤ p.hi) && decide (1 ≤ p.fi) && decide (p.fi ≤ p.la) && decide (p.la ≤ 1099511627776) && decide (p.n = p.la - p.fi + 1)
def Pt.val (p : Pt) : Value := .agg #[.int .i64 p.id, .int .i64 p.st, .int .i64 p.lo, .int .i64 p.hi, .int .i64 p.fi, .int .i64 p.la, .int .i64 p.n]
set_option maxRecDepth 100000 in
theorem numbered_any (n : Int) (w : World) : Calls Tryd.prog 40 #[.int .i64 n] w fun e w' => e = .returned (.bool (numP n)) ∧ w' = w := by
  go_enter Tryd.func40, Tryd.ntmps40
  go_wp2_with fail
  all_goals go_ret
  all_goals exact ⟨ret_bool (by rw [Bool.eq_iff_iff]; simp [numP] <;> omega), rfl⟩
set_option maxRecDepth 100000 in
theorem eight_any (n : Int) (w : World) : Calls Tryd.prog 42 #[.int .i64 n] w fun e w' => e = .returned (.bool (numP n)) ∧ w' = w := by
  go_enter Tryd.func42, Tryd.ntmps42
  go_wp2_with fail
  all_goals go_ret
  all_goals exact ⟨ret_bool (by rw [Bool.eq_iff_iff]; simp [numP] <;> omega), rfl⟩
set_option maxRecDepth 100000 in
set_option maxHeartbeats 2000000 in
theorem part_any (p : Pt) (w : World) (h : p.Ok) : Calls Tryd.prog 49 #[p.val] w fun e w' => e = .returned (.bool (partP p)) ∧ Ext w w' := by
  have hnum : ∀ W, Calls Tryd.prog 40 #[.int .i64 p.id] W fun e w' => e = .returned (.bool (numP p.id)) ∧ w' = W := numbered_any p.id
  obtain ⟨b1, b2, b3, b4, b5, b6, b7⟩ := h
  unfold I64ok at b1 b2 b3 b4 b5 b6 b7
  unfold Pt.val
  replace hnum := hide hnum
  go_enter Tryd.func49, Tryd.ntmps49
  go_wp2_with (go_at_call 40; refine (hnum.out _).mono ?_; rintro e w1 ⟨rfl, rfl⟩)
  all_goals go_ret
  all_goals exact ⟨ret_bool (by clear b1 b2 b3 b4 b5 b6 b7 hnum; unfold partP; rw [Bool.eq_iff_iff]; simp_all <;> (intros; omega)), (Ext.refl w).alloc _⟩
set_option maxRecDepth 100000 in
set_option maxHeartbeats 2000000 in
theorem rpart_any (p : Pt) (w : World) (h : p.Ok) : Calls Tryd.prog 67 #[p.val] w fun e w' => e = .returned (.bool (partP p)) ∧ Ext w w' := by
  have hnum : ∀ W, Calls Tryd.prog 42 #[.int .i64 p.id] W fun e w' => e = .returned (.bool (numP p.id)) ∧ w' = W := eight_any p.id
  obtain ⟨b1, b2, b3, b4, b5, b6, b7⟩ := h
  unfold I64ok at b1 b2 b3 b4 b5 b6 b7
  unfold Pt.val
  replace hnum := hide hnum
  go_enter Tryd.func67, Tryd.ntmps67
  go_wp2_with (go_at_call 42; refine (hnum.out _).mono ?_; rintro e w1 ⟨rfl, rfl⟩)
  all_goals go_ret
  all_goals exact ⟨ret_bool (by clear b1 b2 b3 b4 b5 b6 b7 hnum; unfold partP; rw [Bool.eq_iff_iff]; simp_all <;> (intros; omega)), (Ext.refl w).alloc _⟩
end Go.Proofs.YtijnomopcpgikaaDoor
