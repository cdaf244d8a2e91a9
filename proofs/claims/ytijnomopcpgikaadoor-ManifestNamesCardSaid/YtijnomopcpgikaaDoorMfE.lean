/- loggiaref16: Check; the new ones; few. -/
import Derived.Test.YtijnomopcpgikaaDoorMfD
namespace Go.Proofs.YtijnomopcpgikaaDoor
open Go.RowKit

set_option maxRecDepth 100000 in
set_option maxHeartbeats 2000000 in
theorem rcheck_any (base : Nat) (m : Mf) (A : Option Addr) (c : Nat) (w : World) (h : m.Ok w base A c) : Calls Tryd.prog 27 #[m.val A c] w fun e w' => e = .returned (.int .i64 (checkP m)) ∧ Ext w w' := by
  have hmost := h.parts.most
  have his : ∀ W, Ext w W → Calls Tryd.prog 53 #[m.val A c] W fun e w' => e = .returned (.bool (isP m)) ∧ Ext W w' := fun W hE => is_any base m A c W (h.ext hE)
  unfold Mf.val at his ⊢
  by_cases h5 : 512 < m.ps.length
  · have hc : checkP m = 3 := by unfold checkP; rw [if_pos h5]
    rw [hc]
    clear hc his
    go_enter Tryd.func27, Tryd.ntmps27
    go_wp2_with fail
    go_ret
    exact ⟨rfl, (Ext.refl w).alloc _⟩
  · cases hi : isP m with
    | true =>
      have hc : checkP m = 0 := by unfold checkP; rw [if_neg h5, hi]; rfl
      rw [hc]
      rw [hi] at his
      replace his := hide his
      clear hc
      go_enter Tryd.func27, Tryd.ntmps27
      go_wp2_with fail
      refine (his.out _ ((Ext.refl w).alloc _)).mono ?_
      rintro e w1 ⟨rfl, hE1⟩
      go_wp2_with fail
      go_ret
      exact ⟨rfl, ((Ext.refl w).alloc _).trans hE1⟩
    | false =>
      have hc : checkP m = 160 := by unfold checkP; rw [if_neg h5, hi]; rfl
      rw [hc]
      rw [hi] at his
      replace his := hide his
      clear hc
      go_enter Tryd.func27, Tryd.ntmps27
      go_wp2_with fail
      refine (his.out _ ((Ext.refl w).alloc _)).mono ?_
      rintro e w1 ⟨rfl, hE1⟩
      go_wp2_with fail
      go_ret
      exact ⟨rfl, ((Ext.refl w).alloc _).trans hE1⟩
def newM : Mf := ⟨[], -9223372036854775808, 0, 1, 1, -9223372036854775808⟩
theorem newM_ok (w : World) (base : Nat) : newM.Ok w base none 0 :=
  ⟨⟨rfl, .inl rfl, nofun, Nat.le_refl _, by show 0 ≤ _; omega, nofun⟩, by unfold I64ok; decide, by unfold I64ok; decide, by unfold I64ok; decide, by unfold I64ok; decide, by unfold I64ok; decide⟩
set_option maxRecDepth 100000 in
theorem new_any (w : World) : Calls Tryd.prog 37 #[] w fun e w' => e = .returned (newM.val none 0) ∧ Ext w w' := by
  unfold Mf.val newM
  go_enter Tryd.func37, Tryd.ntmps37
  go_wp2_with fail
  exact bodyPost_ret (by simp [results, Tryd.results37, go_sem]) rfl ⟨rfl, (Ext.refl w).alloc _⟩
end Go.Proofs.YtijnomopcpgikaaDoor
