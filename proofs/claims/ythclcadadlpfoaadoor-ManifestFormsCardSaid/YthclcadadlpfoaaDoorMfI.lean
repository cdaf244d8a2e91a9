/- loggia/manifest: Same. -/
import Derived.Test.YthclcadadlpfoaaDoorMfH
namespace Go.Proofs.YthclcadadlpfoaaDoor
open Go.RowKit

def sameP (a b : Mf) : Bool := decide (a.floor = b.floor) && decide (a.done = b.done) && decide (a.log = b.log) && decide (a.next = b.next) && decide (a.now = b.now) && decide (a.ps = b.ps)
set_option maxRecDepth 100000 in
set_option maxHeartbeats 4000000 in
theorem same_any (base base2 : Nat) (a b : Mf) (A B : Option Addr) (c c2 : Nat) (w : World) (ha : a.Ok w base A c) (hb : b.Ok w base2 B c2) :
    Calls Tryd.prog 7 #[a.val A c, b.val B c2] w fun e w' => e = .returned (.bool (sameP a b)) ∧ Ext w w' := by
  have heq : ∀ W, Ext w W → Calls Tryd.prog 15 #[.slice A a.ps.length c, .slice B b.ps.length c2] W fun e w' => e = .returned (.bool (decide (a.ps = b.ps))) ∧ Ext W w' := fun W hE => equal_any base base2 A B c c2 a.ps b.ps W (ha.parts.ext hE) (hb.parts.ext hE)
  clear ha hb
  unfold Mf.val
  by_cases hfloor : a.floor = b.floor
  · by_cases hdone : a.done = b.done
    · by_cases hlog : a.log = b.log
      · by_cases hnext : a.next = b.next
        · by_cases hnow : a.now = b.now
          · have hd : sameP a b = decide (a.ps = b.ps) := by unfold sameP; simp [hfloor, hdone, hlog, hnext, hnow]
            rw [hd]
            clear hd
            obtain ⟨r, hr⟩ : ∃ r, r = decide (a.ps = b.ps) := ⟨_, rfl⟩
            rw [← hr] at heq ⊢
            clear hr
            replace heq := hide heq
            go_enter Tryd.func7, Tryd.ntmps7
            go_wp2_with fail
            refine (heq.out _ (((Ext.refl w).alloc _).alloc _)).mono ?_
            rintro e w1 ⟨rfl, hE1⟩
            go_wp2_with fail
            go_ret
            exact ⟨rfl, (((Ext.refl w).alloc _).alloc _).trans hE1⟩
          · have hd : sameP a b = false := by unfold sameP; rw [decide_eq_false (show ¬ a.now = b.now from hnow)]; simp
            rw [hd]
            clear hd heq
            go_enter Tryd.func7, Tryd.ntmps7
            go_wp2_with fail
            go_ret
            exact ⟨ret_bool (by first | rfl | simp_all), ((Ext.refl w).alloc _).alloc _⟩
        · have hd : sameP a b = false := by unfold sameP; rw [decide_eq_false (show ¬ a.next = b.next from hnext)]; simp
          rw [hd]
          clear hd heq
          go_enter Tryd.func7, Tryd.ntmps7
          go_wp2_with fail
          go_ret
          exact ⟨ret_bool (by first | rfl | simp_all), ((Ext.refl w).alloc _).alloc _⟩
      · have hd : sameP a b = false := by unfold sameP; rw [decide_eq_false (show ¬ a.log = b.log from hlog)]; simp
        rw [hd]
        clear hd heq
        go_enter Tryd.func7, Tryd.ntmps7
        go_wp2_with fail
        go_ret
        exact ⟨ret_bool (by first | rfl | simp_all), ((Ext.refl w).alloc _).alloc _⟩
    · have hd : sameP a b = false := by unfold sameP; rw [decide_eq_false (show ¬ a.done = b.done from hdone)]; simp
      rw [hd]
      clear hd heq
      go_enter Tryd.func7, Tryd.ntmps7
      go_wp2_with fail
      go_ret
      exact ⟨ret_bool (by first | rfl | simp_all), ((Ext.refl w).alloc _).alloc _⟩
  · have hd : sameP a b = false := by unfold sameP; rw [decide_eq_false (show ¬ a.floor = b.floor from hfloor)]; simp
    rw [hd]
    clear hd heq
    go_enter Tryd.func7, Tryd.ntmps7
    go_wp2_with fail
    go_ret
    exact ⟨ret_bool (by first | rfl | simp_all), ((Ext.refl w).alloc _).alloc _⟩
end Go.Proofs.YthclcadadlpfoaaDoor
