/- loggia/disk: call. -/
import Derived.Test.YticnncgbfpgeaaaDkC
namespace Go.Proofs.Yticnncgbfpgeaaa
open Go.RowKit Go.Maps

/-- A writing call is counted: how many are left, does it stop? -/
def callM (armed : Nat) : Nat × Bool := (armed - 1, armed == 1)
set_option maxRecDepth 100000 in
set_option maxHeartbeats 1000000 in
theorem call_any (d m quota armed : Nat) (w : World) (hD : DRow w d m quota armed false) (ha : armed ≤ 9223372036854775807) :
    Calls Try.prog 30 #[.pointer (some ⟨d, 0, none⟩)] w fun e w' => e = .returned (.int .i64 (if armed = 1 then 63 else 0)) ∧ DRow w' d m quota (armed - 1) (decide (armed = 1)) ∧ Chg (fun k => k = d) w w' ∧ w'.heap.size = w.heap.size := by
  have c2 : w.cell? ⟨d, 2, none⟩ = some (.int .i64 armed) := Row.cell hD 2 rfl
  have f2 := Row.free hD 2
  have c3 : w.cell? ⟨d, 3, none⟩ = some (.bool false) := Row.cell hD 3 rfl
  have f3 := Row.free hD 3
  by_cases h0 : armed = 0
  · subst h0
    go_enter Try.func30, Try.ntmps30
    go_wp2_with fail
    go_ret
    exact ⟨rfl, hD, Chg.refl _ _, rfl⟩
  · by_cases h1 : armed = 1
    · subst h1
      have hp := (Row.put hD 2 (.int .i64 0)).put 3 (.bool true)
      go_enter Try.func30, Try.ntmps30
      go_wp2_with fail
      go_ret
      exact ⟨rfl, hp, (Chg.of_set (S := fun k => k = d) w (a := ⟨d, 2, none⟩) _ rfl).trans (Chg.of_set (S := fun k => k = d) _ (a := ⟨d, 3, none⟩) _ rfl) (fun _ _ h => h), by simp [World.setCell]⟩
    · obtain ⟨a, rfl⟩ : ∃ a, armed = a + 2 := ⟨armed - 2, by omega⟩
      have hp := Row.put hD 2 (.int .i64 ((a : Int) + 2 - 1))
      go_enter Try.func30, Try.ntmps30
      go_wp2_with fail
      go_ret
      refine ⟨rfl, ?_, Chg.of_set (S := fun k => k = d) w (a := ⟨d, 2, none⟩) _ rfl, by simp [World.setCell]⟩
      have e3 : ((a + 1 : Nat) : Int) = (a : Int) + 2 - 1 := by omega
      unfold DRow
      rw [e3]
      exact hp
end Go.Proofs.Yticnncgbfpgeaaa
