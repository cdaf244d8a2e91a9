/- AuditKinds, walked. -/
import Derived.Test.YtpfmjagbjdkdcaaGreatDoorAkD
import Derived.Test.YtpfmjagbjdkdcaaGreatDoorAkF
import Derived.Test.YtpfmjagbjdkdcaaGreatDoorAwA
set_option linter.unusedSimpArgs false
set_option linter.unusedVariables false
namespace Go.Proofs.YtpfmjagbjdkdcaaGreatDoor
open Go.RowKit

theorem PS.take {w : World} {A : Option Addr} {n : Nat} {ps : List Pb} (h : PS w A n ps) {m : Nat} (hm : m ≤ n) : PS w A m (ps.take m) := by
  refine ⟨by rw [List.length_take, ← h.len]; omega, ?_⟩
  rw [show pcells (ps.take m) = (pcells ps).take (m * 2) from ?_]
  · rcases h.cells with h0 | ⟨g, o, hA, hc⟩
    · exact .inl (by rw [h0, List.take_nil])
    · exact .inr ⟨g, o, hA, fun i v hv => hc i v (by
        rw [List.getElem?_take] at hv
        split at hv
        · exact hv
        · cases hv)⟩
  · clear h
    induction ps generalizing m n with
    | nil => simp [pcells]
    | cons p l ih =>
      cases m with
      | zero => simp [pcells]
      | succ m =>
        rw [List.take_succ_cons]
        show p.cells ++ pcells (l.take m) = (p.cells ++ pcells l).take ((m + 1) * 2)
        rw [ih (n := m) (Nat.le_refl m), show (m + 1) * 2 = p.cells.length + m * 2 by simp [Pb.cells]; omega, List.take_length_add_append]
set_option maxRecDepth 100000 in
set_option maxHeartbeats 2000000 in
theorem auditKinds_any (A : Option Addr) (n c : Nat) (ps : List Pb) (w : World) (h : PS w A n ps) (hnc : n ≤ c) (hn9 : n ≤ 9223372036854775807) (hv : Am.Syn w) :
    Calls Tryz.prog 3 #[.slice A n c] w fun e w' => e = .returned (.bool true) ∧ Ext w w' := by
  obtain ⟨m, hm, hmn, hm60⟩ : ∃ m, m = min n 60 ∧ m ≤ n ∧ m ≤ 60 := ⟨_, rfl, by omega, by omega⟩
  have hps := h.take hmn
  generalize ps.take m = l at hps
  have k1 := fun W (hE : Ext w W) => akinds_any A m c l W (hps.ext hE) hm60
  have k2 := fun W (hE : Ext w W) => rkinds_any A m c l W (hps.ext hE) hm60
  have k3 := fun W (hE : Ext w W) => aharm_any A m c l W (hps.ext hE) hm60
  have k4 := fun W (hE : Ext w W) => rharm_any A m c l W (hps.ext hE) hm60
  have k5 := fun W (hE : Ext w W) => Am.awake_any W (hv.ext hE)
  obtain ⟨q0, q1, q2, q3, q4, q5, q6, q7, q8, hq⟩ : ∃ q0 q1 q2 q3 q4 q5 q6 q7 q8 : Int, kA l = #[.int .i64 q0, .int .i64 q1, .int .i64 q2, .int .i64 q3, .int .i64 q4, .int .i64 q5, .int .i64 q6, .int .i64 q7, .int .i64 q8] := ⟨_, _, _, _, _, _, _, _, _, rfl⟩
  rw [hq] at k1 k2
  have h9 : ∀ W, (Op.equalIn 10000 23 (.agg #[.int .i64 q0, .int .i64 q1, .int .i64 q2, .int .i64 q3, .int .i64 q4, .int .i64 q5, .int .i64 q6, .int .i64 q7, .int .i64 q8]) (.agg #[.int .i64 q0, .int .i64 q1, .int .i64 q2, .int .i64 q3, .int .i64 q4, .int .i64 q5, .int .i64 q6, .int .i64 q7, .int .i64 q8])).run Tryz.prog W = .ok true W := fun W => eq9 9998 q0 q1 q2 q3 q4 q5 q6 q7 q8 W
  generalize harm l = b at k3 k4
  clear hq hps h hv
  replace hm := hide hm
  replace k1 := hide k1
  replace k2 := hide k2
  replace k3 := hide k3
  replace k4 := hide k4
  replace k5 := hide k5
  go_enter Tryz.func3, Tryz.ntmps3
  go_wp2_with fail
  rw [show (min (n : Int) 60).toNat = m by have := hm.out; omega]
  refine (k1.out w (Ext.refl w)).mono ?_
  rintro e w1 ⟨rfl, hE1⟩
  replace hE1 := hide hE1
  go_wp2_with fail
  refine (k2.out w1 hE1.out).mono ?_
  rintro e w2 ⟨rfl, hE2⟩
  replace hE2 := hide (hE1.out.trans hE2)
  go_wp2_with fail
  refine (k3.out w2 hE2.out).mono ?_
  rintro e w3 ⟨rfl, hE3⟩
  replace hE3 := hide (hE2.out.trans hE3)
  go_wp2_with fail
  refine (k4.out w3 hE3.out).mono ?_
  rintro e w4 ⟨rfl, hE4⟩
  replace hE4 := hide (hE3.out.trans hE4)
  go_wp2_with fail
  refine (k5.out w4 hE4.out).mono ?_
  rintro e w5 ⟨rfl, hE5⟩
  replace hE5 := hide (hE4.out.trans hE5)
  go_wp2_with fail
  exact bodyPost_ret (v := .bool true) (by simp [results, Tryz.results3, go_sem]) rfl ⟨rfl, hE5.out⟩
end Go.Proofs.YtpfmjagbjdkdcaaGreatDoor
