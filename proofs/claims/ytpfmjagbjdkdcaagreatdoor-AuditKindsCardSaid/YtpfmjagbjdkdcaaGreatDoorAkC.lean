/- loggia/loggiaref29: Kinds. -/
import Derived.Test.YtpfmjagbjdkdcaaGreatDoorAkA
set_option linter.unusedSimpArgs false
set_option linter.unusedVariables false
namespace Go.Proofs.YtpfmjagbjdkdcaaGreatDoor
open Go.RowKit

set_option maxRecDepth 100000 in
set_option maxHeartbeats 2000000 in
theorem rkinds_any (A : Option Addr) (n c : Nat) (ps : List Pb) (w : World) (h : PS w A n ps) (hn : n ≤ 60) :
    Calls Tryz.prog 6 #[.slice A n c] w fun e w' => e = .returned (.agg (kA ps)) ∧ Ext w w' := by
  have hln := hide h.len
  replace h := hide h
  obtain ⟨Z, hZ⟩ : ∃ Z, Z = kA ps := ⟨_, rfl⟩
  rw [← hZ]
  replace hZ := hide hZ
  have hz0 : Row (w.alloc (.cells #[.int .i64 0, .int .i64 0, .int .i64 0, .int .i64 0, .int .i64 0, .int .i64 0, .int .i64 0, .int .i64 0, .int .i64 0] 23)) w.heap.size 23 (kA []) := by rw [kA_zero]; exact Row.new w _ _
  have hE0 : Ext w (w.alloc (.cells #[.int .i64 0, .int .i64 0, .int .i64 0, .int .i64 0, .int .i64 0, .int .i64 0, .int .i64 0, .int .i64 0, .int .i64 0] 23)) := (Ext.refl w).alloc _
  have hs0 : (w.alloc (.cells #[.int .i64 0, .int .i64 0, .int .i64 0, .int .i64 0, .int .i64 0, .int .i64 0, .int .i64 0, .int .i64 0, .int .i64 0] 23)).heap.size = w.heap.size + 1 := World.size_alloc ..
  go_enter Tryz.func6, Tryz.ntmps6
  go_wp2_with fail
  generalize w.alloc (.cells #[.int .i64 0, .int .i64 0, .int .i64 0, .int .i64 0, .int .i64 0, .int .i64 0, .int .i64 0, .int .i64 0, .int .i64 0] 23) = w1 at *
  have hr1 : Row (w1.alloc (.cells #[.int .i64 0, .int .i64 0, .int .i64 0, .int .i64 0, .int .i64 0, .int .i64 0, .int .i64 0, .int .i64 0, .int .i64 0] 23)) (w.heap.size + 1) 23 (kA []) := by rw [kA_zero, ← hs0]; exact Row.new w1 _ _
  have hr0 := hz0.alloc (.cells #[.int .i64 0, .int .i64 0, .int .i64 0, .int .i64 0, .int .i64 0, .int .i64 0, .int .i64 0, .int .i64 0, .int .i64 0] 23)
  have hE1 := hE0.alloc (.cells #[.int .i64 0, .int .i64 0, .int .i64 0, .int .i64 0, .int .i64 0, .int .i64 0, .int .i64 0, .int .i64 0, .int .i64 0] 23)
  replace hr0 := hide hr0
  replace hr1 := hide hr1
  replace hE1 := hide hE1
  clear hz0 hE0
  generalize w1.alloc (.cells #[.int .i64 0, .int .i64 0, .int .i64 0, .int .i64 0, .int .i64 0, .int .i64 0, .int .i64 0, .int .i64 0, .int .i64 0] 23) = w2 at *
  clear hs0
  go_loopw [4, 5] (fun s4 _ wr => ∃ (i : Nat), s4 = .int .i64 (i : Int) ∧ i ≤ n ∧ Hid (Row wr w.heap.size 23 (kA [])) ∧ Hid (Row wr (w.heap.size + 1) 23 (kA (ps.take i))) ∧ Hid (Ext w wr)) (fun s4 _ _ => n - (intOf s4).toNat)
  case atStart => exact ⟨0, rfl, by omega, hr0, hide (by rw [List.take_zero]; exact hr1.out), hE1⟩
  case round =>
    obtain ⟨i, rfl, hi, h0, h1, hE⟩ := hrel
    by_cases hin : i < n
    · obtain ⟨g, s, p, rfl, hp, hc⟩ := h.out.at_ hin
      obtain ⟨hp1, hp2⟩ := hc wr hE.out
      have hsz := hE.out.size
      have htk := hide (take_at hp)
      obtain ⟨f, k⟩ := p
      dsimp only at hp1 hp2
      have hO0 := h0.out
      have hO1 := h1.out
      have hOE := hE.out
      have hcell := hO1.cell (kcl k) (kA_get _ (kcl_lt k))
      have hfree := hO1.free (kcl k)
      have hput := hO1.put (kcl k) (.int .i64 ((kct (ps.take i) (kcl k) : Nat) + 1))
      have hq60 : kct (ps.take i) (kcl k) ≤ 60 := Nat.le_trans (kct_le _ _) (by rw [List.length_take]; have := hln.out; omega)
      have hkl := kcl_lt k
      rw [kA_put' (ps.take i) ⟨f, k⟩, ← htk.out] at hput
      have hput0 := hO0.away (p := ⟨w.heap.size + 1, kcl k, none⟩) (by show w.heap.size ≠ w.heap.size + 1; omega) (.int .i64 ((kct (ps.take i) (kcl k) : Nat) + 1))
      have hputE := hOE.setCell (p := ⟨w.heap.size + 1, kcl k, none⟩) (by show w.heap.size ≤ w.heap.size + 1; omega) (.int .i64 ((kct (ps.take i) (kcl k) : Nat) + 1))
      generalize kct (ps.take i) (kcl k) = q at *
      replace hput := hide hput
      replace hput0 := hide hput0
      replace hputE := hide hputE
      clear hO0 hO1 hOE htk hc hp hp1
      have done : ∀ wz, Hid (Row wz w.heap.size 23 (kA [])) → Hid (Row wz (w.heap.size + 1) 23 (kA (ps.take (i + 1)))) → Hid (Ext w wz) → ∃ (i' : Nat), Value.int .i64 ((i : Int) + 1) = .int .i64 (i' : Int) ∧ i' ≤ n ∧ Hid (Row wz w.heap.size 23 (kA [])) ∧ Hid (Row wz (w.heap.size + 1) 23 (kA (ps.take i'))) ∧ Hid (Ext w wz) := fun wz a b c => ⟨i + 1, by go_num, by omega, a, b, c⟩
      by_cases hk1 : k < 1
      · have hkc : kcl k = 0 := if_pos (.inl hk1)
        rw [hkc] at hcell hfree hput hput0 hputE
        clear hkl hkc
        go_wp2_with fail
        go_roundw
        case rel => exact done _ hput0 hput hputE
        case measure => simp only [intOf]; omega
      · by_cases hk8 : 8 < k
        · have hkc : kcl k = 0 := if_pos (.inr hk8)
          rw [hkc] at hcell hfree hput hput0 hputE
          clear hkl hkc
          go_wp2_with fail
          go_roundw
          case rel => exact done _ hput0 hput hputE
          case measure => simp only [intOf]; omega
        · obtain ⟨j, rfl⟩ : ∃ j : Nat, k = (j : Int) := ⟨k.toNat, by omega⟩
          have hkc : kcl (j : Int) = j := by unfold kcl; rw [if_neg (by omega)]; omega
          rw [hkc] at hcell hfree hput hput0 hputE
          clear hkl hkc
          go_wp2_with fail
          go_roundw
          case rel => exact done _ hput0 hput hputE
          case measure => simp only [intOf]; omega
    · obtain rfl : i = n := by omega
      have hps : ps.take i = ps := by rw [hln.out]; exact List.take_length
      rw [hps] at h1
      replace h0 := h0.out
      replace h1 := h1.out
      rw [← kA_zero] at h0
      obtain ⟨q0, q1, q2, q3, q4, q5, q6, q7, q8, hq⟩ : ∃ q0 q1 q2 q3 q4 q5 q6 q7 q8 : Int, kA ps = #[.int .i64 q0, .int .i64 q1, .int .i64 q2, .int .i64 q3, .int .i64 q4, .int .i64 q5, .int .i64 q6, .int .i64 q7, .int .i64 q8] := ⟨_, _, _, _, _, _, _, _, _, rfl⟩
      replace hZ := hZ.out
      rw [hq] at h1 hZ
      have c0 := h1.cell 0 rfl
      have c1 := h1.cell 1 rfl
      have c2 := h1.cell 2 rfl
      have c3 := h1.cell 3 rfl
      have c4 := h1.cell 4 rfl
      have c5 := h1.cell 5 rfl
      have c6 := h1.cell 6 rfl
      have c7 := h1.cell 7 rfl
      have c8 := h1.cell 8 rfl
      clear h1 hq hps
      subst hZ
      have e0 : w.heap.size ≤ wr.heap.size := hE.out.size
      have d0 := h0.cell 0 (v := .int .i64 0) rfl
      have f0 := h0.free 0
      have r0 : Row (wr.setCell ⟨w.heap.size, 0, none⟩ (.int .i64 q0)) w.heap.size 23 #[.int .i64 q0, .int .i64 0, .int .i64 0, .int .i64 0, .int .i64 0, .int .i64 0, .int .i64 0, .int .i64 0, .int .i64 0] := h0.put 0 (.int .i64 q0)
      have d1 := r0.cell 1 (v := .int .i64 0) rfl
      have f1 := r0.free 1
      have r1 : Row ((wr.setCell ⟨w.heap.size, 0, none⟩ (.int .i64 q0)).setCell ⟨w.heap.size, 1, none⟩ (.int .i64 q1)) w.heap.size 23 #[.int .i64 q0, .int .i64 q1, .int .i64 0, .int .i64 0, .int .i64 0, .int .i64 0, .int .i64 0, .int .i64 0, .int .i64 0] := r0.put 1 (.int .i64 q1)
      have d2 := r1.cell 2 (v := .int .i64 0) rfl
      have f2 := r1.free 2
      have r2 : Row (((wr.setCell ⟨w.heap.size, 0, none⟩ (.int .i64 q0)).setCell ⟨w.heap.size, 1, none⟩ (.int .i64 q1)).setCell ⟨w.heap.size, 2, none⟩ (.int .i64 q2)) w.heap.size 23 #[.int .i64 q0, .int .i64 q1, .int .i64 q2, .int .i64 0, .int .i64 0, .int .i64 0, .int .i64 0, .int .i64 0, .int .i64 0] := r1.put 2 (.int .i64 q2)
      have d3 := r2.cell 3 (v := .int .i64 0) rfl
      have f3 := r2.free 3
      have r3 : Row ((((wr.setCell ⟨w.heap.size, 0, none⟩ (.int .i64 q0)).setCell ⟨w.heap.size, 1, none⟩ (.int .i64 q1)).setCell ⟨w.heap.size, 2, none⟩ (.int .i64 q2)).setCell ⟨w.heap.size, 3, none⟩ (.int .i64 q3)) w.heap.size 23 #[.int .i64 q0, .int .i64 q1, .int .i64 q2, .int .i64 q3, .int .i64 0, .int .i64 0, .int .i64 0, .int .i64 0, .int .i64 0] := r2.put 3 (.int .i64 q3)
      have d4 := r3.cell 4 (v := .int .i64 0) rfl
      have f4 := r3.free 4
      have r4 : Row (((((wr.setCell ⟨w.heap.size, 0, none⟩ (.int .i64 q0)).setCell ⟨w.heap.size, 1, none⟩ (.int .i64 q1)).setCell ⟨w.heap.size, 2, none⟩ (.int .i64 q2)).setCell ⟨w.heap.size, 3, none⟩ (.int .i64 q3)).setCell ⟨w.heap.size, 4, none⟩ (.int .i64 q4)) w.heap.size 23 #[.int .i64 q0, .int .i64 q1, .int .i64 q2, .int .i64 q3, .int .i64 q4, .int .i64 0, .int .i64 0, .int .i64 0, .int .i64 0] := r3.put 4 (.int .i64 q4)
      have d5 := r4.cell 5 (v := .int .i64 0) rfl
      have f5 := r4.free 5
      have r5 : Row ((((((wr.setCell ⟨w.heap.size, 0, none⟩ (.int .i64 q0)).setCell ⟨w.heap.size, 1, none⟩ (.int .i64 q1)).setCell ⟨w.heap.size, 2, none⟩ (.int .i64 q2)).setCell ⟨w.heap.size, 3, none⟩ (.int .i64 q3)).setCell ⟨w.heap.size, 4, none⟩ (.int .i64 q4)).setCell ⟨w.heap.size, 5, none⟩ (.int .i64 q5)) w.heap.size 23 #[.int .i64 q0, .int .i64 q1, .int .i64 q2, .int .i64 q3, .int .i64 q4, .int .i64 q5, .int .i64 0, .int .i64 0, .int .i64 0] := r4.put 5 (.int .i64 q5)
      have d6 := r5.cell 6 (v := .int .i64 0) rfl
      have f6 := r5.free 6
      have r6 : Row (((((((wr.setCell ⟨w.heap.size, 0, none⟩ (.int .i64 q0)).setCell ⟨w.heap.size, 1, none⟩ (.int .i64 q1)).setCell ⟨w.heap.size, 2, none⟩ (.int .i64 q2)).setCell ⟨w.heap.size, 3, none⟩ (.int .i64 q3)).setCell ⟨w.heap.size, 4, none⟩ (.int .i64 q4)).setCell ⟨w.heap.size, 5, none⟩ (.int .i64 q5)).setCell ⟨w.heap.size, 6, none⟩ (.int .i64 q6)) w.heap.size 23 #[.int .i64 q0, .int .i64 q1, .int .i64 q2, .int .i64 q3, .int .i64 q4, .int .i64 q5, .int .i64 q6, .int .i64 0, .int .i64 0] := r5.put 6 (.int .i64 q6)
      have d7 := r6.cell 7 (v := .int .i64 0) rfl
      have f7 := r6.free 7
      have r7 : Row ((((((((wr.setCell ⟨w.heap.size, 0, none⟩ (.int .i64 q0)).setCell ⟨w.heap.size, 1, none⟩ (.int .i64 q1)).setCell ⟨w.heap.size, 2, none⟩ (.int .i64 q2)).setCell ⟨w.heap.size, 3, none⟩ (.int .i64 q3)).setCell ⟨w.heap.size, 4, none⟩ (.int .i64 q4)).setCell ⟨w.heap.size, 5, none⟩ (.int .i64 q5)).setCell ⟨w.heap.size, 6, none⟩ (.int .i64 q6)).setCell ⟨w.heap.size, 7, none⟩ (.int .i64 q7)) w.heap.size 23 #[.int .i64 q0, .int .i64 q1, .int .i64 q2, .int .i64 q3, .int .i64 q4, .int .i64 q5, .int .i64 q6, .int .i64 q7, .int .i64 0] := r6.put 7 (.int .i64 q7)
      have d8 := r7.cell 8 (v := .int .i64 0) rfl
      have f8 := r7.free 8
      have r8 : Row (((((((((wr.setCell ⟨w.heap.size, 0, none⟩ (.int .i64 q0)).setCell ⟨w.heap.size, 1, none⟩ (.int .i64 q1)).setCell ⟨w.heap.size, 2, none⟩ (.int .i64 q2)).setCell ⟨w.heap.size, 3, none⟩ (.int .i64 q3)).setCell ⟨w.heap.size, 4, none⟩ (.int .i64 q4)).setCell ⟨w.heap.size, 5, none⟩ (.int .i64 q5)).setCell ⟨w.heap.size, 6, none⟩ (.int .i64 q6)).setCell ⟨w.heap.size, 7, none⟩ (.int .i64 q7)).setCell ⟨w.heap.size, 8, none⟩ (.int .i64 q8)) w.heap.size 23 #[.int .i64 q0, .int .i64 q1, .int .i64 q2, .int .i64 q3, .int .i64 q4, .int .i64 q5, .int .i64 q6, .int .i64 q7, .int .i64 q8] := r7.put 8 (.int .i64 q8)
      have hE9 := (((((((((hE.out.setCell (p := ⟨w.heap.size, 0, none⟩) (Nat.le_refl _) (.int .i64 q0)).setCell (p := ⟨w.heap.size, 1, none⟩) (Nat.le_refl _) (.int .i64 q1)).setCell (p := ⟨w.heap.size, 2, none⟩) (Nat.le_refl _) (.int .i64 q2)).setCell (p := ⟨w.heap.size, 3, none⟩) (Nat.le_refl _) (.int .i64 q3)).setCell (p := ⟨w.heap.size, 4, none⟩) (Nat.le_refl _) (.int .i64 q4)).setCell (p := ⟨w.heap.size, 5, none⟩) (Nat.le_refl _) (.int .i64 q5)).setCell (p := ⟨w.heap.size, 6, none⟩) (Nat.le_refl _) (.int .i64 q6)).setCell (p := ⟨w.heap.size, 7, none⟩) (Nat.le_refl _) (.int .i64 q7)).setCell (p := ⟨w.heap.size, 8, none⟩) (Nat.le_refl _) (.int .i64 q8))
      have g0 := r8.cell 0 (v := .int .i64 q0) rfl
      have g1 := r8.cell 1 (v := .int .i64 q1) rfl
      have g2 := r8.cell 2 (v := .int .i64 q2) rfl
      have g3 := r8.cell 3 (v := .int .i64 q3) rfl
      have g4 := r8.cell 4 (v := .int .i64 q4) rfl
      have g5 := r8.cell 5 (v := .int .i64 q5) rfl
      have g6 := r8.cell 6 (v := .int .i64 q6) rfl
      have g7 := r8.cell 7 (v := .int .i64 q7) rfl
      have g8 := r8.cell 8 (v := .int .i64 q8) rfl
      clear r0 r1 r2 r3 r4 r5 r6 r7 h0
      replace r8 := hide r8
      replace hE9 := hide hE9
      go_wp2_with fail
      exact bodyPost_ret (results_rowK rfl _ _ w.heap.size #[.int .i64 q0, .int .i64 q1, .int .i64 q2, .int .i64 q3, .int .i64 q4, .int .i64 q5, .int .i64 q6, .int .i64 q7, .int .i64 q8] rfl (run_loadVar_row _ w.heap.size 23 23 _ (0, 0) _ r8.out Tryz.underlying23 rfl (by kernel_rfl))) rfl ⟨rfl, hE9.out⟩
end Go.Proofs.YtpfmjagbjdkdcaaGreatDoor
