/- Texts of one proof, joined. -/
import Derived.Test.YtlfinaeklaimjaaGreatDoorSN02
import Derived.Test.YtlfinaeklaimjaaGreatDoorSN03
import Derived.Test.YtlfinaeklaimjaaGreatDoorSN13
import Derived.Deep.RegionHeld3
set_option linter.unusedSimpArgs false
set_option linter.unusedVariables false
namespace Go.Proofs.YtlfinaeklaimjaaGreatDoor
noncomputable section
section
open Go.RowKit Go.Maps
theorem new_cellsS (w : World) (us : List Value) (T : TypeId) : Cells (w.alloc (.cells us.toArray T)) (some ⟨w.heap.size, 0, none⟩) us :=
  .inr ⟨w.heap.size, 0, rfl, fun i u hu => by
    rw [Nat.zero_add, cell_of_row _ _ _ _ _ _ (heap_alloc_new w _)]
    simpa using hu⟩
set_option maxRecDepth 100000 in
theorem conf23_any (w : World) : Calls Tryz.prog 5 #[] w fun e w' => e = .returned (.agg #[.int .i64 300, .int .i64 50, .int .i64 100, .int .i64 8, .int .i64 50, .bool true, .bool true]) ∧ Ext w w' := by
  go_enter Tryz.func5, Tryz.ntmps5
  go_wp2_with fail
  exact bodyPost_ret (results_cell_row rfl _ _ w.heap.size 37 #[.int .i64 300, .int .i64 50, .int .i64 100, .int .i64 8, .int .i64 50, .bool true, .bool true] (0, 0) _ rfl (Row.new w 37 #[.int .i64 300, .int .i64 50, .int .i64 100, .int .i64 8, .int .i64 50, .bool true, .bool true]) Tryz.underlying37 rfl (by kernel_rfl)) rfl ⟨rfl, (Ext.refl w).alloc _⟩
set_option maxRecDepth 100000 in
theorem all23_any (w : World) : Calls Tryz.prog 14 #[] w fun e w' => e = .returned (.agg #[.int .i64 1, .string ⟨#[]⟩, .slice none 0 0, .slice none 0 0]) ∧ Ext w w' := by
  go_enter Tryz.func14, Tryz.ntmps14
  go_wp2_with fail
  exact bodyPost_ret (results_cell_row rfl _ _ w.heap.size 27 #[.int .i64 1, .string ⟨#[]⟩, .slice none 0 0, .slice none 0 0] (0, 0) _ rfl (Row.new w 27 #[.int .i64 1, .string ⟨#[]⟩, .slice none 0 0, .slice none 0 0]) Tryz.underlying27 rfl (by kernel_rfl)) rfl ⟨rfl, (Ext.refl w).alloc _⟩
def orc0 : Am.Orc := fun _ _ _ => none
theorem orc0_ok {base gm : Nat} : Am.OrcOk Tryz.prog base gm orc0 := fun _ _ _ _ _ _ _ _ h => by cases h
set_option maxRecDepth 1000000 in
theorem open_nil_run : ∀ t fz, Am.callK Tryz.prog (1 + 1) orc0 (Am.runK Tryz.prog (1 + 1) orc0 500) 4 [.pointer none, .agg #[.int .i64 300, .int .i64 50, .int .i64 100, .int .i64 8, .int .i64 50, .bool true, .bool true]] ⟨Am.hSyn t fz, 1 + 3⟩ (fun v _ => Am.veq 60 v (.tuple #[.pointer none, .int .i64 4])) = true := fun t fz => by kernel_rfl
theorem open_nil (w : World) (h : Am.Syn w) : Calls Tryz.prog 4 #[.pointer none, .agg #[.int .i64 300, .int .i64 50, .int .i64 100, .int .i64 8, .int .i64 50, .bool true, .bool true]] w fun e w' => e = .returned (.tuple #[.pointer none, .int .i64 4]) ∧ Ext w w' := by
  have hlt := h.lt
  obtain ⟨t, fz, b, o, hc⟩ := h
  exact callsIn_wide.1 (Am.startV_ok (args' := [.pointer none, .agg #[.int .i64 300, .int .i64 50, .int .i64 100, .int .i64 8, .int .i64 50, .bool true, .bool true]]) (by kernel_rfl) hlt orc0_ok Am.noNum (Am.wrSyn none hc) (Ext.refl w) (Nat.le_refl _) (.cons .nilp (.cons (Am.noA_refl _ 60 _ rfl) (Am.LR.nil _))) rfl (open_nil_run t fz))
set_option maxRecDepth 100000 in
set_option maxHeartbeats 4000000 in
theorem storeNob_any (a : OpC) (w : World) (ha : a.Ok w) (hsyn : Am.Syn w) : Calls Tryz.prog 3 #[.agg a.cells.toArray] w fun e w' => e = .returned (.bool true) ∧ Ext w w' := by
  obtain ⟨q0, A, c, evs, q2, q3, q4, q5, q6, q7, q8, nn, q10⟩ := a
  unfold OpC.cells
  obtain ⟨hev, hel⟩ := ha
  simp only at hev hel
  have haw := hide (fun W (hE : Ext w W) => Am.awake23_any W (hsyn.ext hE))
  have hop := hide (fun W (hE : Ext w W) => open_nil W (hsyn.ext hE))
  have hcf := hide conf23_any
  have hal := hide all23_any
  obtain ⟨W0, hW0⟩ : ∃ W0, W0 = w.alloc (Obj.cells #[q0, .slice A evs.length c, q2, q3, q4, q5, q6, q7, q8, .int .i64 nn, q10] 30) := ⟨_, rfl⟩
  have hE0 : Ext w W0 := by rw [hW0]; exact (Ext.refl w).alloc _
  have hr0 : Row W0 w.heap.size 30 #[q0, .slice A evs.length c, q2, q3, q4, q5, q6, q7, q8, .int .i64 nn, q10] := by rw [hW0]; exact Row.new w _ _
  obtain ⟨gb, hgb⟩ : ∃ gb, gb = w.heap.size := ⟨_, rfl⟩
  rw [← hgb] at hr0
  replace hgb := hide hgb
  replace hE0 := hide hE0
  replace hr0 := hide hr0
  replace hW0 := hide hW0
  go_enter Tryz.func3, Tryz.ntmps3
  go_wp2_with fail
  rw [← hW0.out]
  refine (hcf.out _).mono ?_
  rintro e w1 ⟨rfl, hE1⟩
  have hE10 := hE1
  replace hE1 := hide (hE0.out.trans hE1)
  go_wp2_with fail
  refine (hop.out _ hE1.out).mono ?_
  rintro e w2 ⟨rfl, hE2⟩
  have hr2' := hide ((hr0.out.ext hE10).ext hE2)
  replace hE2 := hide (hE1.out.trans hE2)
  clear hE10
  go_wp2_with fail
  obtain ⟨W2, hW2⟩ : ∃ W2, W2 = (w2.alloc (Obj.cells #[.slice none 0 0, .int .i64 0, .int .i64 0, .int .i64 0, .int .i64 0, .int .i64 0, .pointer none, .slice none 0 0, .pointer none, .pointer none, .int .i64 0, .int .i64 0, .int .i64 0, .int .i64 0, .int .i64 0, .int .i64 0, .bool false, .bool false, .int .i64 0, .int .i64 0, .int .i64 0, .bool false] 50)).alloc (Obj.cells #[.pointer none, .pointer (some ⟨w2.heap.size, 0, none⟩)] 31) := ⟨_, rfl⟩
  have hE3 : Ext w2 W2 := by rw [hW2]; exact ((Ext.refl w2).alloc _).alloc _
  have hb : NobS W2 (.pointer (some ⟨w2.heap.size, 0, none⟩)) := .inr ⟨_, rfl, by rw [hW2]; exact ((Row.new w2 _ _).alloc _).cell 6 rfl⟩
  rw [← hW2]
  have hcs : Cells W2 (some ⟨w2.heap.size + 1, 0, none⟩) [.pointer none, .pointer (some ⟨w2.heap.size, 0, none⟩)] := by
    have h1 := new_cellsS (w2.alloc (Obj.cells #[.slice none 0 0, .int .i64 0, .int .i64 0, .int .i64 0, .int .i64 0, .int .i64 0, .pointer none, .slice none 0 0, .pointer none, .pointer none, .int .i64 0, .int .i64 0, .int .i64 0, .int .i64 0, .int .i64 0, .int .i64 0, .bool false, .bool false, .int .i64 0, .int .i64 0, .int .i64 0, .bool false] 50)) [.pointer none, .pointer (some ⟨w2.heap.size, 0, none⟩)] 31
    rw [World.size_alloc] at h1
    rw [hW2]; exact h1
  have hat : ∀ k : Nat, k < 2 → ∃ s, W2.cell? ⟨w2.heap.size + 1, k, none⟩ = some s ∧ NobS W2 s := fun k hk => by
    rcases hcs with h | ⟨g, o, hA, hc⟩
    · cases h
    · cases hA
      match k, hk with
      | 0, _ => exact ⟨_, by have := hc 0 _ rfl; simpa using this, .inl rfl⟩
      | 1, _ => exact ⟨_, by have := hc 1 _ rfl; simpa using this, hb⟩
  have hr2 := hr2'.out.ext hE3
  have z1 := hr2.cell 1 rfl
  have z9 := hr2.cell 9 rfl
  have hE3w := hide (hE2.out.trans hE3)
  obtain ⟨g2, hg2⟩ : ∃ g2, g2 = w2.heap.size + 1 := ⟨_, rfl⟩
  rw [← hg2] at hat
  rw [← hgb.out, ← hg2]
  obtain ⟨n, hn⟩ : ∃ n, n = evs.length := ⟨_, rfl⟩
  rw [← hn] at z1 hel
  have hevs := hide (fun W (hE : Ext w W) => events23_any evs A n c W hn (hev.ext hE) hel)
  replace hn := hide hn
  replace hg2 := hide hg2
  replace hat := hide hat
  replace hW2 := hide hW2
  replace z1 := hide z1
  replace z9 := hide z9
  clear hb hcs hr2 hr2' hr0 hW0 hE3 hev
  go_loopw [30] (fun s30 wr => ∃ (k : Nat), s30 = .int .i64 (k : Int) ∧ k ≤ 2 ∧ Hid (Ext W2 wr)) (fun s30 _ => 2 - (intOf s30).toNat)
  case atStart => exact ⟨0, rfl, by omega, hide (Ext.refl W2)⟩
  case round =>
    obtain ⟨k, rfl, hk, hEr⟩ := hrel
    by_cases hk2 : k < 2
    · obtain ⟨s, hcell, hs⟩ := hat.out k hk2
      have hcr := hEr.out.cell hcell
      have x1 := hEr.out.cell z1.out
      have x9 := hEr.out.cell z9.out
      have hall := hide fun W (hW : Ext wr W) => hs.ext (hEr.out.trans hW)
      have hev2 := hide fun W (hW : Ext wr W) => hevs.out W ((hE3w.out.trans hEr.out).trans hW)
      clear hs hcell
      go_wp2_with fail
      refine (hev2.out _ (Ext.refl wr)).mono ?_
      rintro e w4 ⟨A', n', c', rfl, hE4⟩
      have y0 := hE4.cell hcr
      have y9 := hE4.cell x9
      have cA := hide (sAdd_no s (.slice A' n' c') w4 (hall.out w4 hE4))
      clear hcr x9 x1
      go_wp2_with fail
      refine cA.out.mono ?_
      rintro e w5 ⟨rfl, hE5⟩
      have hE45 := hide (hE4.trans hE5)
      have y9' := hE5.cell y9
      have cX := hide (sExpire_no s w5 (hall.out w5 hE45.out))
      clear y0 y9 cA
      go_wp2_with fail
      refine cX.out.mono ?_
      rintro e w6 ⟨rfl, hE6⟩
      have hE46 := hide (hE45.out.trans hE6)
      clear hE45 cX
      have y9 := hE6.cell y9'
      clear y9'
      go_wp2_with fail
      have c7 := hide (sSync_no s w6 (hall.out w6 hE46.out))
      refine c7.out.mono ?_
      rintro e w7 ⟨rfl, hE7⟩
      have hE47 := hide (hE46.out.trans hE7)
      have y9t := hE7.cell y9
      clear c7 hE7 hE46
      go_wp2_with fail
      have c8 := hide (sTick_no s nn w7 (hall.out w7 hE47.out))
      refine c8.out.mono ?_
      rintro e w8 ⟨rfl, hE8⟩
      have hE48 := hide (hE47.out.trans hE8)
      clear c8 hE8 hE47
      go_wp2_with fail
      have c9 := hide (sSeal_no s w8 (hall.out w8 hE48.out))
      refine c9.out.mono ?_
      rintro e w9 ⟨rfl, hE9⟩
      have hE49 := hide (hE48.out.trans hE9)
      clear c9 hE9 hE48
      go_wp2_with fail
      have c10 := hide (sFreeze_no s w9 (hall.out w9 hE49.out))
      refine c10.out.mono ?_
      rintro e w10 ⟨rfl, hE10⟩
      have hE410 := hide (hE49.out.trans hE10)
      clear c10 hE10 hE49
      go_wp2_with fail
      have c11 := hide (hal.out w10)
      refine c11.out.mono ?_
      rintro e w11 ⟨rfl, hE11⟩
      have hE411 := hide (hE410.out.trans hE11)
      clear c11 hE11 hE410
      go_wp2_with fail
      have c12 := hide (sDocs_no s #[.int .i64 1, .string ⟨#[]⟩, .slice none 0 0, .slice none 0 0] 0 9 w11 (hall.out w11 hE411.out))
      refine c12.out.mono ?_
      rintro e w12 ⟨rfl, hE12⟩
      have hE412 := hide (hE411.out.trans hE12)
      clear c12 hE12 hE411
      go_wp2_with fail
      have c13 := hide (hal.out w12)
      refine c13.out.mono ?_
      rintro e w13 ⟨rfl, hE13⟩
      have hE413 := hide (hE412.out.trans hE13)
      clear c13 hE13 hE412
      go_wp2_with fail
      have c14 := hide (sAfter_no s #[.int .i64 1, .string ⟨#[]⟩, .slice none 0 0, .slice none 0 0] 0 9 w13 (hall.out w13 hE413.out))
      refine c14.out.mono ?_
      rintro e w14 ⟨rfl, hE14⟩
      have hE414 := hide (hE413.out.trans hE14)
      clear c14 hE14 hE413
      go_wp2_with fail
      have c15 := hide (sNext_no s w14 (hall.out w14 hE414.out))
      refine c15.out.mono ?_
      rintro e w15 ⟨rfl, hE15⟩
      have hE415 := hide (hE414.out.trans hE15)
      clear c15 hE15 hE414
      go_wp2_with fail
      have c16 := hide (sFloor_no s w15 (hall.out w15 hE415.out))
      refine c16.out.mono ?_
      rintro e w16 ⟨rfl, hE16⟩
      have hE416 := hide (hE415.out.trans hE16)
      clear c16 hE16 hE415
      go_wp2_with fail
      have c17 := hide (sNow_no s w16 (hall.out w16 hE416.out))
      refine c17.out.mono ?_
      rintro e w17 ⟨rfl, hE17⟩
      have hE417 := hide (hE416.out.trans hE17)
      clear c17 hE17 hE416
      go_wp2_with fail
      have c18 := hide (sAcked_no s w17 (hall.out w17 hE417.out))
      refine c18.out.mono ?_
      rintro e w18 ⟨rfl, hE18⟩
      have hE418 := hide (hE417.out.trans hE18)
      clear c18 hE18 hE417
      go_wp2_with fail
      have c19 := hide (sParts_no s w18 (hall.out w18 hE418.out))
      refine c19.out.mono ?_
      rintro e w19 ⟨rfl, hE19⟩
      have hE419 := hide (hE418.out.trans hE19)
      clear c19 hE19 hE418
      go_wp2_with fail
      have c20 := hide (sStopped_no s w19 (hall.out w19 hE419.out))
      refine c20.out.mono ?_
      rintro e w20 ⟨rfl, hE20⟩
      have hE420 := hide (hE419.out.trans hE20)
      clear c20 hE20 hE419
      go_wp2_with fail
      go_roundw
      case rel => exact ⟨k + 1, by go_num, by omega, hide (hEr.out.trans hE420.out)⟩
      case measure => simp only [intOf]; omega
    · obtain rfl : k = 2 := by omega
      replace haw := hide (haw.out wr (hE3w.out.trans hEr.out))
      go_wp2_with fail
      refine haw.out.mono ?_
      rintro e w9 ⟨rfl, hE9⟩
      go_wp2_with fail
      go_ret
      exact ⟨rfl, (hE3w.out.trans hEr.out).trans hE9⟩
end
end
end Go.Proofs.YtlfinaeklaimjaaGreatDoor
