/- loggialaw06: a step of both disks. -/
import Derived.Test.YticnncgbfpgeaaaDlD
import Derived.Test.YticnncgbfpgeaaaDlA
namespace Go.Proofs.Yticnncgbfpgeaaa
open Go.RowKit Go.Maps

set_option maxRecDepth 100000 in
set_option maxHeartbeats 4000000 in
theorem step_sync (base bb d : Nat) (P : PD) (F Q : Nat → Prop) (o : Opr) (w : World) (h : BS w base bb d P F Q) (ho : OOk w base o) (_hb : o.b.length ≤ 1073741824) (_hk : o.keep.length ≤ 1073741824) (hk12 : o.kd % 12 = 4) :
    Calls Try.prog 15 #[.pointer (some ⟨bb, 0, none⟩), o.val] w fun e w' => e = .returned (.bool true) ∧ SPost base bb F Q w (stepM P o) w' := by
  obtain ⟨A, n, c, R, hrb, hR, hP⟩ := h.ref
  have hS := h.disk
  have hbbl := hrb.lt
  have hbl := h.low
  obtain ⟨W, hW⟩ : ∃ W, W = (w.alloc (.cells #[.int .u8 o.kd, .string ⟨o.name.toArray⟩, .string ⟨o.nto.toArray⟩, .slice o.BA o.b.length o.bc, .int .i64 o.a, .int .i64 o.n, .slice o.KA o.keep.length o.kc] 41)).alloc (.cells #[.slice A n c, .int .i64 P.quota, .int .i64 P.armed, .bool P.stopped] 36) := ⟨_, rfl⟩
  have hE : Ext w W := by rw [hW]; exact ((Ext.refl w).alloc _).alloc _
  have hWs : W.heap.size = w.heap.size + 2 := by rw [hW, size_alloc, size_alloc]
  have hob : Row W w.heap.size 41 #[.int .u8 o.kd, .string ⟨o.name.toArray⟩, .string ⟨o.nto.toArray⟩, .slice o.BA o.b.length o.bc, .int .i64 o.a, .int .i64 o.n, .slice o.KA o.keep.length o.kc] := by rw [hW]; exact (Row.new w _ _).alloc _
  have hnx : Row W (w.heap.size + 1) 36 #[.slice A n c, .int .i64 P.quota, .int .i64 P.armed, .bool P.stopped] := by
    have := Row.new (w.alloc (.cells #[.int .u8 o.kd, .string ⟨o.name.toArray⟩, .string ⟨o.nto.toArray⟩, .slice o.BA o.b.length o.bc, .int .i64 o.a, .int .i64 o.n, .slice o.KA o.keep.length o.kc] 41)) 36 #[.slice A n c, .int .i64 P.quota, .int .i64 P.armed, .bool P.stopped]
    rw [size_alloc] at this
    rw [hW]
    exact this
  have b1 : w.cell? ⟨bb, 1, none⟩ = some (.slice A n c) := hrb.cell 1 rfl
  have b2 : w.cell? ⟨bb, 2, none⟩ = some (.int .i64 P.quota) := hrb.cell 2 rfl
  have b3 : w.cell? ⟨bb, 3, none⟩ = some (.int .i64 P.armed) := hrb.cell 3 rfl
  have b4 : w.cell? ⟨bb, 4, none⟩ = some (.bool P.stopped) := hrb.cell 4 rfl
  have hrW := hrb.ext hE
  have B0 : W.cell? ⟨bb, 0, none⟩ = some (.pointer (some ⟨d, 0, none⟩)) := hrW.cell 0 rfl
  have o0 : W.cell? ⟨w.heap.size, 0, none⟩ = some (.int .u8 o.kd) := hob.cell 0 rfl
  have hWx := hide hW.symm
  clear hW
  have hNF : ∀ k, F k → k < w.heap.size := fun k hk => hS.lt hk
  have hPa : P.armed ≤ 9223372036854775807 := by obtain ⟨_, _, hh, _⟩ := hS; exact hh.ha
  have hPq : P.quota ≤ 9223372036854775807 := by obtain ⟨_, _, hh, _⟩ := hS; exact hh.hq
  have o1 : W.cell? ⟨w.heap.size, 1, none⟩ = some (.string ⟨o.name.toArray⟩) := hob.cell 1 rfl
  have hd := sync_any base d P F o.name W.drew (hS.ext hE.drew) ho.name
  have hsm : stepM P o = (syncM P o.name).1 := by unfold stepM; rw [if_pos hk12]
  rw [hsm]
  unfold Opr.val str
  try unfold str at hd
  replace hd := hide hd
  replace hsm := hide hsm
  replace hWs := hide hWs
  have hdo := ho.kd
  have hqk : (o.kd : Int) % 12 = 4 := by omega
  go_enter Try.func15, Try.ntmps15
  go_wp2_with fail
  rw [hWx.out]
  refine wp_region_text follows (by kernel_rfl) (by kernel_rfl) (fun K hK => ?_)
  go_wp2_with fail
  refine hd.out.mono ?_
  rintro e w1 ⟨rfl, hn1⟩
  obtain ⟨F1, hS1, hF1, hc1, hrb1, hR1⟩ := step_mid h hE.drew hn1 hrb hR
  have hcW : Chg F W w1 := by
    obtain ⟨_, _, h2, _⟩ := hn1
    exact (Chg.of_ext (Ext.refl W).drew F).trans h2 fun _ _ h => h
  have hob1 := hcW.row hob fun hh => by have := hNF _ hh; omega
  have hnx1 := hcW.row hnx fun hh => by have := hNF _ hh; omega
  have p1 : w1.cell? ⟨w.heap.size, 1, none⟩ = some (.string ⟨o.name.toArray⟩) := hob1.cell 1 rfl
  have B1 : w1.cell? ⟨bb, 1, none⟩ = some (.slice A n c) := hrb1.cell 1 rfl
  have B2 : w1.cell? ⟨bb, 2, none⟩ = some (.int .i64 P.quota) := hrb1.cell 2 rfl
  have B3 : w1.cell? ⟨bb, 3, none⟩ = some (.int .i64 P.armed) := hrb1.cell 3 rfl
  have B4 : w1.cell? ⟨bb, 4, none⟩ = some (.bool P.stopped) := hrb1.cell 4 rfl
  have hwsz : w.heap.size + 2 ≤ w1.heap.size := by rw [← hWs.out]; exact hcW.size
  obtain ⟨N, hN⟩ : ∃ N : Nat → Prop, N = fun k => F1 k ∨ Q k ∨ (w.heap.size ≤ k ∧ k < W.drew.heap.size) := ⟨_, rfl⟩
  rw [← hN] at hR1
  have hNlt : ∀ k, N k → k < w1.heap.size := by
    intro k hk
    rw [hN] at hk
    rcases hk with hk | hk | hk
    · exact hS1.lt hk
    · have := h.qlt k hk; omega
    · have : k < W.heap.size := hk.2
      rw [hWs.out] at this
      omega
  have hr := rsync_any N A n c P R o.name w1.drew (hR1.ext (Ext.refl w1).drew) hP hNlt ho.name hPa
  unfold rdisk at hr
  try unfold str at hr
  replace hr := hide hr
  obtain ⟨cd, hcd⟩ : ∃ cd, cd = (syncM P o.name).2 := ⟨_, rfl⟩
  rw [← hcd]
  replace hcd := hide hcd
  have hBW := hn1
  replace hN := hide hN
  replace hBW := hide hBW
  replace hrb1 := hide hrb1
  replace hrb := hide hrb
  go_wp2_with fail
  refine ⟨by kernel_rfl, ?_⟩
  go_wp2_with fail
  refine wp_region_text follows (by kernel_rfl) (by kernel_rfl) (fun K hK => ?_)
  go_wp2_with fail
  refine hr.out.mono ?_
  rintro e w2 ⟨A2, n2, c2, R2, rfl, hR2, hP2, hE2⟩
  unfold rdisk
  obtain ⟨q1, hq1⟩ : ∃ q1, q1 = ((syncM P o.name).1.quota : Int) := ⟨_, rfl⟩
  obtain ⟨ar1, har1⟩ : ∃ q1, q1 = ((syncM P o.name).1.armed : Int) := ⟨_, rfl⟩
  obtain ⟨st1, hst1⟩ : ∃ q1, q1 = (syncM P o.name).1.stopped := ⟨_, rfl⟩
  rw [← hq1, ← har1, ← hst1, ← hcd.out]
  replace hq1 := hide hq1
  replace har1 := hide har1
  replace hst1 := hide hst1
  have hE2' : Ext w1 w2 := (Ext.refl w1).drew.trans hE2
  have hnx2 := hnx1.ext hE2'
  have hrb2 := hrb1.out.ext hE2'
  have x0 := hnx2.cell 0 rfl
  have x1 := hnx2.cell 1 rfl
  have x2 := hnx2.cell 2 rfl
  have x3 := hnx2.cell 3 rfl
  have y0 := hnx2.free 0
  have y1 := hnx2.free 1
  have y2 := hnx2.free 2
  have y3 := hnx2.free 3
  go_upto_region 37 with (fail)
  refine ⟨by kernel_rfl, ?_⟩
  obtain ⟨w3, hw3⟩ : ∃ w3, w3 = ((((w2.setCell ⟨w.heap.size + 1, 0, none⟩ (.slice A2 n2 c2)).setCell ⟨w.heap.size + 1, 1, none⟩ (.int .i64 q1)).setCell ⟨w.heap.size + 1, 2, none⟩ (.int .i64 ar1)).setCell ⟨w.heap.size + 1, 3, none⟩ (.bool st1)) := ⟨_, rfl⟩
  rw [← hw3]
  obtain ⟨hnx3, hc3⟩ := nx_put hnx2 hw3
  have hrb3 := hc3.row hrb2 (by have := hWx; omega)
  have u0 := hnx3.cell 0 rfl
  have u1 := hnx3.cell 1 rfl
  have u2 := hnx3.cell 2 rfl
  have u3 := hnx3.cell 3 rfl
  have v0 := hrb3.cell 0 rfl
  have v1 := hrb3.cell 1 rfl
  have v2 := hrb3.cell 2 rfl
  have v3 := hrb3.cell 3 rfl
  have v4 := hrb3.cell 4 rfl
  have g1 := hrb3.free 1
  have g2 := hrb3.free 2
  have g3 := hrb3.free 3
  have g4 := hrb3.free 4
  clear x0 x1 x2 x3 y0 y1 y2 y3
  replace hc3 := hide hc3
  clear hw3
  replace hE2 := hide hE2
  go_wp2_with fail
  refine bodyPost_ret (v := .bool true) (by simp [results, Try.results15, go_sem]) rfl ⟨rfl, ?_⟩
  rw [hq1.out, har1.out, hst1.out]
  exact step_fin h hS1 hF1 hc1 hrb.out.lt hWs.out hcW.size hE2' hR2 hN.out hP2 hrb3 hc3.out rfl
set_option maxRecDepth 100000 in
set_option maxHeartbeats 4000000 in
theorem step_rename (base bb d : Nat) (P : PD) (F Q : Nat → Prop) (o : Opr) (w : World) (h : BS w base bb d P F Q) (ho : OOk w base o) (_hb : o.b.length ≤ 1073741824) (_hk : o.keep.length ≤ 1073741824) (hk12 : o.kd % 12 = 5) :
    Calls Try.prog 15 #[.pointer (some ⟨bb, 0, none⟩), o.val] w fun e w' => e = .returned (.bool true) ∧ SPost base bb F Q w (stepM P o) w' := by
  obtain ⟨A, n, c, R, hrb, hR, hP⟩ := h.ref
  have hS := h.disk
  have hbbl := hrb.lt
  have hbl := h.low
  obtain ⟨W, hW⟩ : ∃ W, W = (w.alloc (.cells #[.int .u8 o.kd, .string ⟨o.name.toArray⟩, .string ⟨o.nto.toArray⟩, .slice o.BA o.b.length o.bc, .int .i64 o.a, .int .i64 o.n, .slice o.KA o.keep.length o.kc] 41)).alloc (.cells #[.slice A n c, .int .i64 P.quota, .int .i64 P.armed, .bool P.stopped] 36) := ⟨_, rfl⟩
  have hE : Ext w W := by rw [hW]; exact ((Ext.refl w).alloc _).alloc _
  have hWs : W.heap.size = w.heap.size + 2 := by rw [hW, size_alloc, size_alloc]
  have hob : Row W w.heap.size 41 #[.int .u8 o.kd, .string ⟨o.name.toArray⟩, .string ⟨o.nto.toArray⟩, .slice o.BA o.b.length o.bc, .int .i64 o.a, .int .i64 o.n, .slice o.KA o.keep.length o.kc] := by rw [hW]; exact (Row.new w _ _).alloc _
  have hnx : Row W (w.heap.size + 1) 36 #[.slice A n c, .int .i64 P.quota, .int .i64 P.armed, .bool P.stopped] := by
    have := Row.new (w.alloc (.cells #[.int .u8 o.kd, .string ⟨o.name.toArray⟩, .string ⟨o.nto.toArray⟩, .slice o.BA o.b.length o.bc, .int .i64 o.a, .int .i64 o.n, .slice o.KA o.keep.length o.kc] 41)) 36 #[.slice A n c, .int .i64 P.quota, .int .i64 P.armed, .bool P.stopped]
    rw [size_alloc] at this
    rw [hW]
    exact this
  have b1 : w.cell? ⟨bb, 1, none⟩ = some (.slice A n c) := hrb.cell 1 rfl
  have b2 : w.cell? ⟨bb, 2, none⟩ = some (.int .i64 P.quota) := hrb.cell 2 rfl
  have b3 : w.cell? ⟨bb, 3, none⟩ = some (.int .i64 P.armed) := hrb.cell 3 rfl
  have b4 : w.cell? ⟨bb, 4, none⟩ = some (.bool P.stopped) := hrb.cell 4 rfl
  have hrW := hrb.ext hE
  have B0 : W.cell? ⟨bb, 0, none⟩ = some (.pointer (some ⟨d, 0, none⟩)) := hrW.cell 0 rfl
  have o0 : W.cell? ⟨w.heap.size, 0, none⟩ = some (.int .u8 o.kd) := hob.cell 0 rfl
  have hWx := hide hW.symm
  clear hW
  have hNF : ∀ k, F k → k < w.heap.size := fun k hk => hS.lt hk
  have hPa : P.armed ≤ 9223372036854775807 := by obtain ⟨_, _, hh, _⟩ := hS; exact hh.ha
  have hPq : P.quota ≤ 9223372036854775807 := by obtain ⟨_, _, hh, _⟩ := hS; exact hh.hq
  have o1 : W.cell? ⟨w.heap.size, 1, none⟩ = some (.string ⟨o.name.toArray⟩) := hob.cell 1 rfl
  have o2 : W.cell? ⟨w.heap.size, 2, none⟩ = some (.string ⟨o.nto.toArray⟩) := hob.cell 2 rfl
  have hd := rename_any base d P F o.name o.nto W.drew (hS.ext hE.drew) ho.name ho.nto
  have hsm : stepM P o = (renameM P o.name o.nto).1 := by unfold stepM; rw [if_neg (by omega), if_pos hk12]
  rw [hsm]
  unfold Opr.val str
  try unfold str at hd
  replace hd := hide hd
  replace hsm := hide hsm
  replace hWs := hide hWs
  have hdo := ho.kd
  have hqk : (o.kd : Int) % 12 = 5 := by omega
  go_enter Try.func15, Try.ntmps15
  go_wp2_with fail
  rw [hWx.out]
  refine wp_region_text follows (by kernel_rfl) (by kernel_rfl) (fun K hK => ?_)
  go_wp2_with fail
  refine hd.out.mono ?_
  rintro e w1 ⟨rfl, hn1⟩
  obtain ⟨F1, hS1, hF1, hc1, hrb1, hR1⟩ := step_mid h hE.drew hn1 hrb hR
  have hcW : Chg F W w1 := by
    obtain ⟨_, _, h2, _⟩ := hn1
    exact (Chg.of_ext (Ext.refl W).drew F).trans h2 fun _ _ h => h
  have hob1 := hcW.row hob fun hh => by have := hNF _ hh; omega
  have hnx1 := hcW.row hnx fun hh => by have := hNF _ hh; omega
  have p1 : w1.cell? ⟨w.heap.size, 1, none⟩ = some (.string ⟨o.name.toArray⟩) := hob1.cell 1 rfl
  have p2 : w1.cell? ⟨w.heap.size, 2, none⟩ = some (.string ⟨o.nto.toArray⟩) := hob1.cell 2 rfl
  have B1 : w1.cell? ⟨bb, 1, none⟩ = some (.slice A n c) := hrb1.cell 1 rfl
  have B2 : w1.cell? ⟨bb, 2, none⟩ = some (.int .i64 P.quota) := hrb1.cell 2 rfl
  have B3 : w1.cell? ⟨bb, 3, none⟩ = some (.int .i64 P.armed) := hrb1.cell 3 rfl
  have B4 : w1.cell? ⟨bb, 4, none⟩ = some (.bool P.stopped) := hrb1.cell 4 rfl
  have hwsz : w.heap.size + 2 ≤ w1.heap.size := by rw [← hWs.out]; exact hcW.size
  obtain ⟨N, hN⟩ : ∃ N : Nat → Prop, N = fun k => F1 k ∨ Q k ∨ (w.heap.size ≤ k ∧ k < W.drew.heap.size) := ⟨_, rfl⟩
  rw [← hN] at hR1
  have hNlt : ∀ k, N k → k < w1.heap.size := by
    intro k hk
    rw [hN] at hk
    rcases hk with hk | hk | hk
    · exact hS1.lt hk
    · have := h.qlt k hk; omega
    · have : k < W.heap.size := hk.2
      rw [hWs.out] at this
      omega
  have hr := rrename_any N A n c P R o.name o.nto w1.drew (hR1.ext (Ext.refl w1).drew) hP hNlt ho.name ho.nto hPa
  unfold rdisk at hr
  try unfold str at hr
  replace hr := hide hr
  obtain ⟨cd, hcd⟩ : ∃ cd, cd = (renameM P o.name o.nto).2 := ⟨_, rfl⟩
  rw [← hcd]
  replace hcd := hide hcd
  have hBW := hn1
  replace hN := hide hN
  replace hBW := hide hBW
  replace hrb1 := hide hrb1
  replace hrb := hide hrb
  go_wp2_with fail
  refine ⟨by kernel_rfl, ?_⟩
  go_wp2_with fail
  refine wp_region_text follows (by kernel_rfl) (by kernel_rfl) (fun K hK => ?_)
  go_wp2_with fail
  refine hr.out.mono ?_
  rintro e w2 ⟨A2, n2, c2, R2, rfl, hR2, hP2, hE2⟩
  unfold rdisk
  obtain ⟨q1, hq1⟩ : ∃ q1, q1 = ((renameM P o.name o.nto).1.quota : Int) := ⟨_, rfl⟩
  obtain ⟨ar1, har1⟩ : ∃ q1, q1 = ((renameM P o.name o.nto).1.armed : Int) := ⟨_, rfl⟩
  obtain ⟨st1, hst1⟩ : ∃ q1, q1 = (renameM P o.name o.nto).1.stopped := ⟨_, rfl⟩
  rw [← hq1, ← har1, ← hst1, ← hcd.out]
  replace hq1 := hide hq1
  replace har1 := hide har1
  replace hst1 := hide hst1
  have hE2' : Ext w1 w2 := (Ext.refl w1).drew.trans hE2
  have hnx2 := hnx1.ext hE2'
  have hrb2 := hrb1.out.ext hE2'
  have x0 := hnx2.cell 0 rfl
  have x1 := hnx2.cell 1 rfl
  have x2 := hnx2.cell 2 rfl
  have x3 := hnx2.cell 3 rfl
  have y0 := hnx2.free 0
  have y1 := hnx2.free 1
  have y2 := hnx2.free 2
  have y3 := hnx2.free 3
  go_upto_region 37 with (fail)
  refine ⟨by kernel_rfl, ?_⟩
  obtain ⟨w3, hw3⟩ : ∃ w3, w3 = ((((w2.setCell ⟨w.heap.size + 1, 0, none⟩ (.slice A2 n2 c2)).setCell ⟨w.heap.size + 1, 1, none⟩ (.int .i64 q1)).setCell ⟨w.heap.size + 1, 2, none⟩ (.int .i64 ar1)).setCell ⟨w.heap.size + 1, 3, none⟩ (.bool st1)) := ⟨_, rfl⟩
  rw [← hw3]
  obtain ⟨hnx3, hc3⟩ := nx_put hnx2 hw3
  have hrb3 := hc3.row hrb2 (by have := hWx; omega)
  have u0 := hnx3.cell 0 rfl
  have u1 := hnx3.cell 1 rfl
  have u2 := hnx3.cell 2 rfl
  have u3 := hnx3.cell 3 rfl
  have v0 := hrb3.cell 0 rfl
  have v1 := hrb3.cell 1 rfl
  have v2 := hrb3.cell 2 rfl
  have v3 := hrb3.cell 3 rfl
  have v4 := hrb3.cell 4 rfl
  have g1 := hrb3.free 1
  have g2 := hrb3.free 2
  have g3 := hrb3.free 3
  have g4 := hrb3.free 4
  clear x0 x1 x2 x3 y0 y1 y2 y3
  replace hc3 := hide hc3
  clear hw3
  replace hE2 := hide hE2
  go_wp2_with fail
  refine bodyPost_ret (v := .bool true) (by simp [results, Try.results15, go_sem]) rfl ⟨rfl, ?_⟩
  rw [hq1.out, har1.out, hst1.out]
  exact step_fin h hS1 hF1 hc1 hrb.out.lt hWs.out hcW.size hE2' hR2 hN.out hP2 hrb3 hc3.out rfl
set_option maxRecDepth 100000 in
set_option maxHeartbeats 4000000 in
theorem step_remove (base bb d : Nat) (P : PD) (F Q : Nat → Prop) (o : Opr) (w : World) (h : BS w base bb d P F Q) (ho : OOk w base o) (_hb : o.b.length ≤ 1073741824) (_hk : o.keep.length ≤ 1073741824) (hk12 : o.kd % 12 = 6) :
    Calls Try.prog 15 #[.pointer (some ⟨bb, 0, none⟩), o.val] w fun e w' => e = .returned (.bool true) ∧ SPost base bb F Q w (stepM P o) w' := by
  obtain ⟨A, n, c, R, hrb, hR, hP⟩ := h.ref
  have hS := h.disk
  have hbbl := hrb.lt
  have hbl := h.low
  obtain ⟨W, hW⟩ : ∃ W, W = (w.alloc (.cells #[.int .u8 o.kd, .string ⟨o.name.toArray⟩, .string ⟨o.nto.toArray⟩, .slice o.BA o.b.length o.bc, .int .i64 o.a, .int .i64 o.n, .slice o.KA o.keep.length o.kc] 41)).alloc (.cells #[.slice A n c, .int .i64 P.quota, .int .i64 P.armed, .bool P.stopped] 36) := ⟨_, rfl⟩
  have hE : Ext w W := by rw [hW]; exact ((Ext.refl w).alloc _).alloc _
  have hWs : W.heap.size = w.heap.size + 2 := by rw [hW, size_alloc, size_alloc]
  have hob : Row W w.heap.size 41 #[.int .u8 o.kd, .string ⟨o.name.toArray⟩, .string ⟨o.nto.toArray⟩, .slice o.BA o.b.length o.bc, .int .i64 o.a, .int .i64 o.n, .slice o.KA o.keep.length o.kc] := by rw [hW]; exact (Row.new w _ _).alloc _
  have hnx : Row W (w.heap.size + 1) 36 #[.slice A n c, .int .i64 P.quota, .int .i64 P.armed, .bool P.stopped] := by
    have := Row.new (w.alloc (.cells #[.int .u8 o.kd, .string ⟨o.name.toArray⟩, .string ⟨o.nto.toArray⟩, .slice o.BA o.b.length o.bc, .int .i64 o.a, .int .i64 o.n, .slice o.KA o.keep.length o.kc] 41)) 36 #[.slice A n c, .int .i64 P.quota, .int .i64 P.armed, .bool P.stopped]
    rw [size_alloc] at this
    rw [hW]
    exact this
  have b1 : w.cell? ⟨bb, 1, none⟩ = some (.slice A n c) := hrb.cell 1 rfl
  have b2 : w.cell? ⟨bb, 2, none⟩ = some (.int .i64 P.quota) := hrb.cell 2 rfl
  have b3 : w.cell? ⟨bb, 3, none⟩ = some (.int .i64 P.armed) := hrb.cell 3 rfl
  have b4 : w.cell? ⟨bb, 4, none⟩ = some (.bool P.stopped) := hrb.cell 4 rfl
  have hrW := hrb.ext hE
  have B0 : W.cell? ⟨bb, 0, none⟩ = some (.pointer (some ⟨d, 0, none⟩)) := hrW.cell 0 rfl
  have o0 : W.cell? ⟨w.heap.size, 0, none⟩ = some (.int .u8 o.kd) := hob.cell 0 rfl
  have hWx := hide hW.symm
  clear hW
  have hNF : ∀ k, F k → k < w.heap.size := fun k hk => hS.lt hk
  have hPa : P.armed ≤ 9223372036854775807 := by obtain ⟨_, _, hh, _⟩ := hS; exact hh.ha
  have hPq : P.quota ≤ 9223372036854775807 := by obtain ⟨_, _, hh, _⟩ := hS; exact hh.hq
  have o1 : W.cell? ⟨w.heap.size, 1, none⟩ = some (.string ⟨o.name.toArray⟩) := hob.cell 1 rfl
  have hd := remove_any base d P F o.name W.drew (hS.ext hE.drew) ho.name
  have hsm : stepM P o = (removeM P o.name).1 := by unfold stepM; rw [if_neg (by omega), if_neg (by omega), if_pos hk12]
  rw [hsm]
  unfold Opr.val str
  try unfold str at hd
  replace hd := hide hd
  replace hsm := hide hsm
  replace hWs := hide hWs
  have hdo := ho.kd
  have hqk : (o.kd : Int) % 12 = 6 := by omega
  go_enter Try.func15, Try.ntmps15
  go_wp2_with fail
  rw [hWx.out]
  refine wp_region_text follows (by kernel_rfl) (by kernel_rfl) (fun K hK => ?_)
  go_wp2_with fail
  refine hd.out.mono ?_
  rintro e w1 ⟨rfl, hn1⟩
  obtain ⟨F1, hS1, hF1, hc1, hrb1, hR1⟩ := step_mid h hE.drew hn1 hrb hR
  have hcW : Chg F W w1 := by
    obtain ⟨_, _, h2, _⟩ := hn1
    exact (Chg.of_ext (Ext.refl W).drew F).trans h2 fun _ _ h => h
  have hob1 := hcW.row hob fun hh => by have := hNF _ hh; omega
  have hnx1 := hcW.row hnx fun hh => by have := hNF _ hh; omega
  have p1 : w1.cell? ⟨w.heap.size, 1, none⟩ = some (.string ⟨o.name.toArray⟩) := hob1.cell 1 rfl
  have B1 : w1.cell? ⟨bb, 1, none⟩ = some (.slice A n c) := hrb1.cell 1 rfl
  have B2 : w1.cell? ⟨bb, 2, none⟩ = some (.int .i64 P.quota) := hrb1.cell 2 rfl
  have B3 : w1.cell? ⟨bb, 3, none⟩ = some (.int .i64 P.armed) := hrb1.cell 3 rfl
  have B4 : w1.cell? ⟨bb, 4, none⟩ = some (.bool P.stopped) := hrb1.cell 4 rfl
  have hwsz : w.heap.size + 2 ≤ w1.heap.size := by rw [← hWs.out]; exact hcW.size
  obtain ⟨N, hN⟩ : ∃ N : Nat → Prop, N = fun k => F1 k ∨ Q k ∨ (w.heap.size ≤ k ∧ k < W.drew.heap.size) := ⟨_, rfl⟩
  rw [← hN] at hR1
  have hNlt : ∀ k, N k → k < w1.heap.size := by
    intro k hk
    rw [hN] at hk
    rcases hk with hk | hk | hk
    · exact hS1.lt hk
    · have := h.qlt k hk; omega
    · have : k < W.heap.size := hk.2
      rw [hWs.out] at this
      omega
  have hr := rremove_any N A n c P R o.name w1.drew (hR1.ext (Ext.refl w1).drew) hP hNlt ho.name hPa
  unfold rdisk at hr
  try unfold str at hr
  replace hr := hide hr
  obtain ⟨cd, hcd⟩ : ∃ cd, cd = (removeM P o.name).2 := ⟨_, rfl⟩
  rw [← hcd]
  replace hcd := hide hcd
  have hBW := hn1
  replace hN := hide hN
  replace hBW := hide hBW
  replace hrb1 := hide hrb1
  replace hrb := hide hrb
  go_wp2_with fail
  refine ⟨by kernel_rfl, ?_⟩
  go_wp2_with fail
  refine wp_region_text follows (by kernel_rfl) (by kernel_rfl) (fun K hK => ?_)
  go_wp2_with fail
  refine hr.out.mono ?_
  rintro e w2 ⟨A2, n2, c2, R2, rfl, hR2, hP2, hE2⟩
  unfold rdisk
  obtain ⟨q1, hq1⟩ : ∃ q1, q1 = ((removeM P o.name).1.quota : Int) := ⟨_, rfl⟩
  obtain ⟨ar1, har1⟩ : ∃ q1, q1 = ((removeM P o.name).1.armed : Int) := ⟨_, rfl⟩
  obtain ⟨st1, hst1⟩ : ∃ q1, q1 = (removeM P o.name).1.stopped := ⟨_, rfl⟩
  rw [← hq1, ← har1, ← hst1, ← hcd.out]
  replace hq1 := hide hq1
  replace har1 := hide har1
  replace hst1 := hide hst1
  have hE2' : Ext w1 w2 := (Ext.refl w1).drew.trans hE2
  have hnx2 := hnx1.ext hE2'
  have hrb2 := hrb1.out.ext hE2'
  have x0 := hnx2.cell 0 rfl
  have x1 := hnx2.cell 1 rfl
  have x2 := hnx2.cell 2 rfl
  have x3 := hnx2.cell 3 rfl
  have y0 := hnx2.free 0
  have y1 := hnx2.free 1
  have y2 := hnx2.free 2
  have y3 := hnx2.free 3
  go_upto_region 37 with (fail)
  refine ⟨by kernel_rfl, ?_⟩
  obtain ⟨w3, hw3⟩ : ∃ w3, w3 = ((((w2.setCell ⟨w.heap.size + 1, 0, none⟩ (.slice A2 n2 c2)).setCell ⟨w.heap.size + 1, 1, none⟩ (.int .i64 q1)).setCell ⟨w.heap.size + 1, 2, none⟩ (.int .i64 ar1)).setCell ⟨w.heap.size + 1, 3, none⟩ (.bool st1)) := ⟨_, rfl⟩
  rw [← hw3]
  obtain ⟨hnx3, hc3⟩ := nx_put hnx2 hw3
  have hrb3 := hc3.row hrb2 (by have := hWx; omega)
  have u0 := hnx3.cell 0 rfl
  have u1 := hnx3.cell 1 rfl
  have u2 := hnx3.cell 2 rfl
  have u3 := hnx3.cell 3 rfl
  have v0 := hrb3.cell 0 rfl
  have v1 := hrb3.cell 1 rfl
  have v2 := hrb3.cell 2 rfl
  have v3 := hrb3.cell 3 rfl
  have v4 := hrb3.cell 4 rfl
  have g1 := hrb3.free 1
  have g2 := hrb3.free 2
  have g3 := hrb3.free 3
  have g4 := hrb3.free 4
  clear x0 x1 x2 x3 y0 y1 y2 y3
  replace hc3 := hide hc3
  clear hw3
  replace hE2 := hide hE2
  go_wp2_with fail
  refine bodyPost_ret (v := .bool true) (by simp [results, Try.results15, go_sem]) rfl ⟨rfl, ?_⟩
  rw [hq1.out, har1.out, hst1.out]
  exact step_fin h hS1 hF1 hc1 hrb.out.lt hWs.out hcW.size hE2' hR2 hN.out hP2 hrb3 hc3.out rfl
end Go.Proofs.Yticnncgbfpgeaaa

/- loggialaw06: a step of both disks. -/
namespace Go.Proofs.Yticnncgbfpgeaaa
open Go.RowKit Go.Maps

set_option maxRecDepth 100000 in
set_option maxHeartbeats 4000000 in
theorem step_append (base bb d : Nat) (P : PD) (F Q : Nat → Prop) (o : Opr) (w : World) (h : BS w base bb d P F Q) (ho : OOk w base o) (hb : o.b.length ≤ 1073741824) (_hk : o.keep.length ≤ 1073741824) (hk12 : o.kd % 12 < 4) :
    Calls Try.prog 15 #[.pointer (some ⟨bb, 0, none⟩), o.val] w fun e w' => e = .returned (.bool true) ∧ SPost base bb F Q w (stepM P o) w' := by
  obtain ⟨A, n, c, R, hrb, hR, hP⟩ := h.ref
  have hS := h.disk
  have hbbl := hrb.lt
  have hbl := h.low
  obtain ⟨W, hW⟩ : ∃ W, W = (w.alloc (.cells #[.int .u8 o.kd, .string ⟨o.name.toArray⟩, .string ⟨o.nto.toArray⟩, .slice o.BA o.b.length o.bc, .int .i64 o.a, .int .i64 o.n, .slice o.KA o.keep.length o.kc] 41)).alloc (.cells #[.slice A n c, .int .i64 P.quota, .int .i64 P.armed, .bool P.stopped] 36) := ⟨_, rfl⟩
  have hE : Ext w W := by rw [hW]; exact ((Ext.refl w).alloc _).alloc _
  have hWs : W.heap.size = w.heap.size + 2 := by rw [hW, size_alloc, size_alloc]
  have hob : Row W w.heap.size 41 #[.int .u8 o.kd, .string ⟨o.name.toArray⟩, .string ⟨o.nto.toArray⟩, .slice o.BA o.b.length o.bc, .int .i64 o.a, .int .i64 o.n, .slice o.KA o.keep.length o.kc] := by rw [hW]; exact (Row.new w _ _).alloc _
  have hnx : Row W (w.heap.size + 1) 36 #[.slice A n c, .int .i64 P.quota, .int .i64 P.armed, .bool P.stopped] := by
    have := Row.new (w.alloc (.cells #[.int .u8 o.kd, .string ⟨o.name.toArray⟩, .string ⟨o.nto.toArray⟩, .slice o.BA o.b.length o.bc, .int .i64 o.a, .int .i64 o.n, .slice o.KA o.keep.length o.kc] 41)) 36 #[.slice A n c, .int .i64 P.quota, .int .i64 P.armed, .bool P.stopped]
    rw [size_alloc] at this
    rw [hW]
    exact this
  have b1 : w.cell? ⟨bb, 1, none⟩ = some (.slice A n c) := hrb.cell 1 rfl
  have b2 : w.cell? ⟨bb, 2, none⟩ = some (.int .i64 P.quota) := hrb.cell 2 rfl
  have b3 : w.cell? ⟨bb, 3, none⟩ = some (.int .i64 P.armed) := hrb.cell 3 rfl
  have b4 : w.cell? ⟨bb, 4, none⟩ = some (.bool P.stopped) := hrb.cell 4 rfl
  have hrW := hrb.ext hE
  have B0 : W.cell? ⟨bb, 0, none⟩ = some (.pointer (some ⟨d, 0, none⟩)) := hrW.cell 0 rfl
  have o0 : W.cell? ⟨w.heap.size, 0, none⟩ = some (.int .u8 o.kd) := hob.cell 0 rfl
  have hWx := hide hW.symm
  clear hW
  have hNF : ∀ k, F k → k < w.heap.size := fun k hk => hS.lt hk
  have hPa : P.armed ≤ 9223372036854775807 := by obtain ⟨_, _, hh, _⟩ := hS; exact hh.ha
  have hPq : P.quota ≤ 9223372036854775807 := by obtain ⟨_, _, hh, _⟩ := hS; exact hh.hq
  have o1 : W.cell? ⟨w.heap.size, 1, none⟩ = some (.string ⟨o.name.toArray⟩) := hob.cell 1 rfl
  have o3 : W.cell? ⟨w.heap.size, 3, none⟩ = some (.slice o.BA o.b.length o.bc) := hob.cell 3 rfl
  have hd := append_any0 base d P F o.name o.b o.BA o.b.length o.bc W.drew (hS.ext hE.drew) ho.name ((Chg.of_ext hE.drew (fun _ => False)).cells ho.bytes fun _ _ h => h) (fun hne a ha hf => by have := (ho.ba hne a ha).1; have := hS.base_le hf; omega) rfl hb (by have := hE.drew.size; omega)
  have hsm : stepM P o = (appendM P o.name o.b).1 := by unfold stepM; rw [if_neg (by omega), if_neg (by omega), if_neg (by omega), if_neg (by omega), if_neg (by omega), if_neg (by omega), if_neg (by omega), if_neg (by omega)]
  rw [hsm]
  unfold Opr.val str
  try unfold str at hd
  replace hd := hide hd
  replace hsm := hide hsm
  replace hWs := hide hWs
  have hdo := ho.kd
  have hn4 : decide ((o.kd : Int) % 12 = 4) = false := decide_eq_false (by omega)
  have hn5 : decide ((o.kd : Int) % 12 = 5) = false := decide_eq_false (by omega)
  have hn6 : decide ((o.kd : Int) % 12 = 6) = false := decide_eq_false (by omega)
  have hn7 : decide ((o.kd : Int) % 12 = 7) = false := decide_eq_false (by omega)
  have hn8 : decide ((o.kd : Int) % 12 = 8) = false := decide_eq_false (by omega)
  have hn9 : decide ((o.kd : Int) % 12 = 9) = false := decide_eq_false (by omega)
  have hn10 : decide ((o.kd : Int) % 12 = 10) = false := decide_eq_false (by omega)
  have hn11 : decide ((o.kd : Int) % 12 = 11) = false := decide_eq_false (by omega)
  go_enter Try.func15, Try.ntmps15
  go_wp2_with fail
  rw [hWx.out]
  refine wp_region_text follows (by kernel_rfl) (by kernel_rfl) (fun K hK => ?_)
  go_wp2_with fail
  refine hd.out.mono ?_
  rintro e w1 ⟨rfl, hn1⟩
  obtain ⟨F1, hS1, hF1, hc1, hrb1, hR1⟩ := step_mid h hE.drew hn1 hrb hR
  have hcW : Chg F W w1 := by
    obtain ⟨_, _, h2, _⟩ := hn1
    exact (Chg.of_ext (Ext.refl W).drew F).trans h2 fun _ _ h => h
  have hob1 := hcW.row hob fun hh => by have := hNF _ hh; omega
  have hnx1 := hcW.row hnx fun hh => by have := hNF _ hh; omega
  have p1 : w1.cell? ⟨w.heap.size, 1, none⟩ = some (.string ⟨o.name.toArray⟩) := hob1.cell 1 rfl
  have p3 : w1.cell? ⟨w.heap.size, 3, none⟩ = some (.slice o.BA o.b.length o.bc) := hob1.cell 3 rfl
  have B1 : w1.cell? ⟨bb, 1, none⟩ = some (.slice A n c) := hrb1.cell 1 rfl
  have B2 : w1.cell? ⟨bb, 2, none⟩ = some (.int .i64 P.quota) := hrb1.cell 2 rfl
  have B3 : w1.cell? ⟨bb, 3, none⟩ = some (.int .i64 P.armed) := hrb1.cell 3 rfl
  have B4 : w1.cell? ⟨bb, 4, none⟩ = some (.bool P.stopped) := hrb1.cell 4 rfl
  have hwsz : w.heap.size + 2 ≤ w1.heap.size := by rw [← hWs.out]; exact hcW.size
  obtain ⟨N, hN⟩ : ∃ N : Nat → Prop, N = fun k => F1 k ∨ Q k ∨ (w.heap.size ≤ k ∧ k < W.drew.heap.size) := ⟨_, rfl⟩
  rw [← hN] at hR1
  have hNlt : ∀ k, N k → k < w1.heap.size := by
    intro k hk
    rw [hN] at hk
    rcases hk with hk | hk | hk
    · exact hS1.lt hk
    · have := h.qlt k hk; omega
    · have : k < W.heap.size := hk.2
      rw [hWs.out] at this
      omega
  have hBs1 : Bs w1 o.BA o.b := ho.bytes_chg hc1 fun k hk hf => by have := hS.base_le hf; omega
  have hr := rappend_any N A n c P R o.name o.b o.BA o.b.length o.bc w1.drew (hR1.ext (Ext.refl w1).drew) hP hNlt ho.name hPa (hBs1) rfl hb hPq
  unfold rdisk at hr
  try unfold str at hr
  replace hr := hide hr
  obtain ⟨cd, hcd⟩ : ∃ cd, cd = (appendM P o.name o.b).2 := ⟨_, rfl⟩
  rw [← hcd]
  replace hcd := hide hcd
  have hBW := hn1
  replace hN := hide hN
  replace hBW := hide hBW
  replace hrb1 := hide hrb1
  replace hrb := hide hrb
  go_wp2_with fail
  refine ⟨by kernel_rfl, ?_⟩
  go_wp2_with fail
  refine wp_region_text follows (by kernel_rfl) (by kernel_rfl) (fun K hK => ?_)
  go_wp2_with fail
  refine hr.out.mono ?_
  rintro e w2 ⟨A2, n2, c2, R2, rfl, hR2, hP2, hE2⟩
  unfold rdisk
  obtain ⟨q1, hq1⟩ : ∃ q1, q1 = ((appendM P o.name o.b).1.quota : Int) := ⟨_, rfl⟩
  obtain ⟨ar1, har1⟩ : ∃ q1, q1 = ((appendM P o.name o.b).1.armed : Int) := ⟨_, rfl⟩
  obtain ⟨st1, hst1⟩ : ∃ q1, q1 = (appendM P o.name o.b).1.stopped := ⟨_, rfl⟩
  rw [← hq1, ← har1, ← hst1, ← hcd.out]
  replace hq1 := hide hq1
  replace har1 := hide har1
  replace hst1 := hide hst1
  have hE2' : Ext w1 w2 := (Ext.refl w1).drew.trans hE2
  have hnx2 := hnx1.ext hE2'
  have hrb2 := hrb1.out.ext hE2'
  have x0 := hnx2.cell 0 rfl
  have x1 := hnx2.cell 1 rfl
  have x2 := hnx2.cell 2 rfl
  have x3 := hnx2.cell 3 rfl
  have y0 := hnx2.free 0
  have y1 := hnx2.free 1
  have y2 := hnx2.free 2
  have y3 := hnx2.free 3
  go_upto_region 37 with (fail)
  refine ⟨by kernel_rfl, ?_⟩
  obtain ⟨w3, hw3⟩ : ∃ w3, w3 = ((((w2.setCell ⟨w.heap.size + 1, 0, none⟩ (.slice A2 n2 c2)).setCell ⟨w.heap.size + 1, 1, none⟩ (.int .i64 q1)).setCell ⟨w.heap.size + 1, 2, none⟩ (.int .i64 ar1)).setCell ⟨w.heap.size + 1, 3, none⟩ (.bool st1)) := ⟨_, rfl⟩
  rw [← hw3]
  obtain ⟨hnx3, hc3⟩ := nx_put hnx2 hw3
  have hrb3 := hc3.row hrb2 (by have := hWx; omega)
  have u0 := hnx3.cell 0 rfl
  have u1 := hnx3.cell 1 rfl
  have u2 := hnx3.cell 2 rfl
  have u3 := hnx3.cell 3 rfl
  have v0 := hrb3.cell 0 rfl
  have v1 := hrb3.cell 1 rfl
  have v2 := hrb3.cell 2 rfl
  have v3 := hrb3.cell 3 rfl
  have v4 := hrb3.cell 4 rfl
  have g1 := hrb3.free 1
  have g2 := hrb3.free 2
  have g3 := hrb3.free 3
  have g4 := hrb3.free 4
  clear x0 x1 x2 x3 y0 y1 y2 y3
  replace hc3 := hide hc3
  clear hw3
  replace hE2 := hide hE2
  go_wp2_with fail
  refine bodyPost_ret (v := .bool true) (by simp [results, Try.results15, go_sem]) rfl ⟨rfl, ?_⟩
  rw [hq1.out, har1.out, hst1.out]
  exact step_fin h hS1 hF1 hc1 hrb.out.lt hWs.out hcW.size hE2' hR2 hN.out hP2 hrb3 hc3.out rfl
end Go.Proofs.Yticnncgbfpgeaaa

/- loggialaw06: a step of both disks. -/
namespace Go.Proofs.Yticnncgbfpgeaaa
open Go.RowKit Go.Maps

/-- What the document's disk is then. -/
def NxPost (N : Nat → Prop) (P' : PD) (w : World) (e : Ending) (w' : World) : Prop := ∃ A2 n2 c2 R2 q1 ar1 st1, e = .returned (.agg #[.slice A2 n2 c2, .int .i64 q1, .int .i64 ar1, .bool st1]) ∧ q1 = (P'.quota : Int) ∧ ar1 = (P'.armed : Int) ∧ st1 = P'.stopped ∧ RS w' N A2 n2 c2 R2 ∧ R2.map RE.pl = P'.L ∧ Ext w w'
set_option maxRecDepth 100000 in
set_option maxHeartbeats 4000000 in
theorem step_arm (base bb d : Nat) (P : PD) (F Q : Nat → Prop) (o : Opr) (w : World) (h : BS w base bb d P F Q) (ho : OOk w base o) (_hb : o.b.length ≤ 1073741824) (_hk : o.keep.length ≤ 1073741824) (hk12 : o.kd % 12 = 8) :
    Calls Try.prog 15 #[.pointer (some ⟨bb, 0, none⟩), o.val] w fun e w' => e = .returned (.bool true) ∧ SPost base bb F Q w (stepM P o) w' := by
  obtain ⟨A, n, c, R, hrb, hR, hP⟩ := h.ref
  have hS := h.disk
  have hbbl := hrb.lt
  have hbl := h.low
  obtain ⟨W, hW⟩ : ∃ W, W = (w.alloc (.cells #[.int .u8 o.kd, .string ⟨o.name.toArray⟩, .string ⟨o.nto.toArray⟩, .slice o.BA o.b.length o.bc, .int .i64 o.a, .int .i64 o.n, .slice o.KA o.keep.length o.kc] 41)).alloc (.cells #[.slice A n c, .int .i64 P.quota, .int .i64 P.armed, .bool P.stopped] 36) := ⟨_, rfl⟩
  have hE : Ext w W := by rw [hW]; exact ((Ext.refl w).alloc _).alloc _
  have hWs : W.heap.size = w.heap.size + 2 := by rw [hW, size_alloc, size_alloc]
  have hob : Row W w.heap.size 41 #[.int .u8 o.kd, .string ⟨o.name.toArray⟩, .string ⟨o.nto.toArray⟩, .slice o.BA o.b.length o.bc, .int .i64 o.a, .int .i64 o.n, .slice o.KA o.keep.length o.kc] := by rw [hW]; exact (Row.new w _ _).alloc _
  have hnx : Row W (w.heap.size + 1) 36 #[.slice A n c, .int .i64 P.quota, .int .i64 P.armed, .bool P.stopped] := by
    have := Row.new (w.alloc (.cells #[.int .u8 o.kd, .string ⟨o.name.toArray⟩, .string ⟨o.nto.toArray⟩, .slice o.BA o.b.length o.bc, .int .i64 o.a, .int .i64 o.n, .slice o.KA o.keep.length o.kc] 41)) 36 #[.slice A n c, .int .i64 P.quota, .int .i64 P.armed, .bool P.stopped]
    rw [size_alloc] at this
    rw [hW]
    exact this
  have b1 : w.cell? ⟨bb, 1, none⟩ = some (.slice A n c) := hrb.cell 1 rfl
  have b2 : w.cell? ⟨bb, 2, none⟩ = some (.int .i64 P.quota) := hrb.cell 2 rfl
  have b3 : w.cell? ⟨bb, 3, none⟩ = some (.int .i64 P.armed) := hrb.cell 3 rfl
  have b4 : w.cell? ⟨bb, 4, none⟩ = some (.bool P.stopped) := hrb.cell 4 rfl
  have hrW := hrb.ext hE
  have B0 : W.cell? ⟨bb, 0, none⟩ = some (.pointer (some ⟨d, 0, none⟩)) := hrW.cell 0 rfl
  have o0 : W.cell? ⟨w.heap.size, 0, none⟩ = some (.int .u8 o.kd) := hob.cell 0 rfl
  have hWx := hide hW.symm
  clear hW
  have hNF : ∀ k, F k → k < w.heap.size := fun k hk => hS.lt hk
  have hPa : P.armed ≤ 9223372036854775807 := by obtain ⟨_, _, hh, _⟩ := hS; exact hh.ha
  have hPq : P.quota ≤ 9223372036854775807 := by obtain ⟨_, _, hh, _⟩ := hS; exact hh.hq
  have o4 : W.cell? ⟨w.heap.size, 4, none⟩ = some (.int .i64 o.a) := hob.cell 4 rfl
  have hd := arm_any base d P F o.a W.drew (hS.ext hE.drew) ho.a.2
  have hsm : stepM P o = { P with armed := o.a.toNat } := by unfold stepM; rw [if_neg (by omega), if_neg (by omega), if_neg (by omega), if_neg (by omega), if_pos hk12]
  rw [hsm]
  unfold Opr.val str
  try unfold str at hd
  replace hd := hide hd
  replace hsm := hide hsm
  replace hWs := hide hWs
  have hdo := ho.kd
  have hqk : (o.kd : Int) % 12 = 8 := by omega
  go_enter Try.func15, Try.ntmps15
  go_wp2_with fail
  rw [hWx.out]
  refine wp_region_text follows (by kernel_rfl) (by kernel_rfl) (fun K hK => ?_)
  go_wp2_with fail
  refine hd.out.mono ?_
  rintro e w1 ⟨rfl, hn1⟩
  obtain ⟨F1, hS1, hF1, hc1, hrb1, hR1⟩ := step_mid h hE.drew hn1 hrb hR
  have hcW : Chg F W w1 := by
    obtain ⟨_, _, h2, _⟩ := hn1
    exact (Chg.of_ext (Ext.refl W).drew F).trans h2 fun _ _ h => h
  have hob1 := hcW.row hob fun hh => by have := hNF _ hh; omega
  have hnx1 := hcW.row hnx fun hh => by have := hNF _ hh; omega
  have p4 : w1.cell? ⟨w.heap.size, 4, none⟩ = some (.int .i64 o.a) := hob1.cell 4 rfl
  have B1 : w1.cell? ⟨bb, 1, none⟩ = some (.slice A n c) := hrb1.cell 1 rfl
  have B2 : w1.cell? ⟨bb, 2, none⟩ = some (.int .i64 P.quota) := hrb1.cell 2 rfl
  have B3 : w1.cell? ⟨bb, 3, none⟩ = some (.int .i64 P.armed) := hrb1.cell 3 rfl
  have B4 : w1.cell? ⟨bb, 4, none⟩ = some (.bool P.stopped) := hrb1.cell 4 rfl
  have hwsz : w.heap.size + 2 ≤ w1.heap.size := by rw [← hWs.out]; exact hcW.size
  obtain ⟨N, hN⟩ : ∃ N : Nat → Prop, N = fun k => F1 k ∨ Q k ∨ (w.heap.size ≤ k ∧ k < W.drew.heap.size) := ⟨_, rfl⟩
  rw [← hN] at hR1
  have hNlt : ∀ k, N k → k < w1.heap.size := by
    intro k hk
    rw [hN] at hk
    rcases hk with hk | hk | hk
    · exact hS1.lt hk
    · have := h.qlt k hk; omega
    · have : k < W.heap.size := hk.2
      rw [hWs.out] at this
      omega
  have hr := (rarm_any A n c P.quota P.armed P.stopped o.a w1.drew).mono (R' := NxPost N { P with armed := o.a.toNat } w1.drew) (by rintro e w2 ⟨rfl, hE2⟩; exact ⟨A, n, c, R, _, _, _, rfl, rfl, rfl, rfl, (hR1.ext (Ext.refl w1).drew).ext hE2, hP, hE2⟩)
  unfold rdisk at hr
  try unfold str at hr
  replace hr := hide hr
  have hBW := hn1
  replace hN := hide hN
  replace hBW := hide hBW
  replace hrb1 := hide hrb1
  replace hrb := hide hrb
  go_wp2_with fail
  refine ⟨by kernel_rfl, ?_⟩
  go_wp2_with fail
  refine wp_region_text follows (by kernel_rfl) (by kernel_rfl) (fun K hK => ?_)
  go_wp2_with fail
  refine hr.out.mono ?_
  rintro e w2 ⟨A2, n2, c2, R2, q1, ar1, st1, rfl, hq1, har1, hst1, hR2, hP2, hE2⟩
  replace hq1 := hide hq1
  replace har1 := hide har1
  replace hst1 := hide hst1
  have hE2' : Ext w1 w2 := (Ext.refl w1).drew.trans hE2
  have hnx2 := hnx1.ext hE2'
  have hrb2 := hrb1.out.ext hE2'
  have x0 := hnx2.cell 0 rfl
  have x1 := hnx2.cell 1 rfl
  have x2 := hnx2.cell 2 rfl
  have x3 := hnx2.cell 3 rfl
  have y0 := hnx2.free 0
  have y1 := hnx2.free 1
  have y2 := hnx2.free 2
  have y3 := hnx2.free 3
  go_upto_region 37 with (fail)
  refine ⟨by kernel_rfl, ?_⟩
  obtain ⟨w3, hw3⟩ : ∃ w3, w3 = ((((w2.setCell ⟨w.heap.size + 1, 0, none⟩ (.slice A2 n2 c2)).setCell ⟨w.heap.size + 1, 1, none⟩ (.int .i64 q1)).setCell ⟨w.heap.size + 1, 2, none⟩ (.int .i64 ar1)).setCell ⟨w.heap.size + 1, 3, none⟩ (.bool st1)) := ⟨_, rfl⟩
  rw [← hw3]
  obtain ⟨hnx3, hc3⟩ := nx_put hnx2 hw3
  have hrb3 := hc3.row hrb2 (by have := hWx; omega)
  have u0 := hnx3.cell 0 rfl
  have u1 := hnx3.cell 1 rfl
  have u2 := hnx3.cell 2 rfl
  have u3 := hnx3.cell 3 rfl
  have v0 := hrb3.cell 0 rfl
  have v1 := hrb3.cell 1 rfl
  have v2 := hrb3.cell 2 rfl
  have v3 := hrb3.cell 3 rfl
  have v4 := hrb3.cell 4 rfl
  have g1 := hrb3.free 1
  have g2 := hrb3.free 2
  have g3 := hrb3.free 3
  have g4 := hrb3.free 4
  clear x0 x1 x2 x3 y0 y1 y2 y3
  replace hc3 := hide hc3
  clear hw3
  replace hE2 := hide hE2
  go_wp2_with fail
  refine bodyPost_ret (v := .bool true) (by simp [results, Try.results15, go_sem]) rfl ⟨rfl, ?_⟩
  rw [hq1.out, har1.out, hst1.out]
  exact step_fin h hS1 hF1 hc1 hrb.out.lt hWs.out hcW.size hE2' hR2 hN.out hP2 hrb3 hc3.out rfl
end Go.Proofs.Yticnncgbfpgeaaa

/- loggialaw06: a step of both disks. -/
namespace Go.Proofs.Yticnncgbfpgeaaa
open Go.RowKit Go.Maps

set_option maxRecDepth 100000 in
set_option maxHeartbeats 4000000 in
theorem step_restart (base bb d : Nat) (P : PD) (F Q : Nat → Prop) (o : Opr) (w : World) (h : BS w base bb d P F Q) (ho : OOk w base o) (_hb : o.b.length ≤ 1073741824) (hk : o.keep.length ≤ 1073741824) (hk12 : o.kd % 12 = 9) :
    Calls Try.prog 15 #[.pointer (some ⟨bb, 0, none⟩), o.val] w fun e w' => e = .returned (.bool true) ∧ SPost base bb F Q w (stepM P o) w' := by
  obtain ⟨A, n, c, R, hrb, hR, hP⟩ := h.ref
  have hS := h.disk
  have hbbl := hrb.lt
  have hbl := h.low
  obtain ⟨W, hW⟩ : ∃ W, W = (w.alloc (.cells #[.int .u8 o.kd, .string ⟨o.name.toArray⟩, .string ⟨o.nto.toArray⟩, .slice o.BA o.b.length o.bc, .int .i64 o.a, .int .i64 o.n, .slice o.KA o.keep.length o.kc] 41)).alloc (.cells #[.slice A n c, .int .i64 P.quota, .int .i64 P.armed, .bool P.stopped] 36) := ⟨_, rfl⟩
  have hE : Ext w W := by rw [hW]; exact ((Ext.refl w).alloc _).alloc _
  have hWs : W.heap.size = w.heap.size + 2 := by rw [hW, size_alloc, size_alloc]
  have hob : Row W w.heap.size 41 #[.int .u8 o.kd, .string ⟨o.name.toArray⟩, .string ⟨o.nto.toArray⟩, .slice o.BA o.b.length o.bc, .int .i64 o.a, .int .i64 o.n, .slice o.KA o.keep.length o.kc] := by rw [hW]; exact (Row.new w _ _).alloc _
  have hnx : Row W (w.heap.size + 1) 36 #[.slice A n c, .int .i64 P.quota, .int .i64 P.armed, .bool P.stopped] := by
    have := Row.new (w.alloc (.cells #[.int .u8 o.kd, .string ⟨o.name.toArray⟩, .string ⟨o.nto.toArray⟩, .slice o.BA o.b.length o.bc, .int .i64 o.a, .int .i64 o.n, .slice o.KA o.keep.length o.kc] 41)) 36 #[.slice A n c, .int .i64 P.quota, .int .i64 P.armed, .bool P.stopped]
    rw [size_alloc] at this
    rw [hW]
    exact this
  have b1 : w.cell? ⟨bb, 1, none⟩ = some (.slice A n c) := hrb.cell 1 rfl
  have b2 : w.cell? ⟨bb, 2, none⟩ = some (.int .i64 P.quota) := hrb.cell 2 rfl
  have b3 : w.cell? ⟨bb, 3, none⟩ = some (.int .i64 P.armed) := hrb.cell 3 rfl
  have b4 : w.cell? ⟨bb, 4, none⟩ = some (.bool P.stopped) := hrb.cell 4 rfl
  have hrW := hrb.ext hE
  have B0 : W.cell? ⟨bb, 0, none⟩ = some (.pointer (some ⟨d, 0, none⟩)) := hrW.cell 0 rfl
  have o0 : W.cell? ⟨w.heap.size, 0, none⟩ = some (.int .u8 o.kd) := hob.cell 0 rfl
  have hWx := hide hW.symm
  clear hW
  have hNF : ∀ k, F k → k < w.heap.size := fun k hk => hS.lt hk
  have hPa : P.armed ≤ 9223372036854775807 := by obtain ⟨_, _, hh, _⟩ := hS; exact hh.ha
  have hPq : P.quota ≤ 9223372036854775807 := by obtain ⟨_, _, hh, _⟩ := hS; exact hh.hq
  have o6 : W.cell? ⟨w.heap.size, 6, none⟩ = some (.slice o.KA o.keep.length o.kc) := hob.cell 6 rfl
  have hd := restart_any0 base d P F o.KA o.keep.length o.kc o.keep W.drew (hS.ext hE.drew) ((Chg.of_ext hE.drew (fun _ => False)).cells ho.keep fun _ _ h => h) (fun hne a ha hf => by have := (ho.ka hne a ha).1; have := hS.base_le hf; omega) rfl ho.kb hk
  have hsm : stepM P o = restartM P o.keep := by unfold stepM; rw [if_neg (by omega), if_neg (by omega), if_neg (by omega), if_neg (by omega), if_neg (by omega), if_pos hk12]
  rw [hsm]
  unfold Opr.val str
  try unfold str at hd
  replace hd := hide hd
  replace hsm := hide hsm
  replace hWs := hide hWs
  have hdo := ho.kd
  have hqk : (o.kd : Int) % 12 = 9 := by omega
  go_enter Try.func15, Try.ntmps15
  go_wp2_with fail
  rw [hWx.out]
  refine wp_region_text follows (by kernel_rfl) (by kernel_rfl) (fun K hK => ?_)
  go_wp2_with fail
  refine hd.out.mono ?_
  rintro e w1 ⟨rfl, hn1⟩
  obtain ⟨F1, hS1, hF1, hc1, hrb1, hR1⟩ := step_mid h hE.drew hn1 hrb hR
  have hcW : Chg F W w1 := by
    obtain ⟨_, _, h2, _⟩ := hn1
    exact (Chg.of_ext (Ext.refl W).drew F).trans h2 fun _ _ h => h
  have hob1 := hcW.row hob fun hh => by have := hNF _ hh; omega
  have hnx1 := hcW.row hnx fun hh => by have := hNF _ hh; omega
  have p6 : w1.cell? ⟨w.heap.size, 6, none⟩ = some (.slice o.KA o.keep.length o.kc) := hob1.cell 6 rfl
  have B1 : w1.cell? ⟨bb, 1, none⟩ = some (.slice A n c) := hrb1.cell 1 rfl
  have B2 : w1.cell? ⟨bb, 2, none⟩ = some (.int .i64 P.quota) := hrb1.cell 2 rfl
  have B3 : w1.cell? ⟨bb, 3, none⟩ = some (.int .i64 P.armed) := hrb1.cell 3 rfl
  have B4 : w1.cell? ⟨bb, 4, none⟩ = some (.bool P.stopped) := hrb1.cell 4 rfl
  have hwsz : w.heap.size + 2 ≤ w1.heap.size := by rw [← hWs.out]; exact hcW.size
  obtain ⟨N, hN⟩ : ∃ N : Nat → Prop, N = fun k => F1 k ∨ Q k ∨ (w.heap.size ≤ k ∧ k < W.drew.heap.size) := ⟨_, rfl⟩
  rw [← hN] at hR1
  have hNlt : ∀ k, N k → k < w1.heap.size := by
    intro k hk
    rw [hN] at hk
    rcases hk with hk | hk | hk
    · exact hS1.lt hk
    · have := h.qlt k hk; omega
    · have : k < W.heap.size := hk.2
      rw [hWs.out] at this
      omega
  have hKs1 : Cells w1 o.KA (o.keep.map I64) := ho.keep_chg hc1 fun k hk hf => by have := hS.base_le hf; omega
  have hr := (rrestart_any N A n c P.quota P.armed P.stopped R o.KA o.keep.length o.kc o.keep w1.drew (hR1.ext (Ext.refl w1).drew) hNlt hKs1 rfl ho.kb hk).mono (R' := NxPost N (restartM P o.keep) w1.drew) (by rintro e w2 ⟨A2, n2, c2, rfl, hR2, hE2⟩; exact ⟨A2, n2, c2, _, _, _, _, rfl, rfl, rfl, rfl, hR2, by rw [keptR_pl, hP]; rfl, hE2⟩)
  unfold rdisk at hr
  try unfold str at hr
  replace hr := hide hr
  have hBW := hn1
  replace hN := hide hN
  replace hBW := hide hBW
  replace hrb1 := hide hrb1
  replace hrb := hide hrb
  go_wp2_with fail
  refine ⟨by kernel_rfl, ?_⟩
  go_wp2_with fail
  refine wp_region_text follows (by kernel_rfl) (by kernel_rfl) (fun K hK => ?_)
  go_wp2_with fail
  refine hr.out.mono ?_
  rintro e w2 ⟨A2, n2, c2, R2, q1, ar1, st1, rfl, hq1, har1, hst1, hR2, hP2, hE2⟩
  replace hq1 := hide hq1
  replace har1 := hide har1
  replace hst1 := hide hst1
  have hE2' : Ext w1 w2 := (Ext.refl w1).drew.trans hE2
  have hnx2 := hnx1.ext hE2'
  have hrb2 := hrb1.out.ext hE2'
  have x0 := hnx2.cell 0 rfl
  have x1 := hnx2.cell 1 rfl
  have x2 := hnx2.cell 2 rfl
  have x3 := hnx2.cell 3 rfl
  have y0 := hnx2.free 0
  have y1 := hnx2.free 1
  have y2 := hnx2.free 2
  have y3 := hnx2.free 3
  go_upto_region 37 with (fail)
  refine ⟨by kernel_rfl, ?_⟩
  obtain ⟨w3, hw3⟩ : ∃ w3, w3 = ((((w2.setCell ⟨w.heap.size + 1, 0, none⟩ (.slice A2 n2 c2)).setCell ⟨w.heap.size + 1, 1, none⟩ (.int .i64 q1)).setCell ⟨w.heap.size + 1, 2, none⟩ (.int .i64 ar1)).setCell ⟨w.heap.size + 1, 3, none⟩ (.bool st1)) := ⟨_, rfl⟩
  rw [← hw3]
  obtain ⟨hnx3, hc3⟩ := nx_put hnx2 hw3
  have hrb3 := hc3.row hrb2 (by have := hWx; omega)
  have u0 := hnx3.cell 0 rfl
  have u1 := hnx3.cell 1 rfl
  have u2 := hnx3.cell 2 rfl
  have u3 := hnx3.cell 3 rfl
  have v0 := hrb3.cell 0 rfl
  have v1 := hrb3.cell 1 rfl
  have v2 := hrb3.cell 2 rfl
  have v3 := hrb3.cell 3 rfl
  have v4 := hrb3.cell 4 rfl
  have g1 := hrb3.free 1
  have g2 := hrb3.free 2
  have g3 := hrb3.free 3
  have g4 := hrb3.free 4
  clear x0 x1 x2 x3 y0 y1 y2 y3
  replace hc3 := hide hc3
  clear hw3
  replace hE2 := hide hE2
  go_wp2_with fail
  refine bodyPost_ret (v := .bool true) (by simp [results, Try.results15, go_sem]) rfl ⟨rfl, ?_⟩
  rw [hq1.out, har1.out, hst1.out]
  exact step_fin h hS1 hF1 hc1 hrb.out.lt hWs.out hcW.size hE2' hR2 hN.out hP2 hrb3 hc3.out rfl
end Go.Proofs.Yticnncgbfpgeaaa

/- loggialaw06: a step of both disks. -/
namespace Go.Proofs.Yticnncgbfpgeaaa
open Go.RowKit Go.Maps

set_option maxRecDepth 100000 in
set_option maxHeartbeats 4000000 in
theorem step_quota1 (base bb d : Nat) (P : PD) (F Q : Nat → Prop) (o : Opr) (w : World) (h : BS w base bb d P F Q) (ho : OOk w base o) (_hb : o.b.length ≤ 1073741824) (_hk : o.keep.length ≤ 1073741824) (hk12 : o.kd % 12 = 10) (ha : o.a < 0) :
    Calls Try.prog 15 #[.pointer (some ⟨bb, 0, none⟩), o.val] w fun e w' => e = .returned (.bool true) ∧ SPost base bb F Q w (stepM P o) w' := by
  obtain ⟨A, n, c, R, hrb, hR, hP⟩ := h.ref
  have hS := h.disk
  have hbbl := hrb.lt
  have hbl := h.low
  obtain ⟨W, hW⟩ : ∃ W, W = (w.alloc (.cells #[.int .u8 o.kd, .string ⟨o.name.toArray⟩, .string ⟨o.nto.toArray⟩, .slice o.BA o.b.length o.bc, .int .i64 o.a, .int .i64 o.n, .slice o.KA o.keep.length o.kc] 41)).alloc (.cells #[.slice A n c, .int .i64 P.quota, .int .i64 P.armed, .bool P.stopped] 36) := ⟨_, rfl⟩
  have hE : Ext w W := by rw [hW]; exact ((Ext.refl w).alloc _).alloc _
  have hWs : W.heap.size = w.heap.size + 2 := by rw [hW, size_alloc, size_alloc]
  have hob : Row W w.heap.size 41 #[.int .u8 o.kd, .string ⟨o.name.toArray⟩, .string ⟨o.nto.toArray⟩, .slice o.BA o.b.length o.bc, .int .i64 o.a, .int .i64 o.n, .slice o.KA o.keep.length o.kc] := by rw [hW]; exact (Row.new w _ _).alloc _
  have hnx : Row W (w.heap.size + 1) 36 #[.slice A n c, .int .i64 P.quota, .int .i64 P.armed, .bool P.stopped] := by
    have := Row.new (w.alloc (.cells #[.int .u8 o.kd, .string ⟨o.name.toArray⟩, .string ⟨o.nto.toArray⟩, .slice o.BA o.b.length o.bc, .int .i64 o.a, .int .i64 o.n, .slice o.KA o.keep.length o.kc] 41)) 36 #[.slice A n c, .int .i64 P.quota, .int .i64 P.armed, .bool P.stopped]
    rw [size_alloc] at this
    rw [hW]
    exact this
  have b1 : w.cell? ⟨bb, 1, none⟩ = some (.slice A n c) := hrb.cell 1 rfl
  have b2 : w.cell? ⟨bb, 2, none⟩ = some (.int .i64 P.quota) := hrb.cell 2 rfl
  have b3 : w.cell? ⟨bb, 3, none⟩ = some (.int .i64 P.armed) := hrb.cell 3 rfl
  have b4 : w.cell? ⟨bb, 4, none⟩ = some (.bool P.stopped) := hrb.cell 4 rfl
  have hrW := hrb.ext hE
  have B0 : W.cell? ⟨bb, 0, none⟩ = some (.pointer (some ⟨d, 0, none⟩)) := hrW.cell 0 rfl
  have o0 : W.cell? ⟨w.heap.size, 0, none⟩ = some (.int .u8 o.kd) := hob.cell 0 rfl
  have hWx := hide hW.symm
  clear hW
  have hNF : ∀ k, F k → k < w.heap.size := fun k hk => hS.lt hk
  have hPa : P.armed ≤ 9223372036854775807 := by obtain ⟨_, _, hh, _⟩ := hS; exact hh.ha
  have hPq : P.quota ≤ 9223372036854775807 := by obtain ⟨_, _, hh, _⟩ := hS; exact hh.hq
  have o4 : W.cell? ⟨w.heap.size, 4, none⟩ = some (.int .i64 o.a) := hob.cell 4 rfl
  have hd := (by have := quota_any base d P F o.a W.drew (hS.ext hE.drew) ho.a.2; simp only [if_pos ha] at this; exact this : Calls Try.prog 28 #[.pointer (some ⟨d, 0, none⟩), .int .i64 o.a] W.drew fun e w' => e = .returned (.int .i64 1) ∧ DNext base d F W.drew P w')
  have hsm : stepM P o = P := by unfold stepM; rw [if_neg (by omega), if_neg (by omega), if_neg (by omega), if_neg (by omega), if_neg (by omega), if_neg (by omega), if_pos hk12, if_pos ha]
  rw [hsm]
  unfold Opr.val str
  try unfold str at hd
  replace hd := hide hd
  replace hsm := hide hsm
  replace hWs := hide hWs
  have hdo := ho.kd
  have hqk : (o.kd : Int) % 12 = 10 := by omega
  go_enter Try.func15, Try.ntmps15
  go_wp2_with fail
  rw [hWx.out]
  refine wp_region_text follows (by kernel_rfl) (by kernel_rfl) (fun K hK => ?_)
  go_wp2_with fail
  refine hd.out.mono ?_
  rintro e w1 ⟨rfl, hn1⟩
  obtain ⟨F1, hS1, hF1, hc1, hrb1, hR1⟩ := step_mid h hE.drew hn1 hrb hR
  have hcW : Chg F W w1 := by
    obtain ⟨_, _, h2, _⟩ := hn1
    exact (Chg.of_ext (Ext.refl W).drew F).trans h2 fun _ _ h => h
  have hob1 := hcW.row hob fun hh => by have := hNF _ hh; omega
  have hnx1 := hcW.row hnx fun hh => by have := hNF _ hh; omega
  have p4 : w1.cell? ⟨w.heap.size, 4, none⟩ = some (.int .i64 o.a) := hob1.cell 4 rfl
  have B1 : w1.cell? ⟨bb, 1, none⟩ = some (.slice A n c) := hrb1.cell 1 rfl
  have B2 : w1.cell? ⟨bb, 2, none⟩ = some (.int .i64 P.quota) := hrb1.cell 2 rfl
  have B3 : w1.cell? ⟨bb, 3, none⟩ = some (.int .i64 P.armed) := hrb1.cell 3 rfl
  have B4 : w1.cell? ⟨bb, 4, none⟩ = some (.bool P.stopped) := hrb1.cell 4 rfl
  have hwsz : w.heap.size + 2 ≤ w1.heap.size := by rw [← hWs.out]; exact hcW.size
  obtain ⟨N, hN⟩ : ∃ N : Nat → Prop, N = fun k => F1 k ∨ Q k ∨ (w.heap.size ≤ k ∧ k < W.drew.heap.size) := ⟨_, rfl⟩
  rw [← hN] at hR1
  have hNlt : ∀ k, N k → k < w1.heap.size := by
    intro k hk
    rw [hN] at hk
    rcases hk with hk | hk | hk
    · exact hS1.lt hk
    · have := h.qlt k hk; omega
    · have : k < W.heap.size := hk.2
      rw [hWs.out] at this
      omega
  have g1 := hrb1.free 1
  have g2 := hrb1.free 2
  have g3 := hrb1.free 3
  have g4 := hrb1.free 4
  have v0 := hrb1.cell 0 rfl
  have y1 := hnx1.free 1
  have x0 := hnx1.cell 0 rfl
  have x1 := hnx1.cell 1 rfl
  have x2 := hnx1.cell 2 rfl
  have x3 := hnx1.cell 3 rfl
  replace hN := hide hN
  go_wp2_with fail
  refine ⟨by kernel_rfl, ?_⟩
  go_wp2_with fail
  refine bodyPost_ret (v := .bool true) (by simp [results, Try.results15, go_sem]) rfl ⟨rfl, ?_⟩
  exact step_fin h hS1 hF1 hc1 hrb.lt hWs.out hcW.size (Ext.refl w1) hR1 hN.out hP hrb1 (Chg.refl _ _) rfl
set_option maxRecDepth 100000 in
set_option maxHeartbeats 4000000 in
theorem step_quota2 (base bb d : Nat) (P : PD) (F Q : Nat → Prop) (o : Opr) (w : World) (h : BS w base bb d P F Q) (ho : OOk w base o) (_hb : o.b.length ≤ 1073741824) (_hk : o.keep.length ≤ 1073741824) (hk12 : o.kd % 12 = 10) (ha : ¬ o.a < 0) :
    Calls Try.prog 15 #[.pointer (some ⟨bb, 0, none⟩), o.val] w fun e w' => e = .returned (.bool true) ∧ SPost base bb F Q w (stepM P o) w' := by
  obtain ⟨A, n, c, R, hrb, hR, hP⟩ := h.ref
  have hS := h.disk
  have hbbl := hrb.lt
  have hbl := h.low
  obtain ⟨W, hW⟩ : ∃ W, W = (w.alloc (.cells #[.int .u8 o.kd, .string ⟨o.name.toArray⟩, .string ⟨o.nto.toArray⟩, .slice o.BA o.b.length o.bc, .int .i64 o.a, .int .i64 o.n, .slice o.KA o.keep.length o.kc] 41)).alloc (.cells #[.slice A n c, .int .i64 P.quota, .int .i64 P.armed, .bool P.stopped] 36) := ⟨_, rfl⟩
  have hE : Ext w W := by rw [hW]; exact ((Ext.refl w).alloc _).alloc _
  have hWs : W.heap.size = w.heap.size + 2 := by rw [hW, size_alloc, size_alloc]
  have hob : Row W w.heap.size 41 #[.int .u8 o.kd, .string ⟨o.name.toArray⟩, .string ⟨o.nto.toArray⟩, .slice o.BA o.b.length o.bc, .int .i64 o.a, .int .i64 o.n, .slice o.KA o.keep.length o.kc] := by rw [hW]; exact (Row.new w _ _).alloc _
  have hnx : Row W (w.heap.size + 1) 36 #[.slice A n c, .int .i64 P.quota, .int .i64 P.armed, .bool P.stopped] := by
    have := Row.new (w.alloc (.cells #[.int .u8 o.kd, .string ⟨o.name.toArray⟩, .string ⟨o.nto.toArray⟩, .slice o.BA o.b.length o.bc, .int .i64 o.a, .int .i64 o.n, .slice o.KA o.keep.length o.kc] 41)) 36 #[.slice A n c, .int .i64 P.quota, .int .i64 P.armed, .bool P.stopped]
    rw [size_alloc] at this
    rw [hW]
    exact this
  have b1 : w.cell? ⟨bb, 1, none⟩ = some (.slice A n c) := hrb.cell 1 rfl
  have b2 : w.cell? ⟨bb, 2, none⟩ = some (.int .i64 P.quota) := hrb.cell 2 rfl
  have b3 : w.cell? ⟨bb, 3, none⟩ = some (.int .i64 P.armed) := hrb.cell 3 rfl
  have b4 : w.cell? ⟨bb, 4, none⟩ = some (.bool P.stopped) := hrb.cell 4 rfl
  have hrW := hrb.ext hE
  have B0 : W.cell? ⟨bb, 0, none⟩ = some (.pointer (some ⟨d, 0, none⟩)) := hrW.cell 0 rfl
  have o0 : W.cell? ⟨w.heap.size, 0, none⟩ = some (.int .u8 o.kd) := hob.cell 0 rfl
  have hWx := hide hW.symm
  clear hW
  have hNF : ∀ k, F k → k < w.heap.size := fun k hk => hS.lt hk
  have hPa : P.armed ≤ 9223372036854775807 := by obtain ⟨_, _, hh, _⟩ := hS; exact hh.ha
  have hPq : P.quota ≤ 9223372036854775807 := by obtain ⟨_, _, hh, _⟩ := hS; exact hh.hq
  have o4 : W.cell? ⟨w.heap.size, 4, none⟩ = some (.int .i64 o.a) := hob.cell 4 rfl
  have hd := (by have := quota_any base d P F o.a W.drew (hS.ext hE.drew) ho.a.2; simp only [if_neg ha] at this; exact this : Calls Try.prog 28 #[.pointer (some ⟨d, 0, none⟩), .int .i64 o.a] W.drew fun e w' => e = .returned (.int .i64 0) ∧ DNext base d F W.drew ({ P with quota := o.a.toNat }) w')
  have hsm : stepM P o = { P with quota := o.a.toNat } := by unfold stepM; rw [if_neg (by omega), if_neg (by omega), if_neg (by omega), if_neg (by omega), if_neg (by omega), if_neg (by omega), if_pos hk12, if_neg ha]
  rw [hsm]
  unfold Opr.val str
  try unfold str at hd
  replace hd := hide hd
  replace hsm := hide hsm
  replace hWs := hide hWs
  have hdo := ho.kd
  have hqk : (o.kd : Int) % 12 = 10 := by omega
  go_enter Try.func15, Try.ntmps15
  go_wp2_with fail
  rw [hWx.out]
  refine wp_region_text follows (by kernel_rfl) (by kernel_rfl) (fun K hK => ?_)
  go_wp2_with fail
  refine hd.out.mono ?_
  rintro e w1 ⟨rfl, hn1⟩
  obtain ⟨F1, hS1, hF1, hc1, hrb1, hR1⟩ := step_mid h hE.drew hn1 hrb hR
  have hcW : Chg F W w1 := by
    obtain ⟨_, _, h2, _⟩ := hn1
    exact (Chg.of_ext (Ext.refl W).drew F).trans h2 fun _ _ h => h
  have hob1 := hcW.row hob fun hh => by have := hNF _ hh; omega
  have hnx1 := hcW.row hnx fun hh => by have := hNF _ hh; omega
  have p4 : w1.cell? ⟨w.heap.size, 4, none⟩ = some (.int .i64 o.a) := hob1.cell 4 rfl
  have B1 : w1.cell? ⟨bb, 1, none⟩ = some (.slice A n c) := hrb1.cell 1 rfl
  have B2 : w1.cell? ⟨bb, 2, none⟩ = some (.int .i64 P.quota) := hrb1.cell 2 rfl
  have B3 : w1.cell? ⟨bb, 3, none⟩ = some (.int .i64 P.armed) := hrb1.cell 3 rfl
  have B4 : w1.cell? ⟨bb, 4, none⟩ = some (.bool P.stopped) := hrb1.cell 4 rfl
  have hwsz : w.heap.size + 2 ≤ w1.heap.size := by rw [← hWs.out]; exact hcW.size
  obtain ⟨N, hN⟩ : ∃ N : Nat → Prop, N = fun k => F1 k ∨ Q k ∨ (w.heap.size ≤ k ∧ k < W.drew.heap.size) := ⟨_, rfl⟩
  rw [← hN] at hR1
  have hNlt : ∀ k, N k → k < w1.heap.size := by
    intro k hk
    rw [hN] at hk
    rcases hk with hk | hk | hk
    · exact hS1.lt hk
    · have := h.qlt k hk; omega
    · have : k < W.heap.size := hk.2
      rw [hWs.out] at this
      omega
  have g1 := hrb1.free 1
  have g2 := hrb1.free 2
  have g3 := hrb1.free 3
  have g4 := hrb1.free 4
  have v0 := hrb1.cell 0 rfl
  have y1 := hnx1.free 1
  have x0 := hnx1.cell 0 rfl
  have x1 := hnx1.cell 1 rfl
  have x2 := hnx1.cell 2 rfl
  have x3 := hnx1.cell 3 rfl
  replace hN := hide hN
  go_wp2_with fail
  refine ⟨by kernel_rfl, ?_⟩
  go_upto_region 37 with (fail)
  have hnx3 : Row (w1.setCell ⟨w.heap.size + 1, 1, none⟩ (.int .i64 o.a)) (w.heap.size + 1) 36 #[.slice A n c, .int .i64 o.a, .int .i64 P.armed, .bool P.stopped] := hnx1.put 1 (.int .i64 o.a)
  have hc3 : Chg (fun k => k = w.heap.size + 1) w1 (w1.setCell ⟨w.heap.size + 1, 1, none⟩ (.int .i64 o.a)) := Chg.of_set (S := fun k => k = w.heap.size + 1) w1 (a := ⟨w.heap.size + 1, 1, none⟩) _ rfl
  obtain ⟨w3, hw3⟩ : ∃ w3, w3 = w1.setCell ⟨w.heap.size + 1, 1, none⟩ (.int .i64 o.a) := ⟨_, rfl⟩
  rw [← hw3] at hnx3 hc3 ⊢
  have hrb3 := hc3.row hrb1 (by have := hbbl; omega)
  clear hw3 x0 x1 x2 x3 y1 v0 g1 g2 g3 g4 B1 B2 B3 B4
  have u0 := hnx3.cell 0 rfl
  have u1 := hnx3.cell 1 rfl
  have u2 := hnx3.cell 2 rfl
  have u3 := hnx3.cell 3 rfl
  have v0 := hrb3.cell 0 rfl
  have v1 := hrb3.cell 1 rfl
  have v2 := hrb3.cell 2 rfl
  have v3 := hrb3.cell 3 rfl
  have v4 := hrb3.cell 4 rfl
  have g1 := hrb3.free 1
  have g2 := hrb3.free 2
  have g3 := hrb3.free 3
  have g4 := hrb3.free 4
  replace hc3 := hide hc3
  go_wp2_with fail
  refine bodyPost_ret (v := .bool true) (by simp [results, Try.results15, go_sem]) rfl ⟨rfl, ?_⟩
  have hz : ((o.a.toNat : Nat) : Int) = o.a := by omega
  exact step_fin h hS1 hF1 hc1 hrb.lt hWs.out hcW.size (Ext.refl w1) hR1 hN.out hP hrb3 hc3.out (by rw [hz])
end Go.Proofs.Yticnncgbfpgeaaa

/- loggialaw06: a step of both disks. -/
namespace Go.Proofs.Yticnncgbfpgeaaa
open Go.RowKit Go.Maps

theorem fork_fin {w W w1 w2 w2' w3 w4 : World} {base bb d d2 : Nat} {P P4 : PD} {F F2 F3 Q : Nat → Prop} {A : Option Addr} {n c : Nat} {R : List RE} (h : BS w base bb d P F Q) (hlt : bb < w.heap.size) (hE : Ext w W) (hEf : Ext W w1) (hD2 : DS w1 base d2 P F2) (hF2 : ∀ k, F2 k → W.heap.size ≤ k)
    (hc2 : Chg F w1 w2) (hF3 : ∀ k, F3 k → F k ∨ w1.heap.size ≤ k) (ha : Ext w2 w2') (hn4 : DNext base d F3 w2' P4 w3) (hR : RS w (fun k => F k ∨ Q k) A n c R) (hp : R.map RE.pl = P.L) :
    Chg F W w3 ∧ ∀ v0 v1 v2 v3 v4 wf, Row w3 bb 38 #[v0, v1, v2, v3, v4] → w4 = w3.setCell ⟨bb, 0, none⟩ (.pointer (some ⟨d2, 0, none⟩)) →
      wf = ((((w4.setCell ⟨bb, 1, none⟩ (.slice A n c)).setCell ⟨bb, 2, none⟩ (.int .i64 P.quota)).setCell ⟨bb, 3, none⟩ (.int .i64 P.armed)).setCell ⟨bb, 4, none⟩ (.bool P.stopped)) → SPost base bb F Q w P wf := by
  obtain ⟨F4, hS4, hc4, hF4⟩ := hn4
  have hl : ∀ k, F k → k < w.heap.size := fun k hk => h.disk.lt hk
  have z1 := hE.size
  have z2 := hEf.size
  have hcW : Chg F W w3 := by
    have a1 : Chg F W w2 := (Chg.of_ext hEf F).trans hc2 fun _ _ h => h
    have a2 : Chg F W w2' := a1.trans (Chg.of_ext ha F) fun _ _ h => h
    exact a2.trans hc4 fun i hi hk => (hF3 i hk).elim id fun e => by omega
  refine ⟨hcW, fun v0 v1 v2 v3 v4 wf hr hw4 hwf => ?_⟩
  have cW : Chg F w w3 := (Chg.of_ext hE F).trans hcW fun _ _ h => h
  have dj : ∀ k, F k → ¬ F2 k := fun k hk hf => by have := hl k hk; have := hF2 k hf; omega
  have hD3 : DS w3 base d2 P F2 := by
    have b1 : DS w2 base d2 P F2 := hD2.chg hc2 dj
    have b2 : DS w2' base d2 P F2 := b1.ext ha
    refine b2.chg hc4 fun k hk hf => ?_
    rcases hF3 k hk with hk | hk
    · exact dj k hk hf
    · have := hD2.lt hf
      omega
  have hn : ¬ F2 bb := fun hf => by have := hF2 bb hf; omega
  have hR3 : RS w3 (fun k => F2 k ∨ Q k) A n c R := hR.chg cW (fun k _ hk => .inl hk) fun k hk hk2 => hk2.elim (fun e => by have := hF2 k e; omega) .inr
  have hc5 : Chg (fun k => k = bb) w3 w4 := by rw [hw4]; exact Chg.of_set (S := fun k => k = bb) w3 (a := ⟨bb, 0, none⟩) _ rfl
  have hr4 : Row w4 bb 38 #[.pointer (some ⟨d2, 0, none⟩), v1, v2, v3, v4] := by rw [hw4]; exact hr.put 0 _
  obtain ⟨hB, hcf⟩ := step_end (hD3.chg hc5 fun k hk hf => hn (hk ▸ hf)) h.low hn (hR3.chg hc5 (fun k _ hk => .inr (hk ▸ h.mine)) fun _ _ hk => hk) (fun k hk => hk) h.mine (fun k hk => by have := h.qlt k hk; have := cW.size; have := hc5.size; omega) hp hr4 hwf
  have t1 : Chg (fun k => F k ∨ k = bb) w w3 := cW.mono fun _ _ h => .inl h
  have t2 : Chg (fun k => F k ∨ k = bb) w w4 := t1.trans hc5 fun _ _ h => .inr h
  exact ⟨d2, F2, hB, t2.trans hcf fun _ _ h => .inr h, fun k hk => .inr (by have := hF2 k hk; omega)⟩
set_option maxRecDepth 100000 in
set_option maxHeartbeats 4000000 in
theorem step_fork (base bb d : Nat) (P : PD) (F Q : Nat → Prop) (o : Opr) (w : World) (h : BS w base bb d P F Q) (ho : OOk w base o) (_hb : o.b.length ≤ 1073741824) (_hk : o.keep.length ≤ 1073741824) (hk12 : o.kd % 12 = 11) :
    Calls Try.prog 15 #[.pointer (some ⟨bb, 0, none⟩), o.val] w fun e w' => e = .returned (.bool true) ∧ SPost base bb F Q w (stepM P o) w' := by
  obtain ⟨A, n, c, R, hrb, hR, hP⟩ := h.ref
  have hS := h.disk
  have hbbl := hrb.lt
  have hbl := h.low
  obtain ⟨W, hW⟩ : ∃ W, W = (w.alloc (.cells #[.int .u8 o.kd, .string ⟨o.name.toArray⟩, .string ⟨o.nto.toArray⟩, .slice o.BA o.b.length o.bc, .int .i64 o.a, .int .i64 o.n, .slice o.KA o.keep.length o.kc] 41)).alloc (.cells #[.slice A n c, .int .i64 P.quota, .int .i64 P.armed, .bool P.stopped] 36) := ⟨_, rfl⟩
  have hE : Ext w W := by rw [hW]; exact ((Ext.refl w).alloc _).alloc _
  have hWs : W.heap.size = w.heap.size + 2 := by rw [hW, size_alloc, size_alloc]
  have hob : Row W w.heap.size 41 #[.int .u8 o.kd, .string ⟨o.name.toArray⟩, .string ⟨o.nto.toArray⟩, .slice o.BA o.b.length o.bc, .int .i64 o.a, .int .i64 o.n, .slice o.KA o.keep.length o.kc] := by rw [hW]; exact (Row.new w _ _).alloc _
  have hnx : Row W (w.heap.size + 1) 36 #[.slice A n c, .int .i64 P.quota, .int .i64 P.armed, .bool P.stopped] := by
    have := Row.new (w.alloc (.cells #[.int .u8 o.kd, .string ⟨o.name.toArray⟩, .string ⟨o.nto.toArray⟩, .slice o.BA o.b.length o.bc, .int .i64 o.a, .int .i64 o.n, .slice o.KA o.keep.length o.kc] 41)) 36 #[.slice A n c, .int .i64 P.quota, .int .i64 P.armed, .bool P.stopped]
    rw [size_alloc] at this
    rw [hW]
    exact this
  have b1 : w.cell? ⟨bb, 1, none⟩ = some (.slice A n c) := hrb.cell 1 rfl
  have b2 : w.cell? ⟨bb, 2, none⟩ = some (.int .i64 P.quota) := hrb.cell 2 rfl
  have b3 : w.cell? ⟨bb, 3, none⟩ = some (.int .i64 P.armed) := hrb.cell 3 rfl
  have b4 : w.cell? ⟨bb, 4, none⟩ = some (.bool P.stopped) := hrb.cell 4 rfl
  have hrW := hrb.ext hE
  have B0 : W.cell? ⟨bb, 0, none⟩ = some (.pointer (some ⟨d, 0, none⟩)) := hrW.cell 0 rfl
  have o0 : W.cell? ⟨w.heap.size, 0, none⟩ = some (.int .u8 o.kd) := hob.cell 0 rfl
  have hWx := hide hW.symm
  clear hW
  have hNF : ∀ k, F k → k < w.heap.size := fun k hk => hS.lt hk
  have hPa : P.armed ≤ 9223372036854775807 := by obtain ⟨_, _, hh, _⟩ := hS; exact hh.ha
  have hPq : P.quota ≤ 9223372036854775807 := by obtain ⟨_, _, hh, _⟩ := hS; exact hh.hq
  have hsm : stepM P o = P := by unfold stepM; rw [if_neg (by omega), if_neg (by omega), if_neg (by omega), if_neg (by omega), if_neg (by omega), if_neg (by omega), if_neg (by omega), if_pos hk12]
  rw [hsm]
  have hf := fork_any base d P F W (hS.ext hE) (by have := hE.size; omega)
  replace hf := hide hf
  unfold Opr.val str
  replace hsm := hide hsm
  replace hWs := hide hWs
  have hdo := ho.kd
  have b0 := hrb.cell 0 rfl
  have hqk : (o.kd : Int) % 12 = 11 := by omega
  go_enter Try.func15, Try.ntmps15
  go_wp2_with fail
  rw [hWx.out]
  refine hf.out.mono ?_
  rintro e w1 ⟨d2, F2, rfl, hD2, hF2, hEf⟩
  have hrb1 := hrW.ext hEf
  have B01 := hrb1.cell 0 rfl
  have hrs := restart_any base d P F none 0 0 [] w1 ((hS.ext hE).ext hEf) (Cells.nil _ _) nofun rfl nofun (by omega)
  replace hrs := hide hrs
  go_wp2_with fail
  refine hrs.out.mono ?_
  rintro e w2 ⟨rfl, F3, hS3, hc2, hF3⟩
  have hrb2 := hc2.row hrb1 h.own
  have B02 := hrb2.cell 0 rfl
  obtain ⟨W2, hW2⟩ : ∃ W2, W2 = w2.alloc (.cells #[.int .u8 1] 5) := ⟨_, rfl⟩
  have hE2 : Ext w2 W2 := by rw [hW2]; exact (Ext.refl w2).alloc _
  have hb2 : Bs W2 (some ⟨w2.heap.size, 0, none⟩) [1] := by rw [hW2]; exact marked_bytes w2 _ _ _
  have hap := append_any base d (restartM P []) F3 [122, 122] [1] (some ⟨w2.heap.size, 0, none⟩) 1 1 W2 (hS3.ext hE2) (by decide) hb2 (by rintro a ha; cases ha; exact hS3.not_old (Nat.le_refl _)) rfl (by omega) (by have := hE.size; have := hEf.size; have := hc2.size; have := hE2.size; omega)
  obtain ⟨P4, cd, hP4⟩ : ∃ P4 cd, appendM (restartM P []) [122, 122] [1] = (P4, cd) := ⟨_, _, rfl⟩
  rw [hP4] at hap
  have hWx2 := hide hW2.symm
  have B03 := (hrb2.ext hE2).cell 0 rfl
  clear hW2
  unfold str at hap
  replace hap := hide hap
  go_wp2_with fail
  rw [hWx2.out]
  refine hap.out.mono ?_
  rintro e w3 ⟨rfl, hn4⟩
  obtain ⟨hcW, hend⟩ := fork_fin h hrb.lt hE hEf hD2 hF2 hc2 hF3 hE2 hn4 hR hP (w4 := w3.setCell ⟨bb, 0, none⟩ (.pointer (some ⟨d2, 0, none⟩)))
  have hrb3 := hcW.row hrW h.own
  have hnx3 := hcW.row hnx fun hh => by have := hNF _ hh; omega
  have hend2 := fun wf => hend _ _ _ _ _ wf hrb3 rfl
  clear hend
  have v0 := hrb3.cell 0 rfl
  have v1 := hrb3.cell 1 rfl
  have v2 := hrb3.cell 2 rfl
  have v3 := hrb3.cell 3 rfl
  have v4 := hrb3.cell 4 rfl
  have g0 := hrb3.free 0
  have g1 := hrb3.free 1
  have g2 := hrb3.free 2
  have g3 := hrb3.free 3
  have g4 := hrb3.free 4
  have x0 := hnx3.cell 0 rfl
  have x1 := hnx3.cell 1 rfl
  have x2 := hnx3.cell 2 rfl
  have x3 := hnx3.cell 3 rfl
  replace hend2 := hide hend2
  have hne : w.heap.size + 1 ≠ bb := by omega
  have hne2 : bb ≠ w.heap.size + 1 := by omega
  go_wp2_with fail
  exact bodyPost_ret (v := .bool true) (by simp [results, Try.results15, go_sem]) rfl ⟨rfl, hend2.out _ rfl⟩
end Go.Proofs.Yticnncgbfpgeaaa

/- loggialaw06: a step of both disks. -/
namespace Go.Proofs.Yticnncgbfpgeaaa
open Go.RowKit Go.Maps

set_option maxRecDepth 100000 in
set_option maxHeartbeats 4000000 in
theorem step_read (base bb d : Nat) (P : PD) (F Q : Nat → Prop) (o : Opr) (w : World) (h : BS w base bb d P F Q) (ho : OOk w base o) (_hb : o.b.length ≤ 1073741824) (_hk : o.keep.length ≤ 1073741824) (hk12 : o.kd % 12 = 7) :
    Calls Try.prog 15 #[.pointer (some ⟨bb, 0, none⟩), o.val] w fun e w' => e = .returned (.bool true) ∧ SPost base bb F Q w (stepM P o) w' := by
  obtain ⟨A, n, c, R, hrb, hR, hP⟩ := h.ref
  have hS := h.disk
  have hbbl := hrb.lt
  have hbl := h.low
  obtain ⟨W, hW⟩ : ∃ W, W = (w.alloc (.cells #[.int .u8 o.kd, .string ⟨o.name.toArray⟩, .string ⟨o.nto.toArray⟩, .slice o.BA o.b.length o.bc, .int .i64 o.a, .int .i64 o.n, .slice o.KA o.keep.length o.kc] 41)).alloc (.cells #[.slice A n c, .int .i64 P.quota, .int .i64 P.armed, .bool P.stopped] 36) := ⟨_, rfl⟩
  have hE : Ext w W := by rw [hW]; exact ((Ext.refl w).alloc _).alloc _
  have hWs : W.heap.size = w.heap.size + 2 := by rw [hW, size_alloc, size_alloc]
  have hob : Row W w.heap.size 41 #[.int .u8 o.kd, .string ⟨o.name.toArray⟩, .string ⟨o.nto.toArray⟩, .slice o.BA o.b.length o.bc, .int .i64 o.a, .int .i64 o.n, .slice o.KA o.keep.length o.kc] := by rw [hW]; exact (Row.new w _ _).alloc _
  have hnx : Row W (w.heap.size + 1) 36 #[.slice A n c, .int .i64 P.quota, .int .i64 P.armed, .bool P.stopped] := by
    have := Row.new (w.alloc (.cells #[.int .u8 o.kd, .string ⟨o.name.toArray⟩, .string ⟨o.nto.toArray⟩, .slice o.BA o.b.length o.bc, .int .i64 o.a, .int .i64 o.n, .slice o.KA o.keep.length o.kc] 41)) 36 #[.slice A n c, .int .i64 P.quota, .int .i64 P.armed, .bool P.stopped]
    rw [size_alloc] at this
    rw [hW]
    exact this
  have b1 : w.cell? ⟨bb, 1, none⟩ = some (.slice A n c) := hrb.cell 1 rfl
  have b2 : w.cell? ⟨bb, 2, none⟩ = some (.int .i64 P.quota) := hrb.cell 2 rfl
  have b3 : w.cell? ⟨bb, 3, none⟩ = some (.int .i64 P.armed) := hrb.cell 3 rfl
  have b4 : w.cell? ⟨bb, 4, none⟩ = some (.bool P.stopped) := hrb.cell 4 rfl
  have hrW := hrb.ext hE
  have B0 : W.cell? ⟨bb, 0, none⟩ = some (.pointer (some ⟨d, 0, none⟩)) := hrW.cell 0 rfl
  have o0 : W.cell? ⟨w.heap.size, 0, none⟩ = some (.int .u8 o.kd) := hob.cell 0 rfl
  have hWx := hide hW.symm
  clear hW
  have hNF : ∀ k, F k → k < w.heap.size := fun k hk => hS.lt hk
  have hPa : P.armed ≤ 9223372036854775807 := by obtain ⟨_, _, hh, _⟩ := hS; exact hh.ha
  have hPq : P.quota ≤ 9223372036854775807 := by obtain ⟨_, _, hh, _⟩ := hS; exact hh.hq
  have o1 : W.cell? ⟨w.heap.size, 1, none⟩ = some (.string ⟨o.name.toArray⟩) := hob.cell 1 rfl
  have o4 : W.cell? ⟨w.heap.size, 4, none⟩ = some (.int .i64 o.a) := hob.cell 4 rfl
  have o5 : W.cell? ⟨w.heap.size, 5, none⟩ = some (.int .i64 o.n) := hob.cell 5 rfl
  have hsm : stepM P o = P := by unfold stepM; rw [if_neg (by omega), if_neg (by omega), if_neg (by omega), if_pos hk12]
  rw [hsm]
  have hd := read_any base d P F o.name o.a o.n W.drew (hS.ext hE.drew) ho.name ho.a.1 ho.a.2 ho.n.1 ho.n.2
  unfold Opr.val str
  unfold str at hd
  obtain ⟨M, hM⟩ : ∃ M, M = readM P o.name o.a o.n := ⟨_, rfl⟩
  unfold ReadPost at hd
  rw [← hM] at hd
  obtain ⟨l, cd⟩ := M
  replace hd := hide hd
  replace hsm := hide hsm
  replace hWs := hide hWs
  have hdo := ho.kd
  have hqk : (o.kd : Int) % 12 = 7 := by omega
  go_enter Try.func15, Try.ntmps15
  go_wp2_with fail
  rw [hWx.out]
  refine wp_region_text follows (by kernel_rfl) (by kernel_rfl) (fun K hK => ?_)
  go_wp2_with fail
  refine hd.out.mono ?_
  rintro e w1 ⟨A1, k1, c1, rfl, hb1, hk1, hE1⟩
  have hE1' : Ext W w1 := (Ext.refl W).drew.trans hE1
  have hEw1 : Ext w w1 := hE.trans hE1'
  have hob1 := hob.ext hE1'
  have hrb1 := hrW.ext hE1'
  have p1 : w1.cell? ⟨w.heap.size, 1, none⟩ = some (.string ⟨o.name.toArray⟩) := hob1.cell 1 rfl
  have p4 : w1.cell? ⟨w.heap.size, 4, none⟩ = some (.int .i64 o.a) := hob1.cell 4 rfl
  have p5 : w1.cell? ⟨w.heap.size, 5, none⟩ = some (.int .i64 o.n) := hob1.cell 5 rfl
  have B1 := hrb1.cell 1 rfl
  have B2 := hrb1.cell 2 rfl
  have B3 := hrb1.cell 3 rfl
  have B4 := hrb1.cell 4 rfl
  have hr := rread_any (fun k => F k ∨ Q k) A n c P R o.name o.a o.n w1.drew (hR.ext hEw1.drew) hP ho.name ho.a.1 ho.a.2 ho.n.1 ho.n.2
  unfold rdisk str RReadPost at hr
  rw [← hM] at hr
  simp only at hr hb1 hk1
  replace hr := hide hr
  replace hM := hide hM
  have hbc1 := hb1.cells
  replace hb1 := hide hb1
  go_wp2_with fail
  refine ⟨by kernel_rfl, ?_⟩
  go_wp2_with fail
  refine wp_region_text follows (by kernel_rfl) (by kernel_rfl) (fun K2 hK2 => ?_)
  go_wp2_with fail
  refine hr.out.mono ?_
  rintro e w2 ⟨A2, k2, c2, rfl, hb2, hk2, hE2⟩
  have hE2' : Ext w1 w2 := (Ext.refl w1).drew.trans hE2
  have hbc2 := (Chg.of_ext hE2' (fun _ => False)).cells hbc1 fun _ _ h => h
  obtain rfl : k1 = l.length := hk1
  obtain rfl : k2 = l.length := hk2
  have hs1 := run_str (l := l) hbc2 _ c1 rfl
  have hs2 := run_str (l := l) hb2 _ c2 rfl
  go_wp2_with fail
  refine ⟨by kernel_rfl, ?_⟩
  go_wp2_with fail
  refine bodyPost_ret (v := .bool true) (by simp [results, Try.results15, go_sem]) rfl ⟨rfl, ?_⟩
  have hEf : Ext w w2 := hEw1.trans hE2'
  exact ⟨d, F, h.ext hEf, Chg.of_ext hEf _, fun k hk => .inl hk⟩
end Go.Proofs.Yticnncgbfpgeaaa

/- loggialaw06: a step of both disks, whatever the op. -/
namespace Go.Proofs.Yticnncgbfpgeaaa
open Go.RowKit Go.Maps

theorem step_any (base bb d : Nat) (P : PD) (F Q : Nat → Prop) (o : Opr) (w : World) (h : BS w base bb d P F Q) (ho : OOk w base o) (hb : o.b.length ≤ 1073741824) (hk : o.keep.length ≤ 1073741824) :
    Calls Try.prog 15 #[.pointer (some ⟨bb, 0, none⟩), o.val] w fun e w' => e = .returned (.bool true) ∧ SPost base bb F Q w (stepM P o) w' := by
  have hlt : o.kd % 12 < 12 := Nat.mod_lt _ (by omega)
  by_cases h4 : o.kd % 12 = 4
  · exact step_sync base bb d P F Q o w h ho hb hk h4
  by_cases h5 : o.kd % 12 = 5
  · exact step_rename base bb d P F Q o w h ho hb hk h5
  by_cases h6 : o.kd % 12 = 6
  · exact step_remove base bb d P F Q o w h ho hb hk h6
  by_cases h7 : o.kd % 12 = 7
  · exact step_read base bb d P F Q o w h ho hb hk h7
  by_cases h8 : o.kd % 12 = 8
  · exact step_arm base bb d P F Q o w h ho hb hk h8
  by_cases h9 : o.kd % 12 = 9
  · exact step_restart base bb d P F Q o w h ho hb hk h9
  by_cases h10 : o.kd % 12 = 10
  · by_cases ha : o.a < 0
    · exact step_quota1 base bb d P F Q o w h ho hb hk h10 ha
    · exact step_quota2 base bb d P F Q o w h ho hb hk h10 ha
  by_cases h11 : o.kd % 12 = 11
  · exact step_fork base bb d P F Q o w h ho hb hk h11
  · exact step_append base bb d P F Q o w h ho hb hk (by omega)
end Go.Proofs.Yticnncgbfpgeaaa

