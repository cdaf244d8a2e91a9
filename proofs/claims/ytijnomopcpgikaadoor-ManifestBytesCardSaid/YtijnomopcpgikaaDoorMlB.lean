/- loggialaw16: ManifestBytes, walked. -/
import Derived.Test.YtijnomopcpgikaaDoorMlA
import Derived.Test.YtijnomopcpgikaaDoorMfStore
namespace Go.Proofs.YtijnomopcpgikaaDoor
open Go.RowKit

set_option maxRecDepth 100000 in
set_option maxHeartbeats 4000000 in
theorem bytes_any (m0 : Mf) (A B : Option Addr) (c n c2 : Nat) (l0 : List UInt8) (w : World) (hm : m0.Ok w w.heap.size A c) (hb : In8 w B n c2 l0) :
    Calls Tryd.prog 3 #[m0.val A c, .slice B n c2] w fun e w' => e = .returned (.bool true) ∧ Ext w w' := by
  have hfew := fun W (hE : Ext w W) => few_any w.heap.size m0 A c W (hm.ext hE)
  obtain ⟨m, hmd⟩ : ∃ m, m = m0.few := ⟨_, rfl⟩
  have hok := hm.few
  have hr0 : Row (w.alloc (.cells #[.slice A m0.ps.length c, .int .i64 m0.floor, .int .i64 m0.done, .int .i64 m0.log, .int .i64 m0.next, .int .i64 m0.now] 24)) w.heap.size 24 #[.slice A m0.ps.length c, .int .i64 m0.floor, .int .i64 m0.done, .int .i64 m0.log, .int .i64 m0.next, .int .i64 m0.now] := Row.new w _ _
  have hE0 : Ext w (w.alloc (.cells #[.slice A m0.ps.length c, .int .i64 m0.floor, .int .i64 m0.done, .int .i64 m0.log, .int .i64 m0.next, .int .i64 m0.now] 24)) := (Ext.refl w).alloc _
  have hcut := fun W => cut_any B n c2 l0 w W hb
  rw [← hmd] at hok hfew
  unfold Mf.val at hfew ⊢
  replace hfew := hide hfew
  replace hcut := hide hcut
  clear hm hmd
  go_enter Tryd.func3, Tryd.ntmps3
  go_wp2_with fail
  refine (hfew.out _ hE0).mono ?_
  rintro e w1 ⟨rfl, hE1⟩
  have hr1 := hr0.ext hE1
  have q1 := setM_row hr1 m A c
  have q2 := setM_ext (hE0.trans hE1) (Nat.le_refl _) m A c
  have f0 := fun i => hr1.free i
  have x0 : w1.cell? ⟨w.heap.size, 0, none⟩ = some (.slice A m0.ps.length c) := hr1.cell 0 rfl
  have x1 : w1.cell? ⟨w.heap.size, 1, none⟩ = some (.int .i64 m0.floor) := hr1.cell 1 rfl
  have x2 : w1.cell? ⟨w.heap.size, 2, none⟩ = some (.int .i64 m0.done) := hr1.cell 2 rfl
  have x3 : w1.cell? ⟨w.heap.size, 3, none⟩ = some (.int .i64 m0.log) := hr1.cell 3 rfl
  have x4 : w1.cell? ⟨w.heap.size, 4, none⟩ = some (.int .i64 m0.next) := hr1.cell 4 rfl
  have x5 : w1.cell? ⟨w.heap.size, 5, none⟩ = some (.int .i64 m0.now) := hr1.cell 5 rfl
  have xl := hr1.lt
  clear hr0 hE0
  go_wp2_with fail
  obtain ⟨w2, hw2⟩ : ∃ w2, w2 = setM w1 w.heap.size m A c := ⟨_, rfl⟩
  rw [← hw2] at q1 q2
  unfold setM at hw2
  rw [← hw2]
  clear hw2 f0 x0 x1 x2 x3 x4 x5 xl hr1 hE1
  unfold Mf.cells at q1
  have y0 : w2.cell? ⟨w.heap.size, 0, none⟩ = some (.slice A m.ps.length c) := q1.cell 0 rfl
  have y1 : w2.cell? ⟨w.heap.size, 1, none⟩ = some (.int .i64 m.floor) := q1.cell 1 rfl
  have y2 : w2.cell? ⟨w.heap.size, 2, none⟩ = some (.int .i64 m.done) := q1.cell 2 rfl
  have y3 : w2.cell? ⟨w.heap.size, 3, none⟩ = some (.int .i64 m.log) := q1.cell 3 rfl
  have y4 : w2.cell? ⟨w.heap.size, 4, none⟩ = some (.int .i64 m.next) := q1.cell 4 rfl
  have y5 : w2.cell? ⟨w.heap.size, 5, none⟩ = some (.int .i64 m.now) := q1.cell 5 rfl
  have hen := encode_any w.heap.size m A c w2 (hok.ext q2)
  unfold Mf.val at hen
  refine (hcut.out _).mono ?_
  rintro e w20 ⟨⟨rfl, hin⟩, rfl⟩
  obtain ⟨l, hl⟩ : ∃ l, l = cutL l0 := ⟨_, rfl⟩
  have hl9 : l.length ≤ 900 := by rw [hl]; unfold cutL; rw [List.length_take]; omega
  rw [← hl] at hin ⊢
  clear hl
  replace hen := hide hen
  replace q1 := hide q1
  replace q2 := hide q2
  go_wp2_with fail
  refine hen.out.mono ?_
  rintro e w3 he3
  obtain ⟨A3, c3, rfl, hi3, hE3⟩ := he3.val
  clear he3
  have q3 := hide (q1.out.ext hE3)
  have hE23 := hide (q2.out.trans hE3)
  have z0 : w3.cell? ⟨w.heap.size, 0, none⟩ = some (.slice A m.ps.length c) := q3.out.cell 0 rfl
  have z1 : w3.cell? ⟨w.heap.size, 1, none⟩ = some (.int .i64 m.floor) := q3.out.cell 1 rfl
  have z2 : w3.cell? ⟨w.heap.size, 2, none⟩ = some (.int .i64 m.done) := q3.out.cell 2 rfl
  have z3 : w3.cell? ⟨w.heap.size, 3, none⟩ = some (.int .i64 m.log) := q3.out.cell 3 rfl
  have z4 : w3.cell? ⟨w.heap.size, 4, none⟩ = some (.int .i64 m.next) := q3.out.cell 4 rfl
  have z5 : w3.cell? ⟨w.heap.size, 5, none⟩ = some (.int .i64 m.now) := q3.out.cell 5 rfl
  have hrn := rencode_any w.heap.size m A c w3 (hok.ext hE23.out)
  unfold Mf.val at hrn
  replace hrn := hide hrn
  clear y0 y1 y2 y3 y4 y5
  go_wp2_with fail
  refine hrn.out.mono ?_
  rintro e w4 he4
  obtain ⟨A4, c4, rfl, hi4, hE4⟩ := he4.val
  clear he4 z0 z1 z2 z3 z4 z5
  have hE24 := hide (hE23.out.trans hE4)
  have hi3' := hide (hi3.ext hE4)
  have hdc := decode_any B l.length c2 l w4 (hin.ext hE24.out) (by omega)
  replace hdc := hide hdc
  go_wp2_with fail
  refine hdc.out.mono ?_
  rintro e w5 he5
  obtain ⟨A5, c5, rfl, ho5, hE5⟩ := he5.val
  clear he5
  have hE25 := hide (hE24.out.trans hE5)
  obtain ⟨d, hd⟩ : ∃ d, d = decF l := ⟨_, rfl⟩
  rw [← hd] at ho5 ⊢
  obtain ⟨k, hk⟩ : ∃ k, k = decC l := ⟨_, rfl⟩
  rw [← hk]
  replace hd := hide hd
  replace hk := hide hk
  obtain ⟨W5, hW5⟩ : ∃ W5, W5 = w5.alloc (.cells #[.slice A5 d.ps.length c5, .int .i64 d.floor, .int .i64 d.done, .int .i64 d.log, .int .i64 d.next, .int .i64 d.now] 24) := ⟨_, rfl⟩
  have hE55 : Ext w5 W5 := by rw [hW5]; exact (Ext.refl w5).alloc _
  have hu : Row W5 w5.heap.size 24 #[.slice A5 d.ps.length c5, .int .i64 d.floor, .int .i64 d.done, .int .i64 d.log, .int .i64 d.next, .int .i64 d.now] := by rw [hW5]; exact Row.new w5 _ _
  have hrd := rdecode_any B l.length c2 l W5 (hin.ext (hE25.out.trans hE55)) (by omega)
  replace hrd := hide hrd
  replace hW5 := hide hW5
  replace hu := hide hu
  unfold Mf.val
  go_wp2_with fail
  rw [← hW5.out]
  refine hrd.out.mono ?_
  rintro e w6 he6
  obtain ⟨A6, c6, rfl, ho6, hE6⟩ := he6.val
  clear he6
  rw [← hd.out, ← hk.out]
  rw [← hd.out] at ho6
  have hE56 := hE55.trans hE6
  have hE26 := hide (hE25.out.trans hE56)
  have hu6 := hu.out.ext hE6
  obtain ⟨W6, hW6⟩ : ∃ W6, W6 = w6.alloc (.cells #[.slice A6 d.ps.length c6, .int .i64 d.floor, .int .i64 d.done, .int .i64 d.log, .int .i64 d.next, .int .i64 d.now] 24) := ⟨_, rfl⟩
  have hE66 : Ext w6 W6 := by rw [hW6]; exact (Ext.refl w6).alloc _
  have hv : Row W6 w6.heap.size 24 #[.slice A6 d.ps.length c6, .int .i64 d.floor, .int .i64 d.done, .int .i64 d.log, .int .i64 d.next, .int .i64 d.now] := by rw [hW6]; exact Row.new w6 _ _
  have hu7 := hu6.ext hE66
  have hE27 := hide (hE26.out.trans hE66)
  have u0 : W6.cell? ⟨w5.heap.size, 0, none⟩ = some (.slice A5 d.ps.length c5) := hu7.cell 0 rfl
  have u1 : W6.cell? ⟨w5.heap.size, 1, none⟩ = some (.int .i64 d.floor) := hu7.cell 1 rfl
  have u2 : W6.cell? ⟨w5.heap.size, 2, none⟩ = some (.int .i64 d.done) := hu7.cell 2 rfl
  have u3 : W6.cell? ⟨w5.heap.size, 3, none⟩ = some (.int .i64 d.log) := hu7.cell 3 rfl
  have u4 : W6.cell? ⟨w5.heap.size, 4, none⟩ = some (.int .i64 d.next) := hu7.cell 4 rfl
  have u5 : W6.cell? ⟨w5.heap.size, 5, none⟩ = some (.int .i64 d.now) := hu7.cell 5 rfl
  have v0 : W6.cell? ⟨w6.heap.size, 0, none⟩ = some (.slice A6 d.ps.length c6) := hv.cell 0 rfl
  have v1 : W6.cell? ⟨w6.heap.size, 1, none⟩ = some (.int .i64 d.floor) := hv.cell 1 rfl
  have v2 : W6.cell? ⟨w6.heap.size, 2, none⟩ = some (.int .i64 d.done) := hv.cell 2 rfl
  have v3 : W6.cell? ⟨w6.heap.size, 3, none⟩ = some (.int .i64 d.log) := hv.cell 3 rfl
  have v4 : W6.cell? ⟨w6.heap.size, 4, none⟩ = some (.int .i64 d.next) := hv.cell 4 rfl
  have v5 : W6.cell? ⟨w6.heap.size, 5, none⟩ = some (.int .i64 d.now) := hv.cell 5 rfl
  have hs1 := run_str ((hi3'.out.ext (hE5.trans (hE56.trans hE66))).bytes) (encV m).length c3 rfl
  have hs2 := run_str ((hi4.ext (hE5.trans (hE56.trans hE66))).bytes) (encV m).length c4 rfl
  have hsm := rsame_any w5.heap.size w6.heap.size d d A5 A6 c5 c6 W6 (ho5.ext (hE56.trans hE66)) (ho6.ext hE66)
  rw [sameP_refl] at hsm
  unfold Mf.val at hsm ⊢
  have haw := hide (awake_any)
  have hbq : (encV m == encV m) = true := by simp
  obtain ⟨ln, hln⟩ : ∃ ln, ln = (encV m).length := ⟨_, rfl⟩
  rw [← hln] at hs1 hs2 ⊢
  replace hsm := hide hsm
  subst hW6
  clear hd hk hu6 hu7 hv hln ho5 ho6
  go_wp2_with fail
  refine hsm.out.mono ?_
  rintro e w7 ⟨rfl, hE7⟩
  have hE28 := hide (hE27.out.trans hE7)
  go_wp2_with fail
  refine (haw.out _).mono ?_
  rintro e w8 ⟨rfl, hE8⟩
  go_wp2_with fail
  go_ret
  exact ⟨rfl, hE28.out.trans hE8⟩
end Go.Proofs.YtijnomopcpgikaaDoor
