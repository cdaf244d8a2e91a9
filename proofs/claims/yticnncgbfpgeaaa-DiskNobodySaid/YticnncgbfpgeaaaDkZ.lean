/- loggia/disk: Fork. -/
import Derived.Test.YticnncgbfpgeaaaDkY
namespace Go.Proofs.Yticnncgbfpgeaaa
open Go.RowKit Go.Maps

def FkS (d2 m2 f : Nat) (A : Option Addr) (n c sure : Nat) (w : World) : Prop := w.cell? ⟨d2, 0, none⟩ = some (.map (some m2)) ∧ w.cell? ⟨f, 0, none⟩ = some (.slice A n c) ∧ w.cell? ⟨f, 1, none⟩ = some (.int .i64 sure)
set_option maxRecDepth 100000 in
set_option maxHeartbeats 2000000 in
theorem fork_any (base d : Nat) (P : PD) (F : Nat → Prop) (w : World) (h : DS w base d P F) (hbase : base ≤ w.heap.size) :
    Calls Try.prog 13 #[.pointer (some ⟨d, 0, none⟩)] w fun e w' => ∃ d2 F2, e = .returned (.pointer (some ⟨d2, 0, none⟩)) ∧ DS w' base d2 P F2 ∧ (∀ k, F2 k → w.heap.size ≤ k) ∧ Ext w w' := by
  obtain ⟨m, E, hD, hF⟩ := h
  have h0 := none_any d m P.quota P.armed P.stopped w hD.row
  obtain ⟨L, hL, hmem, hlen⟩ := hD.fs.map
  have hmm := @run_makeMap Try.prog
  obtain ⟨q, hq⟩ : ∃ q, q = P.quota := ⟨_, rfl⟩
  obtain ⟨ar, har⟩ : ∃ ar, ar = P.armed := ⟨_, rfl⟩
  obtain ⟨st, hst⟩ : ∃ st, st = P.stopped := ⟨_, rfl⟩
  have hrow := hD.row
  rw [← hq, ← har, ← hst] at hrow
  have hS0 : w.cell? ⟨d, 1, none⟩ = some (.int .i64 q) ∧ w.cell? ⟨d, 2, none⟩ = some (.int .i64 ar) ∧ w.cell? ⟨d, 3, none⟩ = some (.bool st) := ⟨Row.cell hrow 1 rfl, Row.cell hrow 2 rfl, Row.cell hrow 3 rfl⟩
  have hSk : ∀ (w0 : World) (o : Obj), (w0.cell? ⟨d, 1, none⟩ = some (.int .i64 q) ∧ w0.cell? ⟨d, 2, none⟩ = some (.int .i64 ar) ∧ w0.cell? ⟨d, 3, none⟩ = some (.bool st)) → ((w0.alloc o).cell? ⟨d, 1, none⟩ = some (.int .i64 q) ∧ (w0.alloc o).cell? ⟨d, 2, none⟩ = some (.int .i64 ar) ∧ (w0.alloc o).cell? ⟨d, 3, none⟩ = some (.bool st)) :=
    fun w0 o ⟨h1, h2, h3⟩ => ⟨((Ext.refl w0).alloc o).cell h1, ((Ext.refl w0).alloc o).cell h2, ((Ext.refl w0).alloc o).cell h3⟩
  obtain ⟨m2, hm2⟩ : ∃ m2, m2 = w.heap.size := ⟨_, rfl⟩
  obtain ⟨W, hW⟩ : ∃ W, W = ((w.alloc (.map #[] 0)).alloc (.cells #[.map (some w.heap.size), .int .i64 q, .int .i64 ar, .bool st] 63)).drew := ⟨_, rfl⟩
  have hWsz : W.heap.size = w.heap.size + 2 := by rw [hW]; show ((w.alloc _).alloc _).heap.size = _; rw [size_alloc, size_alloc]
  have hEW : Ext w W := by rw [hW]; exact (((Ext.refl w).alloc _).alloc _).drew
  have hdW : Row W (w.heap.size + 1) 63 #[.map (some w.heap.size), .int .i64 q, .int .i64 ar, .bool st] := by
    have h1 := Row.new (w.alloc (.map #[] 0)) 63 #[.map (some w.heap.size), .int .i64 q, .int .i64 ar, .bool st]
    rw [size_alloc] at h1
    rw [hW]
    exact h1.drew
  have hmW : MapL Try.prog 9 W w.heap.size [] := by
    rw [hW]
    exact ((MapL.made w).alloc _).drew
  have c0W : W.cell? ⟨d, 0, none⟩ = some (.map (some m)) := hEW.cell (Row.cell hD.row 0 rfl)
  obtain ⟨o, hrange, hRL⟩ := (hL.ext hEW).range Try.underlying61
  have hfk : Fk w (W.alloc o) m L E [] [] #[.map (some w.heap.size), .int .i64 q, .int .i64 ar, .bool st] := ⟨by rw [← hWsz]; exact hRL, by simp, hdW.alloc _, ⟨[], hmW.alloc _, by simp⟩, rfl, by simp, List.Pairwise.nil, List.Pairwise.nil, hEW.alloc _⟩
  rw [hWsz] at hrange
  replace hSk := hide hSk
  replace h0 := hide h0
  replace hfk := hide hfk
  replace hm2 := hide hm2
  replace hq := hide hq
  replace har := hide har
  replace hst := hide hst
  have hWs := hW.symm
  replace hWs := hide hWs
  clear hW
  clear hRL hmW hdW
  go_enter Try.func13, Try.ntmps13
  go_wp2_with fail
  refine h0.out.mono ?_
  rintro e w1 ⟨rfl, rfl⟩
  go_upto_region 3 with (fail)
  go_region_held3 (fun w' => w'.cell? ⟨d, 1, none⟩ = some (.int .i64 q) ∧ w'.cell? ⟨d, 2, none⟩ = some (.int .i64 ar) ∧ w'.cell? ⟨d, 3, none⟩ = some (.bool st)) (first | exact hS0 | exact ‹_› | exact hSk.out _ _ ‹_›) (first | fail)
  rw [hWs.out]
  replace hWsz := hide hWsz
  clear hS0
  go_wp2_with fail
  go_loopw [4, 5] (fun s4 s5 wr => ∃ D D2 : List Ent, Hid (Fk w1 wr m L E D D2 #[.map (some w1.heap.size), .int .i64 q, .int .i64 ar, .bool st])) (fun _ _ wr => wr.rangeLeft m (w1.heap.size + 2))
  case atStart => exact ⟨[], [], hfk⟩
  case round =>
    obtain ⟨D, D2, hFk⟩ := hrel
    have hR := hFk.out.rng
    rcases hR.next 0 with ⟨hrun, hall⟩ | ⟨x, v, w2, hxv, hxd, hrun, hR2, hg2, hs2, hent, hleft⟩
    · have hperm : D.Perm E := all_came hD.fs.names hR.dn hFk.out.sub (fun e he => by
        have := hall e.kv ((hmem _).2 ⟨e, he, rfl⟩)
        exact this)
      have hfk2 := hFk.out
      rw [hq.out, har.out, hst.out] at hfk2
      have fin := fk_end hD hbase hfk2 hperm
      have hEx := hFk.out.ext
      replace fin := hide fin
      clear hR hfk2 hall
      go_wp2_with fail
      go_ret
      exact ⟨_, _, rfl, fin.out.1, fin.out.2, hEx⟩
    · obtain ⟨e0, he0, hkv⟩ := (hmem _).1 hxv
      unfold Ent.kv at hkv
      injection hkv with hx1 hv1
      subst hx1
      subst hv1
      have hok := hD.fs.ok e0 he0
      have hEx := hFk.out.ext
      have hFr := hFk.out.row.grown hg2 (fun h => by injection h with h; omega)
      obtain ⟨L2, hL2, hmem2⟩ := hFk.out.map
      have hL2w := hL2.grown hg2 (fun h => by injection h with h; omega)
      have hE2 : Ext w1 w2 := hEx.grown hg2 (fun k hk => by cases hk; omega)
      have hrr : Row w2 e0.f 75 #[.slice e0.A e0.b.length e0.c, .int .i64 e0.sure] := hok.row.ext hE2
      have hl0 := hD.lens e0 he0
      have hz : e0.A = none → e0.c = 0 := by
        intro hA
        rcases hok.buf.2.2 with h | ⟨g, cur, hg, _⟩
        · exact h.2
        · rw [hA] at hg; cases hg
      have hclone := clone_any e0.A e0.b.length e0.c e0.b w2.drew rfl ((hok.buf.cells.ext hE2.drew)) hz (by omega)
      obtain ⟨s0, hs0⟩ : ∃ s0, str e0.name = .string s0 := ⟨_, rfl⟩
      have hSx : ∀ w0 w3 : World, Ext w0 w3 → FkS (w1.heap.size + 1) w1.heap.size e0.f e0.A e0.b.length e0.c e0.sure w0 → FkS (w1.heap.size + 1) w1.heap.size e0.f e0.A e0.b.length e0.c e0.sure w3 := fun w0 w3 h ⟨h1, h2, h3⟩ => ⟨h.cell h1, h.cell h2, h.cell h3⟩
      have hS1 : FkS (w1.heap.size + 1) w1.heap.size e0.f e0.A e0.b.length e0.c e0.sure w2.drew := ⟨hFr.cell 0 rfl, hrr.cell 0 rfl, hrr.cell 1 rfl⟩
      have hupd : ∀ (w5 : World) (A1 : Option Addr) (c1 : Nat), Ext w2.drew w5 → ∃ w6 L', (Instr.mapUpdate 61 (.map (some w1.heap.size)) (.string s0) (.pointer (some ⟨w5.heap.size, 0, none⟩))).run Try.prog (w5.alloc (.cells #[.slice A1 e0.b.length c1, .int .i64 e0.sure] 75)) = .ok () w6 ∧ MapL Try.prog 9 w6 w1.heap.size L' ∧
          Put L2 (str e0.name) (.pointer (some ⟨w5.heap.size, 0, none⟩)) L' ∧ (w5.alloc (.cells #[.slice A1 e0.b.length c1, .int .i64 e0.sure] 75)).grownBy w6 (some w1.heap.size) ∧ FkS (w1.heap.size + 1) w1.heap.size e0.f e0.A e0.b.length e0.c e0.sure w6 := by
        intro w5 A1 c1 h5
        have h6 : Ext w2.drew (w5.alloc (.cells #[.slice A1 e0.b.length c1, .int .i64 e0.sure] 75)) := h5.alloc _
        obtain ⟨w6, L', h1, h2, h3, h4, _⟩ := (hL2w.drew.ext h6).update keyS Try.underlying61 (key_str (hD.fs.short e0 he0)) (.pointer (some ⟨w5.heap.size, 0, none⟩))
        rw [hs0] at h1
        refine ⟨w6, L', h1, h2, h3, h4, ?_⟩
        obtain ⟨g1, g2, g3⟩ := hSx _ _ h6 hS1
        have hc : Chg (fun k => k = w1.heap.size) _ w6 := Chg.of_grown h4 fun k _ hk => by cases hk; rfl
        have hfl := hok.row.lt
        exact ⟨hc.cell g1 (by show ¬ (w1.heap.size + 1 = w1.heap.size); omega), hc.cell g2 (by show ¬ (e0.f = w1.heap.size); omega), hc.cell g3 (by show ¬ (e0.f = w1.heap.size); omega)⟩
      rw [hs0] at hrun hent
      unfold FkS at hS1 hSx hupd
      replace hS1 := hide hS1
      replace hSx := hide hSx
      replace hupd := hide hupd
      replace hclone := hide hclone
      replace hs0 := hide hs0
      replace hs2 := hide hs2
      replace hz := hide hz
      have hR2' := hide hR2
      have hg2' := hide hg2
      clear hR hFr hrr hR2 hg2 hEx hE2 hL2w
      go_wp2_with fail
      go_region_held3 (fun w' => w'.cell? ⟨w1.heap.size + 1, 0, none⟩ = some (.map (some w1.heap.size)) ∧ w'.cell? ⟨e0.f, 0, none⟩ = some (.slice e0.A e0.b.length e0.c) ∧ w'.cell? ⟨e0.f, 1, none⟩ = some (.int .i64 e0.sure)) (first | exact hS1.out | exact ‹_› | exact ⟨Hid.out ‹_›, Hid.out ‹_›, Hid.out ‹_›⟩ | exact hSx.out _ _ ‹_› ‹_› | exact hSx.out _ _ ((Ext.refl _).alloc _) ‹_›) (first | (go_at_call 33; refine hclone.out.mono ?_; rintro e w5 ⟨A1, c1, rfl, hb5, hE5⟩; obtain ⟨w6, L', hup, hL6, hput, hg6, hS6a, hS6b, hS6c⟩ := hupd.out w5 A1 c1 hE5; replace hput := hide hput; replace hS6a := hide hS6a; replace hS6b := hide hS6b; replace hS6c := hide hS6c))
      have hst2 := fk_step hD hFk.out he0 hxd hR2'.out hg2'.out hb5 ((Ext.refl w2).drew.trans hE5) hL2 hmem2 hL6 hput.out hg6
      have hlf : w6.rangeLeft m (w1.heap.size + 2) < wr.rangeLeft m (w1.heap.size + 2) := by rw [hst2.2]; exact hleft
      have hfin := hide hst2.1
      clear hst2
      go_roundw
      case rel => exact ⟨_, _, _, _, _, _, _, _, _, _, _, _, _, _, _, _, _, _, _, _, _, _, _, _, _, _, ⟨D ++ [e0], _, hfin⟩, rfl⟩
      case measure => exact hlf
end Go.Proofs.Yticnncgbfpgeaaa
