/- loggialaw06: do both stand alike? -/
import Derived.Test.YticnncgbfpgeaaaDlL
import Derived.Deep.CutRange
import Derived.Deep.DeepCutAuto
import Derived.Deep.RegionHeld3
import Derived.Deep.QuietTactic
import Derived.BigQuiet
namespace Go.Proofs.Yticnncgbfpgeaaa
open Go.RowKit Go.Maps

/-- All names are names. -/
def Nm (P : PD) : Prop := ∀ f ∈ P.L, namedM f.1 = true
theorem read_all {P : PD} (hN : Nm P) (hs : P.stopped = false) {s : List UInt8} {f : PF} (hf : P.find s = some f) : readM P s 0 ((f.2.1.length : Int) + 1) = (f.2.1, 0) := by
  have h1 := find_some hf
  have h2 : namedM s = true := by rw [← h1.2]; exact hN f h1.1
  unfold readM
  rw [if_pos h2, hs, if_neg (by simp), hf]
  have h3 : ¬ ((0 : Int) < 0 ∨ (f.2.1.length : Int) < 0 ∨ (f.2.1.length : Int) + 1 < 0) := by omega
  simp only
  rw [if_neg h3]
  have h4 : ((f.2.1.length : Int) + 1).toNat = f.2.1.length + 1 := by omega
  rw [h4]
  simp only [Int.toNat_zero, List.drop_zero]
  rw [List.take_of_length_le (by omega)]
theorem used2_any {w : World} {base d : Nat} {P : PD} {F : Nat → Prop} (h : DS w base d P F) : Calls Try.prog 16 #[.pointer (some ⟨d, 0, none⟩)] w fun e w' => e = .returned (.int .i64 (usedP P.L)) ∧ Ext w w' := by
  obtain ⟨m, E, hD, hF⟩ := h
  have := used_any base d m P.quota P.armed P.stopped E w hD.row hD.fs (Nat.le_trans hD.used_le (by omega))
  rw [hD.used] at this
  exact this
theorem DS.upL {w : World} {base d : Nat} {P : PD} {F : Nat → Prop} (h : DS w base d P F) : Up fname P.L := by
  obtain ⟨m, E, hD, hF⟩ := h
  rw [← hD.pl]
  exact List.pairwise_map.2 hD.up
set_option maxRecDepth 100000 in
set_option maxHeartbeats 4000000 in
theorem same_any (base bb d : Nat) (P : PD) (F Q : Nat → Prop) (s : List UInt8) (w : World) (h : BS w base bb d P F Q) (hN : Nm P) (hs : s.length ≤ 9223372036854775807) :
    Calls Try.prog 25 #[.pointer (some ⟨bb, 0, none⟩), str s] w fun e w' => e = .returned (.bool true) ∧ Ext w w' := by
  obtain ⟨A, n, c, R, hrb, hR, hP⟩ := h.ref
  have hS := h.disk
  have hmany := hR.many
  have b0 := hrb.cell 0 rfl
  have b1 := hrb.cell 1 rfl
  have b2 := hrb.cell 2 rfl
  have b3 := hrb.cell 3 rfl
  have b4 := hrb.cell 4 rfl
  have hsz := size_any base d P F s w hS hs
  have hrz := rsize_any _ A n c P R s w hR hP
  unfold rdisk at hrz
  unfold str at hsz hrz ⊢
  replace hsz := hide hsz
  replace hrz := hide hrz
  replace hP := hide hP
  replace hN := hide hN
  go_enter Try.func25, Try.ntmps25
  go_wp2_with fail
  refine hsz.out.mono ?_
  rintro e w1 ⟨rfl, rfl⟩
  go_wp2_with fail
  refine hrz.out.mono ?_
  rintro e wx ⟨rfl, hEx⟩
  have hrx := hrb.ext hEx
  have hRx := hR.ext hEx
  have hSx := hS.ext hEx
  have x0 := hrx.cell 0 rfl
  have x1 := hrx.cell 1 rfl
  have x2 := hrx.cell 2 rfl
  have x3 := hrx.cell 3 rfl
  have x4 := hrx.cell 4 rfl
  go_upto_region 3 with (fail)
  go_cut [93] (fun s93 wy => s93 = .bool false ∧ Ext wx wy)
  case first =>
    have hS0 : wx.drew.cell? ⟨bb, 0, none⟩ = some (.pointer (some ⟨d, 0, none⟩)) ∧ wx.drew.cell? ⟨bb, 1, none⟩ = some (.slice A n c) ∧ wx.drew.cell? ⟨bb, 2, none⟩ = some (.int .i64 P.quota) ∧ wx.drew.cell? ⟨bb, 3, none⟩ = some (.int .i64 P.armed) ∧ wx.drew.cell? ⟨bb, 4, none⟩ = some (.bool P.stopped) ∧ Ext wx wx.drew := ⟨x0, x1, x2, x3, x4, (Ext.refl wx).drew⟩
    have hS1 : wx.cell? ⟨bb, 0, none⟩ = some (.pointer (some ⟨d, 0, none⟩)) ∧ wx.cell? ⟨bb, 1, none⟩ = some (.slice A n c) ∧ wx.cell? ⟨bb, 2, none⟩ = some (.int .i64 P.quota) ∧ wx.cell? ⟨bb, 3, none⟩ = some (.int .i64 P.armed) ∧ wx.cell? ⟨bb, 4, none⟩ = some (.bool P.stopped) ∧ Ext wx wx := ⟨x0, x1, x2, x3, x4, Ext.refl wx⟩
    obtain ⟨S, hSd⟩ : ∃ S : World → Prop, S = fun w' => w'.cell? ⟨bb, 0, none⟩ = some (.pointer (some ⟨d, 0, none⟩)) ∧ w'.cell? ⟨bb, 1, none⟩ = some (.slice A n c) ∧ w'.cell? ⟨bb, 2, none⟩ = some (.int .i64 P.quota) ∧ w'.cell? ⟨bb, 3, none⟩ = some (.int .i64 P.armed) ∧ w'.cell? ⟨bb, 4, none⟩ = some (.bool P.stopped) ∧ Ext wx w' := ⟨_, rfl⟩
    have hkp : ∀ w0 w1 : World, S w0 → Ext w0 w1 → S w1 := by
      rw [hSd]
      exact fun w0 w1 h1 h3 => ⟨h3.cell h1.1, h3.cell h1.2.1, h3.cell h1.2.2.1, h3.cell h1.2.2.2.1, h3.cell h1.2.2.2.2.1, h1.2.2.2.2.2.trans h3⟩
    have hx : ∀ w0, S w0 → Ext wx w0 := by rw [hSd]; exact fun _ h => h.2.2.2.2.2
    have hused : ∀ w0, S w0 → Calls Try.prog 16 #[.pointer (some ⟨d, 0, none⟩)] w0 fun e w' => e = .returned (.int .i64 (usedP P.L)) ∧ Ext w0 w' := fun w0 h0 => used2_any (hSx.ext (hx w0 h0))
    have hrused : ∀ w0, S w0 → Calls Try.prog 46 #[rdisk A n c P.quota P.armed P.stopped] w0 fun e w' => e = .returned (.int .i64 (usedP P.L)) ∧ Ext w0 w' := fun w0 h0 => by
      have := rused_any _ A n c P.quota P.armed P.stopped R w0 (hRx.ext (hx w0 h0))
      rw [hP.out] at this
      exact this
    have hstp : ∀ w0, S w0 → Calls Try.prog 14 #[.pointer (some ⟨d, 0, none⟩)] w0 fun e w' => e = .returned (.bool P.stopped) ∧ w' = w0 := fun w0 h0 => stopped_any base d P F w0 (hSx.ext (hx w0 h0))
    have hdur : ∀ w0, S w0 → Calls Try.prog 23 #[.pointer (some ⟨d, 0, none⟩), str s] w0 fun e w' => e = .returned (.int .i64 (durM P s)) ∧ w' = w0 := fun w0 h0 => durable_any base d P F s w0 (hSx.ext (hx w0 h0)) hs
    have hrdur : ∀ w0, S w0 → Calls Try.prog 47 #[rdisk A n c P.quota P.armed P.stopped, str s] w0 fun e w' => e = .returned (.int .i64 (durM P s)) ∧ Ext w0 w' := fun w0 h0 => rdurable_any _ A n c P R s w0 (hRx.ext (hx w0 h0)) hP.out
    have hli : ∀ w0, S w0 → Calls Try.prog 11 #[.pointer (some ⟨d, 0, none⟩)] w0 fun e w' => ∃ A5 n5 c5, e = .returned (.slice A5 n5 c5) ∧ Hid (n5 = (listM P).length ∧ n5 ≤ 1024 ∧ Cells w' A5 ((listM P).map str)) ∧ Ext w0 w' := fun w0 h0 =>
      (list_any base d P F w0 (hSx.ext (hx w0 h0))).mono (by rintro e w' ⟨A5, n5, c5, rfl, h1, h2, h3, h4, h5, h6⟩; exact ⟨A5, n5, c5, rfl, hide ⟨h1, h4, h2⟩, h6⟩)
    have hrli : ∀ w0, S w0 → Calls Try.prog 49 #[rdisk A n c P.quota P.armed P.stopped] w0 fun e w' => ∃ A5 n5 c5, e = .returned (.slice A5 n5 c5) ∧ Hid (n5 = (listM P).length ∧ n5 ≤ 1024 ∧ Cells w' A5 ((listM P).map str)) ∧ Ext w0 w' := fun w0 h0 =>
      (rlist_any _ A n c P R w0 (hRx.ext (hx w0 h0)) hP.out).mono (by rintro e w' ⟨A5, n5, c5, rfl, h1, h2, h3, h6⟩; exact ⟨A5, n5, c5, rfl, hide ⟨h1, h2, h3⟩, h6⟩)
    have hsn : ∀ w5 w6 A5 n5 c5 A6 n6 c6, Hid (n5 = (listM P).length ∧ n5 ≤ 1024 ∧ Cells w5 A5 ((listM P).map str)) → Hid (n6 = (listM P).length ∧ n6 ≤ 1024 ∧ Cells w6 A6 ((listM P).map str)) → Ext w5 w6 →
        Calls Try.prog 48 #[.slice A5 n5 c5, .slice A6 n6 c6] w6 fun e w' => e = .returned (.bool true) ∧ Ext w6 w' := fun w5 w6 A5 n5 c5 A6 n6 c6 h5 h6 hE => by
      have := rsame_any A5 A6 n5 n6 c5 c6 (listM P) (listM P) w6 h5.out.1 h6.out.1 ((Chg.of_ext hE (fun _ => False)).cells h5.out.2.2 fun _ _ h => h) h6.out.2.2 h5.out.2.1 h6.out.2.1
      rw [decide_eq_true rfl] at this
      exact this
    unfold rdisk at hrused hrdur hrli
    unfold str at hdur hrdur
    rw [hSd] at hkp hused hrused hstp hdur hrdur hli hrli
    simp only [] at hkp hused hrused hstp hdur hrdur hli hrli
    clear hx hSd S
    replace hkp := hide hkp
    replace hS0 := hide hS0
    replace hS1 := hide hS1
    replace hused := hide hused
    replace hrused := hide hrused
    replace hstp := hide hstp
    replace hdur := hide hdur
    replace hrdur := hide hrdur
    replace hli := hide hli
    replace hrli := hide hrli
    replace hsn := hide hsn
    go_region_held3 (fun w' => w'.cell? ⟨bb, 0, none⟩ = some (.pointer (some ⟨d, 0, none⟩)) ∧ w'.cell? ⟨bb, 1, none⟩ = some (.slice A n c) ∧ w'.cell? ⟨bb, 2, none⟩ = some (.int .i64 P.quota) ∧ w'.cell? ⟨bb, 3, none⟩ = some (.int .i64 P.armed) ∧ w'.cell? ⟨bb, 4, none⟩ = some (.bool P.stopped) ∧ Ext wx w') (first | exact hS0.out | exact hS1.out | exact ‹_› | exact hkp.out _ _ ‹_› ‹_›) (first
      | (go_at_call 16; refine (hused.out _ ‹_›).mono ?_; rintro e w2 ⟨rfl, hE2⟩)
      | (go_at_call 46; refine (hrused.out _ ‹_›).mono ?_; rintro e w3 ⟨rfl, hE3⟩)
      | (go_at_call 14; refine (hstp.out _ ‹_›).mono ?_; rintro e w3' ⟨rfl, rfl⟩)
      | (go_at_call 23; refine (hdur.out _ ‹_›).mono ?_; rintro e w3' ⟨rfl, rfl⟩)
      | (go_at_call 47; refine (hrdur.out _ ‹_›).mono ?_; rintro e w4 ⟨rfl, hE4⟩)
      | (go_at_call 11; refine (hli.out _ ‹_›).mono ?_; rintro e w5 ⟨A5, n5, c5, rfl, hL5, hE5⟩)
      | (go_at_call 49; refine (hrli.out _ ‹_›).mono ?_; rintro e w6 ⟨A6, n6, c6, rfl, hL6, hE6⟩)
      | (go_at_call 48; refine (hsn.out _ _ _ _ _ _ _ _ hL5 hL6 ‹_›).mono ?_; rintro e w7 ⟨rfl, hE7⟩))
    go_wp2_with fail
    go_meet
    case rel => exact ⟨rfl, ((((((Ext.refl wx).drew.trans hE2).trans hE3).trans hE4).trans hE5).trans hE6).trans hE7⟩
  case rest =>
    obtain ⟨hs93, hwy⟩ := hcut
    subst hs93
    obtain ⟨wy, rfl⟩ : ∃ wy, wy = wc := ⟨_, rfl⟩
    have hEy : Ext w1 wy := hEx.trans hwy
    have y0 := (hrx.ext hwy).cell 0 rfl
    clear x0 x1 x2 x3 x4 b0 b1 b2 b3 b4 hRx hSx hrx hsz hrz
    obtain ⟨st, hst⟩ : ∃ st, st = P.stopped := ⟨_, rfl⟩
    replace hst := hide hst
    go_wp2_with fail
    go_loopw [9] (fun s9 wr => ∃ i : Nat, s9 = .int .i64 i ∧ i ≤ n ∧ Ext w1 wr) (fun s9 _ => n - (intOf s9).toNat)
    case atStart => exact ⟨0, rfl, by omega, hEy⟩
    case round =>
      obtain ⟨i, rfl, hi, hEr⟩ := hrel
      have hrr := hrb.ext hEr
      have r0 := hrr.cell 0 rfl
      have r1 := hrr.cell 1 rfl
      have r4 : wr.cell? ⟨bb, 4, none⟩ = some (.bool st) := by rw [hst.out]; exact hrr.cell 4 rfl
      replace hrr := hide hrr
      cases st with
      | true =>
        by_cases hin : i < n
        · go_wp2_with fail
          go_ret
          exact ⟨rfl, hEr⟩
        · go_wp2_with fail
          go_ret
          exact ⟨rfl, hEr⟩
      | false =>
        by_cases hin : i < n
        · have hRr := hR.ext hEr
          obtain ⟨g, o, r, rfl, hr, k0, k1, k2⟩ := hRr.at_ hin
          have hm := List.mem_of_getElem? hr
          have hok := hRr.ok r hm
          have hpl : P.find r.name = some r.pl := find_of (f := r.pl) hS.upL (by rw [← hP.out]; exact List.mem_map_of_mem hm)
          have hra : readM P r.name 0 ((r.b.length : Int) + 1) = (r.b, 0) := read_all hN.out hst.out.symm hpl
          have hdm : durM P r.name = r.sure := by unfold durM; rw [hpl]; rfl
          have hlen := hok.len
          have hsur := hok.sure
          have hnm := hok.name
          obtain ⟨W, hW⟩ : ∃ W, W = wr.alloc (.cells #[str r.name, .slice r.A r.b.length r.c, .int .i64 r.sure] 53) := ⟨_, rfl⟩
          have hEW : Ext wr W := by rw [hW]; exact (Ext.refl wr).alloc _
          have hbx : Row W wr.heap.size 53 #[str r.name, .slice r.A r.b.length r.c, .int .i64 r.sure] := by rw [hW]; exact Row.new _ _ _
          have hE0 : Ext w1 W := hEr.trans hEW
          have hrd := read_any base d P F r.name 0 ((r.b.length : Int) + 1) W.drew (hS.ext hE0.drew) hnm (by omega) (by omega) (by omega) (by omega)
          unfold ReadPost at hrd
          rw [hra] at hrd
          simp only at hrd
          unfold str at hrd hW hbx k0
          have e0 := hbx.cell 0 rfl
          have e1 := hbx.cell 1 rfl
          have e2 := hbx.cell 2 rfl
          have R0 := (hrb.ext hE0).cell 0 rfl
          have hWx := hide hW.symm
          clear hW
          replace hrd := hide hrd
          replace hpl := hide hpl
          replace hra := hide hra
          replace hdm := hide hdm
          replace hr := hide hr
          go_wp2_with fail
          rw [hWx.out]
          refine wp_region_text follows (by kernel_rfl) (by kernel_rfl) (fun K hK => ?_)
          go_wp2_with fail
          refine hrd.out.mono ?_
          rintro e w2 ⟨A2, k2, c2, rfl, hb2, hk2, hE2⟩
          obtain rfl : k2 = r.b.length := hk2
          have hE2' : Ext W w2 := (Ext.refl W).drew.trans hE2
          have hEw2 : Ext w1 w2 := hE0.trans hE2'
          have hbx2 := hbx.ext hE2'
          have f0 := hbx2.cell 0 rfl
          have f1 := hbx2.cell 1 rfl
          have f2 := hbx2.cell 2 rfl
          have g0 := (hrb.ext hEw2).cell 0 rfl
          have hs1 : ∀ w0, Ext w2 w0 → (convert 27 9 (.slice A2 r.b.length c2)).run Try.prog w0 = .ok (.string ⟨r.b.toArray⟩) w0 := fun w0 h0 => run_str (l := r.b) (w := w0) ((Chg.of_ext h0 (fun _ => False)).cells hb2.cells fun _ _ h => h) _ c2 rfl
          have hs2 : ∀ w0, Ext w2 w0 → (convert 27 9 (.slice r.A r.b.length r.c)).run Try.prog w0 = .ok (.string ⟨r.b.toArray⟩) w0 := fun w0 h0 => run_str (l := r.b) (w := w0) ((Chg.of_ext ((hEW.trans hE2').trans h0) (fun _ => False)).cells hok.bytes fun _ _ h => h) _ r.c rfl
          have hdur : ∀ w0, (w0.cell? ⟨bb, 0, none⟩ = some (.pointer (some ⟨d, 0, none⟩)) ∧ w0.cell? ⟨wr.heap.size, 0, none⟩ = some (.string ⟨r.name.toArray⟩) ∧ w0.cell? ⟨wr.heap.size, 1, none⟩ = some (.slice r.A r.b.length r.c) ∧ w0.cell? ⟨wr.heap.size, 2, none⟩ = some (.int .i64 r.sure) ∧ Ext w2 w0) → Calls Try.prog 23 #[.pointer (some ⟨d, 0, none⟩), .string ⟨r.name.toArray⟩] w0 fun e w' => e = .returned (.int .i64 r.sure) ∧ w' = w0 := fun w0 h0 => by
            have := durable_any base d P F r.name w0 (hS.ext (hEw2.trans h0.2.2.2.2)) hnm
            rw [hdm.out] at this
            exact this
          have hS0 : w2.drew.cell? ⟨bb, 0, none⟩ = some (.pointer (some ⟨d, 0, none⟩)) ∧ w2.drew.cell? ⟨wr.heap.size, 0, none⟩ = some (.string ⟨r.name.toArray⟩) ∧ w2.drew.cell? ⟨wr.heap.size, 1, none⟩ = some (.slice r.A r.b.length r.c) ∧ w2.drew.cell? ⟨wr.heap.size, 2, none⟩ = some (.int .i64 r.sure) ∧ Ext w2 w2.drew := ⟨g0, f0, f1, f2, (Ext.refl w2).drew⟩
          have hS1 : w2.cell? ⟨bb, 0, none⟩ = some (.pointer (some ⟨d, 0, none⟩)) ∧ w2.cell? ⟨wr.heap.size, 0, none⟩ = some (.string ⟨r.name.toArray⟩) ∧ w2.cell? ⟨wr.heap.size, 1, none⟩ = some (.slice r.A r.b.length r.c) ∧ w2.cell? ⟨wr.heap.size, 2, none⟩ = some (.int .i64 r.sure) ∧ Ext w2 w2 := ⟨g0, f0, f1, f2, Ext.refl w2⟩
          replace hS0 := hide hS0
          replace hS1 := hide hS1
          replace hdur := hide hdur
          replace hb2 := hide hb2
          go_wp2_with fail
          refine ⟨by kernel_rfl, ?_⟩
          go_upto_region 10 with (fail)
          go_region_held3 (fun w' => w'.cell? ⟨bb, 0, none⟩ = some (.pointer (some ⟨d, 0, none⟩)) ∧ w'.cell? ⟨wr.heap.size, 0, none⟩ = some (.string ⟨r.name.toArray⟩) ∧ w'.cell? ⟨wr.heap.size, 1, none⟩ = some (.slice r.A r.b.length r.c) ∧ w'.cell? ⟨wr.heap.size, 2, none⟩ = some (.int .i64 r.sure) ∧ Ext w2 w') (first | exact hS0.out | exact hS1.out | exact ‹_›) (first | (go_at_call 23; refine (hdur.out _ ‹_›).mono ?_; rintro e w3 ⟨rfl, rfl⟩))
          go_wp2_with fail
          go_roundw
          case rel => exact ⟨i + 1, by go_num, by omega, hEw2.drew⟩
          case measure => simp [intOf]; omega
        · obtain rfl : i = n := by omega
          go_wp2_with fail
          go_ret
          exact ⟨rfl, hEr⟩
end Go.Proofs.Yticnncgbfpgeaaa
