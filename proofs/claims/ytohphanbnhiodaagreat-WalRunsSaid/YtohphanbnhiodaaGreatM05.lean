/- loggia/event: Get. -/
import Derived.Test.YtohphanbnhiodaaGreatM04
import Derived.HandedShaped
import Derived.Handed
set_option linter.unusedSimpArgs false
set_option linter.unusedVariables false
namespace Go.Proofs.YtohphanbnhiodaaGreat
open Go.RowKit

/-- What an event is told to be. -/
def GotE (w0 w : World) (res : Option (Ev × List UInt8)) (e : Ending) (w' : World) : Prop := Ext w w' ∧ match res with
  | some (ev, r) => ∃ B d A c, e = .returned (.tuple #[ev.val B d, .slice A r.length c, .int .i64 0]) ∧ ev.Own w' w.heap.size B d ∧ In8 w0 A r.length c r ∧ I64ok' ev.at_
  | none => e = .returned (.tuple #[.agg #[.int .i64 0, .slice none 0 0], .slice none 0 0, .int .i64 100])
theorem GotE.no {w0 w w' : World} {res : Option (Ev × List UInt8)} (hE : Ext w w') (h : res = none) : GotE w0 w res (.returned (.tuple #[.agg #[.int .i64 0, .slice none 0 0], .slice none 0 0, .int .i64 100])) w' := by
  subst h
  exact ⟨hE, rfl⟩
/-- What has been read ahead of it. -/
def aheadF (read : List Fd) : Option (List Fd × List UInt8) → Option (List Fd × List UInt8)
  | none => none
  | some (fs, r) => some (read ++ fs, r)
theorem aheadF_nil (x : Option (List Fd × List UInt8)) : aheadF [] x = x := by cases x <;> rfl
theorem getFs_step {k i : Nat} {read : List Fd} {L r r1 r2 nm tx : List UInt8} (h : getFs k L = aheadF read (getFs (k - i) r)) (hi : i < k) (h1 : getT 32 r = .ok (nm, r1)) (h2 : getT 4096 r1 = .ok (tx, r2)) : getFs k L = aheadF (read ++ [(nm, tx)]) (getFs (k - (i + 1)) r2) := by
  obtain ⟨j, hj⟩ : ∃ j, k - i = j + 1 := ⟨k - i - 1, by omega⟩
  rw [h, hj, show k - (i + 1) = j by omega]
  conv => lhs; unfold getFs
  rw [h1]
  simp only
  rw [h2]
  simp only
  cases getFs j r2 with
  | none => rfl
  | some p => obtain ⟨fs, r3⟩ := p; simp [aheadF]
theorem getFs_no1 {k i : Nat} {read : List Fd} {L r : List UInt8} {x : Nat} (h : getFs k L = aheadF read (getFs (k - i) r)) (hi : i < k) (h1 : getT 32 r = .error x) : getFs k L = none := by
  obtain ⟨j, hj⟩ : ∃ j, k - i = j + 1 := ⟨k - i - 1, by omega⟩
  rw [h, hj]
  unfold getFs
  rw [h1]
  rfl
theorem getFs_no2 {k i : Nat} {read : List Fd} {L r r1 nm : List UInt8} {x : Nat} (h : getFs k L = aheadF read (getFs (k - i) r)) (hi : i < k) (h1 : getT 32 r = .ok (nm, r1)) (h2 : getT 4096 r1 = .error x) : getFs k L = none := by
  obtain ⟨j, hj⟩ : ∃ j, k - i = j + 1 := ⟨k - i - 1, by omega⟩
  rw [h, hj]
  unfold getFs
  rw [h1]
  simp only
  rw [h2]
  rfl
theorem getFs_fin {k i : Nat} {read : List Fd} {L r : List UInt8} (h : getFs k L = aheadF read (getFs (k - i) r)) (hi : k ≤ i) : getFs k L = some (read, r) := by
  rw [h, show k - i = 0 by omega]
  unfold getFs aheadF
  simp
theorem getT_err {most k : Nat} {l : List UInt8} (h : getT most l = .error k) : 0 < k := by
  unfold getT at h
  split at h
  · rename_i hg
    injection h with h
    rw [← h]
    exact getV_err _ _ _ hg
  · split at h
    · injection h with h; omega
    · split at h
      · injection h with h; omega
      · cases h
/-- The event's block, written. -/
def setEv (w : World) (g : Nat) (at_ : Int) (A : Option Addr) (n c : Nat) : World := (w.setCell ⟨g, 0, none⟩ (.int .i64 at_)).setCell ⟨g, 1, none⟩ (.slice A n c)
theorem setEv_row {w : World} {g : Nat} {T : TypeId} {x y : Value} (h : Row w g T #[x, y]) (at_ : Int) (A : Option Addr) (n c : Nat) : Row (setEv w g at_ A n c) g T #[.int .i64 at_, .slice A n c] := (h.put 0 _).put 1 _
theorem setEv_chg (w : World) (g : Nat) (at_ : Int) (A : Option Addr) (n c : Nat) : Chg (fun k => k = g) w (setEv w g at_ A n c) := (Chg.of_set (S := fun k => k = g) w _ rfl).trans (Chg.of_set (S := fun k => k = g) _ _ rfl) fun _ _ h => h
theorem setEv_ext {w0 w : World} (h : Ext w0 w) {g : Nat} (hg : w0.heap.size ≤ g) (at_ : Int) (A : Option Addr) (n c : Nat) : Ext w0 (setEv w g at_ A n c) := h.chg (setEv_chg w g at_ A n c) fun i hi he => by omega
set_option maxRecDepth 100000 in
set_option maxHeartbeats 4000000 in
theorem evget_any (A : Option Addr) (n c : Nat) (l : List UInt8) (w0 w : World) (h : In8 w0 A n c l) (hw : Ext w0 w) (hle : n ≤ 1000000000) :
    Calls Tryz.prog 107 #[.slice A n c] w fun e w' => GotE w0 w (getE l) e w' := by
  obtain ⟨W, hW⟩ : ∃ W, W = w.alloc (.cells #[.int .i64 0, .slice none 0 0] 89) := ⟨_, rfl⟩
  have hEW : Ext w W := by rw [hW]; exact (Ext.refl w).alloc _
  obtain ⟨b, hb⟩ : ∃ b, b = w.heap.size := ⟨_, rfl⟩
  have hr : Row W b 89 #[.int .i64 0, .slice none 0 0] := by rw [hW, hb]; exact Row.new w _ _
  have hbw := hide (Nat.le_of_eq hb.symm)
  have hg1 := getInt_any A n c l w0 W h (hw.trans hEW) hle
  have hln : l.length ≤ 1000000000 := by rw [← h.len]; exact hle
  obtain ⟨Z, hZ⟩ : ∃ Z, Z = getE l := ⟨_, rfl⟩
  rw [← hZ]
  unfold getE at hZ
  replace hW := hide hW
  replace hb := hide hb
  clear h
  cases hv1 : getV 0 l with
  | error k =>
    rw [hv1] at hg1 hZ
    have hk := getV_err l 0 k hv1
    have hk0 : ((k : Int) != 0) = true := by simp; omega
    have hg := hide hg1
    clear hv1 hk hg1
    go_enter Tryz.func107, Tryz.ntmps107
    go_wp2_with fail
    rw [← hW.out, ← hb.out]
    refine hg.out.mono ?_
    rintro e w1 ⟨hE1, rfl⟩
    have hr1 := hr.ext hE1
    have f1 := fun i => hr1.free i
    have d0 := hr1.cell 0 rfl
    have d1 := hr1.cell 1 rfl
    replace hr1 := hide hr1
    have hE01 := hide (hEW.trans hE1)
    replace hZ := hide hZ
    go_wp2_with fail
    obtain ⟨wz, hwz⟩ : ∃ wz, wz = setEv w1 b 0 none 0 0 := ⟨_, rfl⟩; have hk := setEv_row hr1.out 0 none 0 0; rw [← hwz] at hk; have hEz := setEv_ext hE01.out hbw.out 0 none 0 0; rw [← hwz] at hEz; unfold setEv at hwz; rw [← hwz]; have k0 : wz.cell? ⟨b, 0, none⟩ = some (.int .i64 0) := hk.cell 0 rfl; have k1 : wz.cell? ⟨b, 1, none⟩ = some (.slice none 0 0) := hk.cell 1 rfl; clear hwz hk; exact bodyPost_ret (v := .tuple #[.agg #[.int .i64 0, .slice none 0 0], .slice none 0 0, .int .i64 100]) (by simp [results, Tryz.results107, go_sem, k0, k1]) rfl (GotE.no hEz hZ.out)
  | ok p =>
    obtain ⟨u, r⟩ := p
    have hu := getV_lt64 hv1
    have hrl : r.length ≤ 1000000000 := by
      obtain ⟨_, _, q, hq, _⟩ := getV_lt l 0 u r hv1
      rw [hq, List.length_append] at hln
      omega
    rw [hv1] at hg1 hZ
    simp only at hZ
    have hg := hide hg1
    have huz := unzig_ok hu
    obtain ⟨at_, hat⟩ : ∃ at_, at_ = unzig u := ⟨_, rfl⟩
    unfold GotI at hg
    simp only at hg
    rw [← hat] at hg hZ huz
    clear hv1 hg1 hat hu
    cases hv2 : getV 0 r with
    | error k =>
      rw [hv2] at hZ
      have hk := getV_err r 0 k hv2
      have hk0 : ((k : Int) != 0) = true := by simp; omega
      have hg2 := fun A c W h hE => get_any A r.length c r w0 W h hE hrl
      rw [hv2] at hg2
      replace hg2 := hide hg2
      replace hZ := hide hZ
      clear hv2 hk
      go_enter Tryz.func107, Tryz.ntmps107
      go_wp2_with fail
      rw [← hW.out, ← hb.out]
      refine hg.out.mono ?_
      rintro e w1 ⟨hE1, A1, c1, rfl, hi1⟩
      have hgg := hide (hg2.out A1 c1 w1 hi1 ((hw.trans hEW).trans hE1))
      go_wp2_with fail
      refine hgg.out.mono ?_
      rintro e w2 ⟨hE2, rfl⟩
      have hr1 := hr.ext (hE1.trans hE2)
      have f1 := fun i => hr1.free i
      have d0 := hr1.cell 0 rfl
      have d1 := hr1.cell 1 rfl
      replace hr1 := hide hr1
      have hE01 := hide (hEW.trans (hE1.trans hE2))
      go_wp2_with fail
      obtain ⟨wz, hwz⟩ : ∃ wz, wz = setEv w2 b 0 none 0 0 := ⟨_, rfl⟩; have hk := setEv_row hr1.out 0 none 0 0; rw [← hwz] at hk; have hEz := setEv_ext hE01.out hbw.out 0 none 0 0; rw [← hwz] at hEz; unfold setEv at hwz; rw [← hwz]; have k0 : wz.cell? ⟨b, 0, none⟩ = some (.int .i64 0) := hk.cell 0 rfl; have k1 : wz.cell? ⟨b, 1, none⟩ = some (.slice none 0 0) := hk.cell 1 rfl; clear hwz hk; exact bodyPost_ret (v := .tuple #[.agg #[.int .i64 0, .slice none 0 0], .slice none 0 0, .int .i64 100]) (by simp [results, Tryz.results107, go_sem, k0, k1]) rfl (GotE.no hEz hZ.out)
    | ok p =>
      obtain ⟨m, r2⟩ := p
      have hrl2 : r2.length ≤ 1000000000 := by
        obtain ⟨_, _, q, hq, _⟩ := getV_lt r 0 m r2 hv2
        rw [hq, List.length_append] at hrl
        omega
      have hm64 := getV_lt64 hv2
      rw [hv2] at hZ
      simp only at hZ
      have hg2 := fun A c W h hE => get_any A r.length c r w0 W h hE hrl
      rw [hv2] at hg2
      unfold Got at hg2
      simp only at hg2
      replace hg2 := hide hg2
      clear hv2
      by_cases hm16 : 16 < m
      · rw [if_pos hm16] at hZ
        have hm' : (16 : Int) < m := by omega
        replace hZ := hide hZ
        go_enter Tryz.func107, Tryz.ntmps107
        go_wp2_with fail
        rw [← hW.out, ← hb.out]
        refine hg.out.mono ?_
        rintro e w1 ⟨hE1, A1, c1, rfl, hi1⟩
        have hgg := hide (hg2.out A1 c1 w1 hi1 ((hw.trans hEW).trans hE1))
        go_wp2_with fail
        refine hgg.out.mono ?_
        rintro e w2 ⟨hE2, A2, c2, rfl, hi2⟩
        have hr1 := hr.ext (hE1.trans hE2)
        have f1 := fun i => hr1.free i
        have d0 := hr1.cell 0 rfl
        have d1 := hr1.cell 1 rfl
        replace hr1 := hide hr1
        have hE01 := hide (hEW.trans (hE1.trans hE2))
        go_wp2_with fail
        obtain ⟨wz, hwz⟩ : ∃ wz, wz = setEv w2 b 0 none 0 0 := ⟨_, rfl⟩; have hk := setEv_row hr1.out 0 none 0 0; rw [← hwz] at hk; have hEz := setEv_ext hE01.out hbw.out 0 none 0 0; rw [← hwz] at hEz; unfold setEv at hwz; rw [← hwz]; have k0 : wz.cell? ⟨b, 0, none⟩ = some (.int .i64 0) := hk.cell 0 rfl; have k1 : wz.cell? ⟨b, 1, none⟩ = some (.slice none 0 0) := hk.cell 1 rfl; clear hwz hk; exact bodyPost_ret (v := .tuple #[.agg #[.int .i64 0, .slice none 0 0], .slice none 0 0, .int .i64 100]) (by simp [results, Tryz.results107, go_sem, k0, k1]) rfl (GotE.no hEz hZ.out)
      · rw [if_neg hm16] at hZ
        have hm' : ¬ (16 : Int) < m := by omega
        replace hZ := hide hZ
        go_enter Tryz.func107, Tryz.ntmps107
        go_wp2_with fail
        rw [← hW.out, ← hb.out]
        refine hg.out.mono ?_
        rintro e w1 ⟨hE1, A1, c1, rfl, hi1⟩
        have hgg := hide (hg2.out A1 c1 w1 hi1 ((hw.trans hEW).trans hE1))
        go_wp2_with fail
        refine hgg.out.mono ?_
        rintro e w2 ⟨hE2, A2, c2, rfl, hi2⟩
        have hr1 := hr.ext (hE1.trans hE2)
        have f1 := fun i => hr1.free i
        have d0 := hr1.cell 0 rfl
        have d1 := hr1.cell 1 rfl
        replace hr1 := hide hr1
        have hE01 := hide (hEW.trans (hE1.trans hE2))
        go_wp2_with fail
        have hrw := hr1.out.put 0 (.int .i64 at_)
        obtain ⟨W3, hW3⟩ : ∃ W3, W3 = w2.setCell ⟨b, 0, none⟩ (.int .i64 at_) := ⟨_, rfl⟩
        have hE03 : Ext w W3 := by rw [hW3]; exact hE01.out.setCell hbw.out _
        have hr3 : Row W3 b 89 #[.int .i64 at_, .slice none 0 0] := by rw [hW3]; exact hrw
        rw [← hW3]
        clear hrw hr1 hE01 f1 d0 d1 hgg hg hg2 hW3
        go_loopw [3, 33] (fun s3 s33 wr => ∃ (i : Nat) (read : List Fd) (rr : List UInt8) (B A3 : Option Addr) (d c3 : Nat), s33 = .int .u64 (i : Int) ∧ s3 = .slice A3 rr.length c3 ∧ i ≤ m ∧ rr.length ≤ 1000000000 ∧ Hid (i = read.length) ∧ Hid (getFs m r2 = aheadF read (getFs (m - i) rr)) ∧ Hid (∀ f ∈ read, f.1.length ≤ 1000000000 ∧ f.2.length ≤ 1000000000) ∧ Hid (Row wr b 89 #[.int .i64 at_, .slice B i d]) ∧ Hid (wr.ownsRow (b + 1) 126 2 (.slice B i d) i (fcells read)) ∧ Hid (In8 w0 A3 rr.length c3 rr) ∧ Hid (Ext w wr)) (fun _ s33 _ => m - (intOf s33).toNat)
        case atStart => exact ⟨0, [], r2, none, A2, 0, c2, rfl, rfl, by omega, hrl2, hide rfl, hide (by rw [aheadF_nil]; rfl), hide nofun, hide hr3, hide ⟨rfl, .inl ⟨rfl, rfl⟩⟩, hide hi2, hide hE03⟩
        case round =>
          obtain ⟨i, read, rr, B, A3, d, c3, rfl, rfl, hi, hrr, hil, hgf, hlg, hrow, hown, hin8, hE⟩ := hrel
          have q0 : wr.cell? ⟨b, 0, none⟩ = some (.int .i64 at_) := hrow.out.cell 0 rfl
          have q1 : wr.cell? ⟨b, 1, none⟩ = some (.slice B i d) := hrow.out.cell 1 rfl
          by_cases him : i < m
          · have hi1 : (i : Int) < m := by omega
            obtain ⟨fb, hfb⟩ : ∃ fb, fb = wr.heap.size := ⟨_, rfl⟩
            obtain ⟨Wf, hWf⟩ : ∃ Wf, Wf = wr.alloc (.cells #[.string ⟨#[]⟩, .string ⟨#[]⟩] 126) := ⟨_, rfl⟩
            have hEf : Ext wr Wf := by rw [hWf]; exact (Ext.refl wr).alloc _
            have hrf : Row Wf fb 126 #[.string ⟨#[]⟩, .string ⟨#[]⟩] := by rw [hWf, hfb]; exact Row.new wr _ _
            have hbf : b < fb := by rw [hfb]; exact hrow.out.lt
            have hgt := fun A c W h hE => getText_any A rr.length c 32 rr w0 W h hE hrr (by omega)
            have hgt1 := hgt A3 c3 Wf hin8.out (hw.trans (hE.out.trans hEf))
            have hEwf := hide (hE.out.trans hEf)
            replace hWf := hide hWf
            replace hfb := hide hfb
            cases ht1 : getT 32 rr with
            | error k =>
              have hk := getT_err ht1
              have hk0 : ((k : Int) != 0) = true := by simp; omega
              have hnone := hide (getFs_no1 hgf.out him ht1)
              rw [ht1] at hgt1
              replace hgt1 := hide hgt1
              clear ht1 hk hgt
              go_wp2_with fail
              rw [← hWf.out, ← hfb.out]
              refine hgt1.out.mono ?_
              rintro e w4 ⟨hE4, rfl⟩
              have hrf4 := hrf.ext hE4
              have hr4 := (hrow.out.ext hEf).ext hE4
              have f4 := fun i => hrf4.free i
              have d4 := hrf4.cell 0 rfl
              have hr5 := hr4.away (p := ⟨fb, 0, none⟩) (by simp only; omega) (.string ⟨#[]⟩)
              have f5 := fun i => hr5.free i
              have e5 := hr5.cell 0 rfl
              have e6 := hr5.cell 1 rfl
              have hE05 := hide ((hEwf.out.trans hE4).setCell (p := ⟨fb, 0, none⟩) (by simp only; have := hbw.out; omega) (.string ⟨#[]⟩))
              have hzn : Hid (Z = none) := hide (by rw [hZ.out, hnone.out])
              replace hr5 := hide hr5
              go_wp2_with fail
              obtain ⟨wz, hwz⟩ : ∃ wz, wz = setEv (w4.setCell ⟨fb, 0, none⟩ (.string ⟨#[]⟩)) b 0 none 0 0 := ⟨_, rfl⟩; have hk := setEv_row hr5.out 0 none 0 0; rw [← hwz] at hk; have hEz := setEv_ext hE05.out hbw.out 0 none 0 0; rw [← hwz] at hEz; unfold setEv at hwz; rw [← hwz]; have k0 : wz.cell? ⟨b, 0, none⟩ = some (.int .i64 0) := hk.cell 0 rfl; have k1 : wz.cell? ⟨b, 1, none⟩ = some (.slice none 0 0) := hk.cell 1 rfl; clear hwz hk; exact bodyPost_ret (v := .tuple #[.agg #[.int .i64 0, .slice none 0 0], .slice none 0 0, .int .i64 100]) (by simp [results, Tryz.results107, go_sem, k0, k1]) rfl (GotE.no hEz hzn.out)
            | ok p =>
              obtain ⟨nm, rn⟩ := p
              obtain ⟨hnl, hrn, _⟩ := getT_ok ht1
              rw [ht1] at hgt1
              unfold GotT at hgt1
              simp only at hgt1
              replace hgt1 := hide hgt1
              have hrnl : rn.length ≤ 1000000000 := by omega
              have hgt2 := hide (fun A c W h hE => getText_any A rn.length c 4096 rn w0 W h hE hrnl (by omega))
              clear hgt
              cases ht2 : getT 4096 rn with
              | error k =>
                have hk := getT_err ht2
                have hk0 : ((k : Int) != 0) = true := by simp; omega
                have hnone := hide (getFs_no2 hgf.out him ht1 ht2)
                rw [ht2] at hgt2
                clear ht1 ht2 hk
                go_wp2_with fail
                rw [← hWf.out, ← hfb.out]
                refine hgt1.out.mono ?_
                rintro e w4 ⟨hE4, A4, c4, rfl, hi4⟩
                have hrf4 := hrf.ext hE4
                have hr4 := (hrow.out.ext hEf).ext hE4
                have f4 := fun i => hrf4.free i
                have d4 := hrf4.cell 0 rfl
                obtain ⟨w5, hw5⟩ : ∃ w5, w5 = w4.setCell ⟨fb, 0, none⟩ (.string ⟨nm.toArray⟩) := ⟨_, rfl⟩
                have hE05 := (hEwf.out.trans hE4).setCell (p := ⟨fb, 0, none⟩) (by simp only; have := hbw.out; omega) (.string ⟨nm.toArray⟩)
                have hrf5 := hrf4.put 0 (.string ⟨nm.toArray⟩)
                have hr5 := hr4.away (p := ⟨fb, 0, none⟩) (by simp only; omega) (.string ⟨nm.toArray⟩)
                rw [← hw5] at hE05 hrf5 hr5
                have hgg := hide (hgt2.out A4 c4 w5 hi4 (hw.trans hE05))
                replace hw5 := hide hw5
                go_wp2_with fail
                rw [← hw5.out]
                refine hgg.out.mono ?_
                rintro e w6 ⟨hE6, rfl⟩
                have hrf6 := hrf5.ext hE6
                have hr6 := hr5.ext hE6
                have f6 := fun i => hrf6.free i
                have d6 := hrf6.cell 1 rfl
                have hr7 := hr6.away (p := ⟨fb, 1, none⟩) (by simp only; omega) (.string ⟨#[]⟩)
                have f7 := fun i => hr7.free i
                have e5 := hr7.cell 0 rfl
                have e6 := hr7.cell 1 rfl
                have hE07 := hide ((hE05.trans hE6).setCell (p := ⟨fb, 1, none⟩) (by simp only; have := hbw.out; omega) (.string ⟨#[]⟩))
                have hzn : Hid (Z = none) := hide (by rw [hZ.out, hnone.out])
                replace hr7 := hide hr7
                go_wp2_with fail
                obtain ⟨wz, hwz⟩ : ∃ wz, wz = setEv (w6.setCell ⟨fb, 1, none⟩ (.string ⟨#[]⟩)) b 0 none 0 0 := ⟨_, rfl⟩; have hk := setEv_row hr7.out 0 none 0 0; rw [← hwz] at hk; have hEz := setEv_ext hE07.out hbw.out 0 none 0 0; rw [← hwz] at hEz; unfold setEv at hwz; rw [← hwz]; have k0 : wz.cell? ⟨b, 0, none⟩ = some (.int .i64 0) := hk.cell 0 rfl; have k1 : wz.cell? ⟨b, 1, none⟩ = some (.slice none 0 0) := hk.cell 1 rfl; clear hwz hk; exact bodyPost_ret (v := .tuple #[.agg #[.int .i64 0, .slice none 0 0], .slice none 0 0, .int .i64 100]) (by simp [results, Tryz.results107, go_sem, k0, k1]) rfl (GotE.no hEz hzn.out)
              | ok p =>
                obtain ⟨tx, rt⟩ := p
                obtain ⟨htl, hrt, _⟩ := getT_ok ht2
                rw [ht2] at hgt2
                unfold GotT at hgt2
                simp only at hgt2
                replace hgt2 := hide hgt2
                have hstep := hide (getFs_step hgf.out him ht1 ht2)
                clear ht1 ht2
                go_wp2_with fail
                rw [← hWf.out, ← hfb.out]
                refine hgt1.out.mono ?_
                rintro e w4 ⟨hE4, A4, c4, rfl, hi4⟩
                have hrf4 := hrf.ext hE4
                have hr4 := (hrow.out.ext hEf).ext hE4
                have ho4 := hE4.owns (hEf.owns hown.out)
                have f4 := fun i => hrf4.free i
                have d4 := hrf4.cell 0 rfl
                obtain ⟨w5, hw5⟩ : ∃ w5, w5 = w4.setCell ⟨fb, 0, none⟩ (.string ⟨nm.toArray⟩) := ⟨_, rfl⟩
                have hE05 := (hEwf.out.trans hE4).setCell (p := ⟨fb, 0, none⟩) (by simp only; have := hbw.out; omega) (.string ⟨nm.toArray⟩)
                have hrf5 := hrf4.put 0 (.string ⟨nm.toArray⟩)
                have hr5 := hr4.away (p := ⟨fb, 0, none⟩) (by simp only; omega) (.string ⟨nm.toArray⟩)
                have hoa : (Value.slice B i d).ownBlock ≠ some fb := by
                  have hown0 := hown.out
                  intro hfe
                  obtain ⟨_, hrow2, _⟩ := owns_row hown0 hfe
                  have := hrow2.lt
                  have := hfb.out
                  omega
                have ho5 := owns_set ho4 (a := ⟨fb, 0, none⟩) hoa (.string ⟨nm.toArray⟩)
                rw [← hw5] at hE05 hrf5 hr5 ho5
                have hgg := hide (hgt2.out A4 c4 w5 hi4 (hw.trans hE05))
                replace hw5 := hide hw5
                go_wp2_with fail
                rw [← hw5.out]
                refine hgg.out.mono ?_
                rintro e w6 ⟨hE6, A6, c6, rfl, hi6⟩
                have hrf6 := hrf5.ext hE6
                have hr6 := hr5.ext hE6
                have ho6 := hE6.owns ho5
                have f6 := fun i => hrf6.free i
                have d6 := hrf6.cell 1 rfl
                obtain ⟨w7, hw7⟩ : ∃ w7, w7 = w6.setCell ⟨fb, 1, none⟩ (.string ⟨tx.toArray⟩) := ⟨_, rfl⟩
                have hr7 := hr6.away (p := ⟨fb, 1, none⟩) (by simp only; omega) (.string ⟨tx.toArray⟩)
                have hrf7 : Row (w6.setCell ⟨fb, 1, none⟩ (.string ⟨tx.toArray⟩)) fb 126 #[.string ⟨nm.toArray⟩, .string ⟨tx.toArray⟩] := hrf6.put 1 (.string ⟨tx.toArray⟩)
                have ho7 := owns_set ho6 (a := ⟨fb, 1, none⟩) hoa (.string ⟨tx.toArray⟩)
                have hE07 := (hE05.trans hE6).setCell (p := ⟨fb, 1, none⟩) (by simp only; have := hbw.out; omega) (.string ⟨tx.toArray⟩)
                have f7 := hr7.free 1
                have e6 := hr7.cell 1 rfl
                have g0 := hrf7.cell 0 rfl
                have g1 := hrf7.cell 1 rfl
                have hsz7 : b + 1 ≤ (w6.setCell ⟨fb, 1, none⟩ (.string ⟨tx.toArray⟩)).heap.size := hr7.lt
                go_wp2_with (at_builtin; refine wpList_appZ (us := [.string ⟨nm.toArray⟩, .string ⟨tx.toArray⟩]) (m := 1) elemFd ho7 (by simp [World.setCell]) (.tmp 56) (.tmp 58) rfl rfl rfl rfl rfl (one_of rfl) (by omega) hsz7 (fun A8 c8 w8 ho8 hg8 hl8 => ?_); have hne8 : ∀ k, (Value.slice B i d).ownBlock = some k → b + 1 ≤ k := (fun k hk => by obtain ⟨_, _, hb⟩ := owns_row ho7 hk; exact hb); have hr8 := Row.grown hr7 hg8 (fun e => by have := hne8 _ e.symm; omega); have f8 := hr8.free 1; have e8 : w8.cell? ⟨b, 1, none⟩ = some (.slice B i d) := hr8.cell 1 rfl; have hr8h := hide hr8; have ho8h := hide ho8; have hE08 := hide (hE07.grown hg8 fun k hk => by have := hne8 k hk; have := hbw.out; omega); clear hr8 ho8 hg8 hl8)
                have hne9 : (Value.slice A8 (i + 1) c8).ownBlock ≠ some b := fun e => by
                  obtain ⟨_, _, hb⟩ := owns_row ho8h.out e
                  omega
                refine ⟨⟨i + 1, read ++ [(nm, tx)], rt, A8, A6, c8, c6, by go_num, rfl, by omega, by omega, hide (by rw [List.length_append, ← hil.out]; rfl), hstep, hide ?_, hide (hr8h.out.put 1 _), hide (by rw [fcells_snoc]; exact owns_set ho8h.out hne9 _), hide hi6, hide (hE08.out.setCell hbw.out _)⟩, ?_⟩
                · intro f hf
                  rcases List.mem_append.1 hf with hf | hf
                  · exact hlg.out f hf
                  · rw [List.mem_singleton.1 hf]; simp only; omega
                · simp [intOf]; omega
          · obtain rfl : i = m := by omega
            have hfin := getFs_fin hgf.out (Nat.le_refl _)
            have hzz := hZ.out
            rw [hfin] at hzz
            simp only at hzz
            have hok : Ev.Own ⟨at_, read⟩ wr (b + 1) B d := ⟨by simp only; rw [← hil.out]; exact hown.out, fun f hf => by have := hlg.out f hf; omega, by simp only; have := hil.out; omega⟩
            have hck := echeck_any ⟨at_, read⟩ B d wr hok.ok
            unfold Ev.val at hck
            simp only at hck
            rw [← hil.out] at hck
            obtain ⟨j, hj⟩ : ∃ j, j = checkE read := ⟨_, rfl⟩
            rw [← hj] at hck hzz
            replace hj := hide hj
            replace hck := hide hck
            replace hok := hide hok
            replace hzz := hide hzz
            by_cases hj0 : j = 0
            · subst hj0
              go_wp2_with fail
              refine hck.out.mono ?_
              rintro e w4 ⟨rfl, hE4⟩
              have hr4 := hrow.out.ext hE4
              have f4 := fun k => hr4.free k
              have g0 := hr4.cell 0 rfl
              have g1 := hr4.cell 1 rfl
              replace hr4 := hide hr4
              have hE04 := hide (hE.out.trans hE4)
              clear q0 q1
              go_wp2_with fail
              obtain ⟨wz, hwz⟩ : ∃ wz, wz = setEv w4 b at_ B i d := ⟨_, rfl⟩
              have hk := setEv_row hr4.out at_ B i d
              have hcz := (setEv_chg w4 b at_ B i d).owns (hE4.owns hok.out.1) (fun k hk h => by obtain ⟨_, _, hb⟩ := owns_row (hE4.owns hok.out.1) hk; omega)
              have hEz := setEv_ext hE04.out hbw.out at_ B i d
              rw [← hwz] at hk hcz hEz
              unfold setEv at hwz
              rw [← hwz]
              have k0 : wz.cell? ⟨b, 0, none⟩ = some (.int .i64 at_) := hk.cell 0 rfl
              have k1 : wz.cell? ⟨b, 1, none⟩ = some (.slice B i d) := hk.cell 1 rfl
              clear hwz hk
              have hz1 := hzz.out
              rw [if_pos trivial] at hz1
              exact bodyPost_ret (v := .tuple #[.agg #[.int .i64 at_, .slice B i d], .slice A3 rr.length c3, .int .i64 0]) (by simp [results, Tryz.results107, go_sem, k0, k1]) rfl (by rw [hz1]; exact ⟨hEz, B, d, A3, c3, by unfold Ev.val; simp only; rw [← hil.out], ⟨owns_lower hcz (by have := hbw.out; omega), hok.out.2⟩, hin8.out, huz⟩)
            · have hj0' : ¬ (j : Int) = 0 := by omega
              have hzn : Hid (Z = none) := hide (by rw [hzz.out, if_neg hj0])
              go_wp2_with fail
              refine hck.out.mono ?_
              rintro e w4 ⟨rfl, hE4⟩
              have hr4 := hrow.out.ext hE4
              have f4 := fun k => hr4.free k
              have g0 := hr4.cell 0 rfl
              have g1 := hr4.cell 1 rfl
              replace hr4 := hide hr4
              have hE04 := hide (hE.out.trans hE4)
              clear q0 q1
              go_wp2_with fail
              obtain ⟨wz, hwz⟩ : ∃ wz, wz = setEv w4 b 0 none 0 0 := ⟨_, rfl⟩; have hk := setEv_row hr4.out 0 none 0 0; rw [← hwz] at hk; have hEz := setEv_ext hE04.out hbw.out 0 none 0 0; rw [← hwz] at hEz; unfold setEv at hwz; rw [← hwz]; have k0 : wz.cell? ⟨b, 0, none⟩ = some (.int .i64 0) := hk.cell 0 rfl; have k1 : wz.cell? ⟨b, 1, none⟩ = some (.slice none 0 0) := hk.cell 1 rfl; clear hwz hk; exact bodyPost_ret (v := .tuple #[.agg #[.int .i64 0, .slice none 0 0], .slice none 0 0, .int .i64 100]) (by simp [results, Tryz.results107, go_sem, k0, k1]) rfl (GotE.no hEz hzn.out)
end Go.Proofs.YtohphanbnhiodaaGreat

/- loggiaref10: Get. -/
namespace Go.Proofs.YtohphanbnhiodaaGreat
open Go.RowKit

set_option maxRecDepth 100000 in
set_option maxHeartbeats 4000000 in
theorem revget_any (A : Option Addr) (n c : Nat) (l : List UInt8) (w0 w : World) (h : In8 w0 A n c l) (hw : Ext w0 w) (hle : n ≤ 1000000000) :
    Calls Tryz.prog 109 #[.slice A n c] w fun e w' => GotE w0 w (getE l) e w' := by
  obtain ⟨W, hW⟩ : ∃ W, W = w.alloc (.cells #[.int .i64 0, .slice none 0 0] 89) := ⟨_, rfl⟩
  have hEW : Ext w W := by rw [hW]; exact (Ext.refl w).alloc _
  obtain ⟨b, hb⟩ : ∃ b, b = w.heap.size := ⟨_, rfl⟩
  have hr : Row W b 89 #[.int .i64 0, .slice none 0 0] := by rw [hW, hb]; exact Row.new w _ _
  have hbw := hide (Nat.le_of_eq hb.symm)
  have hg1 := rgetInt_any A n c l w0 W h (hw.trans hEW) hle
  have hln : l.length ≤ 1000000000 := by rw [← h.len]; exact hle
  obtain ⟨Z, hZ⟩ : ∃ Z, Z = getE l := ⟨_, rfl⟩
  rw [← hZ]
  unfold getE at hZ
  replace hW := hide hW
  replace hb := hide hb
  clear h
  cases hv1 : getV 0 l with
  | error k =>
    rw [hv1] at hg1 hZ
    have hk := getV_err l 0 k hv1
    have hk0 : ((k : Int) != 0) = true := by simp; omega
    have hg := hide hg1
    clear hv1 hk hg1
    go_enter Tryz.func109, Tryz.ntmps109
    go_wp2_with fail
    rw [← hW.out, ← hb.out]
    refine hg.out.mono ?_
    rintro e w1 ⟨hE1, rfl⟩
    have hr1 := hr.ext hE1
    have f1 := fun i => hr1.free i
    have d0 := hr1.cell 0 rfl
    have d1 := hr1.cell 1 rfl
    replace hr1 := hide hr1
    have hE01 := hide (hEW.trans hE1)
    replace hZ := hide hZ
    go_wp2_with fail
    obtain ⟨wz, hwz⟩ : ∃ wz, wz = setEv w1 b 0 none 0 0 := ⟨_, rfl⟩; have hk := setEv_row hr1.out 0 none 0 0; rw [← hwz] at hk; have hEz := setEv_ext hE01.out hbw.out 0 none 0 0; rw [← hwz] at hEz; unfold setEv at hwz; rw [← hwz]; have k0 : wz.cell? ⟨b, 0, none⟩ = some (.int .i64 0) := hk.cell 0 rfl; have k1 : wz.cell? ⟨b, 1, none⟩ = some (.slice none 0 0) := hk.cell 1 rfl; clear hwz hk; exact bodyPost_ret (v := .tuple #[.agg #[.int .i64 0, .slice none 0 0], .slice none 0 0, .int .i64 100]) (by simp [results, Tryz.results109, go_sem, k0, k1]) rfl (GotE.no hEz hZ.out)
  | ok p =>
    obtain ⟨u, r⟩ := p
    have hu := getV_lt64 hv1
    have hrl : r.length ≤ 1000000000 := by
      obtain ⟨_, _, q, hq, _⟩ := getV_lt l 0 u r hv1
      rw [hq, List.length_append] at hln
      omega
    rw [hv1] at hg1 hZ
    simp only at hZ
    have hg := hide hg1
    have huz := unzig_ok hu
    obtain ⟨at_, hat⟩ : ∃ at_, at_ = unzig u := ⟨_, rfl⟩
    unfold GotI at hg
    simp only at hg
    rw [← hat] at hg hZ huz
    clear hv1 hg1 hat hu
    cases hv2 : getV 0 r with
    | error k =>
      rw [hv2] at hZ
      have hk := getV_err r 0 k hv2
      have hk0 : ((k : Int) != 0) = true := by simp; omega
      have hg2 := fun A c W h hE => rget_any A r.length c r w0 W h hE hrl
      rw [hv2] at hg2
      replace hg2 := hide hg2
      replace hZ := hide hZ
      clear hv2 hk
      go_enter Tryz.func109, Tryz.ntmps109
      go_wp2_with fail
      rw [← hW.out, ← hb.out]
      refine hg.out.mono ?_
      rintro e w1 ⟨hE1, A1, c1, rfl, hi1⟩
      have hgg := hide (hg2.out A1 c1 w1 hi1 ((hw.trans hEW).trans hE1))
      go_wp2_with fail
      refine hgg.out.mono ?_
      rintro e w2 ⟨hE2, rfl⟩
      have hr1 := hr.ext (hE1.trans hE2)
      have f1 := fun i => hr1.free i
      have d0 := hr1.cell 0 rfl
      have d1 := hr1.cell 1 rfl
      replace hr1 := hide hr1
      have hE01 := hide (hEW.trans (hE1.trans hE2))
      go_wp2_with fail
      obtain ⟨wz, hwz⟩ : ∃ wz, wz = setEv w2 b 0 none 0 0 := ⟨_, rfl⟩; have hk := setEv_row hr1.out 0 none 0 0; rw [← hwz] at hk; have hEz := setEv_ext hE01.out hbw.out 0 none 0 0; rw [← hwz] at hEz; unfold setEv at hwz; rw [← hwz]; have k0 : wz.cell? ⟨b, 0, none⟩ = some (.int .i64 0) := hk.cell 0 rfl; have k1 : wz.cell? ⟨b, 1, none⟩ = some (.slice none 0 0) := hk.cell 1 rfl; clear hwz hk; exact bodyPost_ret (v := .tuple #[.agg #[.int .i64 0, .slice none 0 0], .slice none 0 0, .int .i64 100]) (by simp [results, Tryz.results109, go_sem, k0, k1]) rfl (GotE.no hEz hZ.out)
    | ok p =>
      obtain ⟨m, r2⟩ := p
      have hrl2 : r2.length ≤ 1000000000 := by
        obtain ⟨_, _, q, hq, _⟩ := getV_lt r 0 m r2 hv2
        rw [hq, List.length_append] at hrl
        omega
      have hm64 := getV_lt64 hv2
      rw [hv2] at hZ
      simp only at hZ
      have hg2 := fun A c W h hE => rget_any A r.length c r w0 W h hE hrl
      rw [hv2] at hg2
      unfold Got at hg2
      simp only at hg2
      replace hg2 := hide hg2
      clear hv2
      by_cases hm16 : 16 < m
      · rw [if_pos hm16] at hZ
        have hm' : (16 : Int) < m := by omega
        replace hZ := hide hZ
        go_enter Tryz.func109, Tryz.ntmps109
        go_wp2_with fail
        rw [← hW.out, ← hb.out]
        refine hg.out.mono ?_
        rintro e w1 ⟨hE1, A1, c1, rfl, hi1⟩
        have hgg := hide (hg2.out A1 c1 w1 hi1 ((hw.trans hEW).trans hE1))
        go_wp2_with fail
        refine hgg.out.mono ?_
        rintro e w2 ⟨hE2, A2, c2, rfl, hi2⟩
        have hr1 := hr.ext (hE1.trans hE2)
        have f1 := fun i => hr1.free i
        have d0 := hr1.cell 0 rfl
        have d1 := hr1.cell 1 rfl
        replace hr1 := hide hr1
        have hE01 := hide (hEW.trans (hE1.trans hE2))
        go_wp2_with fail
        obtain ⟨wz, hwz⟩ : ∃ wz, wz = setEv w2 b 0 none 0 0 := ⟨_, rfl⟩; have hk := setEv_row hr1.out 0 none 0 0; rw [← hwz] at hk; have hEz := setEv_ext hE01.out hbw.out 0 none 0 0; rw [← hwz] at hEz; unfold setEv at hwz; rw [← hwz]; have k0 : wz.cell? ⟨b, 0, none⟩ = some (.int .i64 0) := hk.cell 0 rfl; have k1 : wz.cell? ⟨b, 1, none⟩ = some (.slice none 0 0) := hk.cell 1 rfl; clear hwz hk; exact bodyPost_ret (v := .tuple #[.agg #[.int .i64 0, .slice none 0 0], .slice none 0 0, .int .i64 100]) (by simp [results, Tryz.results109, go_sem, k0, k1]) rfl (GotE.no hEz hZ.out)
      · rw [if_neg hm16] at hZ
        have hm' : ¬ (16 : Int) < m := by omega
        replace hZ := hide hZ
        go_enter Tryz.func109, Tryz.ntmps109
        go_wp2_with fail
        rw [← hW.out, ← hb.out]
        refine hg.out.mono ?_
        rintro e w1 ⟨hE1, A1, c1, rfl, hi1⟩
        have hgg := hide (hg2.out A1 c1 w1 hi1 ((hw.trans hEW).trans hE1))
        go_wp2_with fail
        refine hgg.out.mono ?_
        rintro e w2 ⟨hE2, A2, c2, rfl, hi2⟩
        have hr1 := hr.ext (hE1.trans hE2)
        have f1 := fun i => hr1.free i
        have d0 := hr1.cell 0 rfl
        have d1 := hr1.cell 1 rfl
        replace hr1 := hide hr1
        have hE01 := hide (hEW.trans (hE1.trans hE2))
        go_wp2_with fail
        obtain ⟨g, hgd⟩ : ∃ g, g = w2.heap.size := ⟨_, rfl⟩
        obtain ⟨W3, hW3⟩ : ∃ W3, W3 = w2.alloc (.cells #[.int .i64 at_, .slice none 0 0] 89) := ⟨_, rfl⟩
        have hE23 : Ext w2 W3 := by rw [hW3]; exact (Ext.refl w2).alloc _
        have hE03 : Ext w W3 := hE01.out.trans hE23
        have hr3 : Row W3 b 89 #[.int .i64 0, .slice none 0 0] := hr1.out.ext hE23
        have hg3 : Row W3 g 89 #[.int .i64 at_, .slice none 0 0] := by rw [hW3, hgd]; exact Row.new w2 _ _
        have hbg : b < g := by rw [hgd]; exact hr1.out.lt
        have hwg : w.heap.size ≤ g := by rw [hgd]; exact hE01.out.size
        have hwm : IntKind.i64.wrap (m : Int) = (m : Int) := by
          simp [IntKind.wrap, IntKind.bits, IntKind.signed]
          omega
        rw [← hW3, ← hgd]
        replace hgd := hide hgd
        clear hr1 hE01 f1 d0 d1 hgg hg hg2 hW3
        go_loopw [0, 9] (fun s0 s9 wr => ∃ (i : Nat) (read : List Fd) (rr : List UInt8) (B A3 : Option Addr) (d c3 : Nat), s9 = .int .i64 (i : Int) ∧ s0 = .slice A3 rr.length c3 ∧ i ≤ m ∧ rr.length ≤ 1000000000 ∧ Hid (i = read.length) ∧ Hid (getFs m r2 = aheadF read (getFs (m - i) rr)) ∧ Hid (∀ f ∈ read, f.1.length ≤ 1000000000 ∧ f.2.length ≤ 1000000000) ∧ Hid (Row wr b 89 #[.int .i64 0, .slice none 0 0]) ∧ Hid (Row wr g 89 #[.int .i64 at_, .slice B i d]) ∧ Hid (wr.ownsRow (g + 1) 126 2 (.slice B i d) i (fcells read)) ∧ Hid (In8 w0 A3 rr.length c3 rr) ∧ Hid (Ext w wr)) (fun _ s9 _ => m - (intOf s9).toNat)
        case atStart => exact ⟨0, [], r2, none, A2, 0, c2, rfl, rfl, by omega, hrl2, hide rfl, hide (by rw [aheadF_nil]; rfl), hide nofun, hide hr3, hide hg3, hide ⟨rfl, .inl ⟨rfl, rfl⟩⟩, hide hi2, hide hE03⟩
        case round =>
          obtain ⟨i, read, rr, B, A3, d, c3, rfl, rfl, hi, hrr, hil, hgf, hlg, hrowb, hrow, hown, hin8, hE⟩ := hrel
          have q0 : wr.cell? ⟨g, 0, none⟩ = some (.int .i64 at_) := hrow.out.cell 0 rfl
          have q1 : wr.cell? ⟨g, 1, none⟩ = some (.slice B i d) := hrow.out.cell 1 rfl
          by_cases him : i < m
          · have hi1 : (i : Int) < m := by omega
            have hgt1 := rgetText_any A3 rr.length c3 32 rr w0 wr hin8.out (hw.trans hE.out) hrr (by omega)
            cases ht1 : getT 32 rr with
            | error k =>
              have hk := getT_err ht1
              have hk0 : ((k : Int) != 0) = true := by simp; omega
              have hnone := hide (getFs_no1 hgf.out him ht1)
              rw [ht1] at hgt1
              have hnil : In8 w0 none 0 0 [] := ⟨rfl, .inl rfl, Nat.le_refl _, fun _ => rfl, nofun⟩
              have hgt2 := fun W hE => rgetText_any none 0 0 4096 [] w0 W hnil hE (by omega) (by omega)
              rw [show getT 4096 [] = .error 6 from rfl] at hgt2
              replace hgt1 := hide hgt1
              replace hgt2 := hide hgt2
              clear ht1 hk
              go_wp2_with fail
              refine hgt1.out.mono ?_
              rintro e w4 ⟨hE4, rfl⟩
              have hgg := hide (hgt2.out w4 ((hw.trans hE.out).trans hE4))
              go_wp2_with fail
              refine hgg.out.mono ?_
              rintro e w5 ⟨hE5, rfl⟩
              have hr5 := (hrowb.out.ext hE4).ext hE5
              have f5 := fun i => hr5.free i
              have e5 := hr5.cell 0 rfl
              have e6 := hr5.cell 1 rfl
              have hE05 := hide (hE.out.trans (hE4.trans hE5))
              have hzn : Hid (Z = none) := hide (by rw [hZ.out, hnone.out])
              replace hr5 := hide hr5
              go_wp2_with fail
              obtain ⟨wz, hwz⟩ : ∃ wz, wz = setEv w5 b 0 none 0 0 := ⟨_, rfl⟩; have hk := setEv_row hr5.out 0 none 0 0; rw [← hwz] at hk; have hEz := setEv_ext hE05.out hbw.out 0 none 0 0; rw [← hwz] at hEz; unfold setEv at hwz; rw [← hwz]; have k0 : wz.cell? ⟨b, 0, none⟩ = some (.int .i64 0) := hk.cell 0 rfl; have k1 : wz.cell? ⟨b, 1, none⟩ = some (.slice none 0 0) := hk.cell 1 rfl; clear hwz hk; exact bodyPost_ret (v := .tuple #[.agg #[.int .i64 0, .slice none 0 0], .slice none 0 0, .int .i64 100]) (by simp [results, Tryz.results109, go_sem, k0, k1]) rfl (GotE.no hEz hzn.out)
            | ok p =>
              obtain ⟨nm, rn⟩ := p
              obtain ⟨hnl, hrn, _⟩ := getT_ok ht1
              rw [ht1] at hgt1
              unfold GotT at hgt1
              simp only at hgt1
              replace hgt1 := hide hgt1
              have hrnl : rn.length ≤ 1000000000 := by omega
              have hgt2 := hide (fun A c W h hE => rgetText_any A rn.length c 4096 rn w0 W h hE hrnl (by omega))
              cases ht2 : getT 4096 rn with
              | error k =>
                have hk := getT_err ht2
                have hk0 : ((k : Int) != 0) = true := by simp; omega
                have hnone := hide (getFs_no2 hgf.out him ht1 ht2)
                rw [ht2] at hgt2
                clear ht1 ht2 hk
                go_wp2_with fail
                refine hgt1.out.mono ?_
                rintro e w4 ⟨hE4, A4, c4, rfl, hi4⟩
                have hgg := hide (hgt2.out A4 c4 w4 hi4 ((hw.trans hE.out).trans hE4))
                go_wp2_with fail
                refine hgg.out.mono ?_
                rintro e w5 ⟨hE5, rfl⟩
                have hr5 := (hrowb.out.ext hE4).ext hE5
                have f5 := fun i => hr5.free i
                have e5 := hr5.cell 0 rfl
                have e6 := hr5.cell 1 rfl
                have hE05 := hide (hE.out.trans (hE4.trans hE5))
                have hzn : Hid (Z = none) := hide (by rw [hZ.out, hnone.out])
                replace hr5 := hide hr5
                go_wp2_with fail
                obtain ⟨wz, hwz⟩ : ∃ wz, wz = setEv w5 b 0 none 0 0 := ⟨_, rfl⟩; have hk := setEv_row hr5.out 0 none 0 0; rw [← hwz] at hk; have hEz := setEv_ext hE05.out hbw.out 0 none 0 0; rw [← hwz] at hEz; unfold setEv at hwz; rw [← hwz]; have k0 : wz.cell? ⟨b, 0, none⟩ = some (.int .i64 0) := hk.cell 0 rfl; have k1 : wz.cell? ⟨b, 1, none⟩ = some (.slice none 0 0) := hk.cell 1 rfl; clear hwz hk; exact bodyPost_ret (v := .tuple #[.agg #[.int .i64 0, .slice none 0 0], .slice none 0 0, .int .i64 100]) (by simp [results, Tryz.results109, go_sem, k0, k1]) rfl (GotE.no hEz hzn.out)
              | ok p =>
                obtain ⟨tx, rt⟩ := p
                obtain ⟨htl, hrt, _⟩ := getT_ok ht2
                rw [ht2] at hgt2
                unfold GotT at hgt2
                simp only at hgt2
                replace hgt2 := hide hgt2
                have hstep := hide (getFs_step hgf.out him ht1 ht2)
                clear ht1 ht2
                go_wp2_with fail
                refine hgt1.out.mono ?_
                rintro e w4 ⟨hE4, A4, c4, rfl, hi4⟩
                have hgg := hide (hgt2.out A4 c4 w4 hi4 ((hw.trans hE.out).trans hE4))
                go_wp2_with fail
                refine hgg.out.mono ?_
                rintro e w6 ⟨hE6, A6, c6, rfl, hi6⟩
                have hr6 := (hrow.out.ext hE4).ext hE6
                have hb6 := (hrowb.out.ext hE4).ext hE6
                have ho6 := hE6.owns (hE4.owns hown.out)
                have hE06 := (hE.out.trans hE4).trans hE6
                have e6 := hr6.cell 1 rfl
                have hsz6 : g + 1 ≤ w6.heap.size := hr6.lt
                go_wp2_with (at_builtin; refine wpList_appS (us := [.string ⟨nm.toArray⟩, .string ⟨tx.toArray⟩]) (m := 1) elemFd ho6 (.tmp 66) (.tmp 70) rfl rfl rfl rfl rfl (one_of rfl) (by omega) hsz6 (fun A8 c8 w8 ho8 hg8 hl8 => ?_); have hne8 : ∀ k, (Value.slice B i d).ownBlock = some k → g + 1 ≤ k := (fun k hk => by obtain ⟨_, _, hb⟩ := owns_row ho6 hk; exact hb); have hr8 := Row.grown hr6 hg8 (fun e => by have := hne8 _ e.symm; omega); have hb8 := Row.grown hb6 hg8 (fun e => by have := hne8 _ e.symm; omega); have f8 := hr8.free 1; have e8 : w8.cell? ⟨g, 1, none⟩ = some (.slice B i d) := hr8.cell 1 rfl; have hr8h := hide hr8; have hb8h := hide hb8; have ho8h := hide ho8; have hE08 := hide (hE06.grown hg8 fun k hk => by have := hne8 k hk; omega); clear hr8 hb8 ho8 hg8 hl8)
                have hne9 : (Value.slice A8 (i + 1) c8).ownBlock ≠ some g := fun e => by
                  obtain ⟨_, _, hb⟩ := owns_row ho8h.out e
                  omega
                refine ⟨⟨i + 1, read ++ [(nm, tx)], rt, A8, A6, c8, c6, by go_num, rfl, by omega, by omega, hide (by rw [List.length_append, ← hil.out]; rfl), hstep, hide ?_, hide (hb8h.out.away (p := ⟨g, 1, none⟩) (by simp only; omega) _), hide (hr8h.out.put 1 _), hide (by rw [fcells_snoc]; exact owns_set ho8h.out hne9 _), hide hi6, hide (hE08.out.setCell (p := ⟨g, 1, none⟩) hwg _)⟩, ?_⟩
                · intro f hf
                  rcases List.mem_append.1 hf with hf | hf
                  · exact hlg.out f hf
                  · rw [List.mem_singleton.1 hf]; simp only; omega
                · simp [intOf]; omega
          · obtain rfl : i = m := by omega
            have hfin := getFs_fin hgf.out (Nat.le_refl _)
            have hzz := hZ.out
            rw [hfin] at hzz
            simp only at hzz
            have hok : Ev.Own ⟨at_, read⟩ wr (g + 1) B d := ⟨by simp only; rw [← hil.out]; exact hown.out, fun f hf => by have := hlg.out f hf; omega, by simp only; have := hil.out; omega⟩
            have hck := recheck_any ⟨at_, read⟩ B d wr hok.ok
            unfold Ev.val at hck
            simp only at hck
            rw [← hil.out] at hck
            obtain ⟨j, hj⟩ : ∃ j, j = checkE read := ⟨_, rfl⟩
            rw [← hj] at hck hzz
            replace hj := hide hj
            replace hck := hide hck
            replace hok := hide hok
            replace hzz := hide hzz
            by_cases hj0 : j = 0
            · subst hj0
              go_wp2_with fail
              refine hck.out.mono ?_
              rintro e w4 ⟨rfl, hE4⟩
              have hr4 := hrowb.out.ext hE4
              have f4 := fun k => hr4.free k
              have g0 := hE4.cell q0
              have g1 := hE4.cell q1
              have g2 := hr4.cell 0 rfl
              have g3 := hr4.cell 1 rfl
              replace hr4 := hide hr4
              have hE04 := hide (hE.out.trans hE4)
              clear q0 q1
              go_wp2_with fail
              obtain ⟨wz, hwz⟩ : ∃ wz, wz = setEv w4 b at_ B i d := ⟨_, rfl⟩
              have hk := setEv_row hr4.out at_ B i d
              have hcz := (setEv_chg w4 b at_ B i d).owns (hE4.owns hok.out.1) (fun k hk h => by obtain ⟨_, _, hb⟩ := owns_row (hE4.owns hok.out.1) hk; omega)
              have hEz := setEv_ext hE04.out hbw.out at_ B i d
              rw [← hwz] at hk hcz hEz
              unfold setEv at hwz
              rw [← hwz]
              have k0 : wz.cell? ⟨b, 0, none⟩ = some (.int .i64 at_) := hk.cell 0 rfl
              have k1 : wz.cell? ⟨b, 1, none⟩ = some (.slice B i d) := hk.cell 1 rfl
              clear hwz hk
              have hz1 := hzz.out
              rw [if_pos trivial] at hz1
              exact bodyPost_ret (v := .tuple #[.agg #[.int .i64 at_, .slice B i d], .slice A3 rr.length c3, .int .i64 0]) (by simp [results, Tryz.results109, go_sem, k0, k1]) rfl (by rw [hz1]; exact ⟨hEz, B, d, A3, c3, by unfold Ev.val; simp only; rw [← hil.out], ⟨owns_lower hcz (by omega), hok.out.2⟩, hin8.out, huz⟩)
            · have hj0' : ¬ (j : Int) = 0 := by omega
              have hzn : Hid (Z = none) := hide (by rw [hzz.out, if_neg hj0])
              go_wp2_with fail
              refine hck.out.mono ?_
              rintro e w4 ⟨rfl, hE4⟩
              have hr4 := hrowb.out.ext hE4
              have f4 := fun k => hr4.free k
              have g2 := hr4.cell 0 rfl
              have g3 := hr4.cell 1 rfl
              replace hr4 := hide hr4
              have hE04 := hide (hE.out.trans hE4)
              clear q0 q1
              go_wp2_with fail
              obtain ⟨wz, hwz⟩ : ∃ wz, wz = setEv w4 b 0 none 0 0 := ⟨_, rfl⟩; have hk := setEv_row hr4.out 0 none 0 0; rw [← hwz] at hk; have hEz := setEv_ext hE04.out hbw.out 0 none 0 0; rw [← hwz] at hEz; unfold setEv at hwz; rw [← hwz]; have k0 : wz.cell? ⟨b, 0, none⟩ = some (.int .i64 0) := hk.cell 0 rfl; have k1 : wz.cell? ⟨b, 1, none⟩ = some (.slice none 0 0) := hk.cell 1 rfl; clear hwz hk; exact bodyPost_ret (v := .tuple #[.agg #[.int .i64 0, .slice none 0 0], .slice none 0 0, .int .i64 100]) (by simp [results, Tryz.results109, go_sem, k0, k1]) rfl (GotE.no hEz hzn.out)
end Go.Proofs.YtohphanbnhiodaaGreat

/- loggia/event and loggiaref10: CheckBatch. -/
namespace Go.Proofs.YtohphanbnhiodaaGreat
open Go.RowKit

/-- A batch where it lies: its events' slice. -/
structure BtC where
  seq : Int
  l : List EvC
  A : Option Addr
  c : Nat
def BtC.val (b : BtC) : Value := .agg #[.int .i64 b.seq, .slice b.A b.l.length b.c]
def BtC.cells (b : BtC) : List Value := [.int .i64 b.seq, .slice b.A b.l.length b.c]
def BtC.bt (b : BtC) : Bt := ⟨b.seq, b.l.map (·.e)⟩
structure BtC.Ok (b : BtC) (w : World) : Prop where
  evs : EvsOk w b.A b.l
  many : b.l.length ≤ 9223372036854775807
  seq : I64ok' b.seq
theorem BtC.Ok.ext {b : BtC} {w w1 : World} (h : b.Ok w) (hE : Ext w w1) : b.Ok w1 := ⟨h.evs.ext hE, h.many, h.seq⟩
theorem sizeEs_take {es : List Ev} {i : Nat} {e : Ev} (h : es[i]? = some e) : sizeEs (es.take (i + 1)) = sizeEs (es.take i) + sizeE e := by
  unfold sizeEs
  rw [take_one2 h, List.map_append, List.sum_append]
  simp
theorem sizeE_le {e : Ev} (h : checkE e.fs = 0) : sizeE e ≤ 90000 := by
  obtain ⟨h16, hfl⟩ := checkE_fs h
  have := sizeFs_le hfl
  unfold sizeE
  omega
theorem mem_take_snoc {es : List Ev} {i : Nat} {e : Ev} (h : es[i]? = some e) (hck : ∀ x ∈ es.take i, checkE x.fs = 0) (he : checkE e.fs = 0) : ∀ x ∈ es.take (i + 1), checkE x.fs = 0 := fun x hx => by
  rw [take_one2 h] at hx
  rcases List.mem_append.1 hx with hx | hx
  · exact hck x hx
  · rw [List.mem_singleton.1 hx]; exact he
set_option maxRecDepth 100000 in
set_option maxHeartbeats 4000000 in
theorem ckbatch_any (b : BtC) (w : World) (h : b.Ok w) : Calls Tryz.prog 69 #[b.val] w fun en w' => en = .returned (.int .i64 (checkB b.bt : Int)) ∧ Ext w w' := by
  obtain ⟨seq, l, A, c⟩ := b
  obtain ⟨hev, hmany, hsq⟩ := h
  unfold BtC.val BtC.bt
  simp only at hev hmany hsq ⊢
  obtain ⟨L, hL⟩ : ∃ L, L = l.map (·.e) := ⟨_, rfl⟩
  obtain ⟨n, hn⟩ : ∃ n, n = l.length := ⟨_, rfl⟩
  have hLn : L.length = n := by rw [hL, List.length_map, hn]
  rw [← hL, ← hn]
  rw [← hn] at hmany
  obtain ⟨Z, hZ⟩ : ∃ Z, Z = checkB ⟨seq, L⟩ := ⟨_, rfl⟩
  rw [← hZ]
  unfold checkB at hZ
  simp only [hLn] at hZ
  obtain ⟨W, hW⟩ : ∃ W, W = w.alloc (.cells #[.int .i64 seq, .slice A n c] 80) := ⟨_, rfl⟩
  have hEW : Ext w W := by rw [hW]; exact (Ext.refl w).alloc _
  have hr : Row W w.heap.size 80 #[.int .i64 seq, .slice A n c] := by rw [hW]; exact Row.new w _ _
  replace hn := hide hn
  replace hL := hide hL
  replace hLn := hide hLn
  obtain ⟨hsq1, hsq2⟩ := hsq
  by_cases h0 : n = 0
  · rw [if_pos h0] at hZ
    subst h0 hZ
    clear hr hW hev
    go_enter Tryz.func69, Tryz.ntmps69
    go_wp2_with fail
    go_ret
    exact ⟨rfl, (Ext.refl w).alloc _⟩
  · rw [if_neg h0] at hZ
    have h0' : ((n : Int) == 0) = false := beq_eq_false_iff_ne.2 (by omega)
    by_cases h64 : 64 < n
    · rw [if_pos h64] at hZ
      subst hZ
      have h64' : (64 : Int) < n := by omega
      clear hr hW hev
      go_enter Tryz.func69, Tryz.ntmps69
      go_wp2_with fail
      go_ret
      exact ⟨rfl, (Ext.refl w).alloc _⟩
    · rw [if_neg h64] at hZ
      have h64' : ¬ (64 : Int) < n := by omega
      replace hZ := hide hZ
      go_enter Tryz.func69, Tryz.ntmps69
      go_wp2_with fail
      rw [← hW]
      clear hW
      have y0 : W.cell? ⟨w.heap.size, 0, none⟩ = some (.int .i64 seq) := hr.cell 0 rfl
      have y1 : W.cell? ⟨w.heap.size, 1, none⟩ = some (.slice A n c) := hr.cell 1 rfl
      go_wp2_with fail
      go_loopw [4, 20] (fun s4 s20 wr => ∃ (i k : Nat), s20 = .int .i64 (i : Int) ∧ s4 = .int .i64 (k : Int) ∧ i ≤ n ∧ k ≤ 90000 * i ∧ Hid (k = sizeEs (L.take i)) ∧ Hid (∀ x ∈ L.take i, checkE x.fs = 0) ∧ Hid (Ext W wr)) (fun _ s20 _ => n - (intOf s20).toNat)
      case atStart => exact ⟨0, 0, rfl, rfl, by omega, by omega, hide (by simp [sizeEs]), hide (by simp), hide (Ext.refl W)⟩
      case round =>
        obtain ⟨i, k, rfl, rfl, hi, hk, hks, hck, hE⟩ := hrel
        by_cases hin : i < n
        · obtain ⟨x, hx⟩ : ∃ x, l[i]? = some x := ⟨_, List.getElem?_eq_getElem (by rw [← hn.out]; exact hin)⟩
          have hxe : L[i]? = some x.e := by rw [hL.out, List.getElem?_map, hx]; rfl
          have hxo := ((hev.each x (List.mem_of_getElem? hx)).ext hEW).ext hE.out
          obtain ⟨g, o, hA, k0, k1⟩ := ecells_at ((hev.cells.ext hEW).ext hE.out) hx
          have hak := @checkEs_at L i x.e hxe hck.out
          have htk := sizeEs_take hxe
          have hcn := mem_take_snoc hxe hck.out
          obtain ⟨y, B, d⟩ := x
          simp only at hxe hxo k0 k1 hak htk hcn
          subst hA
          have hsl := @sizeE_le y
          have hckc := fun W' hE => echeck_any y B d W' (hxo.ext hE)
          have hszc := fun W' hE => esize_any y B d W' (hxo.ext hE)
          unfold Ev.val at hckc hszc
          obtain ⟨j, hj⟩ : ∃ j, j = checkE y.fs := ⟨_, rfl⟩
          rw [← hj] at hckc hszc hak hcn hsl
          obtain ⟨Wf, hWf⟩ : ∃ Wf, Wf = wr.alloc (.cells #[.int .i64 y.at_, .slice B y.fs.length d] 89) := ⟨_, rfl⟩
          have hEf : Ext wr Wf := by rw [hWf]; exact (Ext.refl wr).alloc _
          have hrf : Row Wf wr.heap.size 89 #[.int .i64 y.at_, .slice B y.fs.length d] := by rw [hWf]; exact Row.new wr _ _
          have hi0 : (0 : Int) ≤ i := by omega
          have hi1 : (i : Int) < n := by omega
          replace hj := hide hj
          replace hckc := hide hckc
          replace hszc := hide hszc
          replace hcn := hide hcn
          clear hx hxe
          by_cases hj0 : j = 0
          · subst hj0
            have hsl0 := hsl rfl
            obtain ⟨s, hs⟩ : ∃ s, s = sizeE y := ⟨_, rfl⟩
            have hsz2 := fun W' hE => hszc.out W' hE rfl
            rw [← hs] at hsl0 htk hsz2
            replace hsz2 := hide hsz2
            replace htk := hide htk
            clear hs hak hsl hszc
            go_wp2_with fail
            rw [← hWf]
            refine (hckc.out _ hEf).mono ?_
            rintro en w2 ⟨rfl, hE2⟩
            have x0 := (hrf.ext hE2).cell 0 rfl
            have x1 := (hrf.ext hE2).cell 1 rfl
            have hsc := hide (hsz2.out w2 (hEf.trans hE2))
            go_wp2_with fail
            refine hsc.out.mono ?_
            rintro en w3 ⟨rfl, hE3⟩
            have hEn := hide (hE.out.trans (hEf.trans (hE2.trans hE3)))
            go_wp2_with fail
            go_roundw
            case rel => exact ⟨i + 1, k + s, by go_num, by go_num, by omega, by omega, hide (by rw [htk.out, hks.out]), hide (hcn.out trivial), hEn⟩
            case measure => simp [intOf]; omega
          · have hj0' : ¬ (j : Int) = 0 := by omega
            have hzz : Z = j := by
              have h1 := hak hj0
              have h2 := hZ.out
              rw [h1, if_pos hj0] at h2
              exact h2
            replace hzz := hide hzz
            clear hak hsl htk
            go_wp2_with fail
            rw [← hWf]
            refine (hckc.out _ hEf).mono ?_
            rintro en w2 ⟨rfl, hE2⟩
            go_wp2_with fail
            go_ret
            exact ⟨by rw [hzz.out]; rfl, hEW.trans (hE.out.trans (hEf.trans hE2))⟩
        · have hall : L.take i = L := List.take_of_length_le (by rw [hLn.out]; omega)
          rw [hall] at hks hck
          have hz2 := hZ.out
          rw [checkEs_zero hck.out, if_neg (by simp), ← hks.out] at hz2
          have y0' := hE.out.cell y0
          have y1' := hE.out.cell y1
          have hEw := hide (hEW.trans hE.out)
          by_cases hbig : 65536 < k
          · rw [if_pos hbig] at hz2
            have hb' : (65536 : Int) < k := by omega
            replace hz2 := hide hz2
            go_wp2_with fail
            go_ret
            exact ⟨by rw [hz2.out]; rfl, hEw.out⟩
          · rw [if_neg hbig] at hz2
            have hb' : ¬ (65536 : Int) < k := by omega
            by_cases hs1 : seq < 1
            · rw [if_pos (.inl hs1)] at hz2
              replace hz2 := hide hz2
              go_wp2_with fail
              go_ret
              exact ⟨by rw [hz2.out]; rfl, hEw.out⟩
            · by_cases hs2 : 1099511627776 - (n : Int) + 1 < seq
              · rw [if_pos (.inr hs2)] at hz2
                replace hz2 := hide hz2
                go_wp2_with fail
                go_ret
                exact ⟨by rw [hz2.out]; rfl, hEw.out⟩
              · rw [if_neg (by rintro (h | h); exact hs1 h; exact hs2 h)] at hz2
                replace hz2 := hide hz2
                go_wp2_with fail
                go_ret
                exact ⟨by rw [hz2.out]; rfl, hEw.out⟩
end Go.Proofs.YtohphanbnhiodaaGreat

/- loggiaref10: CheckBatch. -/
namespace Go.Proofs.YtohphanbnhiodaaGreat
open Go.RowKit

set_option maxRecDepth 100000 in
set_option maxHeartbeats 4000000 in
theorem rckbatch_any (b : BtC) (w : World) (h : b.Ok w) : Calls Tryz.prog 74 #[b.val] w fun en w' => en = .returned (.int .i64 (checkB b.bt : Int)) ∧ Ext w w' := by
  obtain ⟨seq, l, A, c⟩ := b
  obtain ⟨hev, hmany, hsq⟩ := h
  unfold BtC.val BtC.bt
  simp only at hev hmany hsq ⊢
  obtain ⟨L, hL⟩ : ∃ L, L = l.map (·.e) := ⟨_, rfl⟩
  obtain ⟨n, hn⟩ : ∃ n, n = l.length := ⟨_, rfl⟩
  have hLn : L.length = n := by rw [hL, List.length_map, hn]
  rw [← hL, ← hn]
  rw [← hn] at hmany
  obtain ⟨Z, hZ⟩ : ∃ Z, Z = checkB ⟨seq, L⟩ := ⟨_, rfl⟩
  rw [← hZ]
  unfold checkB at hZ
  simp only [hLn] at hZ
  obtain ⟨W, hW⟩ : ∃ W, W = w.alloc (.cells #[.int .i64 seq, .slice A n c] 80) := ⟨_, rfl⟩
  have hEW : Ext w W := by rw [hW]; exact (Ext.refl w).alloc _
  have hr : Row W w.heap.size 80 #[.int .i64 seq, .slice A n c] := by rw [hW]; exact Row.new w _ _
  replace hn := hide hn
  replace hL := hide hL
  replace hLn := hide hLn
  obtain ⟨hsq1, hsq2⟩ := hsq
  by_cases h0 : n = 0
  · rw [if_pos h0] at hZ
    subst h0 hZ
    clear hr hW hev
    go_enter Tryz.func74, Tryz.ntmps74
    go_wp2_with fail
    go_ret
    exact ⟨rfl, (Ext.refl w).alloc _⟩
  · rw [if_neg h0] at hZ
    have h0' : ((n : Int) == 0) = false := beq_eq_false_iff_ne.2 (by omega)
    by_cases h64 : 64 < n
    · rw [if_pos h64] at hZ
      subst hZ
      have h64' : (64 : Int) < n := by omega
      clear hr hW hev
      go_enter Tryz.func74, Tryz.ntmps74
      go_wp2_with fail
      go_ret
      exact ⟨rfl, (Ext.refl w).alloc _⟩
    · rw [if_neg h64] at hZ
      have h64' : ¬ (64 : Int) < n := by omega
      replace hZ := hide hZ
      go_enter Tryz.func74, Tryz.ntmps74
      go_wp2_with fail
      rw [← hW]
      clear hW
      go_loopw [3, 4] (fun s3 s4 wr => ∃ (i k : Nat), s4 = .int .i64 (i : Int) ∧ s3 = .int .i64 (k : Int) ∧ i ≤ n ∧ k ≤ 90000 * i ∧ Hid (k = sizeEs (L.take i)) ∧ Hid (∀ x ∈ L.take i, checkE x.fs = 0) ∧ Hid (Ext W wr)) (fun _ s4 _ => n - (intOf s4).toNat)
      case atStart => exact ⟨0, 0, rfl, rfl, by omega, by omega, hide (by simp [sizeEs]), hide (by simp), hide (Ext.refl W)⟩
      case round =>
        obtain ⟨i, k, rfl, rfl, hi, hk, hks, hck, hE⟩ := hrel
        have y0 : wr.cell? ⟨w.heap.size, 0, none⟩ = some (.int .i64 seq) := (hr.ext hE.out).cell 0 rfl
        have y1 : wr.cell? ⟨w.heap.size, 1, none⟩ = some (.slice A n c) := (hr.ext hE.out).cell 1 rfl
        by_cases hin : i < n
        · obtain ⟨x, hx⟩ : ∃ x, l[i]? = some x := ⟨_, List.getElem?_eq_getElem (by rw [← hn.out]; exact hin)⟩
          have hxe : L[i]? = some x.e := by rw [hL.out, List.getElem?_map, hx]; rfl
          have hxo := ((hev.each x (List.mem_of_getElem? hx)).ext hEW).ext hE.out
          obtain ⟨g, o, hA, k0, k1⟩ := ecells_at ((hev.cells.ext hEW).ext hE.out) hx
          have hak := @checkEs_at L i x.e hxe hck.out
          have htk := sizeEs_take hxe
          have hcn := mem_take_snoc hxe hck.out
          obtain ⟨y, B, d⟩ := x
          simp only at hxe hxo k0 k1 hak htk hcn
          subst hA
          have hsl := @sizeE_le y
          have hckc := fun W' hE => recheck_any y B d W' (hxo.ext hE)
          have hszc := fun W' hE => resize_any y B d W' (hxo.ext hE)
          unfold Ev.val at hckc hszc
          obtain ⟨j, hj⟩ : ∃ j, j = checkE y.fs := ⟨_, rfl⟩
          rw [← hj] at hckc hszc hak hcn hsl
          have hi0 : (0 : Int) ≤ i := by omega
          have hi1 : (i : Int) < n := by omega
          replace hj := hide hj
          replace hckc := hide hckc
          replace hszc := hide hszc
          replace hcn := hide hcn
          clear hx hxe
          by_cases hj0 : j = 0
          · subst hj0
            have hsl0 := hsl rfl
            obtain ⟨s, hs⟩ : ∃ s, s = sizeE y := ⟨_, rfl⟩
            have hsz2 := fun W' hE => hszc.out W' hE rfl
            rw [← hs] at hsl0 htk hsz2
            replace hsz2 := hide hsz2
            replace htk := hide htk
            clear hs hak hsl hszc
            go_wp2_with fail
            refine (hckc.out _ (Ext.refl _)).mono ?_
            rintro en w2 ⟨rfl, hE2⟩
            have x0 := hE2.cell k0
            have x1 := hE2.cell k1
            have x2 := hE2.cell y0
            have x3 := hE2.cell y1
            have hsc := hide (hsz2.out w2 hE2)
            go_wp2_with fail
            refine hsc.out.mono ?_
            rintro en w3 ⟨rfl, hE3⟩
            have hEn := hide (hE.out.trans (hE2.trans hE3))
            go_wp2_with fail
            go_roundw
            case rel => exact ⟨i + 1, k + s, by go_num, by go_num, by omega, by omega, hide (by rw [htk.out, hks.out]), hide (hcn.out trivial), hEn⟩
            case measure => simp [intOf]; omega
          · have hj0' : ¬ (j : Int) = 0 := by omega
            have hzz : Z = j := by
              have h1 := hak hj0
              have h2 := hZ.out
              rw [h1, if_pos hj0] at h2
              exact h2
            replace hzz := hide hzz
            clear hak hsl htk
            go_wp2_with fail
            refine (hckc.out _ (Ext.refl _)).mono ?_
            rintro en w2 ⟨rfl, hE2⟩
            go_wp2_with fail
            go_ret
            exact ⟨by rw [hzz.out]; rfl, hEW.trans (hE.out.trans hE2)⟩
        · have hall : L.take i = L := List.take_of_length_le (by rw [hLn.out]; omega)
          rw [hall] at hks hck
          have hz2 := hZ.out
          rw [checkEs_zero hck.out, if_neg (by simp), ← hks.out] at hz2
          have hEw := hide (hEW.trans hE.out)
          by_cases hbig : 65536 < k
          · rw [if_pos hbig] at hz2
            have hb' : (65536 : Int) < k := by omega
            replace hz2 := hide hz2
            go_wp2_with fail
            go_ret
            exact ⟨by rw [hz2.out]; rfl, hEw.out⟩
          · rw [if_neg hbig] at hz2
            have hb' : ¬ (65536 : Int) < k := by omega
            by_cases hs1 : seq < 1
            · rw [if_pos (.inl hs1)] at hz2
              replace hz2 := hide hz2
              go_wp2_with fail
              go_ret
              exact ⟨by rw [hz2.out]; rfl, hEw.out⟩
            · by_cases hs2 : 1099511627776 - (n : Int) + 1 < seq
              · rw [if_pos (.inr hs2)] at hz2
                replace hz2 := hide hz2
                go_wp2_with fail
                go_ret
                exact ⟨by rw [hz2.out]; rfl, hEw.out⟩
              · rw [if_neg (by rintro (h | h); exact hs1 h; exact hs2 h)] at hz2
                replace hz2 := hide hz2
                go_wp2_with fail
                go_ret
                exact ⟨by rw [hz2.out]; rfl, hEw.out⟩
end Go.Proofs.YtohphanbnhiodaaGreat

/- loggia/event: Decode. -/
namespace Go.Proofs.YtohphanbnhiodaaGreat
open Go.RowKit

/-- A row of events of a call's own, and the events' own fields. -/
structure EvsOwn (w : World) (base : Nat) (A : Option Addr) (c : Nat) (l : List EvC) : Prop where
  own : w.ownsRow base 89 2 (.slice A l.length c) l.length (ecells l)
  each : ∀ x ∈ l, x.Own w base
  ints : ∀ x ∈ l, I64ok' x.e.at_
theorem EvsOwn.ok {w : World} {base c : Nat} {A : Option Addr} {l : List EvC} (h : EvsOwn w base A c l) : EvsOk w A l := ⟨Cells.of_own h.own, fun x hx => (h.each x hx).ok⟩
theorem EvsOwn.nil (w : World) (base : Nat) : EvsOwn w base none 0 [] := ⟨⟨rfl, .inl ⟨rfl, rfl⟩⟩, nofun, nofun⟩
theorem EvsOwn.chg {w w' : World} {base c : Nat} {A : Option Addr} {l : List EvC} {S : Nat → Prop} (h : EvsOwn w base A c l) (hc : Chg S w w') (hS : ∀ g t cs, Row w g t cs → t = 126 ∨ t = 89 → base ≤ g → ¬ S g) : EvsOwn w' base A c l :=
  ⟨hc.owns h.own fun g hg => by obtain ⟨cs, hr, hb⟩ := owns_row h.own hg; exact hS g _ cs hr (.inr rfl) hb, fun x hx => ⟨hc.owns (h.each x hx).1 fun g hg => by obtain ⟨cs, hr, hb⟩ := owns_row (h.each x hx).1 hg; exact hS g _ cs hr (.inl rfl) hb, (h.each x hx).2⟩, h.ints⟩
theorem EvsOwn.ext {w w' : World} {base c : Nat} {A : Option Addr} {l : List EvC} (h : EvsOwn w base A c l) (hE : Ext w w') : EvsOwn w' base A c l := ⟨hE.owns h.own, fun x hx => ⟨hE.owns (h.each x hx).1, (h.each x hx).2⟩, h.ints⟩
theorem EvsOwn.lower {w : World} {base b c : Nat} {A : Option Addr} {l : List EvC} (h : EvsOwn w base A c l) (hb : b ≤ base) : EvsOwn w b A c l := ⟨owns_lower h.own hb, fun x hx => ⟨owns_lower (h.each x hx).1 hb, (h.each x hx).2⟩, h.ints⟩
/-- What Decode answers. -/
def DecP (w : World) (res : Option Bt) (e : Ending) (w' : World) : Prop := Ext w w' ∧ match res with
  | some bt => ∃ (l : List EvC) (A : Option Addr) (c : Nat), bt.es = l.map (·.e) ∧ e = .returned (.tuple #[.agg #[.int .i64 bt.seq, .slice A l.length c], .int .i64 0]) ∧ EvsOwn w' w.heap.size A c l ∧ l.length ≤ 64 ∧ 1 ≤ bt.seq ∧ bt.seq ≤ 1099511627776
  | none => e = .returned (.tuple #[.agg #[.int .i64 0, .slice none 0 0], .int .i64 100])
theorem DecP.no {w w' : World} {res : Option Bt} (hE : Ext w w') (h : res = none) : DecP w res (.returned (.tuple #[.agg #[.int .i64 0, .slice none 0 0], .int .i64 100])) w' := by
  subst h
  exact ⟨hE, rfl⟩
def aheadE (read : List Ev) : Option (List Ev × List UInt8) → Option (List Ev × List UInt8)
  | none => none
  | some (es, r) => some (read ++ es, r)
theorem aheadE_nil (x : Option (List Ev × List UInt8)) : aheadE [] x = x := by cases x <;> rfl
theorem getEs_step {k i : Nat} {read : List Ev} {L r r1 : List UInt8} {e : Ev} (h : getEs k L = aheadE read (getEs (k - i) r)) (hi : i < k) (h1 : getE r = some (e, r1)) : getEs k L = aheadE (read ++ [e]) (getEs (k - (i + 1)) r1) := by
  obtain ⟨j, hj⟩ : ∃ j, k - i = j + 1 := ⟨k - i - 1, by omega⟩
  rw [h, hj, show k - (i + 1) = j by omega]
  conv => lhs; unfold getEs
  rw [h1]
  simp only
  cases getEs j r1 with
  | none => rfl
  | some p => obtain ⟨es, r3⟩ := p; simp [aheadE]
theorem getEs_no {k i : Nat} {read : List Ev} {L r : List UInt8} (h : getEs k L = aheadE read (getEs (k - i) r)) (hi : i < k) (h1 : getE r = none) : getEs k L = none := by
  obtain ⟨j, hj⟩ : ∃ j, k - i = j + 1 := ⟨k - i - 1, by omega⟩
  rw [h, hj]
  unfold getEs
  rw [h1]
  rfl
theorem getEs_fin {k i : Nat} {read : List Ev} {L r : List UInt8} (h : getEs k L = aheadE read (getEs (k - i) r)) (hi : k ≤ i) : getEs k L = some (read, r) := by
  rw [h, show k - i = 0 by omega]
  unfold getEs aheadE
  simp
theorem getFs_less : ∀ {k : Nat} {l r : List UInt8} {fs : List Fd}, getFs k l = some (fs, r) → r.length ≤ l.length
  | 0, l, r, fs, h => by unfold getFs at h; cases h; exact Nat.le_refl _
  | k + 1, l, r, fs, h => by
    unfold getFs at h
    split at h
    · cases h
    · rename_i nm r1 h1
      split at h
      · cases h
      · rename_i tx r2 h2
        split at h
        · cases h
        · rename_i fs' r3 h3
          cases h
          have a1 := (getT_ok h1).2.1
          have a2 := (getT_ok h2).2.1
          have a3 := getFs_less h3
          omega
theorem getV_less {l r : List UInt8} {n : Nat} (h : getV 0 l = .ok (n, r)) : r.length < l.length := by
  obtain ⟨_, _, q, hq, hne⟩ := getV_lt l 0 n r h
  have := List.length_pos_iff.2 hne
  rw [hq, List.length_append]
  omega
theorem getE_less {l r : List UInt8} {e : Ev} (h : getE l = some (e, r)) : r.length < l.length := by
  unfold getE at h
  split at h
  · cases h
  · rename_i u r1 h1
    split at h
    · cases h
    · rename_i n r2 h2
      split at h
      · cases h
      · split at h
        · cases h
        · rename_i fs r3 h3
          split at h
          · cases h
            have a1 := getV_less h1
            have a2 := getV_less h2
            have a3 := getFs_less h3
            omega
          · cases h
set_option maxRecDepth 100000 in
set_option maxHeartbeats 4000000 in
theorem decode_any (A : Option Addr) (n c : Nat) (l : List UInt8) (w0 w : World) (h : In8 w0 A n c l) (hw : Ext w0 w) (hle : n ≤ 1000000000) :
    Calls Tryz.prog 82 #[.slice A n c] w fun e w' => DecP w (decB l) e w' := by
  obtain ⟨W, hW⟩ : ∃ W, W = w.alloc (.cells #[.int .i64 0, .slice none 0 0] 80) := ⟨_, rfl⟩
  have hEW : Ext w W := by rw [hW]; exact (Ext.refl w).alloc _
  obtain ⟨b, hb⟩ : ∃ b, b = w.heap.size := ⟨_, rfl⟩
  have hr : Row W b 80 #[.int .i64 0, .slice none 0 0] := by rw [hW, hb]; exact Row.new w _ _
  have hbw := hide (Nat.le_of_eq hb.symm)
  have hg1 := get_any A n c l w0 W h (hw.trans hEW) hle
  have hln : l.length ≤ 1000000000 := by rw [← h.len]; exact hle
  obtain ⟨Z, hZ⟩ : ∃ Z, Z = decB l := ⟨_, rfl⟩
  rw [← hZ]
  unfold decB at hZ
  replace hW := hide hW
  replace hb := hide hb
  clear h
  cases hv1 : getV 0 l with
  | error k =>
    rw [hv1] at hg1 hZ
    have hk := getV_err l 0 k hv1
    have hk0 : ((k : Int) != 0) = true := by simp; omega
    have hg := hide hg1
    replace hZ := hide hZ
    clear hv1 hk hg1
    go_enter Tryz.func82, Tryz.ntmps82
    go_wp2_with fail
    rw [← hW.out, ← hb.out]
    refine hg.out.mono ?_
    rintro e w1 ⟨hE1, rfl⟩
    have hr1 := hr.ext hE1
    have f1 := fun i => hr1.free i
    have d0 := hr1.cell 0 rfl
    have d1 := hr1.cell 1 rfl
    replace hr1 := hide hr1
    have hE01 := hide (hEW.trans hE1)
    go_wp2_with fail
    obtain ⟨wz, hwz⟩ : ∃ wz, wz = setEv w1 b 0 none 0 0 := ⟨_, rfl⟩; have hk := setEv_row hr1.out 0 none 0 0; rw [← hwz] at hk; have hEz := setEv_ext hE01.out hbw.out 0 none 0 0; rw [← hwz] at hEz; unfold setEv at hwz; rw [← hwz]; have k0 : wz.cell? ⟨b, 0, none⟩ = some (.int .i64 0) := hk.cell 0 rfl; have k1 : wz.cell? ⟨b, 1, none⟩ = some (.slice none 0 0) := hk.cell 1 rfl; clear hwz hk; exact bodyPost_ret (v := .tuple #[.agg #[.int .i64 0, .slice none 0 0], .int .i64 100]) (by simp [results, Tryz.results82, go_sem, k0, k1]) rfl (DecP.no hEz hZ.out)
  | ok p =>
    obtain ⟨q, r⟩ := p
    have hrl : r.length ≤ 1000000000 := by have := getV_less hv1; omega
    rw [hv1] at hg1 hZ
    simp only at hZ
    have hg := hide hg1
    unfold Got at hg
    simp only at hg
    clear hv1 hg1
    by_cases hq40 : 1099511627776 < q
    · rw [if_pos hq40] at hZ
      have hq' : (1099511627776 : Int) < q := by omega
      replace hZ := hide hZ
      go_enter Tryz.func82, Tryz.ntmps82
      go_wp2_with fail
      rw [← hW.out, ← hb.out]
      refine hg.out.mono ?_
      rintro e w1 ⟨hE1, A1, c1, rfl, hi1⟩
      have hr1 := hr.ext hE1
      have f1 := fun i => hr1.free i
      have d0 := hr1.cell 0 rfl
      have d1 := hr1.cell 1 rfl
      replace hr1 := hide hr1
      have hE01 := hide (hEW.trans hE1)
      go_wp2_with fail
      obtain ⟨wz, hwz⟩ : ∃ wz, wz = setEv w1 b 0 none 0 0 := ⟨_, rfl⟩; have hk := setEv_row hr1.out 0 none 0 0; rw [← hwz] at hk; have hEz := setEv_ext hE01.out hbw.out 0 none 0 0; rw [← hwz] at hEz; unfold setEv at hwz; rw [← hwz]; have k0 : wz.cell? ⟨b, 0, none⟩ = some (.int .i64 0) := hk.cell 0 rfl; have k1 : wz.cell? ⟨b, 1, none⟩ = some (.slice none 0 0) := hk.cell 1 rfl; clear hwz hk; exact bodyPost_ret (v := .tuple #[.agg #[.int .i64 0, .slice none 0 0], .int .i64 100]) (by simp [results, Tryz.results82, go_sem, k0, k1]) rfl (DecP.no hEz hZ.out)
    · rw [if_neg hq40] at hZ
      have hq' : ¬ (1099511627776 : Int) < q := by omega
      have hwq : IntKind.i64.wrap (q : Int) = (q : Int) := by
        simp [IntKind.wrap, IntKind.bits, IntKind.signed]
        omega
      cases hv2 : getV 0 r with
      | error k =>
        rw [hv2] at hZ
        have hk := getV_err r 0 k hv2
        have hk0 : ((k : Int) != 0) = true := by simp; omega
        have hg2 := fun A c W h hE => get_any A r.length c r w0 W h hE hrl
        rw [hv2] at hg2
        replace hg2 := hide hg2
        replace hZ := hide hZ
        clear hv2 hk
        go_enter Tryz.func82, Tryz.ntmps82
        go_wp2_with fail
        rw [← hW.out, ← hb.out]
        refine hg.out.mono ?_
        rintro e w1 ⟨hE1, A1, c1, rfl, hi1⟩
        have hgg := hide (hg2.out A1 c1 w1 hi1 ((hw.trans hEW).trans hE1))
        go_wp2_with fail
        refine hgg.out.mono ?_
        rintro e w2 ⟨hE2, rfl⟩
        have hr1 := hr.ext (hE1.trans hE2)
        have f1 := fun i => hr1.free i
        have d0 := hr1.cell 0 rfl
        have d1 := hr1.cell 1 rfl
        replace hr1 := hide hr1
        have hE01 := hide (hEW.trans (hE1.trans hE2))
        go_wp2_with fail
        obtain ⟨wz, hwz⟩ : ∃ wz, wz = setEv w2 b 0 none 0 0 := ⟨_, rfl⟩; have hk := setEv_row hr1.out 0 none 0 0; rw [← hwz] at hk; have hEz := setEv_ext hE01.out hbw.out 0 none 0 0; rw [← hwz] at hEz; unfold setEv at hwz; rw [← hwz]; have k0 : wz.cell? ⟨b, 0, none⟩ = some (.int .i64 0) := hk.cell 0 rfl; have k1 : wz.cell? ⟨b, 1, none⟩ = some (.slice none 0 0) := hk.cell 1 rfl; clear hwz hk; exact bodyPost_ret (v := .tuple #[.agg #[.int .i64 0, .slice none 0 0], .int .i64 100]) (by simp [results, Tryz.results82, go_sem, k0, k1]) rfl (DecP.no hEz hZ.out)
      | ok p =>
        obtain ⟨m, r2⟩ := p
        have hrl2 : r2.length ≤ 1000000000 := by have := getV_less hv2; omega
        rw [hv2] at hZ
        simp only at hZ
        have hg2 := fun A c W h hE => get_any A r.length c r w0 W h hE hrl
        rw [hv2] at hg2
        unfold Got at hg2
        simp only at hg2
        replace hg2 := hide hg2
        clear hv2
        by_cases hm64 : 64 < m
        · rw [if_pos hm64] at hZ
          have hm' : (64 : Int) < m := by omega
          replace hZ := hide hZ
          go_enter Tryz.func82, Tryz.ntmps82
          go_wp2_with fail
          rw [← hW.out, ← hb.out]
          refine hg.out.mono ?_
          rintro e w1 ⟨hE1, A1, c1, rfl, hi1⟩
          have hgg := hide (hg2.out A1 c1 w1 hi1 ((hw.trans hEW).trans hE1))
          go_wp2_with fail
          refine hgg.out.mono ?_
          rintro e w2 ⟨hE2, A2, c2, rfl, hi2⟩
          have hr1 := hr.ext (hE1.trans hE2)
          have f1 := fun i => hr1.free i
          have d0 := hr1.cell 0 rfl
          have d1 := hr1.cell 1 rfl
          replace hr1 := hide hr1
          have hE01 := hide (hEW.trans (hE1.trans hE2))
          go_wp2_with fail
          obtain ⟨wz, hwz⟩ : ∃ wz, wz = setEv w2 b 0 none 0 0 := ⟨_, rfl⟩; have hk := setEv_row hr1.out 0 none 0 0; rw [← hwz] at hk; have hEz := setEv_ext hE01.out hbw.out 0 none 0 0; rw [← hwz] at hEz; unfold setEv at hwz; rw [← hwz]; have k0 : wz.cell? ⟨b, 0, none⟩ = some (.int .i64 0) := hk.cell 0 rfl; have k1 : wz.cell? ⟨b, 1, none⟩ = some (.slice none 0 0) := hk.cell 1 rfl; clear hwz hk; exact bodyPost_ret (v := .tuple #[.agg #[.int .i64 0, .slice none 0 0], .int .i64 100]) (by simp [results, Tryz.results82, go_sem, k0, k1]) rfl (DecP.no hEz hZ.out)
        · rw [if_neg hm64] at hZ
          have hm' : ¬ (64 : Int) < m := by omega
          replace hZ := hide hZ
          go_enter Tryz.func82, Tryz.ntmps82
          go_wp2_with fail
          rw [← hW.out, ← hb.out]
          refine hg.out.mono ?_
          rintro e w1 ⟨hE1, A1, c1, rfl, hi1⟩
          have hgg := hide (hg2.out A1 c1 w1 hi1 ((hw.trans hEW).trans hE1))
          go_wp2_with fail
          refine hgg.out.mono ?_
          rintro e w2 ⟨hE2, A2, c2, rfl, hi2⟩
          have hr1 := hr.ext (hE1.trans hE2)
          replace hr1 := hide hr1
          have hE01 := hide (hEW.trans (hE1.trans hE2))
          go_wp2_with fail
          obtain ⟨g, hgd⟩ : ∃ g, g = w2.heap.size := ⟨_, rfl⟩
          obtain ⟨W3, hW3⟩ : ∃ W3, W3 = w2.alloc (.cells #[.int .i64 (q : Int), .slice none 0 0] 80) := ⟨_, rfl⟩
          have hE23 : Ext w2 W3 := by rw [hW3]; exact (Ext.refl w2).alloc _
          have hE03 : Ext w W3 := hE01.out.trans hE23
          have hr3 : Row W3 b 80 #[.int .i64 0, .slice none 0 0] := hr1.out.ext hE23
          have hg3 : Row W3 g 80 #[.int .i64 (q : Int), .slice none 0 0] := by rw [hW3, hgd]; exact Row.new w2 _ _
          have hbg : b < g := by rw [hgd]; exact hr1.out.lt
          have hwg : w.heap.size ≤ g := by rw [hgd]; exact hE01.out.size
          have hsz3 : g + 1 ≤ W3.heap.size := hg3.lt
          rw [← hW3, ← hgd]
          replace hgd := hide hgd
          clear hr1 hE01 hgg hg hg2 hW3
          go_loopw [5, 42] (fun s5 s42 wr => ∃ (i : Nat) (read : List EvC) (rr : List UInt8) (B A3 : Option Addr) (d c3 : Nat), s42 = .int .u64 (i : Int) ∧ s5 = .slice A3 rr.length c3 ∧ i ≤ m ∧ rr.length ≤ 1000000000 ∧ Hid (i = read.length) ∧ Hid (getEs m r2 = aheadE (read.map (·.e)) (getEs (m - i) rr)) ∧ Hid (Row wr b 80 #[.int .i64 0, .slice none 0 0]) ∧ Hid (Row wr g 80 #[.int .i64 (q : Int), .slice B i d]) ∧ Hid (EvsOwn wr (g + 1) B d read) ∧ Hid (In8 w0 A3 rr.length c3 rr) ∧ Hid (Ext w wr)) (fun _ s42 _ => m - (intOf s42).toNat)
          case atStart => exact ⟨0, [], r2, none, A2, 0, c2, rfl, rfl, by omega, hrl2, hide rfl, hide (by rw [List.map_nil, aheadE_nil]; rfl), hide hr3, hide hg3, hide (EvsOwn.nil _ _), hide hi2, hide hE03⟩
          case round =>
            obtain ⟨i, read, rr, B, A3, d, c3, rfl, rfl, hi, hrr, hil, hgf, hrowb, hrow, hown, hin8, hE⟩ := hrel
            have q0 : wr.cell? ⟨g, 0, none⟩ = some (.int .i64 (q : Int)) := hrow.out.cell 0 rfl
            have q1 : wr.cell? ⟨g, 1, none⟩ = some (.slice B i d) := hrow.out.cell 1 rfl
            by_cases him : i < m
            · have hi1 : (i : Int) < m := by omega
              have hge := evget_any A3 rr.length c3 rr w0 wr hin8.out (hw.trans hE.out) hrr
              cases hev : getE rr with
              | none =>
                have hnone := hide (getEs_no hgf.out him hev)
                rw [hev] at hge
                replace hge := hide hge
                clear hev
                go_wp2_with fail
                refine hge.out.mono ?_
                rintro e w4 ⟨hE4, rfl⟩
                have hr5 := (hrowb.out.ext hE4).alloc (.cells #[.int .i64 0, .slice none 0 0] 89)
                have f5 := fun i => hr5.free i
                have e5 := hr5.cell 0 rfl
                have e6 := hr5.cell 1 rfl
                have hE05 := hide ((hE.out.trans hE4).alloc (.cells #[.int .i64 0, .slice none 0 0] 89))
                have hzn : Hid (Z = none) := hide (by rw [hZ.out, hnone.out])
                replace hr5 := hide hr5
                go_wp2_with fail
                obtain ⟨wz, hwz⟩ : ∃ wz, wz = setEv (w4.alloc (.cells #[.int .i64 0, .slice none 0 0] 89)) b 0 none 0 0 := ⟨_, rfl⟩; have hk := setEv_row hr5.out 0 none 0 0; rw [← hwz] at hk; have hEz := setEv_ext hE05.out hbw.out 0 none 0 0; rw [← hwz] at hEz; unfold setEv at hwz; rw [← hwz]; have k0 : wz.cell? ⟨b, 0, none⟩ = some (.int .i64 0) := hk.cell 0 rfl; have k1 : wz.cell? ⟨b, 1, none⟩ = some (.slice none 0 0) := hk.cell 1 rfl; clear hwz hk; exact bodyPost_ret (v := .tuple #[.agg #[.int .i64 0, .slice none 0 0], .int .i64 100]) (by simp [results, Tryz.results82, go_sem, k0, k1]) rfl (DecP.no hEz hzn.out)
              | some p =>
                obtain ⟨ev, r1⟩ := p
                have hless := getE_less hev
                rw [hev] at hge
                unfold GotE at hge
                simp only at hge
                replace hge := hide hge
                have hstep := getEs_step hgf.out him hev
                clear hev
                go_wp2_with fail
                refine hge.out.mono ?_
                rintro e w4 ⟨hE4, B4, d4, A4, c4, rfl, hev4, hi4, hei⟩
                unfold Ev.val
                obtain ⟨w5, hw5⟩ : ∃ w5, w5 = w4.alloc (.cells #[.int .i64 ev.at_, .slice B4 ev.fs.length d4] 89) := ⟨_, rfl⟩
                have hE45 : Ext w4 w5 := by rw [hw5]; exact (Ext.refl w4).alloc _
                have hr5 : Row w5 w4.heap.size 89 #[.int .i64 ev.at_, .slice B4 ev.fs.length d4] := by rw [hw5]; exact Row.new w4 _ _
                have hro5 := hrow.out.ext (hE4.trans hE45)
                have hrb5 := hrowb.out.ext (hE4.trans hE45)
                have ho5 := hown.out.ext (hE4.trans hE45)
                have hE05 := (hE.out.trans hE4).trans hE45
                have hgle : g + 1 ≤ wr.heap.size := hrow.out.lt
                have hnew : (⟨ev, B4, d4⟩ : EvC).Own w5 (g + 1) := ⟨hE45.owns (owns_lower hev4.1 hgle), hev4.2⟩
                have x0 := hr5.cell 0 rfl
                have x1 := hr5.cell 1 rfl
                have x2 := hro5.cell 1 rfl
                have hsz5 : g + 1 ≤ w5.heap.size := hro5.lt
                have hown5 : w5.ownsRow (g + 1) 89 2 (.slice B i d) i (ecells read) := by have := ho5.own; rw [← hil.out] at this; exact this
                rw [hw5] at x0 x1 x2 hsz5 hown5
                replace hw5 := hide hw5
                replace hnew := hide hnew
                replace ho5 := hide ho5
                replace hstep := hide hstep
                clear q0 q1
                go_wp2_with (at_builtin; refine wpList_appZ (us := [.int .i64 ev.at_, .slice B4 ev.fs.length d4]) (m := 1) elemEv hown5 (by simp) (.tmp 54) (.tmp 56) rfl rfl rfl rfl rfl (one_of rfl) (by omega) hsz5 (fun A8 c8 w8 ho8 hg8 hl8 => ?_); have hne8 : ∀ k, (Value.slice B i d).ownBlock = some k → g + 1 ≤ k := (fun k hk => by obtain ⟨_, _, hb⟩ := owns_row hown5 hk; exact hb); rw [← hw5.out] at hg8 hown5; have hr8 := Row.grown hro5 hg8 (fun e => by have := hne8 _ e.symm; omega); have hb8 := Row.grown hrb5 hg8 (fun e => by have := hne8 _ e.symm; omega); have f8 := hr8.free 1; have e8 : w8.cell? ⟨g, 1, none⟩ = some (.slice B i d) := hr8.cell 1 rfl; have hr8h := hide hr8; have hb8h := hide hb8; have ho8h := hide ho8; have hg8h := hide hg8; have hown5h := hide hown5; have hE08 := hide (hE05.grown hg8 fun k hk => by have := hne8 k hk; omega); clear hr8 hb8 ho8 hg8 hl8 hown5)
                have hne9 : (Value.slice A8 (i + 1) c8).ownBlock ≠ some g := fun e => by
                  obtain ⟨_, _, hb⟩ := owns_row ho8h.out e
                  omega
                have hch : Chg (fun k' => (Value.slice B i d).ownBlock = some k') w5 w8 := Chg.of_grown hg8h.out fun k' _ hk' => hk'
                have hcs : Chg (fun k' => k' = g) w8 (w8.setCell ⟨g, 1, none⟩ (.slice A8 (i + 1) c8)) := Chg.of_set w8 _ rfl
                have hun : ∀ k cs, Row w5 k 126 cs → ¬ (Value.slice B i d).ownBlock = some k := fun k cs hr => owns_unlike hown5h.out hr (by decide)
                have hun2 : ∀ k cs, Row w8 k 126 cs → ¬ k = g := fun k cs hr hk => Row.unlike hr hr8h.out (by decide) hk
                have hlen : (read ++ [(⟨ev, B4, d4⟩ : EvC)]).length = i + 1 := by rw [List.length_append, ← hil.out]; rfl
                refine ⟨⟨i + 1, read ++ [⟨ev, B4, d4⟩], r1, A8, A4, c8, c4, by go_num, rfl, by omega, by omega, hide hlen.symm, hide (by rw [List.map_append]; exact hstep.out), hide (hb8h.out.away (p := ⟨g, 1, none⟩) (by simp only; omega) _), hide (hr8h.out.put 1 _), hide ⟨?_, ?_, ?_⟩, hide hi4, hide (hE08.out.setCell (p := ⟨g, 1, none⟩) hwg _)⟩, ?_⟩
                · rw [hlen, ecells_snoc]
                  exact owns_set ho8h.out hne9 _
                · intro x hx
                  rcases List.mem_append.1 hx with hx | hx
                  · exact EvC.Own.chg (EvC.Own.chg (ho5.out.each x hx) hch hun) hcs hun2
                  · rw [List.mem_singleton.1 hx]
                    exact EvC.Own.chg (EvC.Own.chg hnew.out hch hun) hcs hun2
                · intro x hx
                  rcases List.mem_append.1 hx with hx | hx
                  · exact ho5.out.ints x hx
                  · rw [List.mem_singleton.1 hx]; exact hei
                · simp [intOf]; omega
            · obtain rfl : i = m := by omega
              have hfin := getEs_fin hgf.out (Nat.le_refl _)
              have hzz := hZ.out
              rw [hfin] at hzz
              simp only at hzz
              obtain ⟨es, hes⟩ : ∃ es, es = read.map (·.e) := ⟨_, rfl⟩
              rw [← hes] at hzz
              have hesl : es.length = i := by rw [hes, List.length_map]; exact hil.out.symm
              by_cases hrr0 : rr = []
              · subst hrr0
                have hck := ckbatch_any ⟨(q : Int), read, B, d⟩ wr ⟨hown.out.ok, by simp only; have := hil.out; omega, by unfold I64ok'; simp only; omega⟩
                unfold BtC.val BtC.bt at hck
                simp only at hck
                rw [← hes, ← hil.out] at hck
                have hcB := @checkB_ok ⟨(q : Int), es⟩
                obtain ⟨j, hj⟩ : ∃ j, j = checkB ⟨(q : Int), es⟩ := ⟨_, rfl⟩
                rw [← hj] at hck hzz hcB
                replace hj := hide hj
                replace hck := hide hck
                replace hes := hide hes
                by_cases hj0 : j = 0
                · subst hj0
                  obtain ⟨_, _, _, _, hs1, hs2⟩ := hcB rfl
                  rw [if_pos ⟨rfl, rfl⟩] at hzz
                  replace hzz := hide hzz
                  clear hcB
                  go_wp2_with fail
                  refine hck.out.mono ?_
                  rintro e w4 ⟨rfl, hE4⟩
                  have hr4 := hrowb.out.ext hE4
                  have f4 := fun k => hr4.free k
                  have g0 := hE4.cell q0
                  have g1 := hE4.cell q1
                  have g2 := hr4.cell 0 rfl
                  have g3 := hr4.cell 1 rfl
                  replace hr4 := hide hr4
                  have hE04 := hide (hE.out.trans hE4)
                  have ho4 := hide (hown.out.ext hE4)
                  clear q0 q1
                  go_wp2_with fail
                  obtain ⟨wz, hwz⟩ : ∃ wz, wz = setEv w4 b (q : Int) B i d := ⟨_, rfl⟩
                  have hk := setEv_row hr4.out (q : Int) B i d
                  have hcz := (EvsOwn.chg ho4.out (setEv_chg w4 b (q : Int) B i d) (fun k _ _ _ _ hb h => by omega)).lower (b := w.heap.size) (by omega)
                  have hEz := setEv_ext hE04.out hbw.out (q : Int) B i d
                  rw [← hwz] at hk hcz hEz
                  unfold setEv at hwz
                  rw [← hwz]
                  have k0 : wz.cell? ⟨b, 0, none⟩ = some (.int .i64 (q : Int)) := hk.cell 0 rfl
                  have k1 : wz.cell? ⟨b, 1, none⟩ = some (.slice B i d) := hk.cell 1 rfl
                  clear hwz hk
                  exact bodyPost_ret (v := .tuple #[.agg #[.int .i64 (q : Int), .slice B i d], .int .i64 0]) (by simp [results, Tryz.results82, go_sem, k0, k1]) rfl (by rw [hzz.out]; exact ⟨hEz, read, B, d, hes.out, by rw [← hil.out], hcz, by rw [← hil.out]; omega, hs1, hs2⟩)
                · have hj0' : ¬ (j : Int) = 0 := by omega
                  have hzn : Hid (Z = none) := hide (by rw [hzz, if_neg (fun h => hj0 h.2)])
                  clear hzz
                  go_wp2_with fail
                  refine hck.out.mono ?_
                  rintro e w4 ⟨rfl, hE4⟩
                  have hr4 := hrowb.out.ext hE4
                  have f4 := fun k => hr4.free k
                  have g2 := hr4.cell 0 rfl
                  have g3 := hr4.cell 1 rfl
                  replace hr4 := hide hr4
                  have hE04 := hide (hE.out.trans hE4)
                  clear q0 q1
                  go_wp2_with fail
                  obtain ⟨wz, hwz⟩ : ∃ wz, wz = setEv w4 b 0 none 0 0 := ⟨_, rfl⟩; have hk := setEv_row hr4.out 0 none 0 0; rw [← hwz] at hk; have hEz := setEv_ext hE04.out hbw.out 0 none 0 0; rw [← hwz] at hEz; unfold setEv at hwz; rw [← hwz]; have k0 : wz.cell? ⟨b, 0, none⟩ = some (.int .i64 0) := hk.cell 0 rfl; have k1 : wz.cell? ⟨b, 1, none⟩ = some (.slice none 0 0) := hk.cell 1 rfl; clear hwz hk; exact bodyPost_ret (v := .tuple #[.agg #[.int .i64 0, .slice none 0 0], .int .i64 100]) (by simp [results, Tryz.results82, go_sem, k0, k1]) rfl (DecP.no hEz hzn.out)
              · have hzn : Hid (Z = none) := hide (by rw [hzz, if_neg (fun h => hrr0 h.1)])
                have hpos : (0 : Int) < rr.length := by have := List.length_pos_iff.2 hrr0; omega
                have hr4 := hrowb.out
                have f4 := fun k => hr4.free k
                have g2 := hr4.cell 0 rfl
                have g3 := hr4.cell 1 rfl
                replace hr4 := hide hr4
                clear hzz
                go_wp2_with fail
                obtain ⟨wz, hwz⟩ : ∃ wz, wz = setEv wr b 0 none 0 0 := ⟨_, rfl⟩; have hk := setEv_row hr4.out 0 none 0 0; rw [← hwz] at hk; have hEz := setEv_ext hE.out hbw.out 0 none 0 0; rw [← hwz] at hEz; unfold setEv at hwz; rw [← hwz]; have k0 : wz.cell? ⟨b, 0, none⟩ = some (.int .i64 0) := hk.cell 0 rfl; have k1 : wz.cell? ⟨b, 1, none⟩ = some (.slice none 0 0) := hk.cell 1 rfl; clear hwz hk; exact bodyPost_ret (v := .tuple #[.agg #[.int .i64 0, .slice none 0 0], .int .i64 100]) (by simp [results, Tryz.results82, go_sem, k0, k1]) rfl (DecP.no hEz hzn.out)
end Go.Proofs.YtohphanbnhiodaaGreat

/- loggiaref10: Decode. -/
namespace Go.Proofs.YtohphanbnhiodaaGreat
open Go.RowKit

set_option maxRecDepth 100000 in
set_option maxHeartbeats 4000000 in
theorem rdecode_any (A : Option Addr) (n c : Nat) (l : List UInt8) (w0 w : World) (h : In8 w0 A n c l) (hw : Ext w0 w) (hle : n ≤ 1000000000) :
    Calls Tryz.prog 84 #[.slice A n c] w fun e w' => DecP w (decB l) e w' := by
  obtain ⟨W, hW⟩ : ∃ W, W = w.alloc (.cells #[.int .i64 0, .slice none 0 0] 80) := ⟨_, rfl⟩
  have hEW : Ext w W := by rw [hW]; exact (Ext.refl w).alloc _
  obtain ⟨b, hb⟩ : ∃ b, b = w.heap.size := ⟨_, rfl⟩
  have hr : Row W b 80 #[.int .i64 0, .slice none 0 0] := by rw [hW, hb]; exact Row.new w _ _
  have hbw := hide (Nat.le_of_eq hb.symm)
  have hg1 := rget_any A n c l w0 W h (hw.trans hEW) hle
  have hln : l.length ≤ 1000000000 := by rw [← h.len]; exact hle
  obtain ⟨Z, hZ⟩ : ∃ Z, Z = decB l := ⟨_, rfl⟩
  rw [← hZ]
  unfold decB at hZ
  replace hW := hide hW
  replace hb := hide hb
  clear h
  cases hv1 : getV 0 l with
  | error k =>
    rw [hv1] at hg1 hZ
    have hk := getV_err l 0 k hv1
    have hk0 : ((k : Int) != 0) = true := by simp; omega
    have hg := hide hg1
    replace hZ := hide hZ
    clear hv1 hk hg1
    go_enter Tryz.func84, Tryz.ntmps84
    go_wp2_with fail
    rw [← hW.out, ← hb.out]
    refine hg.out.mono ?_
    rintro e w1 ⟨hE1, rfl⟩
    have hr1 := hr.ext hE1
    have f1 := fun i => hr1.free i
    have d0 := hr1.cell 0 rfl
    have d1 := hr1.cell 1 rfl
    replace hr1 := hide hr1
    have hE01 := hide (hEW.trans hE1)
    go_wp2_with fail
    obtain ⟨wz, hwz⟩ : ∃ wz, wz = setEv w1 b 0 none 0 0 := ⟨_, rfl⟩; have hk := setEv_row hr1.out 0 none 0 0; rw [← hwz] at hk; have hEz := setEv_ext hE01.out hbw.out 0 none 0 0; rw [← hwz] at hEz; unfold setEv at hwz; rw [← hwz]; have k0 : wz.cell? ⟨b, 0, none⟩ = some (.int .i64 0) := hk.cell 0 rfl; have k1 : wz.cell? ⟨b, 1, none⟩ = some (.slice none 0 0) := hk.cell 1 rfl; clear hwz hk; exact bodyPost_ret (v := .tuple #[.agg #[.int .i64 0, .slice none 0 0], .int .i64 100]) (by simp [results, Tryz.results84, go_sem, k0, k1]) rfl (DecP.no hEz hZ.out)
  | ok p =>
    obtain ⟨q, r⟩ := p
    have hrl : r.length ≤ 1000000000 := by have := getV_less hv1; omega
    rw [hv1] at hg1 hZ
    simp only at hZ
    have hg := hide hg1
    unfold Got at hg
    simp only at hg
    clear hv1 hg1
    by_cases hq40 : 1099511627776 < q
    · rw [if_pos hq40] at hZ
      have hq' : (1099511627776 : Int) < q := by omega
      replace hZ := hide hZ
      go_enter Tryz.func84, Tryz.ntmps84
      go_wp2_with fail
      rw [← hW.out, ← hb.out]
      refine hg.out.mono ?_
      rintro e w1 ⟨hE1, A1, c1, rfl, hi1⟩
      have hr1 := hr.ext hE1
      have f1 := fun i => hr1.free i
      have d0 := hr1.cell 0 rfl
      have d1 := hr1.cell 1 rfl
      replace hr1 := hide hr1
      have hE01 := hide (hEW.trans hE1)
      go_wp2_with fail
      obtain ⟨wz, hwz⟩ : ∃ wz, wz = setEv w1 b 0 none 0 0 := ⟨_, rfl⟩; have hk := setEv_row hr1.out 0 none 0 0; rw [← hwz] at hk; have hEz := setEv_ext hE01.out hbw.out 0 none 0 0; rw [← hwz] at hEz; unfold setEv at hwz; rw [← hwz]; have k0 : wz.cell? ⟨b, 0, none⟩ = some (.int .i64 0) := hk.cell 0 rfl; have k1 : wz.cell? ⟨b, 1, none⟩ = some (.slice none 0 0) := hk.cell 1 rfl; clear hwz hk; exact bodyPost_ret (v := .tuple #[.agg #[.int .i64 0, .slice none 0 0], .int .i64 100]) (by simp [results, Tryz.results84, go_sem, k0, k1]) rfl (DecP.no hEz hZ.out)
    · rw [if_neg hq40] at hZ
      have hq' : ¬ (1099511627776 : Int) < q := by omega
      have hwq : IntKind.i64.wrap (q : Int) = (q : Int) := by
        simp [IntKind.wrap, IntKind.bits, IntKind.signed]
        omega
      cases hv2 : getV 0 r with
      | error k =>
        rw [hv2] at hZ
        have hk := getV_err r 0 k hv2
        have hk0 : ((k : Int) != 0) = true := by simp; omega
        have hg2 := fun A c W h hE => rget_any A r.length c r w0 W h hE hrl
        rw [hv2] at hg2
        replace hg2 := hide hg2
        replace hZ := hide hZ
        clear hv2 hk
        go_enter Tryz.func84, Tryz.ntmps84
        go_wp2_with fail
        rw [← hW.out, ← hb.out]
        refine hg.out.mono ?_
        rintro e w1 ⟨hE1, A1, c1, rfl, hi1⟩
        have hgg := hide (hg2.out A1 c1 w1 hi1 ((hw.trans hEW).trans hE1))
        go_wp2_with fail
        refine hgg.out.mono ?_
        rintro e w2 ⟨hE2, rfl⟩
        have hr1 := hr.ext (hE1.trans hE2)
        have f1 := fun i => hr1.free i
        have d0 := hr1.cell 0 rfl
        have d1 := hr1.cell 1 rfl
        replace hr1 := hide hr1
        have hE01 := hide (hEW.trans (hE1.trans hE2))
        go_wp2_with fail
        obtain ⟨wz, hwz⟩ : ∃ wz, wz = setEv w2 b 0 none 0 0 := ⟨_, rfl⟩; have hk := setEv_row hr1.out 0 none 0 0; rw [← hwz] at hk; have hEz := setEv_ext hE01.out hbw.out 0 none 0 0; rw [← hwz] at hEz; unfold setEv at hwz; rw [← hwz]; have k0 : wz.cell? ⟨b, 0, none⟩ = some (.int .i64 0) := hk.cell 0 rfl; have k1 : wz.cell? ⟨b, 1, none⟩ = some (.slice none 0 0) := hk.cell 1 rfl; clear hwz hk; exact bodyPost_ret (v := .tuple #[.agg #[.int .i64 0, .slice none 0 0], .int .i64 100]) (by simp [results, Tryz.results84, go_sem, k0, k1]) rfl (DecP.no hEz hZ.out)
      | ok p =>
        obtain ⟨m, r2⟩ := p
        have hrl2 : r2.length ≤ 1000000000 := by have := getV_less hv2; omega
        rw [hv2] at hZ
        simp only at hZ
        have hg2 := fun A c W h hE => rget_any A r.length c r w0 W h hE hrl
        rw [hv2] at hg2
        unfold Got at hg2
        simp only at hg2
        replace hg2 := hide hg2
        clear hv2
        by_cases hm64 : 64 < m
        · rw [if_pos hm64] at hZ
          have hm' : (64 : Int) < m := by omega
          replace hZ := hide hZ
          go_enter Tryz.func84, Tryz.ntmps84
          go_wp2_with fail
          rw [← hW.out, ← hb.out]
          refine hg.out.mono ?_
          rintro e w1 ⟨hE1, A1, c1, rfl, hi1⟩
          have hgg := hide (hg2.out A1 c1 w1 hi1 ((hw.trans hEW).trans hE1))
          go_wp2_with fail
          refine hgg.out.mono ?_
          rintro e w2 ⟨hE2, A2, c2, rfl, hi2⟩
          have hr1 := hr.ext (hE1.trans hE2)
          have f1 := fun i => hr1.free i
          have d0 := hr1.cell 0 rfl
          have d1 := hr1.cell 1 rfl
          replace hr1 := hide hr1
          have hE01 := hide (hEW.trans (hE1.trans hE2))
          go_wp2_with fail
          obtain ⟨wz, hwz⟩ : ∃ wz, wz = setEv w2 b 0 none 0 0 := ⟨_, rfl⟩; have hk := setEv_row hr1.out 0 none 0 0; rw [← hwz] at hk; have hEz := setEv_ext hE01.out hbw.out 0 none 0 0; rw [← hwz] at hEz; unfold setEv at hwz; rw [← hwz]; have k0 : wz.cell? ⟨b, 0, none⟩ = some (.int .i64 0) := hk.cell 0 rfl; have k1 : wz.cell? ⟨b, 1, none⟩ = some (.slice none 0 0) := hk.cell 1 rfl; clear hwz hk; exact bodyPost_ret (v := .tuple #[.agg #[.int .i64 0, .slice none 0 0], .int .i64 100]) (by simp [results, Tryz.results84, go_sem, k0, k1]) rfl (DecP.no hEz hZ.out)
        · rw [if_neg hm64] at hZ
          have hm' : ¬ (64 : Int) < m := by omega
          have hwm : IntKind.i64.wrap (m : Int) = (m : Int) := by
            simp [IntKind.wrap, IntKind.bits, IntKind.signed]
            omega
          replace hZ := hide hZ
          go_enter Tryz.func84, Tryz.ntmps84
          go_wp2_with fail
          rw [← hW.out, ← hb.out]
          refine hg.out.mono ?_
          rintro e w1 ⟨hE1, A1, c1, rfl, hi1⟩
          have hgg := hide (hg2.out A1 c1 w1 hi1 ((hw.trans hEW).trans hE1))
          go_wp2_with fail
          refine hgg.out.mono ?_
          rintro e w2 ⟨hE2, A2, c2, rfl, hi2⟩
          have hr1 := hr.ext (hE1.trans hE2)
          replace hr1 := hide hr1
          have hE01 := hide (hEW.trans (hE1.trans hE2))
          go_wp2_with fail
          obtain ⟨g, hgd⟩ : ∃ g, g = w2.heap.size := ⟨_, rfl⟩
          obtain ⟨W3, hW3⟩ : ∃ W3, W3 = w2.alloc (.cells #[.int .i64 (q : Int), .slice none 0 0] 80) := ⟨_, rfl⟩
          have hE23 : Ext w2 W3 := by rw [hW3]; exact (Ext.refl w2).alloc _
          have hE03 : Ext w W3 := hE01.out.trans hE23
          have hr3 : Row W3 b 80 #[.int .i64 0, .slice none 0 0] := hr1.out.ext hE23
          have hg3 : Row W3 g 80 #[.int .i64 (q : Int), .slice none 0 0] := by rw [hW3, hgd]; exact Row.new w2 _ _
          have hbg : b < g := by rw [hgd]; exact hr1.out.lt
          have hwg : w.heap.size ≤ g := by rw [hgd]; exact hE01.out.size
          have hsz3 : g + 1 ≤ W3.heap.size := hg3.lt
          rw [← hW3, ← hgd]
          replace hgd := hide hgd
          clear hr1 hE01 hgg hg hg2 hW3
          go_loopw [8, 11] (fun s8 s11 wr => ∃ (i : Nat) (read : List EvC) (rr : List UInt8) (B A3 : Option Addr) (d c3 : Nat), s11 = .int .i64 (i : Int) ∧ s8 = .slice A3 rr.length c3 ∧ i ≤ m ∧ rr.length ≤ 1000000000 ∧ Hid (i = read.length) ∧ Hid (getEs m r2 = aheadE (read.map (·.e)) (getEs (m - i) rr)) ∧ Hid (Row wr b 80 #[.int .i64 0, .slice none 0 0]) ∧ Hid (Row wr g 80 #[.int .i64 (q : Int), .slice B i d]) ∧ Hid (EvsOwn wr (g + 1) B d read) ∧ Hid (In8 w0 A3 rr.length c3 rr) ∧ Hid (Ext w wr)) (fun _ s11 _ => m - (intOf s11).toNat)
          case atStart => exact ⟨0, [], r2, none, A2, 0, c2, rfl, rfl, by omega, hrl2, hide rfl, hide (by rw [List.map_nil, aheadE_nil]; rfl), hide hr3, hide hg3, hide (EvsOwn.nil _ _), hide hi2, hide hE03⟩
          case round =>
            obtain ⟨i, read, rr, B, A3, d, c3, rfl, rfl, hi, hrr, hil, hgf, hrowb, hrow, hown, hin8, hE⟩ := hrel
            have q0 : wr.cell? ⟨g, 0, none⟩ = some (.int .i64 (q : Int)) := hrow.out.cell 0 rfl
            have q1 : wr.cell? ⟨g, 1, none⟩ = some (.slice B i d) := hrow.out.cell 1 rfl
            by_cases him : i < m
            · have hi1 : (i : Int) < m := by omega
              have hge := revget_any A3 rr.length c3 rr w0 wr hin8.out (hw.trans hE.out) hrr
              cases hev : getE rr with
              | none =>
                have hnone := hide (getEs_no hgf.out him hev)
                rw [hev] at hge
                replace hge := hide hge
                clear hev
                go_wp2_with fail
                refine hge.out.mono ?_
                rintro e w4 ⟨hE4, rfl⟩
                have hr5 := (hrowb.out.ext hE4).alloc (.cells #[.int .i64 0, .slice none 0 0] 89)
                have f5 := fun i => hr5.free i
                have e5 := hr5.cell 0 rfl
                have e6 := hr5.cell 1 rfl
                have hE05 := hide ((hE.out.trans hE4).alloc (.cells #[.int .i64 0, .slice none 0 0] 89))
                have hzn : Hid (Z = none) := hide (by rw [hZ.out, hnone.out])
                replace hr5 := hide hr5
                go_wp2_with fail
                obtain ⟨wz, hwz⟩ : ∃ wz, wz = setEv (w4.alloc (.cells #[.int .i64 0, .slice none 0 0] 89)) b 0 none 0 0 := ⟨_, rfl⟩; have hk := setEv_row hr5.out 0 none 0 0; rw [← hwz] at hk; have hEz := setEv_ext hE05.out hbw.out 0 none 0 0; rw [← hwz] at hEz; unfold setEv at hwz; rw [← hwz]; have k0 : wz.cell? ⟨b, 0, none⟩ = some (.int .i64 0) := hk.cell 0 rfl; have k1 : wz.cell? ⟨b, 1, none⟩ = some (.slice none 0 0) := hk.cell 1 rfl; clear hwz hk; exact bodyPost_ret (v := .tuple #[.agg #[.int .i64 0, .slice none 0 0], .int .i64 100]) (by simp [results, Tryz.results84, go_sem, k0, k1]) rfl (DecP.no hEz hzn.out)
              | some p =>
                obtain ⟨ev, r1⟩ := p
                have hless := getE_less hev
                rw [hev] at hge
                unfold GotE at hge
                simp only at hge
                replace hge := hide hge
                have hstep := getEs_step hgf.out him hev
                clear hev
                go_wp2_with fail
                refine hge.out.mono ?_
                rintro e w4 ⟨hE4, B4, d4, A4, c4, rfl, hev4, hi4, hei⟩
                unfold Ev.val
                obtain ⟨w5, hw5⟩ : ∃ w5, w5 = w4.alloc (.cells #[.int .i64 ev.at_, .slice B4 ev.fs.length d4] 89) := ⟨_, rfl⟩
                have hE45 : Ext w4 w5 := by rw [hw5]; exact (Ext.refl w4).alloc _
                have hr5 : Row w5 w4.heap.size 89 #[.int .i64 ev.at_, .slice B4 ev.fs.length d4] := by rw [hw5]; exact Row.new w4 _ _
                have hro5 := hrow.out.ext (hE4.trans hE45)
                have hrb5 := hrowb.out.ext (hE4.trans hE45)
                have ho5 := hown.out.ext (hE4.trans hE45)
                have hE05 := (hE.out.trans hE4).trans hE45
                have hgle : g + 1 ≤ wr.heap.size := hrow.out.lt
                have hnew : (⟨ev, B4, d4⟩ : EvC).Own w5 (g + 1) := ⟨hE45.owns (owns_lower hev4.1 hgle), hev4.2⟩
                have x0 := hr5.cell 0 rfl
                have x1 := hr5.cell 1 rfl
                have x2 := hro5.cell 1 rfl
                have hsz5 : g + 1 ≤ w5.heap.size := hro5.lt
                have hown5 : w5.ownsRow (g + 1) 89 2 (.slice B i d) i (ecells read) := by have := ho5.own; rw [← hil.out] at this; exact this
                rw [hw5] at x0 x1 x2 hsz5 hown5
                replace hw5 := hide hw5
                replace hnew := hide hnew
                replace ho5 := hide ho5
                replace hstep := hide hstep
                clear q0 q1
                go_wp2_with (at_builtin; refine wpList_appZ (us := [.int .i64 ev.at_, .slice B4 ev.fs.length d4]) (m := 1) elemEv hown5 (by simp) (.tmp 60) (.tmp 62) rfl rfl rfl rfl rfl (one_of rfl) (by omega) hsz5 (fun A8 c8 w8 ho8 hg8 hl8 => ?_); have hne8 : ∀ k, (Value.slice B i d).ownBlock = some k → g + 1 ≤ k := (fun k hk => by obtain ⟨_, _, hb⟩ := owns_row hown5 hk; exact hb); rw [← hw5.out] at hg8 hown5; have hr8 := Row.grown hro5 hg8 (fun e => by have := hne8 _ e.symm; omega); have hb8 := Row.grown hrb5 hg8 (fun e => by have := hne8 _ e.symm; omega); have f8 := hr8.free 1; have e8 : w8.cell? ⟨g, 1, none⟩ = some (.slice B i d) := hr8.cell 1 rfl; have hr8h := hide hr8; have hb8h := hide hb8; have ho8h := hide ho8; have hg8h := hide hg8; have hown5h := hide hown5; have hE08 := hide (hE05.grown hg8 fun k hk => by have := hne8 k hk; omega); clear hr8 hb8 ho8 hg8 hl8 hown5)
                have hne9 : (Value.slice A8 (i + 1) c8).ownBlock ≠ some g := fun e => by
                  obtain ⟨_, _, hb⟩ := owns_row ho8h.out e
                  omega
                have hch : Chg (fun k' => (Value.slice B i d).ownBlock = some k') w5 w8 := Chg.of_grown hg8h.out fun k' _ hk' => hk'
                have hcs : Chg (fun k' => k' = g) w8 (w8.setCell ⟨g, 1, none⟩ (.slice A8 (i + 1) c8)) := Chg.of_set w8 _ rfl
                have hun : ∀ k cs, Row w5 k 126 cs → ¬ (Value.slice B i d).ownBlock = some k := fun k cs hr => owns_unlike hown5h.out hr (by decide)
                have hun2 : ∀ k cs, Row w8 k 126 cs → ¬ k = g := fun k cs hr hk => Row.unlike hr hr8h.out (by decide) hk
                have hlen : (read ++ [(⟨ev, B4, d4⟩ : EvC)]).length = i + 1 := by rw [List.length_append, ← hil.out]; rfl
                refine ⟨⟨i + 1, read ++ [⟨ev, B4, d4⟩], r1, A8, A4, c8, c4, by go_num, rfl, by omega, by omega, hide hlen.symm, hide (by rw [List.map_append]; exact hstep.out), hide (hb8h.out.away (p := ⟨g, 1, none⟩) (by simp only; omega) _), hide (hr8h.out.put 1 _), hide ⟨?_, ?_, ?_⟩, hide hi4, hide (hE08.out.setCell (p := ⟨g, 1, none⟩) hwg _)⟩, ?_⟩
                · rw [hlen, ecells_snoc]
                  exact owns_set ho8h.out hne9 _
                · intro x hx
                  rcases List.mem_append.1 hx with hx | hx
                  · exact EvC.Own.chg (EvC.Own.chg (ho5.out.each x hx) hch hun) hcs hun2
                  · rw [List.mem_singleton.1 hx]
                    exact EvC.Own.chg (EvC.Own.chg hnew.out hch hun) hcs hun2
                · intro x hx
                  rcases List.mem_append.1 hx with hx | hx
                  · exact ho5.out.ints x hx
                  · rw [List.mem_singleton.1 hx]; exact hei
                · simp [intOf]; omega
            · obtain rfl : i = m := by omega
              have hfin := getEs_fin hgf.out (Nat.le_refl _)
              have hzz := hZ.out
              rw [hfin] at hzz
              simp only at hzz
              obtain ⟨es, hes⟩ : ∃ es, es = read.map (·.e) := ⟨_, rfl⟩
              rw [← hes] at hzz
              have hesl : es.length = i := by rw [hes, List.length_map]; exact hil.out.symm
              by_cases hrr0 : rr = []
              · subst hrr0
                have hck := rckbatch_any ⟨(q : Int), read, B, d⟩ wr ⟨hown.out.ok, by simp only; have := hil.out; omega, by unfold I64ok'; simp only; omega⟩
                unfold BtC.val BtC.bt at hck
                simp only at hck
                rw [← hes, ← hil.out] at hck
                have hcB := @checkB_ok ⟨(q : Int), es⟩
                obtain ⟨j, hj⟩ : ∃ j, j = checkB ⟨(q : Int), es⟩ := ⟨_, rfl⟩
                rw [← hj] at hck hzz hcB
                replace hj := hide hj
                replace hck := hide hck
                replace hes := hide hes
                by_cases hj0 : j = 0
                · subst hj0
                  obtain ⟨_, _, _, _, hs1, hs2⟩ := hcB rfl
                  rw [if_pos ⟨rfl, rfl⟩] at hzz
                  replace hzz := hide hzz
                  clear hcB
                  go_wp2_with fail
                  refine hck.out.mono ?_
                  rintro e w4 ⟨rfl, hE4⟩
                  have hr4 := hrowb.out.ext hE4
                  have f4 := fun k => hr4.free k
                  have g0 := hE4.cell q0
                  have g1 := hE4.cell q1
                  have g2 := hr4.cell 0 rfl
                  have g3 := hr4.cell 1 rfl
                  replace hr4 := hide hr4
                  have hE04 := hide (hE.out.trans hE4)
                  have ho4 := hide (hown.out.ext hE4)
                  clear q0 q1
                  go_wp2_with fail
                  obtain ⟨wz, hwz⟩ : ∃ wz, wz = setEv w4 b (q : Int) B i d := ⟨_, rfl⟩
                  have hk := setEv_row hr4.out (q : Int) B i d
                  have hcz := (EvsOwn.chg ho4.out (setEv_chg w4 b (q : Int) B i d) (fun k _ _ _ _ hb h => by omega)).lower (b := w.heap.size) (by omega)
                  have hEz := setEv_ext hE04.out hbw.out (q : Int) B i d
                  rw [← hwz] at hk hcz hEz
                  unfold setEv at hwz
                  rw [← hwz]
                  have k0 : wz.cell? ⟨b, 0, none⟩ = some (.int .i64 (q : Int)) := hk.cell 0 rfl
                  have k1 : wz.cell? ⟨b, 1, none⟩ = some (.slice B i d) := hk.cell 1 rfl
                  clear hwz hk
                  exact bodyPost_ret (v := .tuple #[.agg #[.int .i64 (q : Int), .slice B i d], .int .i64 0]) (by simp [results, Tryz.results84, go_sem, k0, k1]) rfl (by rw [hzz.out]; exact ⟨hEz, read, B, d, hes.out, by rw [← hil.out], hcz, by rw [← hil.out]; omega, hs1, hs2⟩)
                · have hj0' : ¬ (j : Int) = 0 := by omega
                  have hzn : Hid (Z = none) := hide (by rw [hzz, if_neg (fun h => hj0 h.2)])
                  clear hzz
                  go_wp2_with fail
                  refine hck.out.mono ?_
                  rintro e w4 ⟨rfl, hE4⟩
                  have hr4 := hrowb.out.ext hE4
                  have f4 := fun k => hr4.free k
                  have g2 := hr4.cell 0 rfl
                  have g3 := hr4.cell 1 rfl
                  replace hr4 := hide hr4
                  have hE04 := hide (hE.out.trans hE4)
                  clear q0 q1
                  go_wp2_with fail
                  obtain ⟨wz, hwz⟩ : ∃ wz, wz = setEv w4 b 0 none 0 0 := ⟨_, rfl⟩; have hk := setEv_row hr4.out 0 none 0 0; rw [← hwz] at hk; have hEz := setEv_ext hE04.out hbw.out 0 none 0 0; rw [← hwz] at hEz; unfold setEv at hwz; rw [← hwz]; have k0 : wz.cell? ⟨b, 0, none⟩ = some (.int .i64 0) := hk.cell 0 rfl; have k1 : wz.cell? ⟨b, 1, none⟩ = some (.slice none 0 0) := hk.cell 1 rfl; clear hwz hk; exact bodyPost_ret (v := .tuple #[.agg #[.int .i64 0, .slice none 0 0], .int .i64 100]) (by simp [results, Tryz.results84, go_sem, k0, k1]) rfl (DecP.no hEz hzn.out)
              · have hzn : Hid (Z = none) := hide (by rw [hzz, if_neg (fun h => hrr0 h.1)])
                have hpos : (0 : Int) < rr.length := by have := List.length_pos_iff.2 hrr0; omega
                have hr4 := hrowb.out
                have f4 := fun k => hr4.free k
                have g2 := hr4.cell 0 rfl
                have g3 := hr4.cell 1 rfl
                replace hr4 := hide hr4
                clear hzz
                go_wp2_with fail
                obtain ⟨wz, hwz⟩ : ∃ wz, wz = setEv wr b 0 none 0 0 := ⟨_, rfl⟩; have hk := setEv_row hr4.out 0 none 0 0; rw [← hwz] at hk; have hEz := setEv_ext hE.out hbw.out 0 none 0 0; rw [← hwz] at hEz; unfold setEv at hwz; rw [← hwz]; have k0 : wz.cell? ⟨b, 0, none⟩ = some (.int .i64 0) := hk.cell 0 rfl; have k1 : wz.cell? ⟨b, 1, none⟩ = some (.slice none 0 0) := hk.cell 1 rfl; clear hwz hk; exact bodyPost_ret (v := .tuple #[.agg #[.int .i64 0, .slice none 0 0], .int .i64 100]) (by simp [results, Tryz.results84, go_sem, k0, k1]) rfl (DecP.no hEz hzn.out)
end Go.Proofs.YtohphanbnhiodaaGreat

/- What came in: structs, rows of structs; the world's shape kept. -/
namespace Go.Proofs.YtohphanbnhiodaaGreat
open Go.ChangeShapes Go.WideShapes Go.Deep Go.RowKit

section
variable {H : Type} {enc : TypeId × Value → H} {w : World} {base : Nat} {spare : Nat → Bool} {held : Bool}
/-- A struct's fields, each of one cell. -/
theorem in_fields {t : TypeId} {fs : Array Field} {tys : Array TypeId} {fuel : Nat} {cs : List Value} {y : DataW H × List MemPlace} (hfs : Tryz.prog.underlying t = some (.struct fs)) (hone : oneCellFields Tryz.prog fs = true) (hty : fs.map Field.type = tys)
    (h : DataW.trod enc Tryz.prog w base spare held fuel t cs = some y) : ∃ n, ∀ (j : Nat) (t : TypeId) (v : Value), tys[j]? = some t → cs[j]? = some v → ∃ z, DataW.trod enc Tryz.prog w base spare held n t [v] = some z := by
  obtain ⟨ys, n, hn, hy, hlen, hyl, hf⟩ := DataW.trod_struct hfs h
  refine ⟨n, fun j t v hj hv => ?_⟩
  rw [← hty, Array.getElem?_map] at hj
  obtain ⟨f, hfj, rfl⟩ := Option.map_eq_some_iff.1 hj
  obtain ⟨ho, hk⟩ := hone_of hone j f hfj
  have h1 := hf j f hfj
  have hjl : j < cs.length := (List.getElem?_eq_some_iff.1 hv).1
  rw [ho, hk, List.drop_eq_getElem_cons hjl] at h1
  have hv2 : cs[j] = v := by rw [List.getElem?_eq_getElem hjl] at hv; simpa using hv
  rw [hv2] at h1
  have hjy : j < ys.length := by rw [hyl]; exact (Array.getElem?_eq_some_iff.1 hfj).1
  rw [List.getElem?_eq_getElem hjy] at h1
  exact ⟨_, h1⟩
theorem flat_len_of {α : Type} {k : Nat} {cellsA : α → List Value} (hlen : ∀ x, (cellsA x).length = k) : ∀ xs : List α, (xs.flatMap cellsA).length = xs.length * k
  | [] => by simp
  | x :: xs => by rw [List.flatMap_cons, List.length_append, hlen, flat_len_of hlen xs, List.length_cons, Nat.add_mul, Nat.one_mul, Nat.add_comm]
theorem flat_get_of {α : Type} {k : Nat} {cellsA : α → List Value} (hlen : ∀ x, (cellsA x).length = k) : ∀ (xs : List α) (i : Nat) (x : α) (j : Nat), xs[i]? = some x → j < k → (xs.flatMap cellsA)[i * k + j]? = (cellsA x)[j]?
  | [], i, x, j, h, _ => by simp at h
  | y :: xs, 0, x, j, h, hj => by
    obtain rfl : y = x := by simpa using h
    rw [List.flatMap_cons, List.getElem?_append_left (by rw [hlen]; omega), Nat.zero_mul, Nat.zero_add]
  | y :: xs, i + 1, x, j, h, hj => by
    have h' : xs[i]? = some x := by simpa using h
    rw [List.flatMap_cons, List.getElem?_append_right (by rw [hlen, Nat.add_mul, Nat.one_mul]; omega), hlen, show (i + 1) * k + j - k = i * k + j by rw [Nat.add_mul, Nat.one_mul]; omega]
    exact flat_get_of hlen xs i x j h' hj
/-- A slice that came in: the row of its elements. -/
theorem in_row_of {t e : TypeId} {k fuel : Nat} {v : Value} {x : DataW H × List MemPlace} {α : Type} {cellsA : α → List Value} {Q : α → Prop} (ht : Tryz.prog.underlying t = some (.slice e)) (hc : Tryz.prog.cellsOf e = k) (hk0 : 0 < k) (hlen : ∀ x, (cellsA x).length = k)
    (hel : ∀ (fuel : Nat) (cs : List Value) (y : DataW H × List MemPlace), cs.length = k → DataW.trod enc Tryz.prog w base spare held fuel e cs = some y → ∃ x, Q x ∧ cellsA x = cs) (h : DataW.trod enc Tryz.prog w base spare held fuel t [v] = some x) :
    ∃ (A : Option Addr) (c : Nat) (xs : List α), v = .slice A xs.length c ∧ Cells w A (xs.flatMap cellsA) ∧ (xs ≠ [] → ∀ a, A = some a → a.block < w.heap.size ∧ a.spot = none) ∧ xs.length ≤ c ∧ xs.length ≤ 9223372036854775807 ∧ ∀ x ∈ xs, Q x := by
  rcases open_slice ht h with ⟨hcs, _⟩ | ⟨a, m, c, k', n, D, Pl, hcs, hb, hl, hm, hk, hx, hi⟩
  · obtain rfl : v = .slice none 0 0 := by simpa using hcs
    exact ⟨none, 0, [], rfl, .inl rfl, fun h => absurd rfl h, Nat.le_refl _, by show 0 ≤ _; omega, nofun⟩
  · obtain rfl : v = .slice (some a) m c := by simpa using hcs
    rw [hc] at hi
    have hlk : m ≤ k' := by rw [hk]; split <;> omega
    obtain ⟨xs, hpl, hps⟩ := list_of (Q := fun i (p : α) => Q p ∧ ∀ j v, (cellsA p)[j]? = some v → w.cell? ((a.add (i * k)).add j) = some v) m fun i hil => by
      obtain ⟨cs, hc, ht⟩ := hi i (by omega)
      obtain ⟨_, hcl, hat⟩ := World.cells?_some hc
      obtain ⟨p, hp, rfl⟩ := hel _ _ _ hcl ht
      exact ⟨p, hp, fun j v hv => by rw [hat j (by have := (List.getElem?_eq_some_iff.1 hv).1; omega)]; exact hv⟩
    subst hpl
    have hat : ∀ i v, (xs.flatMap cellsA)[i]? = some v → w.cell? (a.add i) = some v := fun i v hv => by
      have hil : i < (xs.flatMap cellsA).length := (List.getElem?_eq_some_iff.1 hv).1
      rw [flat_len_of hlen] at hil
      have hdiv : i / k < xs.length := Nat.div_lt_of_lt_mul (by rw [Nat.mul_comm]; exact hil)
      have hg := flat_get_of hlen xs (i / k) xs[i / k] (i % k) (List.getElem?_eq_getElem hdiv) (Nat.mod_lt _ hk0)
      have hii : i / k * k + i % k = i := Nat.div_add_mod' i k
      rw [hii, hv] at hg
      have := (hps (i / k) _ (List.getElem?_eq_getElem hdiv)).2 (i % k) v hg.symm
      rw [Addr.add_add, hii] at this
      exact this
    have hlt : xs ≠ [] → a.block < w.heap.size ∧ a.spot = none := fun hne => by
      have h0 : 0 < (xs.flatMap cellsA).length := by
        rw [flat_len_of hlen]
        exact Nat.mul_pos (List.length_pos_iff.2 hne) hk0
      have := hat 0 _ (List.getElem?_eq_getElem h0)
      have := cell_lt this
      simpa [Addr.add] using this
    refine ⟨some a, c, xs, rfl, ?_, fun hne b hb => by cases hb; exact hlt hne, hl, by unfold maxLen at hm; omega, fun p hp => ?_⟩
    · by_cases hne : xs = []
      · rw [hne]; exact .inl rfl
      · obtain ⟨b, o, s⟩ := a
        obtain rfl : s = none := (hlt hne).2
        exact .inr ⟨b, o, rfl, fun i v hv => by have := hat i v hv; rw [Addr.add_lit] at this; exact this⟩
    · obtain ⟨i, hil, rfl⟩ := List.mem_iff_getElem.1 hp
      exact (hps i _ (List.getElem?_eq_getElem hil)).1
end
section
variable {H : Type} {enc : TypeId × Value → H}
/-- A condition on the first world, and its shape, handed to the walk. -/
theorem handed_shaped {a : Assume} {C : Checked} {os : Os} {f : FuncId} {fn : Func} {s : ChangeSpec} {conds : List PathCond} {apart fresh handsOn again : Bool} {X : World → Array Value → Prop}
    (hX : ∀ (w w' : World) (args : Array Value), w.heap = w'.heap → X w args → X w' args)
    (own : ownKnob C.prog.godebug = none) (started : os.Started) (noInit : C.prog.inits.idxOf? f = none) (hfn : C.prog.funcs[f]? = some fn)
    (witness : ∃ (w : World) (tape : Tape) (i : Input), w.os = os ∧ (w.forCall tape i).Shaped C.prog ∧ i.vars = [] ∧ Input.okWide C.prog (w.forCall tape i) .any w.heap.size f i ∧
      ((s.pre enc C.prog fn conds apart (w.forCall tape i).memory i.args ∧ X (w.forCall tape i).memory i.args) ∧ sizedMet enc C.prog fn (OpenSpec.ofChange s) apart (w.forCall tape i).memory i.args) ∧ a.holds C.prog (lone (Frame.enter C.prog f i.args .normal) [] (w.forCall tape i)))
    (contract : ∀ (W : World) (base : Nat) (args : Array Value) (ds gs : List (DataW H)) (before : List MemPlace),
      (∀ (j : Nat) t v, fn.params[j]? = some t → args[j]? = some v → Value.okWide C.prog W .any base t v) →
      DataW.Whole enc C.prog fn.params.toList s.vars apart W args.toList ds gs before → X W args → W.ShapedOpen C.prog →
      Calls C.prog f args W fun e W' => ∃ v, e = .returned v ∧ s.post enc C.prog fn apart fresh handsOn again W args v W') :
    ReturnsInHanded a C os f .any (fun w args => (s.pre enc C.prog fn conds apart w args ∧ X w args) ∧ sizedMet enc C.prog fn (OpenSpec.ofChange s) apart w args) (s.post enc C.prog fn apart fresh handsOn again) := by
  refine returnsInHanded_of_calls own started noInit witness ?_
  rintro w tape i _ hshape _ ⟨_, _, _, fn', hfn', _, _, _, _, hval⟩ ⟨⟨⟨ds, gs, before, hw, _⟩, hx⟩, _⟩ _
  obtain rfl : fn' = fn := Option.some.inj (hfn'.symm.trans hfn)
  refine (contract (w.forCall tape i) w.heap.size i.args ds gs before hval (DataW.Whole.of_heap (by rfl) hw) (hX _ _ _ (by rfl) hx) hshape).mono fun e W' ⟨v, he, hp⟩ => ?_
  subst he
  exact ChangeSpec.post_blind hp
end
end Go.Proofs.YtohphanbnhiodaaGreat

