/- loggia/event: Get. -/
import Derived.Test.YtkdcnhnaiknaaaaGreatNB07
import Derived.Test.YtkdcnhnaiknaaaaGreatNB05
set_option linter.unusedSimpArgs false
set_option linter.unusedVariables false
namespace Go.Proofs.YtkdcnhnaiknaaaaGreat
open Go.RowKit

/-- What an event is told to be. -/
def GotE (w0 w : World) (res : Option (Ev × List UInt8)) (e : Ending) (w' : World) : Prop := Ext w w' ∧ match res with
  | some (ev, r) => ∃ B d A c, e = .returned (.tuple #[ev.val B d, .slice A r.length c, .int .i64 0]) ∧ ev.Own w' w.heap.size B d ∧ In8 w0 A r.length c r ∧ I64ok' ev.at_
  | none => e = .returned (.tuple #[.agg #[.int .i64 0, .slice none 0 0], .slice none 0 0, .int .i64 100])
theorem GotE.no {w0 w w' : World} {res : Option (Ev × List UInt8)} (hE : Ext w w') (h : res = none) : GotE w0 w res (.returned (.tuple #[.agg #[.int .i64 0, .slice none 0 0], .slice none 0 0, .int .i64 100])) w' := by
  subst h
  exact ⟨hE, rfl⟩
/-- What has been read ahead of it. -/
def aheadF (read : List Fd) : Option (List Fd × List UInt8) → Option (List Fd × List UInt8)
  | none => none
  | some (fs, r) => some (read ++ fs, r)
theorem aheadF_nil (x : Option (List Fd × List UInt8)) : aheadF [] x = x := by cases x <;> rfl
theorem getFs_step {k i : Nat} {read : List Fd} {L r r1 r2 nm tx : List UInt8} (h : getFs k L = aheadF read (getFs (k - i) r)) (hi : i < k) (h1 : getT 32 r = .ok (nm, r1)) (h2 : getT 4096 r1 = .ok (tx, r2)) : getFs k L = aheadF (read ++ [(nm, tx)]) (getFs (k - (i + 1)) r2) := by
  obtain ⟨j, hj⟩ : ∃ j, k - i = j + 1 := ⟨k - i - 1, by omega⟩
  rw [h, hj, show k - (i + 1) = j by omega]
  conv => lhs; unfold getFs
  rw [h1]
  simp only
  rw [h2]
  simp only
  cases getFs j r2 with
  | none => rfl
  | some p => obtain ⟨fs, r3⟩ := p; simp [aheadF]
theorem getFs_no1 {k i : Nat} {read : List Fd} {L r : List UInt8} {x : Nat} (h : getFs k L = aheadF read (getFs (k - i) r)) (hi : i < k) (h1 : getT 32 r = .error x) : getFs k L = none := by
  obtain ⟨j, hj⟩ : ∃ j, k - i = j + 1 := ⟨k - i - 1, by omega⟩
  rw [h, hj]
  unfold getFs
  rw [h1]
  rfl
theorem getFs_no2 {k i : Nat} {read : List Fd} {L r r1 nm : List UInt8} {x : Nat} (h : getFs k L = aheadF read (getFs (k - i) r)) (hi : i < k) (h1 : getT 32 r = .ok (nm, r1)) (h2 : getT 4096 r1 = .error x) : getFs k L = none := by
  obtain ⟨j, hj⟩ : ∃ j, k - i = j + 1 := ⟨k - i - 1, by omega⟩
  rw [h, hj]
  unfold getFs
  rw [h1]
  simp only
  rw [h2]
  rfl
theorem getFs_fin {k i : Nat} {read : List Fd} {L r : List UInt8} (h : getFs k L = aheadF read (getFs (k - i) r)) (hi : k ≤ i) : getFs k L = some (read, r) := by
  rw [h, show k - i = 0 by omega]
  unfold getFs aheadF
  simp
theorem getT_err {most k : Nat} {l : List UInt8} (h : getT most l = .error k) : 0 < k := by
  unfold getT at h
  split at h
  · rename_i hg
    injection h with h
    rw [← h]
    exact getV_err _ _ _ hg
  · split at h
    · injection h with h; omega
    · split at h
      · injection h with h; omega
      · cases h
/-- The event's block, written. -/
def setEv (w : World) (g : Nat) (at_ : Int) (A : Option Addr) (n c : Nat) : World := (w.setCell ⟨g, 0, none⟩ (.int .i64 at_)).setCell ⟨g, 1, none⟩ (.slice A n c)
theorem setEv_row {w : World} {g : Nat} {T : TypeId} {x y : Value} (h : Row w g T #[x, y]) (at_ : Int) (A : Option Addr) (n c : Nat) : Row (setEv w g at_ A n c) g T #[.int .i64 at_, .slice A n c] := (h.put 0 _).put 1 _
theorem setEv_chg (w : World) (g : Nat) (at_ : Int) (A : Option Addr) (n c : Nat) : Chg (fun k => k = g) w (setEv w g at_ A n c) := (Chg.of_set (S := fun k => k = g) w _ rfl).trans (Chg.of_set (S := fun k => k = g) _ _ rfl) fun _ _ h => h
theorem setEv_ext {w0 w : World} (h : Ext w0 w) {g : Nat} (hg : w0.heap.size ≤ g) (at_ : Int) (A : Option Addr) (n c : Nat) : Ext w0 (setEv w g at_ A n c) := h.chg (setEv_chg w g at_ A n c) fun i hi he => by omega
set_option maxRecDepth 100000 in
set_option maxHeartbeats 4000000 in
theorem evget_any (A : Option Addr) (n c : Nat) (l : List UInt8) (w0 w : World) (h : In8 w0 A n c l) (hw : Ext w0 w) (hle : n ≤ 1000000000) :
    Calls Tryz.prog 95 #[.slice A n c] w fun e w' => GotE w0 w (getE l) e w' := by
  obtain ⟨W, hW⟩ : ∃ W, W = w.alloc (.cells #[.int .i64 0, .slice none 0 0] 37) := ⟨_, rfl⟩
  have hEW : Ext w W := by rw [hW]; exact (Ext.refl w).alloc _
  obtain ⟨b, hb⟩ : ∃ b, b = w.heap.size := ⟨_, rfl⟩
  have hr : Row W b 37 #[.int .i64 0, .slice none 0 0] := by rw [hW, hb]; exact Row.new w _ _
  have hbw := hide (Nat.le_of_eq hb.symm)
  have hg1 := getInt_any A n c l w0 W h (hw.trans hEW) hle
  have hln : l.length ≤ 1000000000 := by rw [← h.len]; exact hle
  obtain ⟨Z, hZ⟩ : ∃ Z, Z = getE l := ⟨_, rfl⟩
  rw [← hZ]
  unfold getE at hZ
  replace hW := hide hW
  replace hb := hide hb
  clear h
  cases hv1 : getV 0 l with
  | error k =>
    rw [hv1] at hg1 hZ
    have hk := getV_err l 0 k hv1
    have hk0 : ((k : Int) != 0) = true := by simp; omega
    have hg := hide hg1
    clear hv1 hk hg1
    go_enter Tryz.func95, Tryz.ntmps95
    go_wp2_with fail
    rw [← hW.out, ← hb.out]
    refine hg.out.mono ?_
    rintro e w1 ⟨hE1, rfl⟩
    have hr1 := hr.ext hE1
    have f1 := fun i => hr1.free i
    have d0 := hr1.cell 0 rfl
    have d1 := hr1.cell 1 rfl
    replace hr1 := hide hr1
    have hE01 := hide (hEW.trans hE1)
    replace hZ := hide hZ
    go_wp2_with fail
    obtain ⟨wz, hwz⟩ : ∃ wz, wz = setEv w1 b 0 none 0 0 := ⟨_, rfl⟩; have hk := setEv_row hr1.out 0 none 0 0; rw [← hwz] at hk; have hEz := setEv_ext hE01.out hbw.out 0 none 0 0; rw [← hwz] at hEz; unfold setEv at hwz; rw [← hwz]; have k0 : wz.cell? ⟨b, 0, none⟩ = some (.int .i64 0) := hk.cell 0 rfl; have k1 : wz.cell? ⟨b, 1, none⟩ = some (.slice none 0 0) := hk.cell 1 rfl; clear hwz hk; exact bodyPost_ret (v := .tuple #[.agg #[.int .i64 0, .slice none 0 0], .slice none 0 0, .int .i64 100]) (by simp [results, Tryz.results95, go_sem, k0, k1]) rfl (GotE.no hEz hZ.out)
  | ok p =>
    obtain ⟨u, r⟩ := p
    have hu := getV_lt64 hv1
    have hrl : r.length ≤ 1000000000 := by
      obtain ⟨_, _, q, hq, _⟩ := getV_lt l 0 u r hv1
      rw [hq, List.length_append] at hln
      omega
    rw [hv1] at hg1 hZ
    simp only at hZ
    have hg := hide hg1
    have huz := unzig_ok hu
    obtain ⟨at_, hat⟩ : ∃ at_, at_ = unzig u := ⟨_, rfl⟩
    unfold GotI at hg
    simp only at hg
    rw [← hat] at hg hZ huz
    clear hv1 hg1 hat hu
    cases hv2 : getV 0 r with
    | error k =>
      rw [hv2] at hZ
      have hk := getV_err r 0 k hv2
      have hk0 : ((k : Int) != 0) = true := by simp; omega
      have hg2 := fun A c W h hE => get_any A r.length c r w0 W h hE hrl
      rw [hv2] at hg2
      replace hg2 := hide hg2
      replace hZ := hide hZ
      clear hv2 hk
      go_enter Tryz.func95, Tryz.ntmps95
      go_wp2_with fail
      rw [← hW.out, ← hb.out]
      refine hg.out.mono ?_
      rintro e w1 ⟨hE1, A1, c1, rfl, hi1⟩
      have hgg := hide (hg2.out A1 c1 w1 hi1 ((hw.trans hEW).trans hE1))
      go_wp2_with fail
      refine hgg.out.mono ?_
      rintro e w2 ⟨hE2, rfl⟩
      have hr1 := hr.ext (hE1.trans hE2)
      have f1 := fun i => hr1.free i
      have d0 := hr1.cell 0 rfl
      have d1 := hr1.cell 1 rfl
      replace hr1 := hide hr1
      have hE01 := hide (hEW.trans (hE1.trans hE2))
      go_wp2_with fail
      obtain ⟨wz, hwz⟩ : ∃ wz, wz = setEv w2 b 0 none 0 0 := ⟨_, rfl⟩; have hk := setEv_row hr1.out 0 none 0 0; rw [← hwz] at hk; have hEz := setEv_ext hE01.out hbw.out 0 none 0 0; rw [← hwz] at hEz; unfold setEv at hwz; rw [← hwz]; have k0 : wz.cell? ⟨b, 0, none⟩ = some (.int .i64 0) := hk.cell 0 rfl; have k1 : wz.cell? ⟨b, 1, none⟩ = some (.slice none 0 0) := hk.cell 1 rfl; clear hwz hk; exact bodyPost_ret (v := .tuple #[.agg #[.int .i64 0, .slice none 0 0], .slice none 0 0, .int .i64 100]) (by simp [results, Tryz.results95, go_sem, k0, k1]) rfl (GotE.no hEz hZ.out)
    | ok p =>
      obtain ⟨m, r2⟩ := p
      have hrl2 : r2.length ≤ 1000000000 := by
        obtain ⟨_, _, q, hq, _⟩ := getV_lt r 0 m r2 hv2
        rw [hq, List.length_append] at hrl
        omega
      have hm64 := getV_lt64 hv2
      rw [hv2] at hZ
      simp only at hZ
      have hg2 := fun A c W h hE => get_any A r.length c r w0 W h hE hrl
      rw [hv2] at hg2
      unfold Got at hg2
      simp only at hg2
      replace hg2 := hide hg2
      clear hv2
      by_cases hm16 : 16 < m
      · rw [if_pos hm16] at hZ
        have hm' : (16 : Int) < m := by omega
        replace hZ := hide hZ
        go_enter Tryz.func95, Tryz.ntmps95
        go_wp2_with fail
        rw [← hW.out, ← hb.out]
        refine hg.out.mono ?_
        rintro e w1 ⟨hE1, A1, c1, rfl, hi1⟩
        have hgg := hide (hg2.out A1 c1 w1 hi1 ((hw.trans hEW).trans hE1))
        go_wp2_with fail
        refine hgg.out.mono ?_
        rintro e w2 ⟨hE2, A2, c2, rfl, hi2⟩
        have hr1 := hr.ext (hE1.trans hE2)
        have f1 := fun i => hr1.free i
        have d0 := hr1.cell 0 rfl
        have d1 := hr1.cell 1 rfl
        replace hr1 := hide hr1
        have hE01 := hide (hEW.trans (hE1.trans hE2))
        go_wp2_with fail
        obtain ⟨wz, hwz⟩ : ∃ wz, wz = setEv w2 b 0 none 0 0 := ⟨_, rfl⟩; have hk := setEv_row hr1.out 0 none 0 0; rw [← hwz] at hk; have hEz := setEv_ext hE01.out hbw.out 0 none 0 0; rw [← hwz] at hEz; unfold setEv at hwz; rw [← hwz]; have k0 : wz.cell? ⟨b, 0, none⟩ = some (.int .i64 0) := hk.cell 0 rfl; have k1 : wz.cell? ⟨b, 1, none⟩ = some (.slice none 0 0) := hk.cell 1 rfl; clear hwz hk; exact bodyPost_ret (v := .tuple #[.agg #[.int .i64 0, .slice none 0 0], .slice none 0 0, .int .i64 100]) (by simp [results, Tryz.results95, go_sem, k0, k1]) rfl (GotE.no hEz hZ.out)
      · rw [if_neg hm16] at hZ
        have hm' : ¬ (16 : Int) < m := by omega
        replace hZ := hide hZ
        go_enter Tryz.func95, Tryz.ntmps95
        go_wp2_with fail
        rw [← hW.out, ← hb.out]
        refine hg.out.mono ?_
        rintro e w1 ⟨hE1, A1, c1, rfl, hi1⟩
        have hgg := hide (hg2.out A1 c1 w1 hi1 ((hw.trans hEW).trans hE1))
        go_wp2_with fail
        refine hgg.out.mono ?_
        rintro e w2 ⟨hE2, A2, c2, rfl, hi2⟩
        have hr1 := hr.ext (hE1.trans hE2)
        have f1 := fun i => hr1.free i
        have d0 := hr1.cell 0 rfl
        have d1 := hr1.cell 1 rfl
        replace hr1 := hide hr1
        have hE01 := hide (hEW.trans (hE1.trans hE2))
        go_wp2_with fail
        have hrw := hr1.out.put 0 (.int .i64 at_)
        obtain ⟨W3, hW3⟩ : ∃ W3, W3 = w2.setCell ⟨b, 0, none⟩ (.int .i64 at_) := ⟨_, rfl⟩
        have hE03 : Ext w W3 := by rw [hW3]; exact hE01.out.setCell hbw.out _
        have hr3 : Row W3 b 37 #[.int .i64 at_, .slice none 0 0] := by rw [hW3]; exact hrw
        rw [← hW3]
        clear hrw hr1 hE01 f1 d0 d1 hgg hg hg2 hW3
        go_loopw [3, 33] (fun s3 s33 wr => ∃ (i : Nat) (read : List Fd) (rr : List UInt8) (B A3 : Option Addr) (d c3 : Nat), s33 = .int .u64 (i : Int) ∧ s3 = .slice A3 rr.length c3 ∧ i ≤ m ∧ rr.length ≤ 1000000000 ∧ Hid (i = read.length) ∧ Hid (getFs m r2 = aheadF read (getFs (m - i) rr)) ∧ Hid (∀ f ∈ read, f.1.length ≤ 1000000000 ∧ f.2.length ≤ 1000000000) ∧ Hid (Row wr b 37 #[.int .i64 at_, .slice B i d]) ∧ Hid (wr.ownsRow (b + 1) 105 2 (.slice B i d) i (fcells read)) ∧ Hid (In8 w0 A3 rr.length c3 rr) ∧ Hid (Ext w wr)) (fun _ s33 _ => m - (intOf s33).toNat)
        case atStart => exact ⟨0, [], r2, none, A2, 0, c2, rfl, rfl, by omega, hrl2, hide rfl, hide (by rw [aheadF_nil]; rfl), hide nofun, hide hr3, hide ⟨rfl, .inl ⟨rfl, rfl⟩⟩, hide hi2, hide hE03⟩
        case round =>
          obtain ⟨i, read, rr, B, A3, d, c3, rfl, rfl, hi, hrr, hil, hgf, hlg, hrow, hown, hin8, hE⟩ := hrel
          have q0 : wr.cell? ⟨b, 0, none⟩ = some (.int .i64 at_) := hrow.out.cell 0 rfl
          have q1 : wr.cell? ⟨b, 1, none⟩ = some (.slice B i d) := hrow.out.cell 1 rfl
          by_cases him : i < m
          · have hi1 : (i : Int) < m := by omega
            obtain ⟨fb, hfb⟩ : ∃ fb, fb = wr.heap.size := ⟨_, rfl⟩
            obtain ⟨Wf, hWf⟩ : ∃ Wf, Wf = wr.alloc (.cells #[.string ⟨#[]⟩, .string ⟨#[]⟩] 105) := ⟨_, rfl⟩
            have hEf : Ext wr Wf := by rw [hWf]; exact (Ext.refl wr).alloc _
            have hrf : Row Wf fb 105 #[.string ⟨#[]⟩, .string ⟨#[]⟩] := by rw [hWf, hfb]; exact Row.new wr _ _
            have hbf : b < fb := by rw [hfb]; exact hrow.out.lt
            have hgt := fun A c W h hE => getText_any A rr.length c 32 rr w0 W h hE hrr (by omega)
            have hgt1 := hgt A3 c3 Wf hin8.out (hw.trans (hE.out.trans hEf))
            have hEwf := hide (hE.out.trans hEf)
            replace hWf := hide hWf
            replace hfb := hide hfb
            cases ht1 : getT 32 rr with
            | error k =>
              have hk := getT_err ht1
              have hk0 : ((k : Int) != 0) = true := by simp; omega
              have hnone := hide (getFs_no1 hgf.out him ht1)
              rw [ht1] at hgt1
              replace hgt1 := hide hgt1
              clear ht1 hk hgt
              go_wp2_with fail
              rw [← hWf.out, ← hfb.out]
              refine hgt1.out.mono ?_
              rintro e w4 ⟨hE4, rfl⟩
              have hrf4 := hrf.ext hE4
              have hr4 := (hrow.out.ext hEf).ext hE4
              have f4 := fun i => hrf4.free i
              have d4 := hrf4.cell 0 rfl
              have hr5 := hr4.away (p := ⟨fb, 0, none⟩) (by simp only; omega) (.string ⟨#[]⟩)
              have f5 := fun i => hr5.free i
              have e5 := hr5.cell 0 rfl
              have e6 := hr5.cell 1 rfl
              have hE05 := hide ((hEwf.out.trans hE4).setCell (p := ⟨fb, 0, none⟩) (by simp only; have := hbw.out; omega) (.string ⟨#[]⟩))
              have hzn : Hid (Z = none) := hide (by rw [hZ.out, hnone.out])
              replace hr5 := hide hr5
              go_wp2_with fail
              obtain ⟨wz, hwz⟩ : ∃ wz, wz = setEv (w4.setCell ⟨fb, 0, none⟩ (.string ⟨#[]⟩)) b 0 none 0 0 := ⟨_, rfl⟩; have hk := setEv_row hr5.out 0 none 0 0; rw [← hwz] at hk; have hEz := setEv_ext hE05.out hbw.out 0 none 0 0; rw [← hwz] at hEz; unfold setEv at hwz; rw [← hwz]; have k0 : wz.cell? ⟨b, 0, none⟩ = some (.int .i64 0) := hk.cell 0 rfl; have k1 : wz.cell? ⟨b, 1, none⟩ = some (.slice none 0 0) := hk.cell 1 rfl; clear hwz hk; exact bodyPost_ret (v := .tuple #[.agg #[.int .i64 0, .slice none 0 0], .slice none 0 0, .int .i64 100]) (by simp [results, Tryz.results95, go_sem, k0, k1]) rfl (GotE.no hEz hzn.out)
            | ok p =>
              obtain ⟨nm, rn⟩ := p
              obtain ⟨hnl, hrn, _⟩ := getT_ok ht1
              rw [ht1] at hgt1
              unfold GotT at hgt1
              simp only at hgt1
              replace hgt1 := hide hgt1
              have hrnl : rn.length ≤ 1000000000 := by omega
              have hgt2 := hide (fun A c W h hE => getText_any A rn.length c 4096 rn w0 W h hE hrnl (by omega))
              clear hgt
              cases ht2 : getT 4096 rn with
              | error k =>
                have hk := getT_err ht2
                have hk0 : ((k : Int) != 0) = true := by simp; omega
                have hnone := hide (getFs_no2 hgf.out him ht1 ht2)
                rw [ht2] at hgt2
                clear ht1 ht2 hk
                go_wp2_with fail
                rw [← hWf.out, ← hfb.out]
                refine hgt1.out.mono ?_
                rintro e w4 ⟨hE4, A4, c4, rfl, hi4⟩
                have hrf4 := hrf.ext hE4
                have hr4 := (hrow.out.ext hEf).ext hE4
                have f4 := fun i => hrf4.free i
                have d4 := hrf4.cell 0 rfl
                obtain ⟨w5, hw5⟩ : ∃ w5, w5 = w4.setCell ⟨fb, 0, none⟩ (.string ⟨nm.toArray⟩) := ⟨_, rfl⟩
                have hE05 := (hEwf.out.trans hE4).setCell (p := ⟨fb, 0, none⟩) (by simp only; have := hbw.out; omega) (.string ⟨nm.toArray⟩)
                have hrf5 := hrf4.put 0 (.string ⟨nm.toArray⟩)
                have hr5 := hr4.away (p := ⟨fb, 0, none⟩) (by simp only; omega) (.string ⟨nm.toArray⟩)
                rw [← hw5] at hE05 hrf5 hr5
                have hgg := hide (hgt2.out A4 c4 w5 hi4 (hw.trans hE05))
                replace hw5 := hide hw5
                go_wp2_with fail
                rw [← hw5.out]
                refine hgg.out.mono ?_
                rintro e w6 ⟨hE6, rfl⟩
                have hrf6 := hrf5.ext hE6
                have hr6 := hr5.ext hE6
                have f6 := fun i => hrf6.free i
                have d6 := hrf6.cell 1 rfl
                have hr7 := hr6.away (p := ⟨fb, 1, none⟩) (by simp only; omega) (.string ⟨#[]⟩)
                have f7 := fun i => hr7.free i
                have e5 := hr7.cell 0 rfl
                have e6 := hr7.cell 1 rfl
                have hE07 := hide ((hE05.trans hE6).setCell (p := ⟨fb, 1, none⟩) (by simp only; have := hbw.out; omega) (.string ⟨#[]⟩))
                have hzn : Hid (Z = none) := hide (by rw [hZ.out, hnone.out])
                replace hr7 := hide hr7
                go_wp2_with fail
                obtain ⟨wz, hwz⟩ : ∃ wz, wz = setEv (w6.setCell ⟨fb, 1, none⟩ (.string ⟨#[]⟩)) b 0 none 0 0 := ⟨_, rfl⟩; have hk := setEv_row hr7.out 0 none 0 0; rw [← hwz] at hk; have hEz := setEv_ext hE07.out hbw.out 0 none 0 0; rw [← hwz] at hEz; unfold setEv at hwz; rw [← hwz]; have k0 : wz.cell? ⟨b, 0, none⟩ = some (.int .i64 0) := hk.cell 0 rfl; have k1 : wz.cell? ⟨b, 1, none⟩ = some (.slice none 0 0) := hk.cell 1 rfl; clear hwz hk; exact bodyPost_ret (v := .tuple #[.agg #[.int .i64 0, .slice none 0 0], .slice none 0 0, .int .i64 100]) (by simp [results, Tryz.results95, go_sem, k0, k1]) rfl (GotE.no hEz hzn.out)
              | ok p =>
                obtain ⟨tx, rt⟩ := p
                obtain ⟨htl, hrt, _⟩ := getT_ok ht2
                rw [ht2] at hgt2
                unfold GotT at hgt2
                simp only at hgt2
                replace hgt2 := hide hgt2
                have hstep := hide (getFs_step hgf.out him ht1 ht2)
                clear ht1 ht2
                go_wp2_with fail
                rw [← hWf.out, ← hfb.out]
                refine hgt1.out.mono ?_
                rintro e w4 ⟨hE4, A4, c4, rfl, hi4⟩
                have hrf4 := hrf.ext hE4
                have hr4 := (hrow.out.ext hEf).ext hE4
                have ho4 := hE4.owns (hEf.owns hown.out)
                have f4 := fun i => hrf4.free i
                have d4 := hrf4.cell 0 rfl
                obtain ⟨w5, hw5⟩ : ∃ w5, w5 = w4.setCell ⟨fb, 0, none⟩ (.string ⟨nm.toArray⟩) := ⟨_, rfl⟩
                have hE05 := (hEwf.out.trans hE4).setCell (p := ⟨fb, 0, none⟩) (by simp only; have := hbw.out; omega) (.string ⟨nm.toArray⟩)
                have hrf5 := hrf4.put 0 (.string ⟨nm.toArray⟩)
                have hr5 := hr4.away (p := ⟨fb, 0, none⟩) (by simp only; omega) (.string ⟨nm.toArray⟩)
                have hoa : (Value.slice B i d).ownBlock ≠ some fb := by
                  have hown0 := hown.out
                  intro hfe
                  obtain ⟨_, hrow2, _⟩ := owns_row hown0 hfe
                  have := hrow2.lt
                  have := hfb.out
                  omega
                have ho5 := owns_set ho4 (a := ⟨fb, 0, none⟩) hoa (.string ⟨nm.toArray⟩)
                rw [← hw5] at hE05 hrf5 hr5 ho5
                have hgg := hide (hgt2.out A4 c4 w5 hi4 (hw.trans hE05))
                replace hw5 := hide hw5
                go_wp2_with fail
                rw [← hw5.out]
                refine hgg.out.mono ?_
                rintro e w6 ⟨hE6, A6, c6, rfl, hi6⟩
                have hrf6 := hrf5.ext hE6
                have hr6 := hr5.ext hE6
                have ho6 := hE6.owns ho5
                have f6 := fun i => hrf6.free i
                have d6 := hrf6.cell 1 rfl
                obtain ⟨w7, hw7⟩ : ∃ w7, w7 = w6.setCell ⟨fb, 1, none⟩ (.string ⟨tx.toArray⟩) := ⟨_, rfl⟩
                have hr7 := hr6.away (p := ⟨fb, 1, none⟩) (by simp only; omega) (.string ⟨tx.toArray⟩)
                have hrf7 : Row (w6.setCell ⟨fb, 1, none⟩ (.string ⟨tx.toArray⟩)) fb 105 #[.string ⟨nm.toArray⟩, .string ⟨tx.toArray⟩] := hrf6.put 1 (.string ⟨tx.toArray⟩)
                have ho7 := owns_set ho6 (a := ⟨fb, 1, none⟩) hoa (.string ⟨tx.toArray⟩)
                have hE07 := (hE05.trans hE6).setCell (p := ⟨fb, 1, none⟩) (by simp only; have := hbw.out; omega) (.string ⟨tx.toArray⟩)
                have f7 := hr7.free 1
                have e6 := hr7.cell 1 rfl
                have g0 := hrf7.cell 0 rfl
                have g1 := hrf7.cell 1 rfl
                have hsz7 : b + 1 ≤ (w6.setCell ⟨fb, 1, none⟩ (.string ⟨tx.toArray⟩)).heap.size := hr7.lt
                go_wp2_with (at_builtin; refine wpList_appZ (us := [.string ⟨nm.toArray⟩, .string ⟨tx.toArray⟩]) (m := 1) elemFd ho7 (by simp [World.setCell]) (.tmp 56) (.tmp 58) rfl rfl rfl rfl rfl (one_of rfl) (by omega) hsz7 (fun A8 c8 w8 ho8 hg8 hl8 => ?_); have hne8 : ∀ k, (Value.slice B i d).ownBlock = some k → b + 1 ≤ k := (fun k hk => by obtain ⟨_, _, hb⟩ := owns_row ho7 hk; exact hb); have hr8 := Row.grown hr7 hg8 (fun e => by have := hne8 _ e.symm; omega); have f8 := hr8.free 1; have e8 : w8.cell? ⟨b, 1, none⟩ = some (.slice B i d) := hr8.cell 1 rfl; have hr8h := hide hr8; have ho8h := hide ho8; have hE08 := hide (hE07.grown hg8 fun k hk => by have := hne8 k hk; have := hbw.out; omega); clear hr8 ho8 hg8 hl8)
                have hne9 : (Value.slice A8 (i + 1) c8).ownBlock ≠ some b := fun e => by
                  obtain ⟨_, _, hb⟩ := owns_row ho8h.out e
                  omega
                refine ⟨⟨i + 1, read ++ [(nm, tx)], rt, A8, A6, c8, c6, by go_num, rfl, by omega, by omega, hide (by rw [List.length_append, ← hil.out]; rfl), hstep, hide ?_, hide (hr8h.out.put 1 _), hide (by rw [fcells_snoc]; exact owns_set ho8h.out hne9 _), hide hi6, hide (hE08.out.setCell hbw.out _)⟩, ?_⟩
                · intro f hf
                  rcases List.mem_append.1 hf with hf | hf
                  · exact hlg.out f hf
                  · rw [List.mem_singleton.1 hf]; simp only; omega
                · simp [intOf]; omega
          · obtain rfl : i = m := by omega
            have hfin := getFs_fin hgf.out (Nat.le_refl _)
            have hzz := hZ.out
            rw [hfin] at hzz
            simp only at hzz
            have hok : Ev.Own ⟨at_, read⟩ wr (b + 1) B d := ⟨by simp only; rw [← hil.out]; exact hown.out, fun f hf => by have := hlg.out f hf; omega, by simp only; have := hil.out; omega⟩
            have hck := echeck_any ⟨at_, read⟩ B d wr hok.ok
            unfold Ev.val at hck
            simp only at hck
            rw [← hil.out] at hck
            obtain ⟨j, hj⟩ : ∃ j, j = checkE read := ⟨_, rfl⟩
            rw [← hj] at hck hzz
            replace hj := hide hj
            replace hck := hide hck
            replace hok := hide hok
            replace hzz := hide hzz
            by_cases hj0 : j = 0
            · subst hj0
              go_wp2_with fail
              refine hck.out.mono ?_
              rintro e w4 ⟨rfl, hE4⟩
              have hr4 := hrow.out.ext hE4
              have f4 := fun k => hr4.free k
              have g0 := hr4.cell 0 rfl
              have g1 := hr4.cell 1 rfl
              replace hr4 := hide hr4
              have hE04 := hide (hE.out.trans hE4)
              clear q0 q1
              go_wp2_with fail
              obtain ⟨wz, hwz⟩ : ∃ wz, wz = setEv w4 b at_ B i d := ⟨_, rfl⟩
              have hk := setEv_row hr4.out at_ B i d
              have hcz := (setEv_chg w4 b at_ B i d).owns (hE4.owns hok.out.1) (fun k hk h => by obtain ⟨_, _, hb⟩ := owns_row (hE4.owns hok.out.1) hk; omega)
              have hEz := setEv_ext hE04.out hbw.out at_ B i d
              rw [← hwz] at hk hcz hEz
              unfold setEv at hwz
              rw [← hwz]
              have k0 : wz.cell? ⟨b, 0, none⟩ = some (.int .i64 at_) := hk.cell 0 rfl
              have k1 : wz.cell? ⟨b, 1, none⟩ = some (.slice B i d) := hk.cell 1 rfl
              clear hwz hk
              have hz1 := hzz.out
              rw [if_pos trivial] at hz1
              exact bodyPost_ret (v := .tuple #[.agg #[.int .i64 at_, .slice B i d], .slice A3 rr.length c3, .int .i64 0]) (by simp [results, Tryz.results95, go_sem, k0, k1]) rfl (by rw [hz1]; exact ⟨hEz, B, d, A3, c3, by unfold Ev.val; simp only; rw [← hil.out], ⟨owns_lower hcz (by have := hbw.out; omega), hok.out.2⟩, hin8.out, huz⟩)
            · have hj0' : ¬ (j : Int) = 0 := by omega
              have hzn : Hid (Z = none) := hide (by rw [hzz.out, if_neg hj0])
              go_wp2_with fail
              refine hck.out.mono ?_
              rintro e w4 ⟨rfl, hE4⟩
              have hr4 := hrow.out.ext hE4
              have f4 := fun k => hr4.free k
              have g0 := hr4.cell 0 rfl
              have g1 := hr4.cell 1 rfl
              replace hr4 := hide hr4
              have hE04 := hide (hE.out.trans hE4)
              clear q0 q1
              go_wp2_with fail
              obtain ⟨wz, hwz⟩ : ∃ wz, wz = setEv w4 b 0 none 0 0 := ⟨_, rfl⟩; have hk := setEv_row hr4.out 0 none 0 0; rw [← hwz] at hk; have hEz := setEv_ext hE04.out hbw.out 0 none 0 0; rw [← hwz] at hEz; unfold setEv at hwz; rw [← hwz]; have k0 : wz.cell? ⟨b, 0, none⟩ = some (.int .i64 0) := hk.cell 0 rfl; have k1 : wz.cell? ⟨b, 1, none⟩ = some (.slice none 0 0) := hk.cell 1 rfl; clear hwz hk; exact bodyPost_ret (v := .tuple #[.agg #[.int .i64 0, .slice none 0 0], .slice none 0 0, .int .i64 100]) (by simp [results, Tryz.results95, go_sem, k0, k1]) rfl (GotE.no hEz hzn.out)
end Go.Proofs.YtkdcnhnaiknaaaaGreat

/- loggiaref10: Get. -/
namespace Go.Proofs.YtkdcnhnaiknaaaaGreat
open Go.RowKit

set_option maxRecDepth 100000 in
set_option maxHeartbeats 4000000 in
theorem revget_any (A : Option Addr) (n c : Nat) (l : List UInt8) (w0 w : World) (h : In8 w0 A n c l) (hw : Ext w0 w) (hle : n ≤ 1000000000) :
    Calls Tryz.prog 126 #[.slice A n c] w fun e w' => GotE w0 w (getE l) e w' := by
  obtain ⟨W, hW⟩ : ∃ W, W = w.alloc (.cells #[.int .i64 0, .slice none 0 0] 37) := ⟨_, rfl⟩
  have hEW : Ext w W := by rw [hW]; exact (Ext.refl w).alloc _
  obtain ⟨b, hb⟩ : ∃ b, b = w.heap.size := ⟨_, rfl⟩
  have hr : Row W b 37 #[.int .i64 0, .slice none 0 0] := by rw [hW, hb]; exact Row.new w _ _
  have hbw := hide (Nat.le_of_eq hb.symm)
  have hg1 := rgetInt_any A n c l w0 W h (hw.trans hEW) hle
  have hln : l.length ≤ 1000000000 := by rw [← h.len]; exact hle
  obtain ⟨Z, hZ⟩ : ∃ Z, Z = getE l := ⟨_, rfl⟩
  rw [← hZ]
  unfold getE at hZ
  replace hW := hide hW
  replace hb := hide hb
  clear h
  cases hv1 : getV 0 l with
  | error k =>
    rw [hv1] at hg1 hZ
    have hk := getV_err l 0 k hv1
    have hk0 : ((k : Int) != 0) = true := by simp; omega
    have hg := hide hg1
    clear hv1 hk hg1
    go_enter Tryz.func126, Tryz.ntmps126
    go_wp2_with fail
    rw [← hW.out, ← hb.out]
    refine hg.out.mono ?_
    rintro e w1 ⟨hE1, rfl⟩
    have hr1 := hr.ext hE1
    have f1 := fun i => hr1.free i
    have d0 := hr1.cell 0 rfl
    have d1 := hr1.cell 1 rfl
    replace hr1 := hide hr1
    have hE01 := hide (hEW.trans hE1)
    replace hZ := hide hZ
    go_wp2_with fail
    obtain ⟨wz, hwz⟩ : ∃ wz, wz = setEv w1 b 0 none 0 0 := ⟨_, rfl⟩; have hk := setEv_row hr1.out 0 none 0 0; rw [← hwz] at hk; have hEz := setEv_ext hE01.out hbw.out 0 none 0 0; rw [← hwz] at hEz; unfold setEv at hwz; rw [← hwz]; have k0 : wz.cell? ⟨b, 0, none⟩ = some (.int .i64 0) := hk.cell 0 rfl; have k1 : wz.cell? ⟨b, 1, none⟩ = some (.slice none 0 0) := hk.cell 1 rfl; clear hwz hk; exact bodyPost_ret (v := .tuple #[.agg #[.int .i64 0, .slice none 0 0], .slice none 0 0, .int .i64 100]) (by simp [results, Tryz.results126, go_sem, k0, k1]) rfl (GotE.no hEz hZ.out)
  | ok p =>
    obtain ⟨u, r⟩ := p
    have hu := getV_lt64 hv1
    have hrl : r.length ≤ 1000000000 := by
      obtain ⟨_, _, q, hq, _⟩ := getV_lt l 0 u r hv1
      rw [hq, List.length_append] at hln
      omega
    rw [hv1] at hg1 hZ
    simp only at hZ
    have hg := hide hg1
    have huz := unzig_ok hu
    obtain ⟨at_, hat⟩ : ∃ at_, at_ = unzig u := ⟨_, rfl⟩
    unfold GotI at hg
    simp only at hg
    rw [← hat] at hg hZ huz
    clear hv1 hg1 hat hu
    cases hv2 : getV 0 r with
    | error k =>
      rw [hv2] at hZ
      have hk := getV_err r 0 k hv2
      have hk0 : ((k : Int) != 0) = true := by simp; omega
      have hg2 := fun A c W h hE => rget_any A r.length c r w0 W h hE hrl
      rw [hv2] at hg2
      replace hg2 := hide hg2
      replace hZ := hide hZ
      clear hv2 hk
      go_enter Tryz.func126, Tryz.ntmps126
      go_wp2_with fail
      rw [← hW.out, ← hb.out]
      refine hg.out.mono ?_
      rintro e w1 ⟨hE1, A1, c1, rfl, hi1⟩
      have hgg := hide (hg2.out A1 c1 w1 hi1 ((hw.trans hEW).trans hE1))
      go_wp2_with fail
      refine hgg.out.mono ?_
      rintro e w2 ⟨hE2, rfl⟩
      have hr1 := hr.ext (hE1.trans hE2)
      have f1 := fun i => hr1.free i
      have d0 := hr1.cell 0 rfl
      have d1 := hr1.cell 1 rfl
      replace hr1 := hide hr1
      have hE01 := hide (hEW.trans (hE1.trans hE2))
      go_wp2_with fail
      obtain ⟨wz, hwz⟩ : ∃ wz, wz = setEv w2 b 0 none 0 0 := ⟨_, rfl⟩; have hk := setEv_row hr1.out 0 none 0 0; rw [← hwz] at hk; have hEz := setEv_ext hE01.out hbw.out 0 none 0 0; rw [← hwz] at hEz; unfold setEv at hwz; rw [← hwz]; have k0 : wz.cell? ⟨b, 0, none⟩ = some (.int .i64 0) := hk.cell 0 rfl; have k1 : wz.cell? ⟨b, 1, none⟩ = some (.slice none 0 0) := hk.cell 1 rfl; clear hwz hk; exact bodyPost_ret (v := .tuple #[.agg #[.int .i64 0, .slice none 0 0], .slice none 0 0, .int .i64 100]) (by simp [results, Tryz.results126, go_sem, k0, k1]) rfl (GotE.no hEz hZ.out)
    | ok p =>
      obtain ⟨m, r2⟩ := p
      have hrl2 : r2.length ≤ 1000000000 := by
        obtain ⟨_, _, q, hq, _⟩ := getV_lt r 0 m r2 hv2
        rw [hq, List.length_append] at hrl
        omega
      have hm64 := getV_lt64 hv2
      rw [hv2] at hZ
      simp only at hZ
      have hg2 := fun A c W h hE => rget_any A r.length c r w0 W h hE hrl
      rw [hv2] at hg2
      unfold Got at hg2
      simp only at hg2
      replace hg2 := hide hg2
      clear hv2
      by_cases hm16 : 16 < m
      · rw [if_pos hm16] at hZ
        have hm' : (16 : Int) < m := by omega
        replace hZ := hide hZ
        go_enter Tryz.func126, Tryz.ntmps126
        go_wp2_with fail
        rw [← hW.out, ← hb.out]
        refine hg.out.mono ?_
        rintro e w1 ⟨hE1, A1, c1, rfl, hi1⟩
        have hgg := hide (hg2.out A1 c1 w1 hi1 ((hw.trans hEW).trans hE1))
        go_wp2_with fail
        refine hgg.out.mono ?_
        rintro e w2 ⟨hE2, A2, c2, rfl, hi2⟩
        have hr1 := hr.ext (hE1.trans hE2)
        have f1 := fun i => hr1.free i
        have d0 := hr1.cell 0 rfl
        have d1 := hr1.cell 1 rfl
        replace hr1 := hide hr1
        have hE01 := hide (hEW.trans (hE1.trans hE2))
        go_wp2_with fail
        obtain ⟨wz, hwz⟩ : ∃ wz, wz = setEv w2 b 0 none 0 0 := ⟨_, rfl⟩; have hk := setEv_row hr1.out 0 none 0 0; rw [← hwz] at hk; have hEz := setEv_ext hE01.out hbw.out 0 none 0 0; rw [← hwz] at hEz; unfold setEv at hwz; rw [← hwz]; have k0 : wz.cell? ⟨b, 0, none⟩ = some (.int .i64 0) := hk.cell 0 rfl; have k1 : wz.cell? ⟨b, 1, none⟩ = some (.slice none 0 0) := hk.cell 1 rfl; clear hwz hk; exact bodyPost_ret (v := .tuple #[.agg #[.int .i64 0, .slice none 0 0], .slice none 0 0, .int .i64 100]) (by simp [results, Tryz.results126, go_sem, k0, k1]) rfl (GotE.no hEz hZ.out)
      · rw [if_neg hm16] at hZ
        have hm' : ¬ (16 : Int) < m := by omega
        replace hZ := hide hZ
        go_enter Tryz.func126, Tryz.ntmps126
        go_wp2_with fail
        rw [← hW.out, ← hb.out]
        refine hg.out.mono ?_
        rintro e w1 ⟨hE1, A1, c1, rfl, hi1⟩
        have hgg := hide (hg2.out A1 c1 w1 hi1 ((hw.trans hEW).trans hE1))
        go_wp2_with fail
        refine hgg.out.mono ?_
        rintro e w2 ⟨hE2, A2, c2, rfl, hi2⟩
        have hr1 := hr.ext (hE1.trans hE2)
        have f1 := fun i => hr1.free i
        have d0 := hr1.cell 0 rfl
        have d1 := hr1.cell 1 rfl
        replace hr1 := hide hr1
        have hE01 := hide (hEW.trans (hE1.trans hE2))
        go_wp2_with fail
        obtain ⟨g, hgd⟩ : ∃ g, g = w2.heap.size := ⟨_, rfl⟩
        obtain ⟨W3, hW3⟩ : ∃ W3, W3 = w2.alloc (.cells #[.int .i64 at_, .slice none 0 0] 37) := ⟨_, rfl⟩
        have hE23 : Ext w2 W3 := by rw [hW3]; exact (Ext.refl w2).alloc _
        have hE03 : Ext w W3 := hE01.out.trans hE23
        have hr3 : Row W3 b 37 #[.int .i64 0, .slice none 0 0] := hr1.out.ext hE23
        have hg3 : Row W3 g 37 #[.int .i64 at_, .slice none 0 0] := by rw [hW3, hgd]; exact Row.new w2 _ _
        have hbg : b < g := by rw [hgd]; exact hr1.out.lt
        have hwg : w.heap.size ≤ g := by rw [hgd]; exact hE01.out.size
        have hwm : IntKind.i64.wrap (m : Int) = (m : Int) := by
          simp [IntKind.wrap, IntKind.bits, IntKind.signed]
          omega
        rw [← hW3, ← hgd]
        replace hgd := hide hgd
        clear hr1 hE01 f1 d0 d1 hgg hg hg2 hW3
        go_loopw [0, 9] (fun s0 s9 wr => ∃ (i : Nat) (read : List Fd) (rr : List UInt8) (B A3 : Option Addr) (d c3 : Nat), s9 = .int .i64 (i : Int) ∧ s0 = .slice A3 rr.length c3 ∧ i ≤ m ∧ rr.length ≤ 1000000000 ∧ Hid (i = read.length) ∧ Hid (getFs m r2 = aheadF read (getFs (m - i) rr)) ∧ Hid (∀ f ∈ read, f.1.length ≤ 1000000000 ∧ f.2.length ≤ 1000000000) ∧ Hid (Row wr b 37 #[.int .i64 0, .slice none 0 0]) ∧ Hid (Row wr g 37 #[.int .i64 at_, .slice B i d]) ∧ Hid (wr.ownsRow (g + 1) 105 2 (.slice B i d) i (fcells read)) ∧ Hid (In8 w0 A3 rr.length c3 rr) ∧ Hid (Ext w wr)) (fun _ s9 _ => m - (intOf s9).toNat)
        case atStart => exact ⟨0, [], r2, none, A2, 0, c2, rfl, rfl, by omega, hrl2, hide rfl, hide (by rw [aheadF_nil]; rfl), hide nofun, hide hr3, hide hg3, hide ⟨rfl, .inl ⟨rfl, rfl⟩⟩, hide hi2, hide hE03⟩
        case round =>
          obtain ⟨i, read, rr, B, A3, d, c3, rfl, rfl, hi, hrr, hil, hgf, hlg, hrowb, hrow, hown, hin8, hE⟩ := hrel
          have q0 : wr.cell? ⟨g, 0, none⟩ = some (.int .i64 at_) := hrow.out.cell 0 rfl
          have q1 : wr.cell? ⟨g, 1, none⟩ = some (.slice B i d) := hrow.out.cell 1 rfl
          by_cases him : i < m
          · have hi1 : (i : Int) < m := by omega
            have hgt1 := rgetText_any A3 rr.length c3 32 rr w0 wr hin8.out (hw.trans hE.out) hrr (by omega)
            cases ht1 : getT 32 rr with
            | error k =>
              have hk := getT_err ht1
              have hk0 : ((k : Int) != 0) = true := by simp; omega
              have hnone := hide (getFs_no1 hgf.out him ht1)
              rw [ht1] at hgt1
              have hnil : In8 w0 none 0 0 [] := ⟨rfl, .inl rfl, Nat.le_refl _, fun _ => rfl, nofun⟩
              have hgt2 := fun W hE => rgetText_any none 0 0 4096 [] w0 W hnil hE (by omega) (by omega)
              rw [show getT 4096 [] = .error 6 from rfl] at hgt2
              replace hgt1 := hide hgt1
              replace hgt2 := hide hgt2
              clear ht1 hk
              go_wp2_with fail
              refine hgt1.out.mono ?_
              rintro e w4 ⟨hE4, rfl⟩
              have hgg := hide (hgt2.out w4 ((hw.trans hE.out).trans hE4))
              go_wp2_with fail
              refine hgg.out.mono ?_
              rintro e w5 ⟨hE5, rfl⟩
              have hr5 := (hrowb.out.ext hE4).ext hE5
              have f5 := fun i => hr5.free i
              have e5 := hr5.cell 0 rfl
              have e6 := hr5.cell 1 rfl
              have hE05 := hide (hE.out.trans (hE4.trans hE5))
              have hzn : Hid (Z = none) := hide (by rw [hZ.out, hnone.out])
              replace hr5 := hide hr5
              go_wp2_with fail
              obtain ⟨wz, hwz⟩ : ∃ wz, wz = setEv w5 b 0 none 0 0 := ⟨_, rfl⟩; have hk := setEv_row hr5.out 0 none 0 0; rw [← hwz] at hk; have hEz := setEv_ext hE05.out hbw.out 0 none 0 0; rw [← hwz] at hEz; unfold setEv at hwz; rw [← hwz]; have k0 : wz.cell? ⟨b, 0, none⟩ = some (.int .i64 0) := hk.cell 0 rfl; have k1 : wz.cell? ⟨b, 1, none⟩ = some (.slice none 0 0) := hk.cell 1 rfl; clear hwz hk; exact bodyPost_ret (v := .tuple #[.agg #[.int .i64 0, .slice none 0 0], .slice none 0 0, .int .i64 100]) (by simp [results, Tryz.results126, go_sem, k0, k1]) rfl (GotE.no hEz hzn.out)
            | ok p =>
              obtain ⟨nm, rn⟩ := p
              obtain ⟨hnl, hrn, _⟩ := getT_ok ht1
              rw [ht1] at hgt1
              unfold GotT at hgt1
              simp only at hgt1
              replace hgt1 := hide hgt1
              have hrnl : rn.length ≤ 1000000000 := by omega
              have hgt2 := hide (fun A c W h hE => rgetText_any A rn.length c 4096 rn w0 W h hE hrnl (by omega))
              cases ht2 : getT 4096 rn with
              | error k =>
                have hk := getT_err ht2
                have hk0 : ((k : Int) != 0) = true := by simp; omega
                have hnone := hide (getFs_no2 hgf.out him ht1 ht2)
                rw [ht2] at hgt2
                clear ht1 ht2 hk
                go_wp2_with fail
                refine hgt1.out.mono ?_
                rintro e w4 ⟨hE4, A4, c4, rfl, hi4⟩
                have hgg := hide (hgt2.out A4 c4 w4 hi4 ((hw.trans hE.out).trans hE4))
                go_wp2_with fail
                refine hgg.out.mono ?_
                rintro e w5 ⟨hE5, rfl⟩
                have hr5 := (hrowb.out.ext hE4).ext hE5
                have f5 := fun i => hr5.free i
                have e5 := hr5.cell 0 rfl
                have e6 := hr5.cell 1 rfl
                have hE05 := hide (hE.out.trans (hE4.trans hE5))
                have hzn : Hid (Z = none) := hide (by rw [hZ.out, hnone.out])
                replace hr5 := hide hr5
                go_wp2_with fail
                obtain ⟨wz, hwz⟩ : ∃ wz, wz = setEv w5 b 0 none 0 0 := ⟨_, rfl⟩; have hk := setEv_row hr5.out 0 none 0 0; rw [← hwz] at hk; have hEz := setEv_ext hE05.out hbw.out 0 none 0 0; rw [← hwz] at hEz; unfold setEv at hwz; rw [← hwz]; have k0 : wz.cell? ⟨b, 0, none⟩ = some (.int .i64 0) := hk.cell 0 rfl; have k1 : wz.cell? ⟨b, 1, none⟩ = some (.slice none 0 0) := hk.cell 1 rfl; clear hwz hk; exact bodyPost_ret (v := .tuple #[.agg #[.int .i64 0, .slice none 0 0], .slice none 0 0, .int .i64 100]) (by simp [results, Tryz.results126, go_sem, k0, k1]) rfl (GotE.no hEz hzn.out)
              | ok p =>
                obtain ⟨tx, rt⟩ := p
                obtain ⟨htl, hrt, _⟩ := getT_ok ht2
                rw [ht2] at hgt2
                unfold GotT at hgt2
                simp only at hgt2
                replace hgt2 := hide hgt2
                have hstep := hide (getFs_step hgf.out him ht1 ht2)
                clear ht1 ht2
                go_wp2_with fail
                refine hgt1.out.mono ?_
                rintro e w4 ⟨hE4, A4, c4, rfl, hi4⟩
                have hgg := hide (hgt2.out A4 c4 w4 hi4 ((hw.trans hE.out).trans hE4))
                go_wp2_with fail
                refine hgg.out.mono ?_
                rintro e w6 ⟨hE6, A6, c6, rfl, hi6⟩
                have hr6 := (hrow.out.ext hE4).ext hE6
                have hb6 := (hrowb.out.ext hE4).ext hE6
                have ho6 := hE6.owns (hE4.owns hown.out)
                have hE06 := (hE.out.trans hE4).trans hE6
                have e6 := hr6.cell 1 rfl
                have hsz6 : g + 1 ≤ w6.heap.size := hr6.lt
                go_wp2_with (at_builtin; refine wpList_appS (us := [.string ⟨nm.toArray⟩, .string ⟨tx.toArray⟩]) (m := 1) elemFd ho6 (.tmp 66) (.tmp 70) rfl rfl rfl rfl rfl (one_of rfl) (by omega) hsz6 (fun A8 c8 w8 ho8 hg8 hl8 => ?_); have hne8 : ∀ k, (Value.slice B i d).ownBlock = some k → g + 1 ≤ k := (fun k hk => by obtain ⟨_, _, hb⟩ := owns_row ho6 hk; exact hb); have hr8 := Row.grown hr6 hg8 (fun e => by have := hne8 _ e.symm; omega); have hb8 := Row.grown hb6 hg8 (fun e => by have := hne8 _ e.symm; omega); have f8 := hr8.free 1; have e8 : w8.cell? ⟨g, 1, none⟩ = some (.slice B i d) := hr8.cell 1 rfl; have hr8h := hide hr8; have hb8h := hide hb8; have ho8h := hide ho8; have hE08 := hide (hE06.grown hg8 fun k hk => by have := hne8 k hk; omega); clear hr8 hb8 ho8 hg8 hl8)
                have hne9 : (Value.slice A8 (i + 1) c8).ownBlock ≠ some g := fun e => by
                  obtain ⟨_, _, hb⟩ := owns_row ho8h.out e
                  omega
                refine ⟨⟨i + 1, read ++ [(nm, tx)], rt, A8, A6, c8, c6, by go_num, rfl, by omega, by omega, hide (by rw [List.length_append, ← hil.out]; rfl), hstep, hide ?_, hide (hb8h.out.away (p := ⟨g, 1, none⟩) (by simp only; omega) _), hide (hr8h.out.put 1 _), hide (by rw [fcells_snoc]; exact owns_set ho8h.out hne9 _), hide hi6, hide (hE08.out.setCell (p := ⟨g, 1, none⟩) hwg _)⟩, ?_⟩
                · intro f hf
                  rcases List.mem_append.1 hf with hf | hf
                  · exact hlg.out f hf
                  · rw [List.mem_singleton.1 hf]; simp only; omega
                · simp [intOf]; omega
          · obtain rfl : i = m := by omega
            have hfin := getFs_fin hgf.out (Nat.le_refl _)
            have hzz := hZ.out
            rw [hfin] at hzz
            simp only at hzz
            have hok : Ev.Own ⟨at_, read⟩ wr (g + 1) B d := ⟨by simp only; rw [← hil.out]; exact hown.out, fun f hf => by have := hlg.out f hf; omega, by simp only; have := hil.out; omega⟩
            have hck := recheck_any ⟨at_, read⟩ B d wr hok.ok
            unfold Ev.val at hck
            simp only at hck
            rw [← hil.out] at hck
            obtain ⟨j, hj⟩ : ∃ j, j = checkE read := ⟨_, rfl⟩
            rw [← hj] at hck hzz
            replace hj := hide hj
            replace hck := hide hck
            replace hok := hide hok
            replace hzz := hide hzz
            by_cases hj0 : j = 0
            · subst hj0
              go_wp2_with fail
              refine hck.out.mono ?_
              rintro e w4 ⟨rfl, hE4⟩
              have hr4 := hrowb.out.ext hE4
              have f4 := fun k => hr4.free k
              have g0 := hE4.cell q0
              have g1 := hE4.cell q1
              have g2 := hr4.cell 0 rfl
              have g3 := hr4.cell 1 rfl
              replace hr4 := hide hr4
              have hE04 := hide (hE.out.trans hE4)
              clear q0 q1
              go_wp2_with fail
              obtain ⟨wz, hwz⟩ : ∃ wz, wz = setEv w4 b at_ B i d := ⟨_, rfl⟩
              have hk := setEv_row hr4.out at_ B i d
              have hcz := (setEv_chg w4 b at_ B i d).owns (hE4.owns hok.out.1) (fun k hk h => by obtain ⟨_, _, hb⟩ := owns_row (hE4.owns hok.out.1) hk; omega)
              have hEz := setEv_ext hE04.out hbw.out at_ B i d
              rw [← hwz] at hk hcz hEz
              unfold setEv at hwz
              rw [← hwz]
              have k0 : wz.cell? ⟨b, 0, none⟩ = some (.int .i64 at_) := hk.cell 0 rfl
              have k1 : wz.cell? ⟨b, 1, none⟩ = some (.slice B i d) := hk.cell 1 rfl
              clear hwz hk
              have hz1 := hzz.out
              rw [if_pos trivial] at hz1
              exact bodyPost_ret (v := .tuple #[.agg #[.int .i64 at_, .slice B i d], .slice A3 rr.length c3, .int .i64 0]) (by simp [results, Tryz.results126, go_sem, k0, k1]) rfl (by rw [hz1]; exact ⟨hEz, B, d, A3, c3, by unfold Ev.val; simp only; rw [← hil.out], ⟨owns_lower hcz (by omega), hok.out.2⟩, hin8.out, huz⟩)
            · have hj0' : ¬ (j : Int) = 0 := by omega
              have hzn : Hid (Z = none) := hide (by rw [hzz.out, if_neg hj0])
              go_wp2_with fail
              refine hck.out.mono ?_
              rintro e w4 ⟨rfl, hE4⟩
              have hr4 := hrowb.out.ext hE4
              have f4 := fun k => hr4.free k
              have g2 := hr4.cell 0 rfl
              have g3 := hr4.cell 1 rfl
              replace hr4 := hide hr4
              have hE04 := hide (hE.out.trans hE4)
              clear q0 q1
              go_wp2_with fail
              obtain ⟨wz, hwz⟩ : ∃ wz, wz = setEv w4 b 0 none 0 0 := ⟨_, rfl⟩; have hk := setEv_row hr4.out 0 none 0 0; rw [← hwz] at hk; have hEz := setEv_ext hE04.out hbw.out 0 none 0 0; rw [← hwz] at hEz; unfold setEv at hwz; rw [← hwz]; have k0 : wz.cell? ⟨b, 0, none⟩ = some (.int .i64 0) := hk.cell 0 rfl; have k1 : wz.cell? ⟨b, 1, none⟩ = some (.slice none 0 0) := hk.cell 1 rfl; clear hwz hk; exact bodyPost_ret (v := .tuple #[.agg #[.int .i64 0, .slice none 0 0], .slice none 0 0, .int .i64 100]) (by simp [results, Tryz.results126, go_sem, k0, k1]) rfl (GotE.no hEz hzn.out)
end Go.Proofs.YtkdcnhnaiknaaaaGreat

/- loggiaref10: CheckBatch. -/
namespace Go.Proofs.YtkdcnhnaiknaaaaGreat
open Go.RowKit

end Go.Proofs.YtkdcnhnaiknaaaaGreat

/- loggia/event: Decode. -/
namespace Go.Proofs.YtkdcnhnaiknaaaaGreat
open Go.RowKit

/-- A row of events of a call's own, and the events' own fields. -/
structure EvsOwn (w : World) (base : Nat) (A : Option Addr) (c : Nat) (l : List EvC) : Prop where
  own : w.ownsRow base 37 2 (.slice A l.length c) l.length (ecells l)
  each : ∀ x ∈ l, x.Own w base
  ints : ∀ x ∈ l, I64ok' x.e.at_
theorem EvsOwn.ok {w : World} {base c : Nat} {A : Option Addr} {l : List EvC} (h : EvsOwn w base A c l) : EvsOk w A l := ⟨Cells.of_own h.own, fun x hx => (h.each x hx).ok⟩
theorem EvsOwn.nil (w : World) (base : Nat) : EvsOwn w base none 0 [] := ⟨⟨rfl, .inl ⟨rfl, rfl⟩⟩, nofun, nofun⟩
theorem EvsOwn.chg {w w' : World} {base c : Nat} {A : Option Addr} {l : List EvC} {S : Nat → Prop} (h : EvsOwn w base A c l) (hc : Chg S w w') (hS : ∀ g t cs, Row w g t cs → t = 105 ∨ t = 37 → base ≤ g → ¬ S g) : EvsOwn w' base A c l :=
  ⟨hc.owns h.own fun g hg => by obtain ⟨cs, hr, hb⟩ := owns_row h.own hg; exact hS g _ cs hr (.inr rfl) hb, fun x hx => ⟨hc.owns (h.each x hx).1 fun g hg => by obtain ⟨cs, hr, hb⟩ := owns_row (h.each x hx).1 hg; exact hS g _ cs hr (.inl rfl) hb, (h.each x hx).2⟩, h.ints⟩
theorem EvsOwn.ext {w w' : World} {base c : Nat} {A : Option Addr} {l : List EvC} (h : EvsOwn w base A c l) (hE : Ext w w') : EvsOwn w' base A c l := ⟨hE.owns h.own, fun x hx => ⟨hE.owns (h.each x hx).1, (h.each x hx).2⟩, h.ints⟩
theorem EvsOwn.lower {w : World} {base b c : Nat} {A : Option Addr} {l : List EvC} (h : EvsOwn w base A c l) (hb : b ≤ base) : EvsOwn w b A c l := ⟨owns_lower h.own hb, fun x hx => ⟨owns_lower (h.each x hx).1 hb, (h.each x hx).2⟩, h.ints⟩
/-- What Decode answers. -/
def DecP (w : World) (res : Option Bt) (e : Ending) (w' : World) : Prop := Ext w w' ∧ match res with
  | some bt => ∃ (l : List EvC) (A : Option Addr) (c : Nat), bt.es = l.map (·.e) ∧ e = .returned (.tuple #[.agg #[.int .i64 bt.seq, .slice A l.length c], .int .i64 0]) ∧ EvsOwn w' w.heap.size A c l ∧ l.length ≤ 64 ∧ 1 ≤ bt.seq ∧ bt.seq ≤ 1099511627776
  | none => e = .returned (.tuple #[.agg #[.int .i64 0, .slice none 0 0], .int .i64 100])
theorem DecP.no {w w' : World} {res : Option Bt} (hE : Ext w w') (h : res = none) : DecP w res (.returned (.tuple #[.agg #[.int .i64 0, .slice none 0 0], .int .i64 100])) w' := by
  subst h
  exact ⟨hE, rfl⟩
def aheadE (read : List Ev) : Option (List Ev × List UInt8) → Option (List Ev × List UInt8)
  | none => none
  | some (es, r) => some (read ++ es, r)
theorem aheadE_nil (x : Option (List Ev × List UInt8)) : aheadE [] x = x := by cases x <;> rfl
theorem getEs_step {k i : Nat} {read : List Ev} {L r r1 : List UInt8} {e : Ev} (h : getEs k L = aheadE read (getEs (k - i) r)) (hi : i < k) (h1 : getE r = some (e, r1)) : getEs k L = aheadE (read ++ [e]) (getEs (k - (i + 1)) r1) := by
  obtain ⟨j, hj⟩ : ∃ j, k - i = j + 1 := ⟨k - i - 1, by omega⟩
  rw [h, hj, show k - (i + 1) = j by omega]
  conv => lhs; unfold getEs
  rw [h1]
  simp only
  cases getEs j r1 with
  | none => rfl
  | some p => obtain ⟨es, r3⟩ := p; simp [aheadE]
theorem getEs_no {k i : Nat} {read : List Ev} {L r : List UInt8} (h : getEs k L = aheadE read (getEs (k - i) r)) (hi : i < k) (h1 : getE r = none) : getEs k L = none := by
  obtain ⟨j, hj⟩ : ∃ j, k - i = j + 1 := ⟨k - i - 1, by omega⟩
  rw [h, hj]
  unfold getEs
  rw [h1]
  rfl
theorem getEs_fin {k i : Nat} {read : List Ev} {L r : List UInt8} (h : getEs k L = aheadE read (getEs (k - i) r)) (hi : k ≤ i) : getEs k L = some (read, r) := by
  rw [h, show k - i = 0 by omega]
  unfold getEs aheadE
  simp
theorem getFs_less : ∀ {k : Nat} {l r : List UInt8} {fs : List Fd}, getFs k l = some (fs, r) → r.length ≤ l.length
  | 0, l, r, fs, h => by unfold getFs at h; cases h; exact Nat.le_refl _
  | k + 1, l, r, fs, h => by
    unfold getFs at h
    split at h
    · cases h
    · rename_i nm r1 h1
      split at h
      · cases h
      · rename_i tx r2 h2
        split at h
        · cases h
        · rename_i fs' r3 h3
          cases h
          have a1 := (getT_ok h1).2.1
          have a2 := (getT_ok h2).2.1
          have a3 := getFs_less h3
          omega
theorem getV_less {l r : List UInt8} {n : Nat} (h : getV 0 l = .ok (n, r)) : r.length < l.length := by
  obtain ⟨_, _, q, hq, hne⟩ := getV_lt l 0 n r h
  have := List.length_pos_iff.2 hne
  rw [hq, List.length_append]
  omega
theorem getE_less {l r : List UInt8} {e : Ev} (h : getE l = some (e, r)) : r.length < l.length := by
  unfold getE at h
  split at h
  · cases h
  · rename_i u r1 h1
    split at h
    · cases h
    · rename_i n r2 h2
      split at h
      · cases h
      · split at h
        · cases h
        · rename_i fs r3 h3
          split at h
          · cases h
            have a1 := getV_less h1
            have a2 := getV_less h2
            have a3 := getFs_less h3
            omega
          · cases h
end Go.Proofs.YtkdcnhnaiknaaaaGreat

/- loggiaref10: Decode. -/
namespace Go.Proofs.YtkdcnhnaiknaaaaGreat
open Go.RowKit

end Go.Proofs.YtkdcnhnaiknaaaaGreat

/- loggiaref10: SameBatch; loggiaref15: SameBatches, at alike ones. -/
namespace Go.Proofs.YtkdcnhnaiknaaaaGreat
open Go.RowKit

def bcells (l : List BtC) : List Value := l.flatMap BtC.cells
theorem bcells_len (l : List BtC) : (bcells l).length = l.length * 2 := flat_len_of (cellsA := BtC.cells) (k := 2) (fun _ => rfl) l
theorem bcells_snoc (l : List BtC) (x : BtC) : bcells (l ++ [x]) = bcells l ++ x.cells := by
  unfold bcells
  rw [List.flatMap_append]
  simp
theorem bcells_at {w : World} {A : Option Addr} {l : List BtC} (h : Cells w A (bcells l)) {i : Nat} {x : BtC} (hx : l[i]? = some x) : ∃ g o, A = some ⟨g, o, none⟩ ∧ w.cell? ⟨g, o + i * 2, none⟩ = some (.int .i64 x.seq) ∧ w.cell? ⟨g, o + i * 2 + 1, none⟩ = some (.slice x.A x.l.length x.c) := by
  have hi := (List.getElem?_eq_some_iff.1 hx).1
  obtain ⟨g, o, hA, hc⟩ := h.at_ (by rw [bcells_len]; omega)
  refine ⟨g, o, hA, ?_, ?_⟩
  · exact hc (i * 2 + 0) _ (by unfold bcells; rw [flat_get_of (cellsA := BtC.cells) (k := 2) (fun _ => rfl) l i x 0 hx (by omega)]; rfl)
  · rw [Nat.add_assoc]
    exact hc (i * 2 + 1) _ (by unfold bcells; rw [flat_get_of (cellsA := BtC.cells) (k := 2) (fun _ => rfl) l i x 1 hx (by omega)]; rfl)
/-- A row of batches lies at A. -/
structure BsOk (w : World) (A : Option Addr) (l : List BtC) : Prop where
  cells : Cells w A (bcells l)
  each : ∀ x ∈ l, x.Ok w
theorem BsOk.ext {w w1 : World} {A : Option Addr} {l : List BtC} (h : BsOk w A l) (hE : Ext w w1) : BsOk w1 A l := ⟨h.cells.ext hE, fun x hx => (h.each x hx).ext hE⟩
theorem evs_alike {l m : List EvC} {i : Nat} {x y : EvC} (h : l.map (·.e) = m.map (·.e)) (hx : l[i]? = some x) (hy : m[i]? = some y) : x.e = y.e := by
  have h1 : (l.map (·.e))[i]? = some x.e := by rw [List.getElem?_map, hx]; rfl
  have h2 : (m.map (·.e))[i]? = some y.e := by rw [List.getElem?_map, hy]; rfl
  rw [h, h2] at h1
  exact (Option.some.inj h1).symm
end Go.Proofs.YtkdcnhnaiknaaaaGreat

/- loggia/frame: Get. -/
namespace Go.Proofs.YtkdcnhnaiknaaaaGreat
open Go.RowKit

theorem getV_code : ∀ (l : List UInt8) (i k : Nat), getV i l = .error k → k = 6 ∨ k = 20
  | [], i, k, h => by unfold getV at h; injection h with h; omega
  | x :: l, i, k, h => by
    unfold getV at h
    split at h
    · injection h with h; omega
    · split at h
      · injection h with h; omega
      · split at h
        · cases h
        · split at h
          · cases h
          · rename_i e hg
            injection h with h
            subst h
            exact getV_code l (i + 1) _ hg
/-- What a frame is told to be. -/
def GotF (w0 w : World) (res : Except Nat (List UInt8 × List UInt8)) (e : Ending) (w' : World) : Prop := Ext w w' ∧ match res with
  | .ok (p, r) => ∃ P cp A c, e = .returned (.tuple #[.slice P p.length cp, .slice A r.length c, .int .i64 0]) ∧ In8 w' P p.length cp p ∧ In8 w0 A r.length c r
  | .error k => e = .returned (.tuple #[.slice none 0 0, .slice none 0 0, .int .i64 k])
theorem be_snoc (l : List UInt8) (x : UInt8) : be (l ++ [x]) = be l * 256 + x.toNat := by
  unfold be
  rw [List.foldl_append]
  rfl
theorem be_fold : ∀ (l : List UInt8) (s k : Nat), s < 256 ^ k → l.foldl (fun s x => s * 256 + x.toNat) s < 256 ^ (k + l.length)
  | [], s, k, h => h
  | x :: l, s, k, h => by
    have hx := x.toNat_lt
    have h1 : s * 256 + x.toNat < 256 ^ (k + 1) := by rw [Nat.pow_succ]; omega
    have h2 := be_fold l (s * 256 + x.toNat) (k + 1) h1
    rw [List.foldl_cons, List.length_cons, show k + (l.length + 1) = k + 1 + l.length by omega]
    exact h2
theorem be_lt (l : List UInt8) : be l < 256 ^ l.length := by
  have h := be_fold l 0 0 (by decide)
  rw [Nat.zero_add] at h
  exact h
theorem GotF.no {w0 w w' : World} {res : Except Nat (List UInt8 × List UInt8)} {k : Nat} (hE : Ext w w') (h : res = .error k) : GotF w0 w res (.returned (.tuple #[.slice none 0 0, .slice none 0 0, .int .i64 k])) w' := by
  subst h
  exact ⟨hE, rfl⟩
/-- As GotF; the payload lies in a row of the call's own. -/
def GotFB (w0 w : World) (res : Except Nat (List UInt8 × List UInt8)) (e : Ending) (w' : World) : Prop := Ext w w' ∧ match res with
  | .ok (p, r) => ∃ P cp A c base, e = .returned (.tuple #[.slice P p.length cp, .slice A r.length c, .int .i64 0]) ∧ Buf w' base 5 P p.length cp (p.map B8) ∧ In8 w0 A r.length c r
  | .error k => e = .returned (.tuple #[.slice none 0 0, .slice none 0 0, .int .i64 k])
theorem GotFB.no {w0 w w' : World} {res : Except Nat (List UInt8 × List UInt8)} {k : Nat} (hE : Ext w w') (h : res = .error k) : GotFB w0 w res (.returned (.tuple #[.slice none 0 0, .slice none 0 0, .int .i64 k])) w' := by
  subst h
  exact ⟨hE, rfl⟩
set_option maxRecDepth 100000 in
set_option maxHeartbeats 4000000 in
theorem fget_anyB (A : Option Addr) (n c : Nat) (l : List UInt8) (w0 w : World) (h : In8 w0 A n c l) (hw : Ext w0 w) (hle : n ≤ 1000000000) :
    Calls Tryz.prog 152 #[.slice A n c] w fun e w' => GotFB w0 w (getF l) e w' := by
  have hg := get_any A n c l w0 w h hw hle
  have hln := hide h.len
  obtain ⟨Z, hZ⟩ : ∃ Z, Z = getF l := ⟨_, rfl⟩
  rw [← hZ]
  unfold getF at hZ
  cases hv : getV 0 l with
  | error k =>
    rw [hv] at hg hZ
    simp only at hZ
    rcases getV_code l 0 k hv with rfl | rfl
    · rw [if_pos rfl] at hZ
      replace hZ := hide hZ
      replace hg := hide hg
      clear h hv
      go_enter Tryz.func152, Tryz.ntmps152
      go_wp2_with fail
      refine hg.out.mono ?_
      rintro e w1 ⟨hE1, rfl⟩
      go_wp2_with fail
      go_ret3
      exact GotFB.no hE1 hZ.out
    · rw [if_neg (by omega)] at hZ
      replace hZ := hide hZ
      replace hg := hide hg
      clear h hv
      go_enter Tryz.func152, Tryz.ntmps152
      go_wp2_with fail
      refine hg.out.mono ?_
      rintro e w1 ⟨hE1, rfl⟩
      go_wp2_with fail
      go_ret3
      exact GotFB.no hE1 hZ.out
  | ok p =>
    obtain ⟨m, r⟩ := p
    have hm64 := getV_lt64 hv
    have hrl := getV_less hv
    obtain ⟨hd, hhd, hhq⟩ := getV_other l 0 m r [] hv
    have hpre : l.length - r.length = hd.length := by rw [hhd, List.length_append]; omega
    rw [hv] at hg hZ
    simp only at hZ
    unfold Got at hg
    simp only at hg
    replace hg := hide hg
    clear hv hhq
    by_cases hbig : 16777216 < m
    · rw [if_pos hbig] at hZ
      replace hZ := hide hZ
      have hb' : (16777216 : Int) < m := by omega
      clear h
      go_enter Tryz.func152, Tryz.ntmps152
      go_wp2_with fail
      refine hg.out.mono ?_
      rintro e w1 ⟨hE1, A1, c1, rfl, hi1⟩
      go_wp2_with fail
      go_ret3
      exact GotFB.no hE1 hZ.out
    · rw [if_neg hbig] at hZ
      have hb' : ¬ (16777216 : Int) < m := by omega
      have hwm : IntKind.i64.wrap (m : Int) = (m : Int) := by
        simp [IntKind.wrap, IntKind.bits, IntKind.signed]
        omega
      by_cases hsh : r.length < 4 + m
      · rw [if_pos hsh] at hZ
        replace hZ := hide hZ
        have hs' : (r.length : Int) < 4 + (m : Int) := by omega
        clear h
        go_enter Tryz.func152, Tryz.ntmps152
        go_wp2_with fail
        refine hg.out.mono ?_
        rintro e w1 ⟨hE1, A1, c1, rfl, hi1⟩
        go_wp2_with fail
        go_ret3
        exact GotFB.no hE1 hZ.out
      · rw [if_neg hsh] at hZ
        have hs' : ¬ (r.length : Int) < 4 + (m : Int) := by omega
        obtain ⟨hhr, hhi⟩ := h.headk .i64 (k := l.length - r.length) (by have := hln.out; omega) (z := (n : Int) - (r.length : Int)) (by have := hln.out; omega)
        rw [hpre] at hhr hhi
        have hrn : r.length ≤ n := by have := hln.out; omega
        have hrn2 : r.length ≤ 1000000000 := by omega
        replace hZ := hide hZ
        replace hhi := hide hhi
        replace hpre := hide hpre
        replace hhd := hide hhd
        clear h hrl
        go_enter Tryz.func152, Tryz.ntmps152
        go_wp2_with fail
        refine hg.out.mono ?_
        rintro e w1 ⟨hE1, A1, c1, rfl, hi1⟩
        obtain ⟨h4r, h4i⟩ := hi1.headk .i64 (k := 4) (by omega) (z := 4) rfl
        obtain ⟨A2, c2, hpr, hpi⟩ := hi1.subk .i64 .i64 (fr := 4) (k := m) (by omega) (z0 := 4) (z := 4 + (m : Int)) rfl rfl
        obtain ⟨A3, c3, htr, hti⟩ := hi1.fromk .i64 (fr := 4 + m) (by omega) (z := 4 + (m : Int)) (by omega)
        replace h4i := hide h4i
        replace hpi := hide hpi
        replace hti := hide hti
        replace hi1 := hide hi1
        go_wp2_with fail
        go_loopw [7, 9, 43] (fun s7 _ s43 wr => ∃ (i v : Nat), s43 = .int .i64 (i : Int) ∧ i ≤ 4 ∧ s7 = .int .u32 (v : Int) ∧ v < 256 ^ i ∧ Hid (v = be (r.take i)) ∧ wr = w1) (fun _ _ s43 _ => 4 - (intOf s43).toNat)
        case atStart => exact ⟨0, 0, rfl, by omega, rfl, by decide, hide (by simp [be]), rfl⟩
        case round =>
          obtain ⟨i, v, rfl, hi, rfl, hv, hvb, rfl⟩ := hrel
          by_cases hi4 : i < 4
          · obtain ⟨x, hx⟩ : ∃ x, r[i]? = some x := ⟨_, List.getElem?_eq_getElem (by omega)⟩
            have htk : be (r.take (i + 1)) = v * 256 + x.toNat := by rw [take_one2 hx, be_snoc, hvb.out]
            have hx8 := x.toNat_lt
            have hpw : (256 : Nat) ^ i ≤ 256 ^ 3 := Nat.pow_le_pow_right (by omega) (by omega)
            have hv24 : v < 16777216 := by omega
            have hor : bits .or .u32 ((v : Int) * 256) (x.toNat : Int) = ((v * 256 + x.toNat : Nat) : Int) := by
              have h1 := u32_or_nat (v * 256) x.toNat (by omega) (by omega)
              have h2 := Nat.shiftLeft_add_eq_or_of_lt (show x.toNat < 2 ^ 8 by omega) v
              rw [Nat.shiftLeft_eq] at h2
              rw [show (2 : Nat) ^ 8 = 256 from rfl] at h2
              rw [h2, ← h1]
              simp
            have hnext : v * 256 + x.toNat < 256 ^ (i + 1) := by rw [Nat.pow_succ]; omega
            obtain ⟨g, o, hA1, hc⟩ := Cells.at_ (xs := (r.take 4).map B8) (h4i.out.bytes.ext (hw.trans hE1)) (by rw [List.length_map, List.length_take]; omega)
            have hcell := hc i (B8 x) (by rw [List.getElem?_map, List.getElem?_take, if_pos hi4, hx]; rfl)
            unfold B8 at hcell
            subst hA1
            replace htk := hide htk
            replace hnext := hide hnext
            obtain ⟨nx, hnx⟩ : ∃ nx, nx = v * 256 + x.toNat := ⟨_, rfl⟩
            rw [← hnx] at hor htk hnext
            replace hnx := hide hnx
            clear hx hc
            go_wp2_with fail
            refine ⟨⟨i + 1, nx, by go_num, by omega, rfl, hnext.out, hide htk.out.symm, trivial⟩, ?_⟩
            simp [intOf]
            omega
          · obtain rfl : i = 4 := by omega
            have hpl : ((r.drop 4).take m).length = m := by rw [List.length_take, List.length_drop]; omega
            have hhl : (l.take hd.length).length = hd.length := by rw [List.length_take, hhd.out, List.length_append]; omega
            have hdl : (r.drop (4 + m)).length = r.length - (4 + m) := List.length_drop
            have hE0 := hw.trans hE1
            have hpin := hpi.out.ext hE0
            obtain ⟨pl, hpld⟩ : ∃ pl, pl = (r.drop 4).take m := ⟨_, rfl⟩
            obtain ⟨hh, hhhd⟩ : ∃ hh, hh = l.take hd.length := ⟨_, rfl⟩
            rw [← hpld] at hpl hpin
            have hhi2 := hhi.out
            rw [← hhhd] at hhl hhi2
            have hcl := hide (clone_any A2 m c2 pl wr hpl.symm hpin.bytes hpin.nil_ (by omega))
            have hz2 := hZ.out
            rw [hpre.out, ← hhhd, ← hpld, ← hvb.out] at hz2
            replace hz2 := hide hz2
            replace hpld := hide hpld
            replace hhhd := hide hhhd
            replace hpl := hide hpl
            replace hhl := hide hhl
            replace hdl := hide hdl
            have hv32 : v < 4294967296 := hv
            clear hpin
            go_wp2_with fail
            refine hcl.out.mono ?_
            rintro e w3 ⟨P, cp, rfl, hb3, hE3⟩
            have hin3 := hb3.in8
            have hbf3 := hide hb3
            obtain ⟨w4, hw4⟩ : ∃ w4, w4 = w3.alloc (.cells #[.slice A hd.length c, .slice P m cp] 25) := ⟨_, rfl⟩
            have hE4 : Ext w3 w4 := by rw [hw4]; exact (Ext.refl w3).alloc _
            have hr4 : Row w4 w3.heap.size 25 #[.slice A hd.length c, .slice P m cp] := by rw [hw4]; exact Row.new w3 _ _
            have hsm := sum_any (some ⟨w3.heap.size, 0, none⟩) 2 2 [(A, c, hh), (P, cp, pl)] w4 rfl (.inr ⟨w3.heap.size, 0, rfl, fun i v hv => by
                rw [Nat.zero_add]
                refine hr4.cell i ?_
                have e1 := hhl.out
                have e2 := hpl.out
                simpa [e1, e2] using hv⟩) (fun q hq => by
                rcases List.mem_cons.1 hq with rfl | hq
                · have h := (hhi2.ext hE0).ext (hE3.trans hE4)
                  simp only
                  rw [hhl.out]
                  exact h
                · rw [List.mem_singleton.1 hq]
                  have h := hin3.ext hE4
                  simp only
                  rw [hpl.out]
                  exact h) (fun q hq => by
                rcases List.mem_cons.1 hq with rfl | hq
                · simp only; rw [hhl.out]; have := hln.out; have := hpre.out; omega
                · rw [List.mem_singleton.1 hq]; simp only; rw [hpl.out]; omega) (by omega)
            rw [show ([(A, c, hh), (P, cp, pl)].map fun p : Option Addr × Nat × List UInt8 => p.2.2) = [hh, pl] from rfl, show csum 0 [hh, pl] = cnext 0 (hh ++ pl) from cnext_app hh pl] at hsm
            obtain ⟨s, hs⟩ : ∃ s, s = cnext 0 (hh ++ pl) := ⟨_, rfl⟩
            have hz3 := hz2.out
            rw [← hs] at hsm hz3
            have hE14 := hide (hE1.trans (hE3.trans hE4))
            replace hsm := hide hsm
            replace hw4 := hide hw4
            replace hin3 := hide (hin3.ext hE4)
            have hbf4 := hide (hbf3.out.ext hE4)
            replace hs := hide hs
            clear hb3 hr4 hE0 hhi2
            by_cases hsv : s = v
            · subst hsv
              rw [if_pos rfl] at hz3
              replace hz3 := hide hz3
              go_wp2_with fail
              rw [← hw4.out]
              refine hsm.out.mono ?_
              rintro e w5 ⟨rfl, hE5⟩
              have hE15 := hide (hE14.out.trans hE5)
              have hbf5 := hide (hbf4.out.ext hE5)
              go_wp2_with fail
              refine wp_region_text follows (by kernel_rfl) (by kernel_rfl) (fun K hK => ?_)
              go_wp2_with fail
              refine ⟨by kernel_rfl, ?_⟩
              go_wp2_with fail
              go_ret3
              rw [hz3.out]
              exact ⟨hE15.out.drew, P, cp, A3, c3, _, by rw [hpl.out, hdl.out]; rfl, by rw [hpl.out]; exact hbf5.out.drew, by rw [hdl.out]; exact hti.out⟩
            · have hsv' : ¬ (s : Int) = v := by omega
              rw [if_neg hsv] at hz3
              replace hz3 := hide hz3
              go_wp2_with fail
              rw [← hw4.out]
              refine hsm.out.mono ?_
              rintro e w5 ⟨rfl, hE5⟩
              have hE15 := hide (hE14.out.trans hE5)
              go_wp2_with fail
              go_ret3
              exact GotFB.no hE15.out hz3.out
theorem fget_any (A : Option Addr) (n c : Nat) (l : List UInt8) (w0 w : World) (h : In8 w0 A n c l) (hw : Ext w0 w) (hle : n ≤ 1000000000) :
    Calls Tryz.prog 152 #[.slice A n c] w fun e w' => GotF w0 w (getF l) e w' :=
  (fget_anyB A n c l w0 w h hw hle).mono fun e w' hg => by
    obtain ⟨hE, hm⟩ := hg
    refine ⟨hE, ?_⟩
    cases hr : getF l with
    | error k => rw [hr] at hm; exact hm
    | ok q =>
      obtain ⟨p, r⟩ := q
      rw [hr] at hm
      obtain ⟨P, cp, A2, c2, b, he, hb, hi⟩ := hm
      exact ⟨P, cp, A2, c2, he, hb.in8, hi⟩
end Go.Proofs.YtkdcnhnaiknaaaaGreat

