/- loggiaref10: Decode. -/
import Derived.Test.YtohphanbnhiodaaM08
import Derived.Test.YtohphanbnhiodaaM05
import Derived.HandedShaped
import Derived.Handed
import Derived.Test.YtohphanbnhiodaaM02
import Derived.Test.YtohphanbnhiodaaM06
set_option linter.unusedSimpArgs false
set_option linter.unusedVariables false
namespace Go.Proofs.Ytohphanbnhiodaa
open Go.RowKit

set_option maxRecDepth 100000 in
set_option maxHeartbeats 4000000 in
theorem rdecode_any (A : Option Addr) (n c : Nat) (l : List UInt8) (w0 w : World) (h : In8 w0 A n c l) (hw : Ext w0 w) (hle : n ≤ 1000000000) :
    Calls Try.prog 30 #[.slice A n c] w fun e w' => DecP w (decB l) e w' := by
  obtain ⟨W, hW⟩ : ∃ W, W = w.alloc (.cells #[.int .i64 0, .slice none 0 0] 50) := ⟨_, rfl⟩
  have hEW : Ext w W := by rw [hW]; exact (Ext.refl w).alloc _
  obtain ⟨b, hb⟩ : ∃ b, b = w.heap.size := ⟨_, rfl⟩
  have hr : Row W b 50 #[.int .i64 0, .slice none 0 0] := by rw [hW, hb]; exact Row.new w _ _
  have hbw := hide (Nat.le_of_eq hb.symm)
  have hg1 := rget_any A n c l w0 W h (hw.trans hEW) hle
  have hln : l.length ≤ 1000000000 := by rw [← h.len]; exact hle
  obtain ⟨Z, hZ⟩ : ∃ Z, Z = decB l := ⟨_, rfl⟩
  rw [← hZ]
  unfold decB at hZ
  replace hW := hide hW
  replace hb := hide hb
  clear h
  cases hv1 : getV 0 l with
  | error k =>
    rw [hv1] at hg1 hZ
    have hk := getV_err l 0 k hv1
    have hk0 : ((k : Int) != 0) = true := by simp; omega
    have hg := hide hg1
    replace hZ := hide hZ
    clear hv1 hk hg1
    go_enter Try.func30, Try.ntmps30
    go_wp2_with fail
    rw [← hW.out, ← hb.out]
    refine hg.out.mono ?_
    rintro e w1 ⟨hE1, rfl⟩
    have hr1 := hr.ext hE1
    have f1 := fun i => hr1.free i
    have d0 := hr1.cell 0 rfl
    have d1 := hr1.cell 1 rfl
    replace hr1 := hide hr1
    have hE01 := hide (hEW.trans hE1)
    go_wp2_with fail
    obtain ⟨wz, hwz⟩ : ∃ wz, wz = setEv w1 b 0 none 0 0 := ⟨_, rfl⟩; have hk := setEv_row hr1.out 0 none 0 0; rw [← hwz] at hk; have hEz := setEv_ext hE01.out hbw.out 0 none 0 0; rw [← hwz] at hEz; unfold setEv at hwz; rw [← hwz]; have k0 : wz.cell? ⟨b, 0, none⟩ = some (.int .i64 0) := hk.cell 0 rfl; have k1 : wz.cell? ⟨b, 1, none⟩ = some (.slice none 0 0) := hk.cell 1 rfl; clear hwz hk; exact bodyPost_ret (v := .tuple #[.agg #[.int .i64 0, .slice none 0 0], .int .i64 100]) (by simp [results, Try.results30, go_sem, k0, k1]) rfl (DecP.no hEz hZ.out)
  | ok p =>
    obtain ⟨q, r⟩ := p
    have hrl : r.length ≤ 1000000000 := by have := getV_less hv1; omega
    rw [hv1] at hg1 hZ
    simp only at hZ
    have hg := hide hg1
    unfold Got at hg
    simp only at hg
    clear hv1 hg1
    by_cases hq40 : 1099511627776 < q
    · rw [if_pos hq40] at hZ
      have hq' : (1099511627776 : Int) < q := by omega
      replace hZ := hide hZ
      go_enter Try.func30, Try.ntmps30
      go_wp2_with fail
      rw [← hW.out, ← hb.out]
      refine hg.out.mono ?_
      rintro e w1 ⟨hE1, A1, c1, rfl, hi1⟩
      have hr1 := hr.ext hE1
      have f1 := fun i => hr1.free i
      have d0 := hr1.cell 0 rfl
      have d1 := hr1.cell 1 rfl
      replace hr1 := hide hr1
      have hE01 := hide (hEW.trans hE1)
      go_wp2_with fail
      obtain ⟨wz, hwz⟩ : ∃ wz, wz = setEv w1 b 0 none 0 0 := ⟨_, rfl⟩; have hk := setEv_row hr1.out 0 none 0 0; rw [← hwz] at hk; have hEz := setEv_ext hE01.out hbw.out 0 none 0 0; rw [← hwz] at hEz; unfold setEv at hwz; rw [← hwz]; have k0 : wz.cell? ⟨b, 0, none⟩ = some (.int .i64 0) := hk.cell 0 rfl; have k1 : wz.cell? ⟨b, 1, none⟩ = some (.slice none 0 0) := hk.cell 1 rfl; clear hwz hk; exact bodyPost_ret (v := .tuple #[.agg #[.int .i64 0, .slice none 0 0], .int .i64 100]) (by simp [results, Try.results30, go_sem, k0, k1]) rfl (DecP.no hEz hZ.out)
    · rw [if_neg hq40] at hZ
      have hq' : ¬ (1099511627776 : Int) < q := by omega
      have hwq : IntKind.i64.wrap (q : Int) = (q : Int) := by
        simp [IntKind.wrap, IntKind.bits, IntKind.signed]
        omega
      cases hv2 : getV 0 r with
      | error k =>
        rw [hv2] at hZ
        have hk := getV_err r 0 k hv2
        have hk0 : ((k : Int) != 0) = true := by simp; omega
        have hg2 := fun A c W h hE => rget_any A r.length c r w0 W h hE hrl
        rw [hv2] at hg2
        replace hg2 := hide hg2
        replace hZ := hide hZ
        clear hv2 hk
        go_enter Try.func30, Try.ntmps30
        go_wp2_with fail
        rw [← hW.out, ← hb.out]
        refine hg.out.mono ?_
        rintro e w1 ⟨hE1, A1, c1, rfl, hi1⟩
        have hgg := hide (hg2.out A1 c1 w1 hi1 ((hw.trans hEW).trans hE1))
        go_wp2_with fail
        refine hgg.out.mono ?_
        rintro e w2 ⟨hE2, rfl⟩
        have hr1 := hr.ext (hE1.trans hE2)
        have f1 := fun i => hr1.free i
        have d0 := hr1.cell 0 rfl
        have d1 := hr1.cell 1 rfl
        replace hr1 := hide hr1
        have hE01 := hide (hEW.trans (hE1.trans hE2))
        go_wp2_with fail
        obtain ⟨wz, hwz⟩ : ∃ wz, wz = setEv w2 b 0 none 0 0 := ⟨_, rfl⟩; have hk := setEv_row hr1.out 0 none 0 0; rw [← hwz] at hk; have hEz := setEv_ext hE01.out hbw.out 0 none 0 0; rw [← hwz] at hEz; unfold setEv at hwz; rw [← hwz]; have k0 : wz.cell? ⟨b, 0, none⟩ = some (.int .i64 0) := hk.cell 0 rfl; have k1 : wz.cell? ⟨b, 1, none⟩ = some (.slice none 0 0) := hk.cell 1 rfl; clear hwz hk; exact bodyPost_ret (v := .tuple #[.agg #[.int .i64 0, .slice none 0 0], .int .i64 100]) (by simp [results, Try.results30, go_sem, k0, k1]) rfl (DecP.no hEz hZ.out)
      | ok p =>
        obtain ⟨m, r2⟩ := p
        have hrl2 : r2.length ≤ 1000000000 := by have := getV_less hv2; omega
        rw [hv2] at hZ
        simp only at hZ
        have hg2 := fun A c W h hE => rget_any A r.length c r w0 W h hE hrl
        rw [hv2] at hg2
        unfold Got at hg2
        simp only at hg2
        replace hg2 := hide hg2
        clear hv2
        by_cases hm64 : 64 < m
        · rw [if_pos hm64] at hZ
          have hm' : (64 : Int) < m := by omega
          replace hZ := hide hZ
          go_enter Try.func30, Try.ntmps30
          go_wp2_with fail
          rw [← hW.out, ← hb.out]
          refine hg.out.mono ?_
          rintro e w1 ⟨hE1, A1, c1, rfl, hi1⟩
          have hgg := hide (hg2.out A1 c1 w1 hi1 ((hw.trans hEW).trans hE1))
          go_wp2_with fail
          refine hgg.out.mono ?_
          rintro e w2 ⟨hE2, A2, c2, rfl, hi2⟩
          have hr1 := hr.ext (hE1.trans hE2)
          have f1 := fun i => hr1.free i
          have d0 := hr1.cell 0 rfl
          have d1 := hr1.cell 1 rfl
          replace hr1 := hide hr1
          have hE01 := hide (hEW.trans (hE1.trans hE2))
          go_wp2_with fail
          obtain ⟨wz, hwz⟩ : ∃ wz, wz = setEv w2 b 0 none 0 0 := ⟨_, rfl⟩; have hk := setEv_row hr1.out 0 none 0 0; rw [← hwz] at hk; have hEz := setEv_ext hE01.out hbw.out 0 none 0 0; rw [← hwz] at hEz; unfold setEv at hwz; rw [← hwz]; have k0 : wz.cell? ⟨b, 0, none⟩ = some (.int .i64 0) := hk.cell 0 rfl; have k1 : wz.cell? ⟨b, 1, none⟩ = some (.slice none 0 0) := hk.cell 1 rfl; clear hwz hk; exact bodyPost_ret (v := .tuple #[.agg #[.int .i64 0, .slice none 0 0], .int .i64 100]) (by simp [results, Try.results30, go_sem, k0, k1]) rfl (DecP.no hEz hZ.out)
        · rw [if_neg hm64] at hZ
          have hm' : ¬ (64 : Int) < m := by omega
          have hwm : IntKind.i64.wrap (m : Int) = (m : Int) := by
            simp [IntKind.wrap, IntKind.bits, IntKind.signed]
            omega
          replace hZ := hide hZ
          go_enter Try.func30, Try.ntmps30
          go_wp2_with fail
          rw [← hW.out, ← hb.out]
          refine hg.out.mono ?_
          rintro e w1 ⟨hE1, A1, c1, rfl, hi1⟩
          have hgg := hide (hg2.out A1 c1 w1 hi1 ((hw.trans hEW).trans hE1))
          go_wp2_with fail
          refine hgg.out.mono ?_
          rintro e w2 ⟨hE2, A2, c2, rfl, hi2⟩
          have hr1 := hr.ext (hE1.trans hE2)
          replace hr1 := hide hr1
          have hE01 := hide (hEW.trans (hE1.trans hE2))
          go_wp2_with fail
          obtain ⟨g, hgd⟩ : ∃ g, g = w2.heap.size := ⟨_, rfl⟩
          obtain ⟨W3, hW3⟩ : ∃ W3, W3 = w2.alloc (.cells #[.int .i64 (q : Int), .slice none 0 0] 50) := ⟨_, rfl⟩
          have hE23 : Ext w2 W3 := by rw [hW3]; exact (Ext.refl w2).alloc _
          have hE03 : Ext w W3 := hE01.out.trans hE23
          have hr3 : Row W3 b 50 #[.int .i64 0, .slice none 0 0] := hr1.out.ext hE23
          have hg3 : Row W3 g 50 #[.int .i64 (q : Int), .slice none 0 0] := by rw [hW3, hgd]; exact Row.new w2 _ _
          have hbg : b < g := by rw [hgd]; exact hr1.out.lt
          have hwg : w.heap.size ≤ g := by rw [hgd]; exact hE01.out.size
          have hsz3 : g + 1 ≤ W3.heap.size := hg3.lt
          rw [← hW3, ← hgd]
          replace hgd := hide hgd
          clear hr1 hE01 hgg hg hg2 hW3
          go_loopw [8, 11] (fun s8 s11 wr => ∃ (i : Nat) (read : List EvC) (rr : List UInt8) (B A3 : Option Addr) (d c3 : Nat), s11 = .int .i64 (i : Int) ∧ s8 = .slice A3 rr.length c3 ∧ i ≤ m ∧ rr.length ≤ 1000000000 ∧ Hid (i = read.length) ∧ Hid (getEs m r2 = aheadE (read.map (·.e)) (getEs (m - i) rr)) ∧ Hid (Row wr b 50 #[.int .i64 0, .slice none 0 0]) ∧ Hid (Row wr g 50 #[.int .i64 (q : Int), .slice B i d]) ∧ Hid (EvsOwn wr (g + 1) B d read) ∧ Hid (In8 w0 A3 rr.length c3 rr) ∧ Hid (Ext w wr)) (fun _ s11 _ => m - (intOf s11).toNat)
          case atStart => exact ⟨0, [], r2, none, A2, 0, c2, rfl, rfl, by omega, hrl2, hide rfl, hide (by rw [List.map_nil, aheadE_nil]; rfl), hide hr3, hide hg3, hide (EvsOwn.nil _ _), hide hi2, hide hE03⟩
          case round =>
            obtain ⟨i, read, rr, B, A3, d, c3, rfl, rfl, hi, hrr, hil, hgf, hrowb, hrow, hown, hin8, hE⟩ := hrel
            have q0 : wr.cell? ⟨g, 0, none⟩ = some (.int .i64 (q : Int)) := hrow.out.cell 0 rfl
            have q1 : wr.cell? ⟨g, 1, none⟩ = some (.slice B i d) := hrow.out.cell 1 rfl
            by_cases him : i < m
            · have hi1 : (i : Int) < m := by omega
              have hge := revget_any A3 rr.length c3 rr w0 wr hin8.out (hw.trans hE.out) hrr
              cases hev : getE rr with
              | none =>
                have hnone := hide (getEs_no hgf.out him hev)
                rw [hev] at hge
                replace hge := hide hge
                clear hev
                go_wp2_with fail
                refine hge.out.mono ?_
                rintro e w4 ⟨hE4, rfl⟩
                have hr5 := (hrowb.out.ext hE4).alloc (.cells #[.int .i64 0, .slice none 0 0] 55)
                have f5 := fun i => hr5.free i
                have e5 := hr5.cell 0 rfl
                have e6 := hr5.cell 1 rfl
                have hE05 := hide ((hE.out.trans hE4).alloc (.cells #[.int .i64 0, .slice none 0 0] 55))
                have hzn : Hid (Z = none) := hide (by rw [hZ.out, hnone.out])
                replace hr5 := hide hr5
                go_wp2_with fail
                obtain ⟨wz, hwz⟩ : ∃ wz, wz = setEv (w4.alloc (.cells #[.int .i64 0, .slice none 0 0] 55)) b 0 none 0 0 := ⟨_, rfl⟩; have hk := setEv_row hr5.out 0 none 0 0; rw [← hwz] at hk; have hEz := setEv_ext hE05.out hbw.out 0 none 0 0; rw [← hwz] at hEz; unfold setEv at hwz; rw [← hwz]; have k0 : wz.cell? ⟨b, 0, none⟩ = some (.int .i64 0) := hk.cell 0 rfl; have k1 : wz.cell? ⟨b, 1, none⟩ = some (.slice none 0 0) := hk.cell 1 rfl; clear hwz hk; exact bodyPost_ret (v := .tuple #[.agg #[.int .i64 0, .slice none 0 0], .int .i64 100]) (by simp [results, Try.results30, go_sem, k0, k1]) rfl (DecP.no hEz hzn.out)
              | some p =>
                obtain ⟨ev, r1⟩ := p
                have hless := getE_less hev
                rw [hev] at hge
                unfold GotE at hge
                simp only at hge
                replace hge := hide hge
                have hstep := getEs_step hgf.out him hev
                clear hev
                go_wp2_with fail
                refine hge.out.mono ?_
                rintro e w4 ⟨hE4, B4, d4, A4, c4, rfl, hev4, hi4, hei⟩
                unfold Ev.val
                obtain ⟨w5, hw5⟩ : ∃ w5, w5 = w4.alloc (.cells #[.int .i64 ev.at_, .slice B4 ev.fs.length d4] 55) := ⟨_, rfl⟩
                have hE45 : Ext w4 w5 := by rw [hw5]; exact (Ext.refl w4).alloc _
                have hr5 : Row w5 w4.heap.size 55 #[.int .i64 ev.at_, .slice B4 ev.fs.length d4] := by rw [hw5]; exact Row.new w4 _ _
                have hro5 := hrow.out.ext (hE4.trans hE45)
                have hrb5 := hrowb.out.ext (hE4.trans hE45)
                have ho5 := hown.out.ext (hE4.trans hE45)
                have hE05 := (hE.out.trans hE4).trans hE45
                have hgle : g + 1 ≤ wr.heap.size := hrow.out.lt
                have hnew : (⟨ev, B4, d4⟩ : EvC).Own w5 (g + 1) := ⟨hE45.owns (owns_lower hev4.1 hgle), hev4.2⟩
                have x0 := hr5.cell 0 rfl
                have x1 := hr5.cell 1 rfl
                have x2 := hro5.cell 1 rfl
                have hsz5 : g + 1 ≤ w5.heap.size := hro5.lt
                have hown5 : w5.ownsRow (g + 1) 55 2 (.slice B i d) i (ecells read) := by have := ho5.own; rw [← hil.out] at this; exact this
                rw [hw5] at x0 x1 x2 hsz5 hown5
                replace hw5 := hide hw5
                replace hnew := hide hnew
                replace ho5 := hide ho5
                replace hstep := hide hstep
                clear q0 q1
                go_wp2_with (at_builtin; refine wpList_appZ (us := [.int .i64 ev.at_, .slice B4 ev.fs.length d4]) (m := 1) elemEv hown5 (by simp) (.tmp 60) (.tmp 62) rfl rfl rfl rfl rfl (one_of rfl) (by omega) hsz5 (fun A8 c8 w8 ho8 hg8 hl8 => ?_); have hne8 : ∀ k, (Value.slice B i d).ownBlock = some k → g + 1 ≤ k := (fun k hk => by obtain ⟨_, _, hb⟩ := owns_row hown5 hk; exact hb); rw [← hw5.out] at hg8 hown5; have hr8 := Row.grown hro5 hg8 (fun e => by have := hne8 _ e.symm; omega); have hb8 := Row.grown hrb5 hg8 (fun e => by have := hne8 _ e.symm; omega); have f8 := hr8.free 1; have e8 : w8.cell? ⟨g, 1, none⟩ = some (.slice B i d) := hr8.cell 1 rfl; have hr8h := hide hr8; have hb8h := hide hb8; have ho8h := hide ho8; have hg8h := hide hg8; have hown5h := hide hown5; have hE08 := hide (hE05.grown hg8 fun k hk => by have := hne8 k hk; omega); clear hr8 hb8 ho8 hg8 hl8 hown5)
                have hne9 : (Value.slice A8 (i + 1) c8).ownBlock ≠ some g := fun e => by
                  obtain ⟨_, _, hb⟩ := owns_row ho8h.out e
                  omega
                have hch : Chg (fun k' => (Value.slice B i d).ownBlock = some k') w5 w8 := Chg.of_grown hg8h.out fun k' _ hk' => hk'
                have hcs : Chg (fun k' => k' = g) w8 (w8.setCell ⟨g, 1, none⟩ (.slice A8 (i + 1) c8)) := Chg.of_set w8 _ rfl
                have hun : ∀ k cs, Row w5 k 52 cs → ¬ (Value.slice B i d).ownBlock = some k := fun k cs hr => owns_unlike hown5h.out hr (by decide)
                have hun2 : ∀ k cs, Row w8 k 52 cs → ¬ k = g := fun k cs hr hk => Row.unlike hr hr8h.out (by decide) hk
                have hlen : (read ++ [(⟨ev, B4, d4⟩ : EvC)]).length = i + 1 := by rw [List.length_append, ← hil.out]; rfl
                refine ⟨⟨i + 1, read ++ [⟨ev, B4, d4⟩], r1, A8, A4, c8, c4, by go_num, rfl, by omega, by omega, hide hlen.symm, hide (by rw [List.map_append]; exact hstep.out), hide (hb8h.out.away (p := ⟨g, 1, none⟩) (by simp only; omega) _), hide (hr8h.out.put 1 _), hide ⟨?_, ?_, ?_⟩, hide hi4, hide (hE08.out.setCell (p := ⟨g, 1, none⟩) hwg _)⟩, ?_⟩
                · rw [hlen, ecells_snoc]
                  exact owns_set ho8h.out hne9 _
                · intro x hx
                  rcases List.mem_append.1 hx with hx | hx
                  · exact EvC.Own.chg (EvC.Own.chg (ho5.out.each x hx) hch hun) hcs hun2
                  · rw [List.mem_singleton.1 hx]
                    exact EvC.Own.chg (EvC.Own.chg hnew.out hch hun) hcs hun2
                · intro x hx
                  rcases List.mem_append.1 hx with hx | hx
                  · exact ho5.out.ints x hx
                  · rw [List.mem_singleton.1 hx]; exact hei
                · simp [intOf]; omega
            · obtain rfl : i = m := by omega
              have hfin := getEs_fin hgf.out (Nat.le_refl _)
              have hzz := hZ.out
              rw [hfin] at hzz
              simp only at hzz
              obtain ⟨es, hes⟩ : ∃ es, es = read.map (·.e) := ⟨_, rfl⟩
              rw [← hes] at hzz
              have hesl : es.length = i := by rw [hes, List.length_map]; exact hil.out.symm
              by_cases hrr0 : rr = []
              · subst hrr0
                have hck := rckbatch_any ⟨(q : Int), read, B, d⟩ wr ⟨hown.out.ok, by simp only; have := hil.out; omega, by unfold I64ok'; simp only; omega⟩
                unfold BtC.val BtC.bt at hck
                simp only at hck
                rw [← hes, ← hil.out] at hck
                have hcB := @checkB_ok ⟨(q : Int), es⟩
                obtain ⟨j, hj⟩ : ∃ j, j = checkB ⟨(q : Int), es⟩ := ⟨_, rfl⟩
                rw [← hj] at hck hzz hcB
                replace hj := hide hj
                replace hck := hide hck
                replace hes := hide hes
                by_cases hj0 : j = 0
                · subst hj0
                  obtain ⟨_, _, _, _, hs1, hs2⟩ := hcB rfl
                  rw [if_pos ⟨rfl, rfl⟩] at hzz
                  replace hzz := hide hzz
                  clear hcB
                  go_wp2_with fail
                  refine hck.out.mono ?_
                  rintro e w4 ⟨rfl, hE4⟩
                  have hr4 := hrowb.out.ext hE4
                  have f4 := fun k => hr4.free k
                  have g0 := hE4.cell q0
                  have g1 := hE4.cell q1
                  have g2 := hr4.cell 0 rfl
                  have g3 := hr4.cell 1 rfl
                  replace hr4 := hide hr4
                  have hE04 := hide (hE.out.trans hE4)
                  have ho4 := hide (hown.out.ext hE4)
                  clear q0 q1
                  go_wp2_with fail
                  obtain ⟨wz, hwz⟩ : ∃ wz, wz = setEv w4 b (q : Int) B i d := ⟨_, rfl⟩
                  have hk := setEv_row hr4.out (q : Int) B i d
                  have hcz := (EvsOwn.chg ho4.out (setEv_chg w4 b (q : Int) B i d) (fun k _ _ _ _ hb h => by omega)).lower (b := w.heap.size) (by omega)
                  have hEz := setEv_ext hE04.out hbw.out (q : Int) B i d
                  rw [← hwz] at hk hcz hEz
                  unfold setEv at hwz
                  rw [← hwz]
                  have k0 : wz.cell? ⟨b, 0, none⟩ = some (.int .i64 (q : Int)) := hk.cell 0 rfl
                  have k1 : wz.cell? ⟨b, 1, none⟩ = some (.slice B i d) := hk.cell 1 rfl
                  clear hwz hk
                  exact bodyPost_ret (v := .tuple #[.agg #[.int .i64 (q : Int), .slice B i d], .int .i64 0]) (by simp [results, Try.results30, go_sem, k0, k1]) rfl (by rw [hzz.out]; exact ⟨hEz, read, B, d, hes.out, by rw [← hil.out], hcz, by rw [← hil.out]; omega, hs1, hs2⟩)
                · have hj0' : ¬ (j : Int) = 0 := by omega
                  have hzn : Hid (Z = none) := hide (by rw [hzz, if_neg (fun h => hj0 h.2)])
                  clear hzz
                  go_wp2_with fail
                  refine hck.out.mono ?_
                  rintro e w4 ⟨rfl, hE4⟩
                  have hr4 := hrowb.out.ext hE4
                  have f4 := fun k => hr4.free k
                  have g2 := hr4.cell 0 rfl
                  have g3 := hr4.cell 1 rfl
                  replace hr4 := hide hr4
                  have hE04 := hide (hE.out.trans hE4)
                  clear q0 q1
                  go_wp2_with fail
                  obtain ⟨wz, hwz⟩ : ∃ wz, wz = setEv w4 b 0 none 0 0 := ⟨_, rfl⟩; have hk := setEv_row hr4.out 0 none 0 0; rw [← hwz] at hk; have hEz := setEv_ext hE04.out hbw.out 0 none 0 0; rw [← hwz] at hEz; unfold setEv at hwz; rw [← hwz]; have k0 : wz.cell? ⟨b, 0, none⟩ = some (.int .i64 0) := hk.cell 0 rfl; have k1 : wz.cell? ⟨b, 1, none⟩ = some (.slice none 0 0) := hk.cell 1 rfl; clear hwz hk; exact bodyPost_ret (v := .tuple #[.agg #[.int .i64 0, .slice none 0 0], .int .i64 100]) (by simp [results, Try.results30, go_sem, k0, k1]) rfl (DecP.no hEz hzn.out)
              · have hzn : Hid (Z = none) := hide (by rw [hzz, if_neg (fun h => hrr0 h.1)])
                have hpos : (0 : Int) < rr.length := by have := List.length_pos_iff.2 hrr0; omega
                have hr4 := hrowb.out
                have f4 := fun k => hr4.free k
                have g2 := hr4.cell 0 rfl
                have g3 := hr4.cell 1 rfl
                replace hr4 := hide hr4
                clear hzz
                go_wp2_with fail
                obtain ⟨wz, hwz⟩ : ∃ wz, wz = setEv wr b 0 none 0 0 := ⟨_, rfl⟩; have hk := setEv_row hr4.out 0 none 0 0; rw [← hwz] at hk; have hEz := setEv_ext hE.out hbw.out 0 none 0 0; rw [← hwz] at hEz; unfold setEv at hwz; rw [← hwz]; have k0 : wz.cell? ⟨b, 0, none⟩ = some (.int .i64 0) := hk.cell 0 rfl; have k1 : wz.cell? ⟨b, 1, none⟩ = some (.slice none 0 0) := hk.cell 1 rfl; clear hwz hk; exact bodyPost_ret (v := .tuple #[.agg #[.int .i64 0, .slice none 0 0], .int .i64 100]) (by simp [results, Try.results30, go_sem, k0, k1]) rfl (DecP.no hEz hzn.out)
end Go.Proofs.Ytohphanbnhiodaa

/- What came in: structs, rows of structs; the world's shape kept. -/
namespace Go.Proofs.Ytohphanbnhiodaa
open Go.ChangeShapes Go.WideShapes Go.Deep Go.RowKit

section
variable {H : Type} {enc : TypeId × Value → H} {w : World} {base : Nat} {spare : Nat → Bool} {held : Bool}
/-- A struct's fields, each of one cell. -/
theorem in_fields {t : TypeId} {fs : Array Field} {tys : Array TypeId} {fuel : Nat} {cs : List Value} {y : DataW H × List MemPlace} (hfs : Try.prog.underlying t = some (.struct fs)) (hone : oneCellFields Try.prog fs = true) (hty : fs.map Field.type = tys)
    (h : DataW.trod enc Try.prog w base spare held fuel t cs = some y) : ∃ n, ∀ (j : Nat) (t : TypeId) (v : Value), tys[j]? = some t → cs[j]? = some v → ∃ z, DataW.trod enc Try.prog w base spare held n t [v] = some z := by
  obtain ⟨ys, n, hn, hy, hlen, hyl, hf⟩ := DataW.trod_struct hfs h
  refine ⟨n, fun j t v hj hv => ?_⟩
  rw [← hty, Array.getElem?_map] at hj
  obtain ⟨f, hfj, rfl⟩ := Option.map_eq_some_iff.1 hj
  obtain ⟨ho, hk⟩ := hone_of hone j f hfj
  have h1 := hf j f hfj
  have hjl : j < cs.length := (List.getElem?_eq_some_iff.1 hv).1
  rw [ho, hk, List.drop_eq_getElem_cons hjl] at h1
  have hv2 : cs[j] = v := by rw [List.getElem?_eq_getElem hjl] at hv; simpa using hv
  rw [hv2] at h1
  have hjy : j < ys.length := by rw [hyl]; exact (Array.getElem?_eq_some_iff.1 hfj).1
  rw [List.getElem?_eq_getElem hjy] at h1
  exact ⟨_, h1⟩
theorem flat_len_of {α : Type} {k : Nat} {cellsA : α → List Value} (hlen : ∀ x, (cellsA x).length = k) : ∀ xs : List α, (xs.flatMap cellsA).length = xs.length * k
  | [] => by simp
  | x :: xs => by rw [List.flatMap_cons, List.length_append, hlen, flat_len_of hlen xs, List.length_cons, Nat.add_mul, Nat.one_mul, Nat.add_comm]
theorem flat_get_of {α : Type} {k : Nat} {cellsA : α → List Value} (hlen : ∀ x, (cellsA x).length = k) : ∀ (xs : List α) (i : Nat) (x : α) (j : Nat), xs[i]? = some x → j < k → (xs.flatMap cellsA)[i * k + j]? = (cellsA x)[j]?
  | [], i, x, j, h, _ => by simp at h
  | y :: xs, 0, x, j, h, hj => by
    obtain rfl : y = x := by simpa using h
    rw [List.flatMap_cons, List.getElem?_append_left (by rw [hlen]; omega), Nat.zero_mul, Nat.zero_add]
  | y :: xs, i + 1, x, j, h, hj => by
    have h' : xs[i]? = some x := by simpa using h
    rw [List.flatMap_cons, List.getElem?_append_right (by rw [hlen, Nat.add_mul, Nat.one_mul]; omega), hlen, show (i + 1) * k + j - k = i * k + j by rw [Nat.add_mul, Nat.one_mul]; omega]
    exact flat_get_of hlen xs i x j h' hj
/-- A slice that came in: the row of its elements. -/
theorem in_row_of {t e : TypeId} {k fuel : Nat} {v : Value} {x : DataW H × List MemPlace} {α : Type} {cellsA : α → List Value} {Q : α → Prop} (ht : Try.prog.underlying t = some (.slice e)) (hc : Try.prog.cellsOf e = k) (hk0 : 0 < k) (hlen : ∀ x, (cellsA x).length = k)
    (hel : ∀ (fuel : Nat) (cs : List Value) (y : DataW H × List MemPlace), cs.length = k → DataW.trod enc Try.prog w base spare held fuel e cs = some y → ∃ x, Q x ∧ cellsA x = cs) (h : DataW.trod enc Try.prog w base spare held fuel t [v] = some x) :
    ∃ (A : Option Addr) (c : Nat) (xs : List α), v = .slice A xs.length c ∧ Cells w A (xs.flatMap cellsA) ∧ (xs ≠ [] → ∀ a, A = some a → a.block < w.heap.size ∧ a.spot = none) ∧ xs.length ≤ c ∧ xs.length ≤ 9223372036854775807 ∧ ∀ x ∈ xs, Q x := by
  rcases open_slice ht h with ⟨hcs, _⟩ | ⟨a, m, c, k', n, D, Pl, hcs, hb, hl, hm, hk, hx, hi⟩
  · obtain rfl : v = .slice none 0 0 := by simpa using hcs
    exact ⟨none, 0, [], rfl, .inl rfl, fun h => absurd rfl h, Nat.le_refl _, by show 0 ≤ _; omega, nofun⟩
  · obtain rfl : v = .slice (some a) m c := by simpa using hcs
    rw [hc] at hi
    have hlk : m ≤ k' := by rw [hk]; split <;> omega
    obtain ⟨xs, hpl, hps⟩ := list_of (Q := fun i (p : α) => Q p ∧ ∀ j v, (cellsA p)[j]? = some v → w.cell? ((a.add (i * k)).add j) = some v) m fun i hil => by
      obtain ⟨cs, hc, ht⟩ := hi i (by omega)
      obtain ⟨_, hcl, hat⟩ := World.cells?_some hc
      obtain ⟨p, hp, rfl⟩ := hel _ _ _ hcl ht
      exact ⟨p, hp, fun j v hv => by rw [hat j (by have := (List.getElem?_eq_some_iff.1 hv).1; omega)]; exact hv⟩
    subst hpl
    have hat : ∀ i v, (xs.flatMap cellsA)[i]? = some v → w.cell? (a.add i) = some v := fun i v hv => by
      have hil : i < (xs.flatMap cellsA).length := (List.getElem?_eq_some_iff.1 hv).1
      rw [flat_len_of hlen] at hil
      have hdiv : i / k < xs.length := Nat.div_lt_of_lt_mul (by rw [Nat.mul_comm]; exact hil)
      have hg := flat_get_of hlen xs (i / k) xs[i / k] (i % k) (List.getElem?_eq_getElem hdiv) (Nat.mod_lt _ hk0)
      have hii : i / k * k + i % k = i := Nat.div_add_mod' i k
      rw [hii, hv] at hg
      have := (hps (i / k) _ (List.getElem?_eq_getElem hdiv)).2 (i % k) v hg.symm
      rw [Addr.add_add, hii] at this
      exact this
    have hlt : xs ≠ [] → a.block < w.heap.size ∧ a.spot = none := fun hne => by
      have h0 : 0 < (xs.flatMap cellsA).length := by
        rw [flat_len_of hlen]
        exact Nat.mul_pos (List.length_pos_iff.2 hne) hk0
      have := hat 0 _ (List.getElem?_eq_getElem h0)
      have := cell_lt this
      simpa [Addr.add] using this
    refine ⟨some a, c, xs, rfl, ?_, fun hne b hb => by cases hb; exact hlt hne, hl, by unfold maxLen at hm; omega, fun p hp => ?_⟩
    · by_cases hne : xs = []
      · rw [hne]; exact .inl rfl
      · obtain ⟨b, o, s⟩ := a
        obtain rfl : s = none := (hlt hne).2
        exact .inr ⟨b, o, rfl, fun i v hv => by have := hat i v hv; rw [Addr.add_lit] at this; exact this⟩
    · obtain ⟨i, hil, rfl⟩ := List.mem_iff_getElem.1 hp
      exact (hps i _ (List.getElem?_eq_getElem hil)).1
end
section
variable {H : Type} {enc : TypeId × Value → H}
/-- A condition on the first world, and its shape, handed to the walk. -/
theorem handed_shaped {a : Assume} {C : Checked} {os : Os} {f : FuncId} {fn : Func} {s : ChangeSpec} {conds : List PathCond} {apart fresh handsOn again : Bool} {X : World → Array Value → Prop}
    (hX : ∀ (w w' : World) (args : Array Value), w.heap = w'.heap → X w args → X w' args)
    (own : ownKnob C.prog.godebug = none) (started : os.Started) (noInit : C.prog.inits.idxOf? f = none) (hfn : C.prog.funcs[f]? = some fn)
    (witness : ∃ (w : World) (tape : Tape) (i : Input), w.os = os ∧ (w.forCall tape i).Shaped C.prog ∧ i.vars = [] ∧ Input.okWide C.prog (w.forCall tape i) .any w.heap.size f i ∧
      ((s.pre enc C.prog fn conds apart (w.forCall tape i).memory i.args ∧ X (w.forCall tape i).memory i.args) ∧ sizedMet enc C.prog fn (OpenSpec.ofChange s) apart (w.forCall tape i).memory i.args) ∧ a.holds C.prog (lone (Frame.enter C.prog f i.args .normal) [] (w.forCall tape i)))
    (contract : ∀ (W : World) (base : Nat) (args : Array Value) (ds gs : List (DataW H)) (before : List MemPlace),
      (∀ (j : Nat) t v, fn.params[j]? = some t → args[j]? = some v → Value.okWide C.prog W .any base t v) →
      DataW.Whole enc C.prog fn.params.toList s.vars apart W args.toList ds gs before → X W args → W.ShapedOpen C.prog →
      Calls C.prog f args W fun e W' => ∃ v, e = .returned v ∧ s.post enc C.prog fn apart fresh handsOn again W args v W') :
    ReturnsInHanded a C os f .any (fun w args => (s.pre enc C.prog fn conds apart w args ∧ X w args) ∧ sizedMet enc C.prog fn (OpenSpec.ofChange s) apart w args) (s.post enc C.prog fn apart fresh handsOn again) := by
  refine returnsInHanded_of_calls own started noInit witness ?_
  rintro w tape i _ hshape _ ⟨_, _, _, fn', hfn', _, _, _, _, hval⟩ ⟨⟨⟨ds, gs, before, hw, _⟩, hx⟩, _⟩ _
  obtain rfl : fn' = fn := Option.some.inj (hfn'.symm.trans hfn)
  refine (contract (w.forCall tape i) w.heap.size i.args ds gs before hval (DataW.Whole.of_heap (by rfl) hw) (hX _ _ _ (by rfl) hx) hshape).mono fun e W' ⟨v, he, hp⟩ => ?_
  subst he
  exact ChangeSpec.post_blind hp
end
end Go.Proofs.Ytohphanbnhiodaa

/- loggiaref10: SameBatch; loggiaref15: SameBatches, at alike ones. -/
namespace Go.Proofs.Ytohphanbnhiodaa
open Go.RowKit

def bcells (l : List BtC) : List Value := l.flatMap BtC.cells
theorem bcells_len (l : List BtC) : (bcells l).length = l.length * 2 := flat_len_of (cellsA := BtC.cells) (k := 2) (fun _ => rfl) l
theorem bcells_snoc (l : List BtC) (x : BtC) : bcells (l ++ [x]) = bcells l ++ x.cells := by
  unfold bcells
  rw [List.flatMap_append]
  simp
theorem bcells_at {w : World} {A : Option Addr} {l : List BtC} (h : Cells w A (bcells l)) {i : Nat} {x : BtC} (hx : l[i]? = some x) : ∃ g o, A = some ⟨g, o, none⟩ ∧ w.cell? ⟨g, o + i * 2, none⟩ = some (.int .i64 x.seq) ∧ w.cell? ⟨g, o + i * 2 + 1, none⟩ = some (.slice x.A x.l.length x.c) := by
  have hi := (List.getElem?_eq_some_iff.1 hx).1
  obtain ⟨g, o, hA, hc⟩ := h.at_ (by rw [bcells_len]; omega)
  refine ⟨g, o, hA, ?_, ?_⟩
  · exact hc (i * 2 + 0) _ (by unfold bcells; rw [flat_get_of (cellsA := BtC.cells) (k := 2) (fun _ => rfl) l i x 0 hx (by omega)]; rfl)
  · rw [Nat.add_assoc]
    exact hc (i * 2 + 1) _ (by unfold bcells; rw [flat_get_of (cellsA := BtC.cells) (k := 2) (fun _ => rfl) l i x 1 hx (by omega)]; rfl)
/-- A row of batches lies at A. -/
structure BsOk (w : World) (A : Option Addr) (l : List BtC) : Prop where
  cells : Cells w A (bcells l)
  each : ∀ x ∈ l, x.Ok w
theorem BsOk.ext {w w1 : World} {A : Option Addr} {l : List BtC} (h : BsOk w A l) (hE : Ext w w1) : BsOk w1 A l := ⟨h.cells.ext hE, fun x hx => (h.each x hx).ext hE⟩
theorem evs_alike {l m : List EvC} {i : Nat} {x y : EvC} (h : l.map (·.e) = m.map (·.e)) (hx : l[i]? = some x) (hy : m[i]? = some y) : x.e = y.e := by
  have h1 : (l.map (·.e))[i]? = some x.e := by rw [List.getElem?_map, hx]; rfl
  have h2 : (m.map (·.e))[i]? = some y.e := by rw [List.getElem?_map, hy]; rfl
  rw [h, h2] at h1
  exact (Option.some.inj h1).symm
set_option maxRecDepth 100000 in
set_option maxHeartbeats 4000000 in
theorem samebatch_any (b1 b2 : BtC) (w : World) (h1 : b1.Ok w) (h2 : b2.Ok w) (hb : b1.bt = b2.bt) :
    Calls Try.prog 31 #[b1.val, b2.val] w fun en w' => en = .returned (.bool true) ∧ Ext w w' := by
  obtain ⟨seq, l, A, c⟩ := b1
  obtain ⟨seq2, m, B, c2⟩ := b2
  unfold BtC.bt at hb
  injection hb with hsq hlm
  simp only at hsq hlm
  subst hsq
  obtain ⟨hl, hmany, _⟩ := h1
  obtain ⟨hm, _, _⟩ := h2
  unfold BtC.val
  simp only at hl hm hmany ⊢
  have hlen : m.length = l.length := by
    have := congrArg List.length hlm
    rw [List.length_map, List.length_map] at this
    exact this.symm
  obtain ⟨n, hn⟩ : ∃ n, n = l.length := ⟨_, rfl⟩
  rw [hlen, ← hn]
  rw [← hn] at hmany hlen
  obtain ⟨W, hW⟩ : ∃ W, W = (w.alloc (.cells #[.int .i64 seq, .slice A n c] 50)).alloc (.cells #[.int .i64 seq, .slice B n c2] 50) := ⟨_, rfl⟩
  have hEW : Ext w W := by rw [hW]; exact ((Ext.refl w).alloc _).alloc _
  have hr1 : Row W w.heap.size 50 #[.int .i64 seq, .slice A n c] := by rw [hW]; exact (Row.new w _ _).alloc _
  have hr2 : Row W (w.heap.size + 1) 50 #[.int .i64 seq, .slice B n c2] := by
    rw [hW]
    have h := Row.new (w.alloc (.cells #[.int .i64 seq, .slice A n c] 50)) 50 #[.int .i64 seq, .slice B n c2]
    simpa using h
  replace hn := hide hn
  replace hlen := hide hlen
  replace hlm := hide hlm
  go_enter Try.func31, Try.ntmps31
  go_wp2_with fail
  rw [← hW]
  clear hW
  go_loopw [5] (fun s5 wr => ∃ i : Nat, s5 = .int .i64 (i : Int) ∧ i ≤ n ∧ Hid (Ext W wr)) (fun s5 _ => n - (intOf s5).toNat)
  case atStart => exact ⟨0, rfl, by omega, hide (Ext.refl W)⟩
  case round =>
    obtain ⟨i, rfl, hi, hE⟩ := hrel
    have y1 : wr.cell? ⟨w.heap.size, 1, none⟩ = some (.slice A n c) := (hr1.ext hE.out).cell 1 rfl
    have y2 : wr.cell? ⟨w.heap.size + 1, 1, none⟩ = some (.slice B n c2) := (hr2.ext hE.out).cell 1 rfl
    by_cases hin : i < n
    · obtain ⟨x, hx⟩ : ∃ x, l[i]? = some x := ⟨_, List.getElem?_eq_getElem (by rw [← hn.out]; exact hin)⟩
      obtain ⟨y, hy⟩ : ∃ y, m[i]? = some y := ⟨_, List.getElem?_eq_getElem (by rw [hlen.out]; exact hin)⟩
      have hxy := evs_alike hlm.out hx hy
      have hE0 := hEW.trans hE.out
      obtain ⟨g, o, hA, k0, k1⟩ := ecells_at (hl.cells.ext hE0) hx
      obtain ⟨g2, o2, hB, k2, k3⟩ := ecells_at (hm.cells.ext hE0) hy
      have hxo := (hl.each x (List.mem_of_getElem? hx)).ext hEW
      have hyo := (hm.each y (List.mem_of_getElem? hy)).ext hEW
      obtain ⟨⟨at_, fs⟩, C, d⟩ := x
      obtain ⟨y, D, d2⟩ := y
      simp only at hxy k0 k1 k2 k3 hxo hyo
      subst hxy hA hB
      have hsm : ∀ x, (x.cell? ⟨w.heap.size, 1, none⟩ = some (.slice (some ⟨g, o, none⟩) n c) ∧ x.cell? ⟨w.heap.size + 1, 1, none⟩ = some (.slice (some ⟨g2, o2, none⟩) n c2) ∧ x.cell? ⟨g, o + i * 2, none⟩ = some (.int .i64 at_) ∧ x.cell? ⟨g, o + i * 2 + 1, none⟩ = some (.slice C fs.length d) ∧ x.cell? ⟨g2, o2 + i * 2, none⟩ = some (.int .i64 at_) ∧ x.cell? ⟨g2, o2 + i * 2 + 1, none⟩ = some (.slice D fs.length d2) ∧ Ext W x) → Calls Try.prog 54 #[.agg #[.int .i64 at_, .slice C fs.length d], .agg #[.int .i64 at_, .slice D fs.length d2]] x fun e y => e = .returned (.bool true) ∧ (y.cell? ⟨w.heap.size, 1, none⟩ = some (.slice (some ⟨g, o, none⟩) n c) ∧ y.cell? ⟨w.heap.size + 1, 1, none⟩ = some (.slice (some ⟨g2, o2, none⟩) n c2) ∧ y.cell? ⟨g, o + i * 2, none⟩ = some (.int .i64 at_) ∧ y.cell? ⟨g, o + i * 2 + 1, none⟩ = some (.slice C fs.length d) ∧ y.cell? ⟨g2, o2 + i * 2, none⟩ = some (.int .i64 at_) ∧ y.cell? ⟨g2, o2 + i * 2 + 1, none⟩ = some (.slice D fs.length d2) ∧ Ext W y) := fun x ⟨ha, hb, h0, h1, h2, h3, hE⟩ =>
        (resame_any ⟨at_, fs⟩ ⟨at_, fs⟩ C D d d2 x (hxo.ext hE) (hyo.ext hE)).mono fun e y ⟨he, hEy⟩ => ⟨by rw [he, show sameE ⟨at_, fs⟩ ⟨at_, fs⟩ = true from decide_eq_true ⟨rfl, rfl⟩], hEy.cell ha, hEy.cell hb, hEy.cell h0, hEy.cell h1, hEy.cell h2, hEy.cell h3, hE.trans hEy⟩
      have hS0 : wr.cell? ⟨w.heap.size, 1, none⟩ = some (.slice (some ⟨g, o, none⟩) n c) ∧ wr.cell? ⟨w.heap.size + 1, 1, none⟩ = some (.slice (some ⟨g2, o2, none⟩) n c2) ∧ wr.cell? ⟨g, o + i * 2, none⟩ = some (.int .i64 at_) ∧ wr.cell? ⟨g, o + i * 2 + 1, none⟩ = some (.slice C fs.length d) ∧ wr.cell? ⟨g2, o2 + i * 2, none⟩ = some (.int .i64 at_) ∧ wr.cell? ⟨g2, o2 + i * 2 + 1, none⟩ = some (.slice D fs.length d2) ∧ Ext W wr := ⟨y1, y2, k0, k1, k2, k3, hE.out⟩
      have hS1 : wr.drew.cell? ⟨w.heap.size, 1, none⟩ = some (.slice (some ⟨g, o, none⟩) n c) ∧ wr.drew.cell? ⟨w.heap.size + 1, 1, none⟩ = some (.slice (some ⟨g2, o2, none⟩) n c2) ∧ wr.drew.cell? ⟨g, o + i * 2, none⟩ = some (.int .i64 at_) ∧ wr.drew.cell? ⟨g, o + i * 2 + 1, none⟩ = some (.slice C fs.length d) ∧ wr.drew.cell? ⟨g2, o2 + i * 2, none⟩ = some (.int .i64 at_) ∧ wr.drew.cell? ⟨g2, o2 + i * 2 + 1, none⟩ = some (.slice D fs.length d2) ∧ Ext W wr.drew := ⟨y1, y2, k0, k1, k2, k3, hE.out.drew⟩
      have hxt : ∀ x, (x.cell? ⟨w.heap.size, 1, none⟩ = some (.slice (some ⟨g, o, none⟩) n c) ∧ x.cell? ⟨w.heap.size + 1, 1, none⟩ = some (.slice (some ⟨g2, o2, none⟩) n c2) ∧ x.cell? ⟨g, o + i * 2, none⟩ = some (.int .i64 at_) ∧ x.cell? ⟨g, o + i * 2 + 1, none⟩ = some (.slice C fs.length d) ∧ x.cell? ⟨g2, o2 + i * 2, none⟩ = some (.int .i64 at_) ∧ x.cell? ⟨g2, o2 + i * 2 + 1, none⟩ = some (.slice D fs.length d2) ∧ Ext W x) → Ext W x := fun x h => h.2.2.2.2.2.2
      have hi0 : (0 : Int) ≤ i := by omega
      have hi1 : (i : Int) < n := by omega
      replace hsm := hide hsm
      replace hS0 := hide hS0
      replace hS1 := hide hS1
      replace hxt := hide hxt
      clear hx hy hxo hyo hE0
      go_wp2_with fail
      go_region_held3 (fun x => x.cell? ⟨w.heap.size, 1, none⟩ = some (.slice (some ⟨g, o, none⟩) n c) ∧ x.cell? ⟨w.heap.size + 1, 1, none⟩ = some (.slice (some ⟨g2, o2, none⟩) n c2) ∧ x.cell? ⟨g, o + i * 2, none⟩ = some (.int .i64 at_) ∧ x.cell? ⟨g, o + i * 2 + 1, none⟩ = some (.slice C fs.length d) ∧ x.cell? ⟨g2, o2 + i * 2, none⟩ = some (.int .i64 at_) ∧ x.cell? ⟨g2, o2 + i * 2 + 1, none⟩ = some (.slice D fs.length d2) ∧ Ext W x) (first | exact hS1.out | exact hS0.out | exact ‹_›) (first | (go_at_call 54; refine (hsm.out _ ‹_›).mono ?_; rintro e w3 ⟨rfl, hSc⟩))
      go_wp2_with fail
      have hEn := hide (hxt.out _ ‹_›)
      go_roundw
      case rel => exact ⟨i + 1, by go_num, by omega, hEn⟩
      case measure => simp [intOf]; omega
    · go_wp2_with fail
      go_ret
      exact ⟨rfl, hEW.trans hE.out⟩
set_option maxRecDepth 100000 in
set_option maxHeartbeats 4000000 in
theorem samebatches_any (l m : List BtC) (A B : Option Addr) (c c2 : Nat) (w : World) (hl : BsOk w A l) (hm : BsOk w B m) (hlm : l.map (·.bt) = m.map (·.bt)) (hb : l.length ≤ 9223372036854775807) :
    Calls Try.prog 14 #[.slice A l.length c, .slice B m.length c2] w fun en w' => en = .returned (.bool true) ∧ Ext w w' := by
  have hlen : m.length = l.length := by
    have := congrArg List.length hlm
    rw [List.length_map, List.length_map] at this
    exact this.symm
  obtain ⟨n, hn⟩ : ∃ n, n = l.length := ⟨_, rfl⟩
  rw [hlen, ← hn]
  rw [← hn] at hb hlen
  replace hn := hide hn
  replace hlen := hide hlen
  replace hlm := hide hlm
  go_enter Try.func14, Try.ntmps14
  go_wp2_with fail
  go_loopw [5] (fun s5 wr => ∃ i : Nat, s5 = .int .i64 (i : Int) ∧ i ≤ n ∧ Hid (Ext w wr)) (fun s5 _ => n - (intOf s5).toNat)
  case atStart => exact ⟨0, rfl, by omega, hide (Ext.refl w)⟩
  case round =>
    obtain ⟨i, rfl, hi, hE⟩ := hrel
    by_cases hin : i < n
    · obtain ⟨x, hx⟩ : ∃ x, l[i]? = some x := ⟨_, List.getElem?_eq_getElem (by rw [← hn.out]; exact hin)⟩
      obtain ⟨y, hy⟩ : ∃ y, m[i]? = some y := ⟨_, List.getElem?_eq_getElem (by rw [hlen.out]; exact hin)⟩
      have hxy : x.bt = y.bt := by
        have h1 : (l.map (·.bt))[i]? = some x.bt := by rw [List.getElem?_map, hx]; rfl
        have h2 : (m.map (·.bt))[i]? = some y.bt := by rw [List.getElem?_map, hy]; rfl
        rw [hlm.out, h2] at h1
        exact (Option.some.inj h1).symm
      obtain ⟨g, o, hA, k0, k1⟩ := bcells_at (hl.cells.ext hE.out) hx
      obtain ⟨g2, o2, hB, k2, k3⟩ := bcells_at (hm.cells.ext hE.out) hy
      have hxo := hl.each x (List.mem_of_getElem? hx)
      have hyo := hm.each y (List.mem_of_getElem? hy)
      have hsb := fun W hE => samebatch_any x y W (hxo.ext hE) (hyo.ext hE) hxy
      have hsq : x.seq = y.seq := congrArg Bt.seq hxy
      have hll : y.l.length = x.l.length := by
        have := congrArg (fun b => b.es.length) hxy
        unfold BtC.bt at this
        simp only [List.length_map] at this
        exact this.symm
      unfold BtC.val at hsb
      obtain ⟨k, hk⟩ : ∃ k, k = x.l.length := ⟨_, rfl⟩
      obtain ⟨sq, hsqd⟩ : ∃ sq, sq = x.seq := ⟨_, rfl⟩
      rw [← hsq] at hsb k2
      rw [← hsqd] at hsb k0 k2
      rw [hll, ← hk] at hsb
      rw [hll] at k3
      rw [← hk] at k1 k3
      obtain ⟨C, hC⟩ : ∃ C, C = x.A := ⟨_, rfl⟩
      obtain ⟨d, hd⟩ : ∃ d, d = x.c := ⟨_, rfl⟩
      obtain ⟨D, hD⟩ : ∃ D, D = y.A := ⟨_, rfl⟩
      obtain ⟨d2, hd2⟩ : ∃ d2, d2 = y.c := ⟨_, rfl⟩
      rw [← hC, ← hd] at k1
      rw [← hD, ← hd2] at k3
      rw [← hC, ← hd, ← hD, ← hd2] at hsb
      subst hA hB
      have hsm : ∀ x, (x.cell? ⟨g, o + i * 2, none⟩ = some (.int .i64 sq) ∧ x.cell? ⟨g, o + i * 2 + 1, none⟩ = some (.slice C k d) ∧ x.cell? ⟨g2, o2 + i * 2, none⟩ = some (.int .i64 sq) ∧ x.cell? ⟨g2, o2 + i * 2 + 1, none⟩ = some (.slice D k d2) ∧ Ext w x) → Calls Try.prog 31 #[.agg #[.int .i64 sq, .slice C k d], .agg #[.int .i64 sq, .slice D k d2]] x fun e y => e = .returned (.bool true) ∧ (y.cell? ⟨g, o + i * 2, none⟩ = some (.int .i64 sq) ∧ y.cell? ⟨g, o + i * 2 + 1, none⟩ = some (.slice C k d) ∧ y.cell? ⟨g2, o2 + i * 2, none⟩ = some (.int .i64 sq) ∧ y.cell? ⟨g2, o2 + i * 2 + 1, none⟩ = some (.slice D k d2) ∧ Ext w y) := fun x ⟨h0, h1, h2, h3, hE⟩ =>
        (hsb x hE).mono fun e y ⟨he, hEy⟩ => ⟨he, hEy.cell h0, hEy.cell h1, hEy.cell h2, hEy.cell h3, hE.trans hEy⟩
      have hS0 : wr.cell? ⟨g, o + i * 2, none⟩ = some (.int .i64 sq) ∧ wr.cell? ⟨g, o + i * 2 + 1, none⟩ = some (.slice C k d) ∧ wr.cell? ⟨g2, o2 + i * 2, none⟩ = some (.int .i64 sq) ∧ wr.cell? ⟨g2, o2 + i * 2 + 1, none⟩ = some (.slice D k d2) ∧ Ext w wr := ⟨k0, k1, k2, k3, hE.out⟩
      have hS1 : wr.drew.cell? ⟨g, o + i * 2, none⟩ = some (.int .i64 sq) ∧ wr.drew.cell? ⟨g, o + i * 2 + 1, none⟩ = some (.slice C k d) ∧ wr.drew.cell? ⟨g2, o2 + i * 2, none⟩ = some (.int .i64 sq) ∧ wr.drew.cell? ⟨g2, o2 + i * 2 + 1, none⟩ = some (.slice D k d2) ∧ Ext w wr.drew := ⟨k0, k1, k2, k3, hE.out.drew⟩
      have hxt : ∀ x, (x.cell? ⟨g, o + i * 2, none⟩ = some (.int .i64 sq) ∧ x.cell? ⟨g, o + i * 2 + 1, none⟩ = some (.slice C k d) ∧ x.cell? ⟨g2, o2 + i * 2, none⟩ = some (.int .i64 sq) ∧ x.cell? ⟨g2, o2 + i * 2 + 1, none⟩ = some (.slice D k d2) ∧ Ext w x) → Ext w x := fun x h => h.2.2.2.2
      have hi0 : (0 : Int) ≤ i := by omega
      have hi1 : (i : Int) < n := by omega
      replace hsm := hide hsm
      replace hS0 := hide hS0
      replace hS1 := hide hS1
      replace hxt := hide hxt
      clear hx hy hxo hyo hsb hxy hsq hll hk hsqd hC hd hD hd2
      go_wp2_with fail
      go_region_held3 (fun x => x.cell? ⟨g, o + i * 2, none⟩ = some (.int .i64 sq) ∧ x.cell? ⟨g, o + i * 2 + 1, none⟩ = some (.slice C k d) ∧ x.cell? ⟨g2, o2 + i * 2, none⟩ = some (.int .i64 sq) ∧ x.cell? ⟨g2, o2 + i * 2 + 1, none⟩ = some (.slice D k d2) ∧ Ext w x) (first | exact hS1.out | exact hS0.out | exact ‹_›) (first | (go_at_call 31; refine (hsm.out _ ‹_›).mono ?_; rintro e w3 ⟨rfl, hSc⟩))
      go_wp2_with fail
      have hEn := hide (hxt.out _ ‹_›)
      go_roundw
      case rel => exact ⟨i + 1, by go_num, by omega, hEn⟩
      case measure => simp [intOf]; omega
    · go_wp2_with fail
      go_ret
      exact ⟨rfl, hE.out⟩
end Go.Proofs.Ytohphanbnhiodaa

/- The sum of bytes (CRC-32, reflected), plainly. -/
namespace Go.Proofs.Ytohphanbnhiodaa

def cstep (y : Nat) : Nat := if y % 2 = 1 then (y / 2) ^^^ 3988292384 else y / 2
def c8 (y : Nat) : Nat := cstep (cstep (cstep (cstep (cstep (cstep (cstep (cstep y)))))))
/-- One byte more. -/
def con (x : Nat) (c : UInt8) : Nat := c8 (x ^^^ c.toNat)
def cnot (x : Nat) : Nat := 4294967295 - x
def cnext (s : Nat) (l : List UInt8) : Nat := cnot (l.foldl con (cnot s))
theorem half_xor (a b : Nat) : (a ^^^ b) / 2 = (a / 2) ^^^ (b / 2) := by
  have := Nat.shiftRight_xor_distrib (a := a) (b := b) (i := 1)
  simpa [Nat.shiftRight_eq_div_pow] using this
theorem odd_xor (a b : Nat) : (a ^^^ b) % 2 = (a % 2) ^^^ (b % 2) := by
  have := Nat.xor_mod_two_pow (a := a) (b := b) (n := 1)
  simpa using this
theorem cstep_xor (a b : Nat) : cstep (a ^^^ b) = cstep a ^^^ cstep b := by
  unfold cstep
  rw [half_xor, odd_xor]
  rcases Nat.mod_two_eq_zero_or_one a with ha | ha <;> rcases Nat.mod_two_eq_zero_or_one b with hb | hb <;> rw [ha, hb]
  · rfl
  · show (a / 2 ^^^ b / 2) ^^^ 3988292384 = (a / 2) ^^^ (b / 2 ^^^ 3988292384)
    rw [Nat.xor_assoc]
  · show (a / 2 ^^^ b / 2) ^^^ 3988292384 = (a / 2 ^^^ 3988292384) ^^^ (b / 2)
    rw [Nat.xor_assoc, Nat.xor_assoc, Nat.xor_comm (b / 2)]
  · show (a / 2 ^^^ b / 2) = (a / 2 ^^^ 3988292384) ^^^ (b / 2 ^^^ 3988292384)
    rw [Nat.xor_assoc, ← Nat.xor_assoc 3988292384, Nat.xor_comm 3988292384 (b / 2), Nat.xor_assoc (b / 2), Nat.xor_self, Nat.xor_zero]
theorem c8_xor (a b : Nat) : c8 (a ^^^ b) = c8 a ^^^ c8 b := by
  unfold c8
  simp only [cstep_xor]
theorem cstep_two (z : Nat) : cstep (z * 2) = z := by
  unfold cstep
  rw [if_neg (by omega)]
  omega
theorem c8_high (z : Nat) : c8 (z * 256) = z := by
  unfold c8
  rw [show z * 256 = z * 2 * 2 * 2 * 2 * 2 * 2 * 2 * 2 by omega]
  simp only [cstep_two]
theorem split_low (y : Nat) : y = (y % 256) ^^^ (y / 256 * 256) := by
  have h : y / 256 * 256 ||| y % 256 = y / 256 * 256 + y % 256 := by
    have := Nat.shiftLeft_add_eq_or_of_lt (b := y % 256) (i := 8) (Nat.mod_lt _ (by decide)) (y / 256)
    rw [Nat.shiftLeft_eq] at this
    exact this.symm
  apply Nat.eq_of_testBit_eq
  intro i
  rw [Nat.testBit_xor]
  have h1 : (y % 256).testBit i = (decide (i < 8) && y.testBit i) := Nat.testBit_mod_two_pow y 8 i
  have h2 : (y / 256 * 256).testBit i = (decide (8 ≤ i) && y.testBit i) := by
    have e : y / 256 * 256 = (y >>> 8) <<< 8 := by rw [Nat.shiftRight_eq_div_pow, Nat.shiftLeft_eq]
    rw [e, Nat.testBit_shiftLeft, Nat.testBit_shiftRight]
    by_cases h8 : 8 ≤ i
    · rw [show 8 + (i - 8) = i by omega]
    · simp [h8]
  rw [h1, h2]
  by_cases h8 : i < 8
  · simp [h8, show ¬ 8 ≤ i by omega]
  · simp [h8, show 8 ≤ i by omega]
/-- By the table. -/
theorem con_table (x : Nat) (c : UInt8) : con x c = c8 ((x ^^^ c.toNat) % 256) ^^^ (x / 256) := by
  unfold con
  have hc : c.toNat / 256 = 0 := by have := c.toNat_lt; omega
  have h := Nat.shiftRight_xor_distrib (a := x) (b := c.toNat) (i := 8)
  rw [Nat.shiftRight_eq_div_pow, Nat.shiftRight_eq_div_pow, Nat.shiftRight_eq_div_pow] at h
  have h2 : (x ^^^ c.toNat) / 256 = x / 256 := by
    have : (2 : Nat) ^ 8 = 256 := rfl
    rw [this, hc, Nat.xor_zero] at h
    exact h
  conv => lhs; rw [split_low (x ^^^ c.toNat)]
  rw [c8_xor, c8_high, h2]
theorem cstep_lt {y : Nat} (h : y < 4294967296) : cstep y < 4294967296 := by
  unfold cstep
  split
  · exact Nat.xor_lt_two_pow (n := 32) (by omega) (by omega)
  · omega
theorem c8_lt {y : Nat} (h : y < 4294967296) : c8 y < 4294967296 := by
  unfold c8
  exact cstep_lt (cstep_lt (cstep_lt (cstep_lt (cstep_lt (cstep_lt (cstep_lt (cstep_lt h)))))))
theorem con_lt {x : Nat} (c : UInt8) (h : x < 4294967296) : con x c < 4294967296 := by
  unfold con
  have := c.toNat_lt
  exact c8_lt (Nat.xor_lt_two_pow (n := 32) (by omega) (by omega))
theorem fold_lt : ∀ (l : List UInt8) {x : Nat}, x < 4294967296 → l.foldl con x < 4294967296
  | [], _, h => h
  | c :: l, _, h => fold_lt l (con_lt c h)
theorem cnext_lt (s : Nat) (l : List UInt8) : cnext s l < 4294967296 := by
  unfold cnext cnot
  omega
theorem cstep_inj {a b : Nat} (ha : a < 4294967296) (hb : b < 4294967296) (h : cstep a = cstep b) : a = b := by
  have top : ∀ z, z < 2147483648 → 2147483648 ≤ z ^^^ 3988292384 := fun z hz => by
    apply Nat.le_of_not_lt
    intro hlt
    have h1 : (z ^^^ 3988292384).testBit 31 = false := Nat.testBit_lt_two_pow hlt
    rw [Nat.testBit_xor, Nat.testBit_lt_two_pow (show z < 2 ^ 31 from hz)] at h1
    revert h1
    decide
  unfold cstep at h
  rcases Nat.mod_two_eq_zero_or_one a with pa | pa <;> rcases Nat.mod_two_eq_zero_or_one b with pb | pb <;> simp only [pa, pb] at h
  · simp at h; omega
  · simp at h; have := top (b / 2) (by omega); omega
  · simp at h; have := top (a / 2) (by omega); omega
  · simp at h
    have h2 := congrArg (· ^^^ 3988292384) h
    simp [Nat.xor_assoc] at h2
    omega
theorem c8_inj {a b : Nat} (ha : a < 4294967296) (hb : b < 4294967296) (h : c8 a = c8 b) : a = b := by
  unfold c8 at h
  have q := @cstep_lt
  refine cstep_inj ha hb (cstep_inj (q ha) (q hb) (cstep_inj (q (q ha)) (q (q hb)) (cstep_inj (q (q (q ha))) (q (q (q hb))) (cstep_inj (q (q (q (q ha)))) (q (q (q (q hb)))) (cstep_inj (q (q (q (q (q ha))))) (q (q (q (q (q hb))))) (cstep_inj (q (q (q (q (q (q ha)))))) (q (q (q (q (q (q hb)))))) (cstep_inj (q (q (q (q (q (q (q ha))))))) (q (q (q (q (q (q (q hb))))))) h)))))))
theorem con_inj_left {a b : Nat} (c : UInt8) (ha : a < 4294967296) (hb : b < 4294967296) (h : con a c = con b c) : a = b := by
  have := c.toNat_lt
  have h1 := c8_inj (Nat.xor_lt_two_pow (n := 32) (by omega) (by omega)) (Nat.xor_lt_two_pow (n := 32) (by omega) (by omega)) h
  have h2 := congrArg (· ^^^ c.toNat) h1
  simpa [Nat.xor_assoc] using h2
theorem con_inj_right {a : Nat} {c d : UInt8} (ha : a < 4294967296) (h : con a c = con a d) : c = d := by
  have := c.toNat_lt
  have := d.toNat_lt
  have h1 := c8_inj (Nat.xor_lt_two_pow (n := 32) (by omega) (by omega)) (Nat.xor_lt_two_pow (n := 32) (by omega) (by omega)) h
  have h2 := congrArg (a ^^^ ·) h1
  simp only [← Nat.xor_assoc, Nat.xor_self, Nat.zero_xor] at h2
  exact UInt8.toNat_inj.1 h2
theorem fold_inj : ∀ (l : List UInt8) {a b : Nat}, a < 4294967296 → b < 4294967296 → l.foldl con a = l.foldl con b → a = b
  | [], _, _, _, _, h => h
  | c :: l, _, _, ha, hb, h => con_inj_left c ha hb (fold_inj l (con_lt c ha) (con_lt c hb) h)
/-- One byte that is another one turns the sum. -/
theorem cnext_one {s : Nat} (p q : List UInt8) {c d : UInt8} (h : cnext s (p ++ c :: q) = cnext s (p ++ d :: q)) : c = d := by
  unfold cnext at h
  have hs : cnot s < 4294967296 := by unfold cnot; omega
  have hp := fold_lt p hs
  rw [List.foldl_append, List.foldl_append, List.foldl_cons, List.foldl_cons] at h
  have h1 := fold_lt q (con_lt c hp)
  have h2 := fold_lt q (con_lt d hp)
  unfold cnot at h h1 h2 hs hp
  have h3 := fold_inj q (con_lt c hp) (con_lt d hp) (by omega)
  exact con_inj_right hp h3
end Go.Proofs.Ytohphanbnhiodaa

/- loggia/crc: table, Next; loggiaref03: on, Next, Of. -/
namespace Go.Proofs.Ytohphanbnhiodaa
open Go.RowKit

def citer : Nat → Nat → Nat
  | 0, y => y
  | k + 1, y => citer k (cstep y)
theorem citer8 (y : Nat) : c8 y = citer 8 y := rfl
theorem citer_step {z v j : Nat} (h : z = citer (8 - j) v) (hj : j < 8) : z = citer (8 - (j + 1)) (cstep v) := by
  rw [h, show 8 - j = (8 - (j + 1)) + 1 by omega]
  rfl
theorem citer_end {z v j : Nat} (h : z = citer (8 - j) v) (hj : 8 ≤ j) : z = v := by
  rw [h, show 8 - j = 0 by omega]
  rfl
theorem cstep_odd {v : Nat} (h : v % 2 = 1) : cstep v = (v / 2) ^^^ 3988292384 := by unfold cstep; rw [if_pos h]
theorem cstep_even {v : Nat} (h : v % 2 = 0) : cstep v = v / 2 := by unfold cstep; rw [if_neg (by omega)]
theorem xor_poly {d : Nat} (h : d < 4294967296) : bits .xor .u32 (d : Int) 3988292384 = ((d ^^^ 3988292384 : Nat) : Int) := by
  rw [show (3988292384 : Int) = ((3988292384 : Nat) : Int) from rfl, u32_xor_nat _ _ h (by omega)]
set_option maxRecDepth 100000 in
set_option maxHeartbeats 1000000 in
theorem on_any (x c : Nat) (w : World) (hx : x < 4294967296) (hc : c < 256) : Calls Try.prog 87 #[.int .u32 x, .int .u8 c] w fun e w' => e = .returned (.int .u32 (c8 (x ^^^ c) : Nat)) ∧ w' = w := by
  have hxor : bits .xor .u32 (x : Int) (c : Int) = ((x ^^^ c : Nat) : Int) := u32_xor_nat _ _ hx (by omega)
  have hlt : x ^^^ c < 4294967296 := Nat.xor_lt_two_pow (n := 32) hx (by omega)
  obtain ⟨y, hy⟩ : ∃ y, y = x ^^^ c := ⟨_, rfl⟩
  rw [← hy] at hxor hlt ⊢
  obtain ⟨z, hz⟩ : ∃ z, z = c8 y := ⟨_, rfl⟩
  rw [← hz]
  rw [citer8] at hz
  replace hz := hide hz
  clear hy
  go_enter Try.func87, Try.ntmps87
  go_wp2_with fail
  go_loop [0, 5] (fun s0 s5 => ∃ (j v : Nat), s5 = .int .i64 j ∧ j ≤ 8 ∧ s0 = .int .u32 v ∧ v < 4294967296 ∧ Hid (z = citer (8 - j) v)) (fun _ s5 => 8 - (intOf s5).toNat)
  case atStart => exact ⟨0, y, rfl, by omega, rfl, hlt, hz⟩
  case round =>
    obtain ⟨j, v, rfl, hj, rfl, hv, hzv⟩ := hrel
    by_cases hj8 : j < 8
    · have hn := citer_step hzv.out hj8
      have hcl := cstep_lt hv
      replace hn := hide hn
      rcases Nat.mod_two_eq_zero_or_one v with hm | hm
      · have hs := cstep_even hm
        have hm2 : (v : Int) % 2 = 0 := by omega
        rw [hs] at hn hcl
        clear hm hs hzv
        go_wp2_with fail
        go_round
        case rel => exact ⟨j + 1, v / 2, by go_num, by omega, by go_num, hcl, hn⟩
        case measure => simp [intOf]; omega
      · have hs := cstep_odd hm
        have hm2 : (v : Int) % 2 = 1 := by omega
        obtain ⟨d, hd⟩ : ∃ d, d = v / 2 := ⟨_, rfl⟩
        have hdv : (v : Int) / 2 = (d : Int) := by omega
        have hxp := xor_poly (d := d) (by omega)
        rw [hs, ← hd] at hn hcl
        obtain ⟨q, hq⟩ : ∃ q, q = d ^^^ 3988292384 := ⟨_, rfl⟩
        rw [← hq] at hn hcl hxp
        clear hm hs hzv hd hq
        go_wp2_with fail
        go_round
        case rel => exact ⟨j + 1, q, by go_num, by omega, rfl, hcl, hn⟩
        case measure => simp [intOf]; omega
    · have hn := citer_end hzv.out (by omega)
      replace hn := hide hn
      clear hzv
      go_wp2_with fail
      go_ret
      exact ⟨by rw [hn.out]; rfl, rfl⟩
set_option maxRecDepth 100000 in
set_option maxHeartbeats 1000000 in
theorem rnext_any (A : Option Addr) (s n c : Nat) (l : List UInt8) (w0 w : World) (hb : In8 w0 A n c l) (hw : Ext w0 w) (hs : s < 4294967296) (hle : n ≤ 1000000000) :
    Calls Try.prog 72 #[.int .u32 s, .slice A n c] w fun e w' => e = .returned (.int .u32 (cnext s l : Nat)) ∧ w' = w := by
  have hnot := bits_not32 s hs
  have hcl : cnot s < 4294967296 := by unfold cnot; omega
  rw [show 4294967295 - s = cnot s from rfl] at hnot
  obtain ⟨y, hy⟩ : ∃ y, y = cnot s := ⟨_, rfl⟩
  rw [← hy] at hnot hcl
  have hr : cnext s l = 4294967295 - l.foldl con y := by unfold cnext; rw [← hy]; rfl
  replace hr := hide hr
  clear hy
  replace hb := hide hb
  go_enter Try.func72, Try.ntmps72
  go_wp2_with fail
  go_loop [0, 5] (fun s0 s5 => ∃ (i v : Nat), s5 = .int .i64 i ∧ i ≤ n ∧ s0 = .int .u32 v ∧ v < 4294967296 ∧ Hid (l.foldl con y = (l.drop i).foldl con v)) (fun _ s5 => n - (intOf s5).toNat)
  case atStart => exact ⟨0, y, rfl, by omega, rfl, hcl, rfl⟩
  case round =>
    obtain ⟨i, v, rfl, hi, rfl, hv, hf⟩ := hrel
    by_cases hin : i < n
    · have hil : i < l.length := by rw [← hb.out.len]; omega
      obtain ⟨g, o, rfl, hc⟩ := hb.out.bytes.at_ (by omega)
      have hcell := hw.cell (hc i hil)
      have hon := hide (fun w => on_any v l[i].toNat w hv l[i].toNat_lt)
      have hn : l.foldl con y = (l.drop (i + 1)).foldl con (con v l[i]) := by rw [hf.out, List.drop_eq_getElem_cons hil]; rfl
      have hcl2 := con_lt l[i] hv
      unfold con at hn hcl2
      replace hn := hide hn
      clear hc hf
      go_wp2_with fail
      refine (hon.out _).mono ?_
      rintro e w1 ⟨rfl, rfl⟩
      go_wp2_with fail
      go_round
      case rel => exact ⟨i + 1, _, by go_num, by omega, rfl, hcl2, hn⟩
      case measure => simp [intOf]; omega
    · have hf2 : l.foldl con y = v := by rw [hf.out, List.drop_of_length_le (by rw [← hb.out.len]; omega)]; rfl
      have hnv := bits_not32 v hv
      replace hf2 := hide hf2
      clear hf
      go_wp2_with fail
      go_ret
      exact ⟨ret_int (by rw [hr.out, hf2.out]), rfl⟩
set_option maxRecDepth 100000 in
theorem of_any (A : Option Addr) (n c : Nat) (l : List UInt8) (w0 w : World) (h : In8 w0 A n c l) (hw : Ext w0 w) (hle : n ≤ 1000000000) :
    Calls Try.prog 51 #[.slice A n c] w fun e w' => e = .returned (.int .u32 (cnext 0 l : Nat)) ∧ w' = w := by
  have hn := hide (rnext_any A 0 n c l w0 w h hw (show 0 < 4294967296 by decide) hle)
  clear h
  go_enter Try.func51, Try.ntmps51
  go_wp2_with fail
  refine hn.out.mono ?_
  rintro e w1 ⟨rfl, rfl⟩
  go_wp2_with fail
  go_ret
  exact ⟨rfl, rfl⟩
end Go.Proofs.Ytohphanbnhiodaa

/- loggia/crc: table, Next. -/
namespace Go.Proofs.Ytohphanbnhiodaa
open Go.RowKit

/-- The table, as far as it is filled. -/
def tabA (i : Nat) : Array Value := ((List.range 256).map fun k => if k < i then Value.int .u32 (c8 k : Nat) else .int .u32 0).toArray
theorem tabA_get {i k : Nat} (hk : k < 256) : (tabA i)[k]? = some (if k < i then Value.int .u32 (c8 k : Nat) else .int .u32 0) := by
  unfold tabA
  simp [hk]
theorem tabA_put {i : Nat} (hi : i < 256) : (tabA i).setIfInBounds i (.int .u32 (c8 i : Nat)) = tabA (i + 1) := by
  apply Array.ext_getElem?
  intro k
  rw [Array.getElem?_setIfInBounds]
  by_cases hk : k < 256
  · rw [tabA_get hk, tabA_get hk]
    have hs : i < (tabA i).size := by unfold tabA; simp; omega
    by_cases hik : i = k
    · subst hik
      rw [if_pos rfl, if_pos hs, if_pos (by omega)]
    · rw [if_neg hik]
      by_cases h1 : k < i
      · rw [if_pos h1, if_pos (by omega)]
      · rw [if_neg h1, if_neg (by omega)]
  · have h1 : (tabA i)[k]? = none := by unfold tabA; simp; omega
    have h2 : (tabA (i + 1))[k]? = none := by unfold tabA; simp; omega
    rw [h1, h2, if_neg (by omega)]
set_option maxRecDepth 100000 in
theorem tabA_zero : Try.zeroCells145 = tabA 0 := by kernel_rfl
theorem and_one {v : Nat} (h : v < 4294967296) : bits .and .u32 (v : Int) 1 = ((v % 2 : Nat) : Int) := by
  rw [show (1 : Int) = ((1 : Nat) : Int) from rfl, u32_and_nat _ _ h (by omega), Nat.and_one_is_mod]
set_option maxRecDepth 100000 in
set_option maxHeartbeats 2000000 in
theorem table_any (w : World) : Calls Try.prog 85 #[] w fun e w' => e = .returned (.pointer (some ⟨w.heap.size, 0, none⟩)) ∧ Row w' w.heap.size 145 (tabA 256) ∧ Ext w w' := by
  have hz : Row (w.alloc (.cells Try.zeroCells145 145)) w.heap.size 145 (tabA 0) := by rw [tabA_zero]; exact Row.new w _ _
  have hE0 : Ext w (w.alloc (.cells Try.zeroCells145 145)) := (Ext.refl w).alloc _
  replace hz := hide hz
  replace hE0 := hide hE0
  go_enter Try.func85, Try.ntmps85
  go_wp2_with fail
  go_loopw [2, 3, 4, 5] (fun _ _ _ s5 wr => ∃ (i : Nat), s5 = .int .i64 i ∧ i ≤ 256 ∧ Hid (Row wr w.heap.size 145 (tabA i)) ∧ Hid (Ext w wr)) (fun _ _ _ s5 _ => 256 - (intOf s5).toNat)
  case atStart => exact ⟨0, rfl, by omega, hz, hE0⟩
  case round =>
    obtain ⟨i, rfl, hi, hr, hE⟩ := hrel
    by_cases hin : i < 256
    · obtain ⟨z, hz8⟩ : ∃ z, z = c8 i := ⟨_, rfl⟩
      have hz9 := hide hz8
      rw [citer8] at hz8
      replace hz8 := hide hz8
      obtain ⟨wo, rfl⟩ : ∃ wo : World, wo = wr := ⟨_, rfl⟩
      go_wp2_with fail
      go_loop [3, 4, 10] (fun s3 _ s10 => ∃ (j v : Nat), s10 = .int .i64 j ∧ j ≤ 8 ∧ s3 = .int .u32 v ∧ v < 4294967296 ∧ Hid (z = citer (8 - j) v)) (fun _ _ s10 => 8 - (intOf s10).toNat)
      case atStart => exact ⟨0, i, rfl, by omega, by go_num, by omega, hz8⟩
      case round =>
        obtain ⟨j, v, rfl, hj, rfl, hv, hzv⟩ := hrel
        by_cases hj8 : j < 8
        · have hn := citer_step hzv.out hj8
          have hcl := cstep_lt hv
          have hand := and_one hv
          obtain ⟨q, hq⟩ : ∃ q, q = v % 2 := ⟨_, rfl⟩
          obtain ⟨d, hd⟩ : ∃ d, d = v / 2 := ⟨_, rfl⟩
          have hdv : (v : Int) / 2 = (d : Int) := by omega
          have hd32 : d < 4294967296 := by omega
          have hxp := xor_poly hd32
          rw [← hq] at hand
          rcases (show q = 0 ∨ q = 1 by omega) with rfl | rfl
          · rw [cstep_even hq.symm, ← hd] at hn
            replace hn := hide hn
            clear hq hd hzv hcl
            go_wp2_with fail
            go_round
            case rel => exact ⟨j + 1, d, by go_num, by omega, rfl, hd32, hn⟩
            case measure => simp [intOf]; omega
          · rw [cstep_odd hq.symm, ← hd] at hn hcl
            obtain ⟨y, hy⟩ : ∃ y, y = d ^^^ 3988292384 := ⟨_, rfl⟩
            rw [← hy] at hn hcl hxp
            replace hn := hide hn
            clear hq hd hzv hy
            go_wp2_with fail
            go_round
            case rel => exact ⟨j + 1, y, by go_num, by omega, rfl, hcl, hn⟩
            case measure => simp [intOf]; omega
        · have hn := citer_end hzv.out (by omega)
          have hcell := hr.out.cell i (tabA_get hin)
          have hfr := hr.out.free i
          have hlt := hr.out.lt
          rw [if_neg (by omega)] at hcell
          have hp := hr.out.put i (.int .u32 (v : Nat))
          rw [← hn, hz9.out, tabA_put hin] at hp
          have hn' := hide (hz9.out.symm.trans hn)
          replace hp := hide hp
          have hEs := hide (hE.out.setCell (p := ⟨w.heap.size, i, none⟩) (Nat.le_refl _) (.int .u32 ((c8 i : Nat) : Int)))
          clear hzv hn
          go_wp2_with fail
          go_roundw
          case rel => exact ⟨i + 1, by go_num, by omega, by rw [← hn'.out]; exact hp, by rw [← hn'.out]; exact hEs⟩
          case measure => simp [intOf]; omega
    · obtain rfl : i = 256 := by omega
      go_wp2_with fail
      go_ret
      exact ⟨rfl, hr.out, hE.out⟩
end Go.Proofs.Ytohphanbnhiodaa

/- loggia/crc: Next, Sum. -/
namespace Go.Proofs.Ytohphanbnhiodaa
open Go.RowKit

theorem con_parts (v : Nat) (c : UInt8) : con v c = c8 ((v % 256) ^^^ c.toNat) ^^^ (v / 256) := by
  rw [con_table]
  congr 2
  have h := Nat.xor_mod_two_pow (a := v) (b := c.toNat) (n := 8)
  have hc := c.toNat_lt
  rw [show (2 : Nat) ^ 8 = 256 from rfl, Nat.mod_eq_of_lt (a := c.toNat) (by omega)] at h
  exact h
set_option maxRecDepth 100000 in
set_option maxHeartbeats 1000000 in
theorem next_any (A : Option Addr) (s n c : Nat) (l : List UInt8) (w0 w : World) (hb : In8 w0 A n c l) (hw : Ext w0 w) (hs : s < 4294967296) (hle : n ≤ 1000000000) :
    Calls Try.prog 67 #[.int .u32 s, .slice A n c] w fun e w' => e = .returned (.int .u32 (cnext s l : Nat)) ∧ Ext w w' := by
  have htab := hide (table_any w)
  have hnot := bits_not32 s hs
  have hcl : cnot s < 4294967296 := by unfold cnot; omega
  rw [show 4294967295 - s = cnot s from rfl] at hnot
  obtain ⟨y, hy⟩ : ∃ y, y = cnot s := ⟨_, rfl⟩
  rw [← hy] at hnot hcl
  have hr : cnext s l = 4294967295 - l.foldl con y := by unfold cnext; rw [← hy]; rfl
  replace hr := hide hr
  clear hy
  replace hb := hide hb
  go_enter Try.func67, Try.ntmps67
  go_wp2_with fail
  refine htab.out.mono ?_
  rintro e w1 ⟨rfl, hrow, hE1⟩
  replace hrow := hide hrow
  replace hE1 := hide hE1
  go_wp2_with fail
  go_loop [6, 8, 14] (fun s6 _ s14 => ∃ (i v : Nat), s14 = .int .i64 i ∧ i ≤ n ∧ s6 = .int .u32 v ∧ v < 4294967296 ∧ Hid (l.foldl con y = (l.drop i).foldl con v)) (fun _ _ s14 => n - (intOf s14).toNat)
  case atStart => exact ⟨0, y, rfl, by omega, rfl, hcl, rfl⟩
  case round =>
    obtain ⟨i, v, rfl, hi, rfl, hv, hf⟩ := hrel
    by_cases hin : i < n
    · have hil : i < l.length := by rw [← hb.out.len]; omega
      obtain ⟨g, o, rfl, hc⟩ := hb.out.bytes.at_ (by omega)
      have hcell := (hw.trans hE1.out).cell (hc i hil)
      have hn : l.foldl con y = (l.drop (i + 1)).foldl con (con v l[i]) := by rw [hf.out, List.drop_eq_getElem_cons hil]; rfl
      have hcl2 := con_lt l[i] hv
      have hcp := con_parts v l[i]
      obtain ⟨x, hx⟩ : ∃ x, x = l[i].toNat := ⟨_, rfl⟩
      have hx8 : x < 256 := by rw [hx]; exact l[i].toNat_lt
      rw [← hx] at hcell hcp
      obtain ⟨z, hz⟩ : ∃ z, z = con v l[i] := ⟨_, rfl⟩
      rw [← hz] at hn hcl2 hcp
      obtain ⟨m, hm⟩ : ∃ m, m = v % 256 := ⟨_, rfl⟩
      have hmv : (v : Int) % 256 = (m : Int) := by omega
      have hm8 : m < 256 := by omega
      have hx2 := u8_xor_nat m x hm8 hx8
      rw [← hm] at hcp
      have hk8 : m ^^^ x < 256 := Nat.xor_lt_two_pow (n := 8) hm8 hx8
      obtain ⟨k, hk⟩ : ∃ k, k = m ^^^ x := ⟨_, rfl⟩
      rw [← hk] at hcp hx2 hk8
      have htc := hrow.out.cell k (tabA_get hk8)
      rw [if_pos hk8] at htc
      obtain ⟨t, ht⟩ : ∃ t, t = c8 k := ⟨_, rfl⟩
      have ht32 : t < 4294967296 := by rw [ht]; exact c8_lt (by omega)
      rw [← ht] at htc hcp
      obtain ⟨d, hd⟩ : ∃ d, d = v / 256 := ⟨_, rfl⟩
      have hdv : (v : Int) / 256 = (d : Int) := by omega
      have hx3 := u32_xor_nat t d ht32 (by omega)
      rw [← hd] at hcp
      rw [← hcp] at hx3
      replace hn := hide hn
      clear hc hf hx hz hm hk ht hd hcp
      go_wp2_with fail
      go_round
      case rel => exact ⟨i + 1, z, by go_num, by omega, rfl, hcl2, hn⟩
      case measure => simp [intOf]; omega
    · have hf2 : l.foldl con y = v := by rw [hf.out, List.drop_of_length_le (by rw [← hb.out.len]; omega)]; rfl
      have hnv := bits_not32 v hv
      replace hf2 := hide hf2
      clear hf
      go_wp2_with fail
      go_ret
      exact ⟨ret_int (by rw [hr.out, hf2.out]), hE1.out⟩
def csum (s : Nat) (ls : List (List UInt8)) : Nat := ls.foldl cnext s
theorem csum_lt {s : Nat} (h : s < 4294967296) : ∀ (ls : List (List UInt8)), csum s ls < 4294967296 := by
  intro ls
  induction ls generalizing s with
  | nil => exact h
  | cons l ls ih => exact ih (cnext_lt s l)
set_option maxRecDepth 100000 in
set_option maxHeartbeats 1000000 in
theorem sum_any (B : Option Addr) (k c2 : Nat) (ps : List (Option Addr × Nat × List UInt8)) (w : World) (hk : k = ps.length) (hB : Cells w B (ps.map fun p => .slice p.1 p.2.2.length p.2.1)) (hin : ∀ p ∈ ps, In8 w p.1 p.2.2.length p.2.1 p.2.2) (hle : ∀ p ∈ ps, p.2.2.length ≤ 1000000000) (hk9 : k ≤ 1000000) :
    Calls Try.prog 47 #[.slice B k c2] w fun e w' => e = .returned (.int .u32 (csum 0 (ps.map fun p => p.2.2) : Nat)) ∧ Ext w w' := by
  replace hk := hide hk
  replace hin := hide hin
  replace hle := hide hle
  go_enter Try.func47, Try.ntmps47
  go_wp2_with fail
  go_loopw [3, 5, 8] (fun s3 _ s8 wr => ∃ (i v : Nat), s8 = .int .i64 i ∧ i ≤ k ∧ s3 = .int .u32 v ∧ v < 4294967296 ∧ Hid (csum 0 (ps.map fun p => p.2.2) = csum v ((ps.drop i).map fun p => p.2.2)) ∧ Hid (Ext w wr)) (fun _ _ s8 _ => k - (intOf s8).toNat)
  case atStart => exact ⟨0, 0, rfl, by omega, rfl, by omega, hide rfl, hide (Ext.refl w)⟩
  case round =>
    obtain ⟨i, v, rfl, hi, rfl, hv, hf, hE⟩ := hrel
    by_cases hik : i < k
    · have hil : i < ps.length := by rw [← hk.out]; omega
      obtain ⟨g, o, rfl, hc⟩ := hB.at_ (by rw [List.length_map]; omega)
      have hcell := hE.out.cell (hc i _ (by rw [List.getElem?_map, List.getElem?_eq_getElem hil]; rfl))
      have hn : csum 0 (ps.map fun p => p.2.2) = csum (cnext v ps[i].2.2) ((ps.drop (i + 1)).map fun p => p.2.2) := by rw [hf.out, List.drop_eq_getElem_cons hil]; rfl
      have hnx := next_any ps[i].1 v ps[i].2.2.length ps[i].2.1 ps[i].2.2 w wr (hin.out _ (List.getElem_mem hil)) hE.out hv (hle.out _ (List.getElem_mem hil))
      have hcl := cnext_lt v ps[i].2.2
      obtain ⟨p, hp⟩ : ∃ p, p = ps[i] := ⟨_, rfl⟩
      rw [← hp] at hcell hn hnx hcl
      obtain ⟨z, hz⟩ : ∃ z, z = cnext v p.2.2 := ⟨_, rfl⟩
      rw [← hz] at hn hnx hcl
      replace hn := hide hn
      replace hnx := hide hnx
      clear hp hc hf hz
      go_wp2_with fail
      refine hnx.out.mono ?_
      rintro e w1 ⟨rfl, hE1⟩
      go_wp2_with fail
      go_roundw
      case rel => exact ⟨i + 1, z, by go_num, by omega, rfl, hcl, hn, hide (hE.out.trans hE1)⟩
      case measure => simp [intOf]; omega
    · have hf2 : csum 0 (ps.map fun p => p.2.2) = v := by rw [hf.out, List.drop_of_length_le (by rw [← hk.out]; omega)]; rfl
      replace hf2 := hide hf2
      clear hf
      go_wp2_with fail
      go_ret
      exact ⟨by rw [hf2.out]; rfl, hE.out⟩
end Go.Proofs.Ytohphanbnhiodaa

