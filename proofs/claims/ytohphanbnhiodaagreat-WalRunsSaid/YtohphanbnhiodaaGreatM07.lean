/- loggia/wal: Writer.Append. -/
import Derived.Test.YtohphanbnhiodaaGreatM04
import Derived.Test.YtohphanbnhiodaaGreatM06
import Derived.Deep.QuietTactic
import Derived.BigQuiet
import Derived.Deep.RegionHeld3
import Derived.Test.YtohphanbnhiodaaGreatM02
set_option linter.unusedSimpArgs false
set_option linter.unusedVariables false
namespace Go.Proofs.YtohphanbnhiodaaGreat
open Go.RowKit Go.Maps

/-- The bytes of batches, one frame each, behind acc; or the first fault. -/
def appB : List Bt → List UInt8 → Except Nat (List UInt8)
  | [], acc => .ok acc
  | b :: l, acc => if checkB b = 0 then appB l (acc ++ frameL (encB b)) else .error (checkB b)
/-- What Append makes of the disk. -/
def AppP (base d : Nat) (F : Nat → Prop) (P : PD) (nm : List UInt8) (w : World) (m : Nat) (Z : Except Nat (List UInt8)) (e : Ending) (w' : World) : Prop := match Z with
  | .error k => e = .returned (.int .i64 (k : Int)) ∧ Ext w w'
  | .ok bs => if m = 0 then e = .returned (.int .i64 0) ∧ Ext w w' else ∃ wx, Ext w wx ∧ e = .returned (.int .i64 ((appendM P nm bs).2 : Int)) ∧ DNext base d F wx (appendM P nm bs).1 w'
theorem frameL_len (p : List UInt8) (h : p.length ≤ 100000) : (frameL p).length ≤ 100100 := by
  unfold frameL
  have h1 := vb_le10 (n := p.length) (by omega)
  rw [List.length_append, List.length_append, show (be4 (cnext 0 (vb p.length ++ p))).length = 4 from rfl]
  omega
theorem drop_oneB {l : List BtC} {i : Nat} {x : BtC} (h : l[i]? = some x) : l.drop i = x :: l.drop (i + 1) := by
  obtain ⟨hi, rfl⟩ := List.getElem?_eq_some_iff.1 h
  exact List.drop_eq_getElem_cons hi
set_option maxRecDepth 100000 in
set_option maxHeartbeats 4000000 in
theorem wappend_any (base b d n : Nat) (P : PD) (F : Nat → Prop) (nm : List UInt8) (l : List BtC) (A : Option Addr) (c : Nat) (w : World) (hw : WrR w b d n nm) (h : DS w base d P F) (hl : BsOk w A l) (hints : ∀ x ∈ l, ∀ y ∈ x.l, I64ok' y.e.at_) (hlen : l.length ≤ 1000)
    (hs : nm.length ≤ 9223372036854775807) (hbase : base ≤ w.heap.size) :
    Calls Tryz.prog 10 #[.pointer (some ⟨b, 0, none⟩), .slice A l.length c] w fun e w' => AppP base d F P nm w l.length (appB (l.map BtC.bt) []) e w' := by
  have hn := hide (wnone_any b d n nm w hw)
  obtain ⟨Z, hZ⟩ : ∃ Z, Z = appB (l.map BtC.bt) [] := ⟨_, rfl⟩
  rw [← hZ]
  obtain ⟨m, hm⟩ : ∃ m, m = l.length := ⟨_, rfl⟩
  rw [← hm] at hlen ⊢
  replace hm := hide hm
  replace hZ := hide hZ
  replace hw := hide hw
  replace hl := hide hl
  replace h := hide h
  go_enter Tryz.func10, Tryz.ntmps10
  go_wp2_with fail
  refine hn.out.mono ?_
  rintro e w1 ⟨rfl, rfl⟩
  go_wp2_with fail
  go_loopw [5, 7, 8, 9, 14] (fun s5 _ _ _ s14 wr => ∃ (i q cc : Nat) (C : Option Addr) (bs : List UInt8), s5 = .slice C q cc ∧ s14 = .int .i64 (i : Int) ∧ i ≤ m ∧ q ≤ i * 100100 ∧ Hid (q = bs.length) ∧ Hid (Z = appB ((l.drop i).map BtC.bt) bs) ∧ Hid (Buf wr w1.heap.size 5 C q cc (bs.map B8)) ∧ Hid (Ext w1 wr)) (fun _ _ _ _ s14 _ => m - (intOf s14).toNat)
  case atStart => exact ⟨0, 0, 0, none, [], rfl, rfl, by omega, by omega, hide rfl, hide hZ.out, hide (Buf.nil _ _ _), hide (Ext.refl _)⟩
  case round =>
    obtain ⟨i, q, cc, C, bs, rfl, rfl, hi, hq, hqb, hz, hbuf, hE⟩ := hrel
    by_cases him : i < m
    · obtain ⟨x, hx⟩ : ∃ x, l[i]? = some x := ⟨_, List.getElem?_eq_getElem (by have := hm.out; omega)⟩
      obtain ⟨g, o, hA, k0, k1⟩ := bcells_at (hl.out.ext hE.out).cells hx
      have hxm := List.mem_of_getElem? hx
      subst hA
      have hzz := hz.out
      rw [drop_oneB hx, List.map_cons, appB] at hzz
      have hxok := (hl.out.ext hE.out).each x hxm
      have hxi := hints x hxm
      obtain ⟨sq, xl, xA, xc⟩ := x
      simp only at k0 k1
      obtain ⟨w5, hw5⟩ : ∃ w5, w5 = wr.alloc (.cells #[.int .i64 sq, .slice xA xl.length xc] 80) := ⟨_, rfl⟩
      have hE5 : Ext wr w5 := by rw [hw5]; exact (Ext.refl wr).alloc _
      have henc := encode_any ⟨sq, xl, xA, xc⟩ w5 (hxok.ext hE5) hxi
      obtain ⟨bt, hbt⟩ : ∃ bt, bt = BtC.bt ⟨sq, xl, xA, xc⟩ := ⟨_, rfl⟩
      rw [← hbt] at henc hzz
      have hela : checkB bt = 0 → (encB bt).length ≤ 100000 := fun h => encB_len h (by
        rw [hbt]
        intro e he
        obtain ⟨y, hy, rfl⟩ := List.mem_map.1 he
        exact hxi y hy)
      unfold EncP BtC.val at henc
      simp only at henc
      obtain ⟨xn, hxn⟩ : ∃ xn, xn = xl.length := ⟨_, rfl⟩
      rw [← hxn] at henc k1 hw5
      replace hxn := hide hxn
      replace hbt := hide hbt
      replace henc := hide henc
      replace hw5 := hide hw5
      clear hx hxm hxok
      by_cases hck : checkB bt = 0
      · rw [if_pos hck] at hzz
        have hlb := hela hck
        replace hzz := hide hzz
        replace hlb := hide hlb
        clear hela
        go_wp2_with fail
        rw [← hw5.out]
        refine henc.out.mono ?_
        rintro e w6 ⟨hE6, ⟨_, A6, c6, rfl, hb6⟩ | ⟨hno, _⟩⟩
        case inr => exact absurd hck hno
        obtain ⟨p, hp⟩ : ∃ p, p = encB bt := ⟨_, rfl⟩
        have hlb' := hlb.out
        have hzz' := hzz.out
        rw [← hp] at hb6 hlb' hzz' ⊢
        replace hp := hide hp
        have hfl := frameL_len p hlb'
        have hbuf6 := hbuf.out.ext (hE5.trans hE6)
        have hput := fput_any C q cc bs A6 p.length c6 p w6 hbuf6.in8 hb6.in8 (by omega) (by omega)
        have hqn : (bs ++ frameL p).length = q + (frameL p).length := by rw [List.length_append, ← hqb.out]
        obtain ⟨bs2, hbs2⟩ : ∃ bs2, bs2 = bs ++ frameL p := ⟨_, rfl⟩
        rw [← hbs2] at hput hzz' hqn
        replace hbs2 := hide hbs2
        unfold PutP at hput
        replace hput := hide hput
        replace hzz' := hide hzz'
        have hE06 := hide (hE.out.trans (hE5.trans hE6))
        clear hzz hlb hck hbuf6 hb6
        go_wp2_with fail
        refine hput.out.mono ?_
        rintro e w7 ⟨A7, c7, rfl, hb7, hE7⟩
        go_wp2_with fail
        exact ⟨⟨i + 1, q + (frameL p).length, c7, A7, bs2, rfl, by go_num, by omega, by omega, hide hqn.symm, hide hzz'.out, hide (by rw [← hqn]; exact hb7.lower hE06.out.size), hide (hE06.out.trans hE7)⟩, by simp [intOf]; omega⟩
      · rw [if_neg hck] at hzz
        have hk0 : ¬ (checkB bt : Int) = 0 := by omega
        replace hzz := hide hzz
        clear hela
        go_wp2_with fail
        rw [← hw5.out]
        refine henc.out.mono ?_
        rintro e w6 ⟨hE6, ⟨hyes, _⟩ | ⟨_, rfl⟩⟩
        case inl => exact absurd hyes hck
        go_wp2_with fail
        go_ret
        rw [hzz.out]
        exact ⟨rfl, hE.out.trans (hE5.trans hE6)⟩
    · obtain rfl : i = m := by omega
      have hzz := hz.out
      rw [List.drop_of_length_le (by have := hm.out; omega)] at hzz
      unfold List.map appB at hzz
      replace hzz := hide hzz
      by_cases h0 : i = 0
      · have h0i : (i : Int) = 0 := by omega
        replace h0 := hide h0
        go_wp2_with fail
        go_ret
        rw [hzz.out]
        unfold AppP
        simp only
        rw [if_pos h0.out]
        exact ⟨rfl, hE.out⟩
      · have h0i : ¬ (i : Int) = 0 := by omega
        replace h0 := hide h0
        have hr := hw.out.ext hE.out
        have c0 := Row.cell hr 0 rfl
        have c1 := Row.cell hr 1 rfl
        have hap := append_any base d P F nm bs C q cc wr.drew ((h.out.ext hE.out).ext (Ext.refl wr).drew) hs hbuf.out.drew.in8.bytes (fun a ha hf => by
          have h1 := hbuf.out.base_le a ha
          have h2 := h.out.lt hf
          omega) hqb.out (by omega) (Nat.le_trans hbase hE.out.size)
        unfold str at hap
        obtain ⟨R, hR⟩ : ∃ R, R = appendM P nm bs := ⟨_, rfl⟩
        rw [← hR] at hap
        replace hap := hide hap
        replace hR := hide hR
        go_wp2_with fail
        refine wp_region_text follows (by kernel_rfl) (by kernel_rfl) (fun K hK => ?_)
        go_wp2_with fail
        refine hap.out.mono ?_
        rintro e w2 ⟨rfl, hN⟩
        go_wp2_with fail
        refine ⟨by kernel_rfl, ?_⟩
        go_wp2_with fail
        go_ret
        rw [hzz.out]
        unfold AppP
        simp only
        rw [if_neg h0.out, ← hR.out]
        exact ⟨wr.drew, hE.out.drew, rfl, hN⟩
end Go.Proofs.YtohphanbnhiodaaGreat

/- loggia/wal: Logs. -/
namespace Go.Proofs.YtohphanbnhiodaaGreat
open Go.RowKit Go.Maps

/-- The numbers of all logs' files. -/
def logsM (P : PD) : List Nat := (listM P).filterMap numW
def nats (l : List Nat) : List Value := l.map fun (k : Nat) => .int .i64 ((k : Nat) : Int)
set_option maxRecDepth 100000 in
theorem elemN : Elem Tryz.prog 35 3 1 8 := ⟨Tryz.underlying35, ⟨_, _, rfl, rfl, rfl, rfl, rfl⟩, by omega, by omega⟩
theorem fm_none {l : List (List UInt8)} {i : Nat} {s : List UInt8} (h : l[i]? = some s) (hn : numW s = none) : (l.take (i + 1)).filterMap numW = (l.take i).filterMap numW := by
  rw [take_one2 h, List.filterMap_append]
  simp [hn]
theorem fm_some {l : List (List UInt8)} {i k : Nat} {s : List UInt8} (h : l[i]? = some s) (hn : numW s = some k) : (l.take (i + 1)).filterMap numW = (l.take i).filterMap numW ++ [k] := by
  rw [take_one2 h, List.filterMap_append]
  simp [hn]
set_option maxRecDepth 100000 in
set_option maxHeartbeats 4000000 in
theorem logs_any (base d : Nat) (P : PD) (F : Nat → Prop) (w : World) (h : DS w base d P F) :
    Calls Tryz.prog 30 #[.pointer (some ⟨d, 0, none⟩)] w fun e w' => ∃ A c, e = .returned (.slice A (logsM P).length c) ∧ w'.ownsRow w.heap.size 3 1 (.slice A (logsM P).length c) (logsM P).length (nats (logsM P)) ∧ Ext w w' := by
  have hl := hide (list_any base d P F w h)
  obtain ⟨L, hL⟩ : ∃ L, L = listM P := ⟨_, rfl⟩
  unfold logsM
  rw [← hL] at hl ⊢
  replace hL := hide hL
  obtain ⟨Z, hZ⟩ : ∃ Z, Z = L.filterMap numW := ⟨_, rfl⟩
  rw [← hZ]
  replace hZ := hide hZ
  clear h
  go_enter Tryz.func30, Tryz.ntmps30
  go_wp2_with fail
  refine hl.out.mono ?_
  rintro e w1 ⟨A, n, c, rfl, hn, hcells, _, hn1, _, hE1⟩
  replace hn := hide hn
  replace hcells := hide hcells
  go_wp2_with fail
  go_loopw [3, 5, 6, 7, 11] (fun s3 _ _ _ s11 wr => ∃ (i q dd : Nat) (B : Option Addr) (outs : List Nat), s3 = .slice B q dd ∧ s11 = .int .i64 (i : Int) ∧ i ≤ n ∧ q ≤ i ∧ Hid (q = outs.length) ∧ Hid (outs = (L.take i).filterMap numW) ∧ Hid (wr.ownsRow w1.heap.size 3 1 (.slice B q dd) q (nats outs)) ∧ Hid (Ext w1 wr)) (fun _ _ _ _ s11 _ => n - (intOf s11).toNat)
  case atStart => exact ⟨0, 0, 0, none, [], rfl, rfl, by omega, by omega, hide rfl, hide rfl, hide ⟨rfl, .inl ⟨rfl, rfl⟩⟩, hide (Ext.refl _)⟩
  case round =>
    obtain ⟨i, q, dd, B, outs, rfl, rfl, hi, hqi, hq, ho, hown, hE⟩ := hrel
    by_cases hin : i < n
    · obtain ⟨s, hs⟩ : ∃ s, L[i]? = some s := ⟨_, List.getElem?_eq_getElem (by have := hn.out; omega)⟩
      obtain ⟨g, o, hA, hc⟩ := Cells.at_ (xs := L.map str) (hcells.out.ext hE.out) (by rw [List.length_map]; have := hn.out; omega)
      have hcell := hc i (str s) (by rw [List.getElem?_map, hs]; rfl)
      unfold str at hcell
      subst hA
      have hnum := number_any s wr
      cases hz : numW s with
      | none =>
        rw [hz] at hnum
        have hfm := hide (fm_none hs hz)
        replace hnum := hide hnum
        clear hc hs hz
        go_wp2_with fail
        refine hnum.out.mono ?_
        rintro e w2 ⟨hE2, rfl⟩
        go_wp2_with fail
        exact ⟨⟨i + 1, q, dd, B, outs, rfl, by go_num, by omega, by omega, hq, hide (by rw [hfm.out]; exact ho.out), hide (hE2.owns hown.out), hide (hE.out.trans hE2)⟩, by simp [intOf]; omega⟩
      | some k =>
        rw [hz] at hnum
        have hfm := hide (fm_some hs hz)
        replace hnum := hide hnum
        clear hc hs hz
        go_wp2_with fail
        refine hnum.out.mono ?_
        rintro e w2 ⟨hE2, rfl⟩
        have hown2 := hide (hE2.owns hown.out)
        have hb2 := (hE.out.trans hE2).size
        go_wp2_with (at_builtin; refine wpList_appZ (us := [.int .i64 (k : Int)]) (m := 1) elemN hown2.out rfl (.tmp 21) (.tmp 23) rfl rfl rfl rfl rfl (one_of rfl) (by omega) hb2 (fun A8 c8 w8 ho8 hg8 _ => ?_); replace ho8 := hide ho8; replace hg8 := hide hg8)
        refine ⟨⟨i + 1, q + 1, c8, A8, outs ++ [k], rfl, by go_num, by omega, by omega, hide (by rw [List.length_append, ← hq.out]; rfl), hide (by rw [hfm.out, ho.out]), hide (by unfold nats; rw [List.map_append]; exact ho8.out), hide ((hE.out.trans hE2).grown hg8.out fun k hk => (by obtain ⟨_, _, hb⟩ := owns_row hown2.out hk; exact hb))⟩, by simp [intOf]; omega⟩
    · obtain rfl : i = n := by omega
      have hoo := ho.out
      rw [List.take_of_length_le (by have := hn.out; omega), ← hZ.out] at hoo
      have hqz : q = Z.length := by rw [hq.out, hoo]
      replace hoo := hide hoo
      replace hqz := hide hqz
      go_wp2_with fail
      go_ret
      refine ⟨B, dd, by rw [← hqz.out]; rfl, ?_, hE1.trans hE.out⟩
      rw [← hqz.out, ← hoo.out]
      exact owns_lower hown.out hE1.size
end Go.Proofs.YtohphanbnhiodaaGreat

/- loggiaref02: SameInts, at alike rows. -/
namespace Go.Proofs.YtohphanbnhiodaaGreat
open Go.RowKit Go.Maps

set_option maxRecDepth 100000 in
set_option maxHeartbeats 1000000 in
theorem sameints_any (A B : Option Addr) (n c c2 : Nat) (xs : List Nat) (w : World) (hn : n = xs.length) (hA : Cells w A (nats xs)) (hB : Cells w B (nats xs)) (hn2 : n ≤ 1000000) :
    Calls Tryz.prog 29 #[.slice A n c, .slice B n c2] w fun e w' => e = .returned (.bool true) ∧ Ext w w' := by
  replace hn := hide hn
  go_enter Tryz.func29, Tryz.ntmps29
  go_wp2_with fail
  go_loopw [5] (fun s5 wr => ∃ i : Nat, s5 = .int .i64 i ∧ i ≤ n ∧ Ext w wr) (fun s5 _ => n - (intOf s5).toNat)
  case atStart => exact ⟨0, rfl, by omega, Ext.refl _⟩
  case round =>
    obtain ⟨i, rfl, hi, hE⟩ := hrel
    by_cases hin : i < n
    · have hx : i < xs.length := by rw [← hn.out]; exact hin
      obtain ⟨g, o, rfl, hc⟩ := hA.at_ (by unfold nats; rw [List.length_map]; omega)
      obtain ⟨g2, o2, rfl, hc2⟩ := hB.at_ (by unfold nats; rw [List.length_map]; omega)
      obtain ⟨x, hxe⟩ : ∃ x : Nat, x = xs[i] := ⟨_, rfl⟩
      have k1 : wr.cell? ⟨g, o + i, none⟩ = some (.int .i64 (x : Int)) := hE.cell (hc i _ (by unfold nats; simp [hx, hxe]))
      have k2 : wr.cell? ⟨g2, o2 + i, none⟩ = some (.int .i64 (x : Int)) := hE.cell (hc2 i _ (by unfold nats; simp [hx, hxe]))
      clear hc hc2
      replace hxe := hide hxe
      go_wp2_with fail
      refine wp_region_text follows (by kernel_rfl) (by kernel_rfl) (fun K hK => ?_)
      go_wp2_with fail
      refine ⟨by kernel_rfl, ?_⟩
      go_wp2_with fail
      go_roundw
      case rel => exact ⟨i + 1, by go_num, by omega, hE.drew⟩
      case measure => simp [intOf]; omega
    · go_wp2_with fail
      go_ret
      exact ⟨rfl, hE⟩
end Go.Proofs.YtohphanbnhiodaaGreat

/- loggia/wal: Writer.Sync. -/
namespace Go.Proofs.YtohphanbnhiodaaGreat
open Go.RowKit Go.Maps

set_option maxRecDepth 100000 in
theorem wsync_any (base b d n : Nat) (P : PD) (F : Nat → Prop) (nm : List UInt8) (w : World) (hw : WrR w b d n nm) (h : DS w base d P F) (hs : nm.length ≤ 9223372036854775807) :
    Calls Tryz.prog 12 #[.pointer (some ⟨b, 0, none⟩)] w fun e w' => e = .returned (.int .i64 (if (syncM P nm).2 = 61 then 0 else ((syncM P nm).2 : Int))) ∧ ∃ wx, Ext w wx ∧ DNext base d F wx (syncM P nm).1 w' := by
  have hn := hide (wnone_any b d n nm w hw)
  have c0 := Row.cell hw 0 rfl
  have c1 := Row.cell hw 1 rfl
  have hsy := sync_any base d P F nm w.drew (h.ext (Ext.refl w).drew) hs
  unfold str at hsy
  obtain ⟨R, hR⟩ : ∃ R, R = syncM P nm := ⟨_, rfl⟩
  rw [← hR] at hsy ⊢
  replace hR := hide hR
  obtain ⟨P', k⟩ := R
  simp only at hsy ⊢
  replace hsy := hide hsy
  clear h
  by_cases hk : k = 61
  · rw [if_pos hk]
    have hki : (k : Int) = 61 := by omega
    replace hk := hide hk
    go_enter Tryz.func12, Tryz.ntmps12
    go_wp2_with fail
    refine hn.out.mono ?_
    rintro e w1 ⟨rfl, rfl⟩
    go_wp2_with fail; refine wp_region_text follows (by kernel_rfl) (by kernel_rfl) (fun K hK => ?_); go_wp2_with fail; refine hsy.out.mono ?_; rintro e w2 ⟨rfl, hN⟩; go_wp2_with fail; refine ⟨by kernel_rfl, ?_⟩; go_wp2_with fail; go_ret
    exact ⟨rfl, w1.drew, (Ext.refl w1).drew, hN⟩
  · rw [if_neg hk]
    have hki : ¬ (k : Int) = 61 := by omega
    replace hk := hide hk
    go_enter Tryz.func12, Tryz.ntmps12
    go_wp2_with fail
    refine hn.out.mono ?_
    rintro e w1 ⟨rfl, rfl⟩
    go_wp2_with fail; refine wp_region_text follows (by kernel_rfl) (by kernel_rfl) (fun K hK => ?_); go_wp2_with fail; refine hsy.out.mono ?_; rintro e w2 ⟨rfl, hN⟩; go_wp2_with fail; refine ⟨by kernel_rfl, ?_⟩; go_wp2_with fail; go_ret
    exact ⟨rfl, w1.drew, (Ext.refl w1).drew, hN⟩
end Go.Proofs.YtohphanbnhiodaaGreat

/- loggialaw15: one. -/
namespace Go.Proofs.YtohphanbnhiodaaGreat
open Go.RowKit

def oneB (n : Int) : Bt := ⟨n, [⟨5, [⟨[109, 115, 103], [97]⟩]⟩]⟩
theorem Row.owned {w : World} {g base k n : Nat} {t : TypeId} {cs : List Value} (h : Row w g t cs.toArray) (hl : cs.length = n * k) (hb : base ≤ g) (hc : n ≤ 1000000) : w.ownsRow base t k (.slice (some ⟨g, 0, none⟩) n n) n cs :=
  ⟨hl, .inr ⟨g, n, cs.toArray, rfl, hb, h, Nat.le_refl _, by unfold maxLen; omega, by simpa using hl, by rw [← hl]; simp⟩⟩
set_option maxRecDepth 100000 in
theorem one_any (n : Int) (w : World) : Calls Tryz.prog 34 #[.int .i64 n] w fun e w' => ∃ (g h : Nat), e = .returned (BtC.val ⟨n, [⟨⟨5, [⟨[109, 115, 103], [97]⟩]⟩, some ⟨h, 0, none⟩, 1⟩], some ⟨g, 0, none⟩, 1⟩) ∧ EvsOwn w' w.heap.size (some ⟨g, 0, none⟩) 1 [⟨⟨5, [⟨[109, 115, 103], [97]⟩]⟩, some ⟨h, 0, none⟩, 1⟩] ∧ Ext w w' := by
  go_enter Tryz.func34, Tryz.ntmps34
  go_wp2_with fail
  obtain ⟨w1, hw1⟩ : ∃ w1, w1 = w.alloc (.cells #[.int .i64 n, .slice (some ⟨w.heap.size + 1 + 1, 0, none⟩) 1 1] 80) := ⟨_, rfl⟩
  obtain ⟨w2, hw2⟩ : ∃ w2, w2 = w1.alloc (.cells #[.string ⟨#[109, 115, 103]⟩, .string ⟨#[97]⟩] 126) := ⟨_, rfl⟩
  obtain ⟨w3, hw3⟩ : ∃ w3, w3 = w2.alloc (.cells #[.int .i64 5, .slice (some ⟨w.heap.size + 1, 0, none⟩) 1 1] 89) := ⟨_, rfl⟩
  have hE1 : Ext w w1 := by rw [hw1]; exact (Ext.refl w).alloc _
  have hE2 : Ext w1 w2 := by rw [hw2]; exact (Ext.refl w1).alloc _
  have hE3 : Ext w2 w3 := by rw [hw3]; exact (Ext.refl w2).alloc _
  have hs1 : w1.heap.size = w.heap.size + 1 := by rw [hw1]; simp
  have hs2 : w2.heap.size = w.heap.size + 1 + 1 := by rw [hw2]; simp [hs1]
  have hr1 : Row w3 w.heap.size 80 #[.int .i64 n, .slice (some ⟨w.heap.size + 1 + 1, 0, none⟩) 1 1] := (show Row w1 _ _ _ by rw [hw1]; exact Row.new w _ _).ext (hE2.trans hE3)
  have hr2 : Row w3 (w.heap.size + 1) 126 #[.string ⟨#[109, 115, 103]⟩, .string ⟨#[97]⟩] := (show Row w2 _ _ _ by rw [hw2, ← hs1]; exact Row.new w1 _ _).ext hE3
  have hr3 : Row w3 (w.heap.size + 1 + 1) 89 #[.int .i64 5, .slice (some ⟨w.heap.size + 1, 0, none⟩) 1 1] := by rw [hw3, ← hs2]; exact Row.new w2 _ _
  have k0 : w3.cell? ⟨w.heap.size, 0, none⟩ = some (.int .i64 n) := hr1.cell 0 rfl
  have k1 : w3.cell? ⟨w.heap.size, 1, none⟩ = some (.slice (some ⟨w.heap.size + 1 + 1, 0, none⟩) 1 1) := hr1.cell 1 rfl
  rw [← hw1, ← hw2, ← hw3]
  clear hw1 hw2 hw3
  refine bodyPost_ret (v := .agg #[.int .i64 n, .slice (some ⟨w.heap.size + 1 + 1, 0, none⟩) 1 1]) (by simp [results, Tryz.results34, go_sem, k0, k1]) rfl ⟨w.heap.size + 1 + 1, w.heap.size + 1, rfl, ⟨Row.owned (cs := ecells [⟨⟨5, [⟨[109, 115, 103], [97]⟩]⟩, some ⟨w.heap.size + 1, 0, none⟩, 1⟩]) hr3 rfl (by omega) (by simp), fun x hx => ?_, fun x hx => ?_⟩, (hE1.trans hE2).trans hE3⟩
  · rw [List.mem_singleton.1 hx]
    exact ⟨Row.owned (cs := fcells [⟨[109, 115, 103], [97]⟩]) hr2 rfl (by omega) (by simp), by simp, by simp⟩
  · rw [List.mem_singleton.1 hx]
    unfold I64ok'
    simp
end Go.Proofs.YtohphanbnhiodaaGreat

/- 'append' as a step of a region that draws its order. -/
namespace Go.Proofs.YtohphanbnhiodaaGreat
open Go.RowKit

theorem step_app {P : Program} {ops : Array Oper} {o : Oper} {a : Act} {w : World} {K : Act → World → Prop} {Q : Exit → Act → World → Prop} {E0 : Prop} {t e size bytes : Nat} (E : Elem P t e size bytes) (hgd : o.guard = none)
    {base : Nat} {v : Value} {n : Nat} {xs : List Value} {A : Option Addr} {m c : Nat} {news : List Value} (hown : w.ownsRow base e size v n xs) (hr : Cells w A news) (s x : Operand)
    (ho : o.op = .call { callee := .builtin .append, args := #[s, x], argTypes := #[t, t] })
    (hs : a.eval s = v) (hx : a.eval x = .slice A m c) (hl : news.length = m * size) (h1 : ∀ u ∈ news, u.oneCell' = true) (hsz : n + m ≤ 4294967296) (hbase : base ≤ w.heap.size)
    (h : ∀ A1 c1 w', w'.ownsRow base e size (.slice A1 (n + m) c1) (n + m) (xs ++ news) → w.grownBy w' v.ownBlock → K (a.put o.dst (.slice A1 (n + m) c1)) w') :
    if Region.wanted o (yielded ops a.tmps) = true then Oper.wp P o a w K Q else E0 := by
  rw [if_pos (by simp [Region.wanted, hgd])]
  obtain ⟨A1, c1, w', hrun, h2, h3, h4⟩ := run_app (P := P) E w o.type hown (c := c) hr hl h1 hsz hbase
  unfold Oper.wp execOp
  simp only [ho, resolve, invoke, builtin, Sem.run_bind, Sem.run_pure, Result.andThen_ok, List.map_toArray, List.map_cons, List.map_nil, hs, hx, hrun]
  exact h A1 c1 w' h2 h3
theorem step_appZ {P : Program} {ops : Array Oper} {o : Oper} {a : Act} {w0 : World} {K : Act → World → Prop} {Q : Exit → Act → World → Prop} {E0 : Prop} {us : List Value} {T : TypeId} {t e size bytes m k : Nat} (E : Elem P t e size bytes) (hgd : o.guard = none)
    {base : Nat} {v : Value} {n : Nat} {xs : List Value} (hown : w0.ownsRow base e size v n xs) (hk : k = w0.heap.size) (s x : Operand)
    (ho : o.op = .call { callee := .builtin .append, args := #[s, x], argTypes := #[t, t] })
    (hs : a.eval s = v) (hx : a.eval x = .slice (some ⟨k, 0, none⟩) m m) (hl : us.length = m * size) (h1 : ∀ u ∈ us, u.oneCell' = true) (hsz : n + m ≤ 4294967296) (hbase : base ≤ w0.heap.size)
    (h : ∀ A1 c1 w', w'.ownsRow base e size (.slice A1 (n + m) c1) (n + m) (xs ++ us) → w0.grownBy w' v.ownBlock → K (a.put o.dst (.slice A1 (n + m) c1)) w') :
    if Region.wanted o (yielded ops a.tmps) = true then Oper.wp P o a (w0.alloc (.cells us.toArray T)) K Q else E0 := by
  subst hk
  refine step_app E hgd (((Ext.refl w0).alloc _).owns hown) (A := some ⟨w0.heap.size, 0, none⟩) (news := us) (.inr ⟨w0.heap.size, 0, rfl, fun i u hu => ?_⟩) s x ho hs hx hl h1 hsz (by simp; omega) fun A1 c1 w' h2 h3 => ?_
  · rw [Nat.zero_add, cell_of_row _ _ _ _ _ _ (heap_alloc_new w0 _)]
    simpa using hu
  · exact h A1 c1 w' h2 ⟨h3.os, h3.tape, h3.output, Nat.le_trans (by simp) h3.size, fun k hk hne => (h3.block k (by simp; omega) hne).trans (Below.heap_alloc w0 _ k hk)⟩
end Go.Proofs.YtohphanbnhiodaaGreat

/- loggia/wal: Scan. -/
namespace Go.Proofs.YtohphanbnhiodaaGreat
open Go.RowKit

def lenS : Value → Nat
  | .slice _ n _ => n
  | _ => 0
theorem okN_if {m : Nat} {q s : Int} : okN (if m = 0 then none else some q) s ↔ m = 0 ∨ s = q := by
  by_cases h : m = 0
  · rw [if_pos h]; simp [okN, h]
  · rw [if_neg h]; simp [okN, h]
theorem BtsOwn.snoc {w w1 w2 : World} {base c d : Nat} {A B : Option Addr} {read : List BtC} {x : BtC} (h : BtsOwn w base A c read) (hx : EvsOwn w base x.A x.c x.l ∧ x.l.length ≤ 64 ∧ 1 ≤ x.seq ∧ x.seq ≤ 1099511627776)
    (hE : Ext w w1) (hg : w1.grownBy w2 (Value.slice A read.length c).ownBlock) (ho : w2.ownsRow base 80 2 (.slice B (read.length + 1) d) (read.length + 1) (bcells read ++ x.cells)) : BtsOwn w2 base B d (read ++ [x]) := by
  have hl : (read ++ [x]).length = read.length + 1 := by rw [List.length_append]; rfl
  have ho1 := hE.owns h.own
  have hc : Chg (fun k => (Value.slice A read.length c).ownBlock = some k) w1 w2 := Chg.of_grown hg fun k _ hk => hk
  have hS : ∀ g t cs, Row w1 g t cs → t = 126 ∨ t = 89 → base ≤ g → ¬ (Value.slice A read.length c).ownBlock = some g := fun g t cs hr ht _ => by
    rcases ht with rfl | rfl
    · exact owns_unlike ho1 hr (by decide)
    · exact owns_unlike ho1 hr (by decide)
  refine ⟨by rw [hl, bcells_snoc]; exact ho, fun y hy => ?_⟩
  rcases List.mem_append.1 hy with hy | hy
  · exact ⟨((h.each y hy).1.ext hE).chg hc hS, (h.each y hy).2⟩
  · rw [List.mem_singleton.1 hy]
    exact ⟨(hx.1.ext hE).chg hc hS, hx.2⟩
set_option maxRecDepth 100000 in
set_option maxHeartbeats 4000000 in
theorem scan_any (A : Option Addr) (N c : Nat) (b : List UInt8) (w : World) (h : In8 w A N c b) (hle : N ≤ 1000000000) :
    Calls Tryz.prog 44 #[.slice A N c] w fun e w' => ScanP w (scanM b.length none b) e w' := by
  obtain rfl : N = b.length := h.len
  obtain ⟨Z, hZ⟩ : ∃ Z, Z = scanM b.length none b := ⟨_, rfl⟩
  rw [← hZ]
  have hZ0 := hide (show Z = aheadS [] 0 (scanM b.length none b) by rw [aheadS_nil]; exact hZ)
  replace h := hide h
  clear hZ
  go_enter Tryz.func44, Tryz.ntmps44
  go_wp2_with fail
  go_loopw [0, 5, 6, 7, 8, 9, 10, 11] (fun s0 s5 s6 s7 _ _ _ _ wr => ∃ (rr : List UInt8) (A3 : Option Addr) (c3 : Nat) (read : List BtC) (B : Option Addr) (d m nb k : Nat) (q : Int), s0 = .slice A3 rr.length c3 ∧ s5 = .slice B m d ∧ s6 = .int .i64 q ∧ s7 = .int .i64 (nb : Int) ∧ nb + rr.length ≤ 1000000000 ∧ m ≤ nb ∧ 0 ≤ q ∧ q ≤ 1099511627840 ∧ rr.length ≤ k ∧ Hid (m = read.length) ∧ Hid (Z = aheadS (read.map BtC.bt) nb (scanM k (if m = 0 then none else some q) rr)) ∧ Hid (BtsOwn wr w.heap.size B d read) ∧ Hid (In8 w A3 rr.length c3 rr) ∧ Hid (Ext w wr)) (fun s0 _ _ _ _ _ _ _ _ => lenS s0)
  case atStart => exact ⟨b, A, c, [], none, 0, 0, 0, b.length, 0, rfl, rfl, rfl, rfl, by omega, by omega, by omega, by omega, by omega, hide rfl, hide hZ0.out, hide (BtsOwn.nil _ _), hide h.out, hide (Ext.refl _)⟩
  case round =>
    obtain ⟨rr, A3, c3, read, B, d, m, nb, k, q, rfl, rfl, rfl, rfl, hnb, hmn, hq0, hq1, hk, hm, hz, hown, hin, hE⟩ := hrel
    by_cases hb0 : rr = []
    · subst hb0
      have hzz := hide (scan_end hz.out)
      go_wp2_with fail
      go_ret3
      exact ScanP.mk hE.out hzz.out hm.out hown.out
    · have hpos : (0 : Int) < rr.length := by have := List.length_pos_iff.2 hb0; omega
      have hgf := fget_any A3 rr.length c3 rr w wr hin.out hE.out (by omega)
      cases hg : getF rr with
      | error e =>
        have hzz := hide (scan_err hz.out hk hb0 hg)
        have he0 : ¬ (e : Int) = 0 := by have := getF_code hg; omega
        rw [hg] at hgf
        unfold GotF at hgf
        simp only at hgf
        replace hgf := hide hgf
        clear hg
        go_wp2_with fail
        refine hgf.out.mono ?_
        rintro en w1 ⟨hE1, rfl⟩
        go_wp2_with fail
        go_ret3
        exact ScanP.mk (hE.out.trans hE1) hzz.out hm.out (hown.out.ext hE1)
      | ok pr =>
        obtain ⟨p, r⟩ := pr
        have hsm := getF_small hg
        have hsp : p.length ≤ 1000000000 := by omega
        have hsi : (r.length : Int) ≤ rr.length := by omega
        rw [hg] at hgf
        unfold GotF at hgf
        simp only at hgf
        replace hgf := hide hgf
        cases hd : decB p with
        | none =>
          have hzz := hide (scan_dec hz.out hk hb0 hg hd)
          clear hg
          go_wp2_with fail
          refine hgf.out.mono ?_
          rintro en w1 ⟨hE1, P, cp, A4, c4, rfl, hip, hir⟩
          have hdc := decode_any P p.length cp p w1 w1 hip (Ext.refl _) hsp
          rw [hd] at hdc
          unfold DecP at hdc
          simp only at hdc
          replace hdc := hide hdc
          go_wp2_with fail
          refine hdc.out.mono ?_
          rintro en w2 ⟨hE2, rfl⟩
          go_wp2_with fail
          go_ret3
          exact ScanP.mk ((hE.out.trans (hE1.trans hE2)).alloc _) hzz.out hm.out (hown.out.ext ((hE1.trans hE2).trans ((Ext.refl w2).alloc _)))
        | some bt =>
          go_wp2_with fail
          refine hgf.out.mono ?_
          rintro en w1 ⟨hE1, P, cp, A4, c4, rfl, hip, hir⟩
          have hdc := decode_any P p.length cp p w1 w1 hip (Ext.refl _) hsp
          rw [hd] at hdc
          unfold DecP at hdc
          simp only at hdc
          replace hdc := hide hdc
          go_wp2_with fail
          refine hdc.out.mono ?_
          rintro en w2 ⟨hE2, l, B4, d4, hes, rfl, hev, hl64, hs1, hs2⟩
          obtain ⟨sq, es⟩ := bt
          simp only at hes hs1 hs2 ⊢
          obtain ⟨j, hj⟩ : ∃ j, j = l.length := ⟨_, rfl⟩
          rw [← hj] at hl64 ⊢
          obtain ⟨w5, hw5⟩ : ∃ w5, w5 = w2.alloc (.cells #[.int .i64 sq, .slice B4 j d4] 80) := ⟨_, rfl⟩
          have hE25 : Ext w2 w5 := by rw [hw5]; exact (Ext.refl w2).alloc _
          have hr5 : Row w5 w2.heap.size 80 #[.int .i64 sq, .slice B4 j d4] := by rw [hw5]; exact Row.new w2 _ _
          obtain ⟨g, hgg⟩ : ∃ g, g = w2.heap.size := ⟨_, rfl⟩
          rw [← hgg] at hr5
          have hEr5 := hE1.trans (hE2.trans hE25)
          have hE05 := hE.out.trans hEr5
          have hown5 := hown.out.ext hEr5
          have hx : EvsOwn w5 w.heap.size B4 d4 l ∧ l.length ≤ 64 ∧ 1 ≤ sq ∧ sq ≤ 1099511627776 := ⟨(hev.lower (Nat.le_trans hE.out.size hE1.size)).ext hE25, by omega, hs1, hs2⟩
          replace hj := hide hj
          have hbt : BtC.bt ⟨sq, l, B4, d4⟩ = ⟨sq, es⟩ := by unfold BtC.bt; simp only; rw [hes]
          have x0 := hr5.cell 0 rfl
          have x1 := hr5.cell 1 rfl
          have hwg := hr5.lt
          replace hdc := hide hdc
          replace hev := hide hev
          replace hes := hide hes
          by_cases hs : okN (if m = 0 then none else some q) sq
          · have hzz := scan_step hz.out hk hb0 hg hd hs
            simp only at hzz
            rw [okN_if] at hs
            have hq' : m = 0 ∨ (0 < m ∧ sq = q) := by omega
            have hesl : es.length = j := by rw [hes.out, List.length_map]; exact hj.out.symm
            have hnx : (if m + 1 = 0 then none else some (sq + (j : Int))) = some (sq + (j : Int)) := if_neg (by omega)
            rw [hesl, ← hbt] at hzz
            have hown5o : w5.ownsRow w.heap.size 80 2 (.slice B m d) m (bcells read) := by have := hown5.own; rw [← hm.out] at this; exact this
            have hblk : ∀ k, (Value.slice B m d).ownBlock = some k → k < g := fun k hk => by
              have ho2 := (hown.out.ext (hE1.trans hE2)).own
              rw [← hm.out] at ho2
              obtain ⟨cs, hrr, _⟩ := owns_row ho2 hk
              rw [hgg]
              exact hrr.lt
            have hbase5 : w.heap.size ≤ w5.heap.size := hE05.size
            have hS0 : w5.drew.cell? ⟨g, 0, none⟩ = some (.int .i64 sq) ∧ w5.drew.cell? ⟨g, 1, none⟩ = some (.slice B4 j d4) := ⟨x0, x1⟩
            have hEa : Ext w5.drew (w5.drew.alloc (.cells #[.int .i64 sq, .slice B4 j d4] 80)) := (Ext.refl _).alloc _
            have hSa : (w5.drew.alloc (.cells #[.int .i64 sq, .slice B4 j d4] 80)).cell? ⟨g, 0, none⟩ = some (.int .i64 sq) ∧ (w5.drew.alloc (.cells #[.int .i64 sq, .slice B4 j d4] 80)).cell? ⟨g, 1, none⟩ = some (.slice B4 j d4) := ⟨hEa.cell x0, hEa.cell x1⟩
            have hgr : ∀ w8, w5.drew.grownBy w8 (Value.slice B m d).ownBlock → w8.cell? ⟨g, 0, none⟩ = some (.int .i64 sq) ∧ w8.cell? ⟨g, 1, none⟩ = some (.slice B4 j d4) := fun w8 hg8 => by
              have hr8 := Row.grown (w := w5.drew) hr5.drew hg8 (fun e => by
                have := hblk _ e.symm
                omega)
              exact ⟨hr8.cell 0 rfl, hr8.cell 1 rfl⟩
            have hzz2 := hzz
            replace hzz := hide hzz
            replace hx := hide hx
            replace hr5 := hide hr5
            replace hown5 := hide hown5
            replace hE05 := hide hE05
            replace hgr := hide hgr
            replace hSa := hide hSa
            replace hS0 := hide hS0
            replace hown5o := hide hown5o
            have hsq64 : sq + (j : Int) ≤ 1099511627840 := by have := hj.out; omega
            have hmle : m + 1 ≤ 1000000000 := by omega
            rw [hw5, hgg] at x0
            clear hg hd hs hdc hgf x1 hzz2 hnx hblk hEa
            have hown5d := hide ((Ext.refl w5).drew.owns hown5o.out)
            have hbase5d : w.heap.size ≤ w5.drew.heap.size := hbase5
            rcases hq' with h0 | ⟨hmp, rfl⟩
            case' inl =>
              have h0i : ¬ (0 : Int) < m := by omega
              clear h0
              go_wp2_with fail
            case' inr =>
              have h0i : (0 : Int) < m := by omega
              clear hmp
              go_wp2_with fail
            all_goals
              rw [← hw5, ← hgg]
              replace hw5 := hide hw5
              replace hgg := hide hgg
              clear x0
              go_region_held3 (fun x => x.cell? ⟨g, 0, none⟩ = some (.int .i64 sq) ∧ x.cell? ⟨g, 1, none⟩ = some (.slice B4 j d4)) (first | exact hS0.out | exact hSa.out | exact hgr.out _ ‹_›) (first | (refine step_appZ (us := [.int .i64 sq, .slice B4 j d4]) (m := 1) elemBt rfl hown5d.out rfl (.tmp 46) (.tmp 48) rfl rfl rfl rfl (one_of rfl) (by omega) hbase5d (fun A8 c8 w8 ho8 hg8 => ?_)))
              go_wp2_with fail
              obtain rfl : m = read.length := hm.out
              obtain rfl : j = l.length := hj.out
              have hwr : IntKind.i64.wrap (sq + (l.length : Int)) = sq + (l.length : Int) := by
                simp [IntKind.wrap, IntKind.bits, IntKind.signed]
                omega
              refine ⟨⟨r, A4, c4, read ++ [⟨sq, l, B4, d4⟩], A8, c8, read.length + 1, nb + (rr.length - r.length), k - 1, sq + (l.length : Int), rfl, rfl, by rw [hwr], by rw [show (nb : Int) + ((rr.length : Int) - (r.length : Int)) = ((nb + (rr.length - r.length) : Nat) : Int) by omega], by omega, by omega, by omega, by omega, by omega, hide (by rw [List.length_append]; rfl), hide (by rw [if_neg (by omega), List.map_append]; exact hzz.out), hide (BtsOwn.snoc (x := ⟨sq, l, B4, d4⟩) hown5.out hx.out (Ext.refl w5).drew hg8 ho8), hide hir, hide (hE05.out.drew.grown hg8 fun k hk => (by obtain ⟨_, _, hb⟩ := owns_row hown5d.out hk; exact hb))⟩, by simp [lenS]; omega⟩
          · have hzz := hide (scan_seq hz.out hk hb0 hg hd hs)
            rw [okN_if] at hs
            have hmp : (0 : Int) < m := by omega
            have hsq : ¬ sq = q := fun h => hs (.inr h)
            rw [hw5, hgg] at x0
            replace hx := hide hx
            replace hr5 := hide hr5
            replace hown5 := hide hown5
            replace hE05 := hide hE05
            clear hg hd hs hdc hgf x1
            go_wp2_with fail
            rw [← hw5]
            go_ret3
            exact ScanP.mk hE05.out hzz.out hm.out hown5.out
end Go.Proofs.YtohphanbnhiodaaGreat

/- loggiaref04: Get. -/
namespace Go.Proofs.YtohphanbnhiodaaGreat
open Go.RowKit

set_option maxRecDepth 100000 in
set_option maxHeartbeats 4000000 in
theorem rfget_any (A : Option Addr) (n c : Nat) (l : List UInt8) (w0 w : World) (h : In8 w0 A n c l) (hw : Ext w0 w) (hle : n ≤ 1000000000) :
    Calls Tryz.prog 83 #[.slice A n c] w fun e w' => GotF w0 w (getF l) e w' := by
  have hg := rget_any A n c l w0 w h hw hle
  have hln := hide h.len
  obtain ⟨Z, hZ⟩ : ∃ Z, Z = getF l := ⟨_, rfl⟩
  rw [← hZ]
  unfold getF at hZ
  cases hv : getV 0 l with
  | error k =>
    rw [hv] at hg hZ
    simp only at hZ
    rcases getV_code l 0 k hv with rfl | rfl
    · rw [if_pos rfl] at hZ
      replace hZ := hide hZ
      replace hg := hide hg
      clear h hv
      go_enter Tryz.func83, Tryz.ntmps83
      go_wp2_with fail
      refine hg.out.mono ?_
      rintro e w1 ⟨hE1, rfl⟩
      go_wp2_with fail
      go_ret3
      exact GotF.no hE1 hZ.out
    · rw [if_neg (by omega)] at hZ
      replace hZ := hide hZ
      replace hg := hide hg
      clear h hv
      go_enter Tryz.func83, Tryz.ntmps83
      go_wp2_with fail
      refine hg.out.mono ?_
      rintro e w1 ⟨hE1, rfl⟩
      go_wp2_with fail
      go_ret3
      exact GotF.no hE1 hZ.out
  | ok p =>
    obtain ⟨m, r⟩ := p
    have hm64 := getV_lt64 hv
    have hrl := getV_less hv
    obtain ⟨hd, hhd, hhq⟩ := getV_other l 0 m r [] hv
    have hpre : l.length - r.length = hd.length := by rw [hhd, List.length_append]; omega
    rw [hv] at hg hZ
    simp only at hZ
    unfold Got at hg
    simp only at hg
    replace hg := hide hg
    clear hv hhq
    by_cases hbig : 16777216 < m
    · rw [if_pos hbig] at hZ
      replace hZ := hide hZ
      have hb' : (16777216 : Int) < m := by omega
      clear h
      go_enter Tryz.func83, Tryz.ntmps83
      go_wp2_with fail
      refine hg.out.mono ?_
      rintro e w1 ⟨hE1, A1, c1, rfl, hi1⟩
      go_wp2_with fail
      go_ret3
      exact GotF.no hE1 hZ.out
    · rw [if_neg hbig] at hZ
      have hb' : ¬ (16777216 : Int) < m := by omega
      have hwm : IntKind.i64.wrap (m : Int) = (m : Int) := by
        simp [IntKind.wrap, IntKind.bits, IntKind.signed]
        omega
      by_cases hsh : r.length < 4 + m
      · rw [if_pos hsh] at hZ
        replace hZ := hide hZ
        clear h
        by_cases hs4 : r.length < 4
        · have hs' : (r.length : Int) < 4 := by omega
          go_enter Tryz.func83, Tryz.ntmps83
          go_wp2_with fail
          refine hg.out.mono ?_
          rintro e w1 ⟨hE1, A1, c1, rfl, hi1⟩
          go_wp2_with fail
          go_ret3
          exact GotF.no hE1 hZ.out
        · have hs' : ¬ (r.length : Int) < 4 := by omega
          have hs2 : (r.length : Int) - 4 < (m : Int) := by omega
          have hrb : r.length ≤ 1000000000 := by have := hln.out; omega
          go_enter Tryz.func83, Tryz.ntmps83
          go_wp2_with fail
          refine hg.out.mono ?_
          rintro e w1 ⟨hE1, A1, c1, rfl, hi1⟩
          go_wp2_with fail
          go_ret3
          exact GotF.no hE1 hZ.out
      · rw [if_neg hsh] at hZ
        have hs' : ¬ (r.length : Int) < 4 := by omega
        have hs2 : ¬ (r.length : Int) - 4 < (m : Int) := by omega
        obtain ⟨hhr, hhi⟩ := h.headk .i64 (k := l.length - r.length) (by have := hln.out; omega) (z := (n : Int) - (r.length : Int)) (by have := hln.out; omega)
        rw [hpre] at hhr hhi
        have hrn : r.length ≤ n := by have := hln.out; omega
        have hrn2 : r.length ≤ 1000000000 := by omega
        replace hZ := hide hZ
        replace hhi := hide hhi
        replace hpre := hide hpre
        replace hhd := hide hhd
        clear h hrl
        go_enter Tryz.func83, Tryz.ntmps83
        go_wp2_with fail
        refine hg.out.mono ?_
        rintro e w1 ⟨hE1, A1, c1, rfl, hi1⟩
        obtain ⟨A2, c2, hpr, hpi⟩ := hi1.subk .i64 .i64 (fr := 4) (k := m) (by omega) (z0 := 4) (z := 4 + (m : Int)) rfl rfl
        obtain ⟨A3, c3, htr, hti⟩ := hi1.fromk .i64 (fr := 4 + m) (by omega) (z := 4 + (m : Int)) (by omega)
        have hE0 := hw.trans hE1
        have hEa : Ext w1 (w1.alloc (.cells #[] 5)) := (Ext.refl w1).alloc _
        have hby : Buf (w1.alloc (.cells #[] 5)) w1.heap.size 5 (some ⟨w1.heap.size, 0, none⟩) 0 0 [] := buf_new w1 [] 5 (by simp)
        have hs5 := hEa.size
        have hpl : ((r.drop 4).take m).length = m := by rw [List.length_take, List.length_drop]; omega
        have hhl : (l.take hd.length).length = hd.length := by rw [List.length_take, hhd.out, List.length_append]; omega
        have hhi1 := hhi.out.ext (hE0.trans hEa)
        have hpi1 := hpi
        obtain ⟨hh, hhhd⟩ : ∃ hh, hh = l.take hd.length := ⟨_, rfl⟩
        obtain ⟨pl, hpld⟩ : ∃ pl, pl = (r.drop 4).take m := ⟨_, rfl⟩
        have hz2 := hZ.out
        rw [hpre.out, ← hhhd, ← hpld] at hz2
        rw [← hhhd] at hhl hhi1
        rw [← hpld] at hpl hpi1
        have hdl : (r.drop (4 + m)).length = r.length - (4 + m) := List.length_drop
        have hrc := hide (hi1.bytes)
        have hln1 : hd.length + m ≤ 1000000000 := by have := hln.out; have := congrArg List.length hhd.out; rw [List.length_append] at this; omega
        replace hz2 := hide hz2
        replace hpld := hide hpld
        replace hhhd := hide hhhd
        replace hpl := hide hpl
        replace hhl := hide hhl
        replace hdl := hide hdl
        replace hpi := hide hpi
        replace hti := hide hti
        replace hi1 := hide hi1
        replace hby := hide hby
        replace hhi1 := hide hhi1
        replace hpi1 := hide hpi1
        replace hEa := hide hEa
        go_wp2_with (at_builtin; first
          | (refine wpList_buf elemB hby.out hhi1.out.bytes (.tmp 47) (.tmp 50) rfl rfl rfl rfl rfl (by rw [List.length_map]; exact hhl.out) (bytes_one _) (by omega) hs5 (fun A4 c4 w4 hb4 _ hE4 _ => ?_)
             have hE14 := hide (hE4 w1 hEa.out (Nat.le_refl _))
             have hE04 := hide (hE4 w0 (hE0.trans hEa.out) hE0.size)
             rw [Nat.zero_add, List.nil_append] at hb4
             replace hb4 := hide hb4
             clear hE4)
          | (refine wpList_buf elemB hb4.out ((hpi1.out.ext hE04.out).bytes) (.tmp 51) (.tmp 52) rfl rfl rfl rfl rfl (by rw [List.length_map]; exact hpl.out) (bytes_one _) (by omega) hE14.out.size (fun A5 c5 w5 hb5 _ hE5 _ => ?_)
             have hE15 := hide (hE5 w1 hE14.out (Nat.le_refl _))
             rw [← List.map_append] at hb5
             have hof := hide (of_any A5 _ c5 _ w5 w5 hb5.in8 (Ext.refl w5) (by omega))
             replace hb5 := hide hb5
             clear hE5 hE04 hb4))
        refine hof.out.mono ?_
        rintro e w6 ⟨rfl, rfl⟩
        obtain ⟨g, hg⟩ : ∃ g, g = cnext 0 (hh ++ pl) := ⟨_, rfl⟩
        have hz3 := hz2.out
        rw [← hg] at hz3
        obtain ⟨x0, hx0⟩ : ∃ x, r[0]? = some x := ⟨_, List.getElem?_eq_getElem (by omega)⟩
        obtain ⟨x1, hx1⟩ : ∃ x, r[1]? = some x := ⟨_, List.getElem?_eq_getElem (by omega)⟩
        obtain ⟨x2, hx2⟩ : ∃ x, r[2]? = some x := ⟨_, List.getElem?_eq_getElem (by omega)⟩
        obtain ⟨x3, hx3⟩ : ∃ x, r[3]? = some x := ⟨_, List.getElem?_eq_getElem (by omega)⟩
        have hbe : be (r.take 4) = x0.toNat * 16777216 + x1.toNat * 65536 + x2.toNat * 256 + x3.toNat := by
          rw [take_one2 hx3, be_snoc, take_one2 hx2, be_snoc, take_one2 hx1, be_snoc, take_one2 hx0, be_snoc]
          simp only [List.take_zero, be, List.foldl_nil]
          omega
        rw [hbe] at hz3
        obtain ⟨q, o, hA1, hc⟩ := Cells.at_ (xs := r.map B8) (hrc.out.ext (hE0.trans hE15.out).drew) (by rw [List.length_map]; omega)
        have c0 := hc 0 (B8 x0) (by rw [List.getElem?_map, hx0]; rfl)
        have c1' := hc 1 (B8 x1) (by rw [List.getElem?_map, hx1]; rfl)
        have c2' := hc 2 (B8 x2) (by rw [List.getElem?_map, hx2]; rfl)
        have c3' := hc 3 (B8 x3) (by rw [List.getElem?_map, hx3]; rfl)
        unfold B8 at c0 c1' c2' c3'
        simp [Addr.add] at c0 c1' c2' c3'
        have b0 := x0.toNat_lt
        have b1 := x1.toNat_lt
        have b2 := x2.toNat_lt
        have b3 := x3.toNat_lt
        subst hA1
        obtain ⟨y0, hy0⟩ : ∃ y, y = x0.toNat := ⟨_, rfl⟩
        obtain ⟨y1, hy1⟩ : ∃ y, y = x1.toNat := ⟨_, rfl⟩
        obtain ⟨y2, hy2⟩ : ∃ y, y = x2.toNat := ⟨_, rfl⟩
        obtain ⟨y3, hy3⟩ : ∃ y, y = x3.toNat := ⟨_, rfl⟩
        rw [← hy0] at hz3 c0 b0
        rw [← hy1] at hz3 c1' b1
        rw [← hy2] at hz3 c2' b2
        rw [← hy3] at hz3 c3' b3
        replace hy0 := hide hy0
        replace hy1 := hide hy1
        replace hy2 := hide hy2
        replace hy3 := hide hy3
        clear hx0 hx1 hx2 hx3 hbe hc
        have hE16 := hide hE15.out
        by_cases hgv : g = y0 * 16777216 + y1 * 65536 + y2 * 256 + y3
        · rw [if_pos hgv] at hz3
          have hgi : (g : Int) = (y0 : Int) * 16777216 + (y1 : Int) * 65536 + (y2 : Int) * 256 + (y3 : Int) := by omega
          replace hz3 := hide hz3
          go_wp2_with fail
          refine wp_region_text follows (by kernel_rfl) (by kernel_rfl) (fun K hK => ?_)
          go_wp2_with fail
          refine ⟨by kernel_rfl, ?_⟩
          go_wp2_with fail
          refine wp_region_text follows (by kernel_rfl) (by kernel_rfl) (fun K hK => ?_)
          go_wp2_with fail
          refine ⟨by kernel_rfl, ?_⟩
          go_wp2_with fail
          go_ret3
          rw [hz3.out]
          exact ⟨(hE1.trans hE16.out).drew.drew, A2, c2, A3, c3, by rw [hpl.out, hdl.out]; rfl, by rw [hpl.out]; exact hpi1.out.ext (hE0.trans hE16.out).drew.drew, by rw [hdl.out]; exact hti.out⟩
        · rw [if_neg hgv] at hz3
          have hgi : ¬ (g : Int) = (y0 : Int) * 16777216 + (y1 : Int) * 65536 + (y2 : Int) * 256 + (y3 : Int) := by omega
          replace hz3 := hide hz3
          go_wp2_with fail
          refine wp_region_text follows (by kernel_rfl) (by kernel_rfl) (fun K hK => ?_)
          go_wp2_with fail
          refine ⟨by kernel_rfl, ?_⟩
          go_wp2_with fail
          go_ret3
          exact GotF.no (hE1.trans hE16.out).drew hz3.out
end Go.Proofs.YtohphanbnhiodaaGreat

/- loggiaref15: Scan. -/
namespace Go.Proofs.YtohphanbnhiodaaGreat
open Go.RowKit

theorem BtsOwn.snocm {w w1 w2 : World} {base c d m : Nat} {A B : Option Addr} {read : List BtC} {x : BtC} (hm : m = read.length) (h : BtsOwn w base A c read) (hx : EvsOwn w base x.A x.c x.l ∧ x.l.length ≤ 64 ∧ 1 ≤ x.seq ∧ x.seq ≤ 1099511627776)
    (hE : Ext w w1) (hg : w1.grownBy w2 (Value.slice A m c).ownBlock) (ho : w2.ownsRow base 80 2 (.slice B (m + 1) d) (m + 1) (bcells read ++ x.cells)) : BtsOwn w2 base B d (read ++ [x]) := by
  subst hm
  exact BtsOwn.snoc h hx hE hg ho
set_option maxRecDepth 100000 in
set_option maxHeartbeats 4000000 in
theorem rscan_any (A : Option Addr) (N c : Nat) (b : List UInt8) (w : World) (h : In8 w A N c b) (hle : N ≤ 1000000000) :
    Calls Tryz.prog 46 #[.slice A N c] w fun e w' => ScanP w (scanM b.length none b) e w' := by
  obtain rfl : N = b.length := h.len
  obtain ⟨Z, hZ⟩ : ∃ Z, Z = scanM b.length none b := ⟨_, rfl⟩
  rw [← hZ]
  have hZ0 := hide (show Z = aheadS [] 0 (scanM b.length none b) by rw [aheadS_nil]; exact hZ)
  replace h := hide h
  clear hZ
  go_enter Tryz.func46, Tryz.ntmps46
  go_wp2_with fail
  go_loopw [0, 5, 7, 8, 9, 10, 11, 12] (fun s0 s5 _ _ _ _ _ _ wr => ∃ (rr : List UInt8) (A3 : Option Addr) (c3 : Nat) (read : List BtC) (B : Option Addr) (d m nb k : Nat) (q : Int), s0 = .slice A3 rr.length c3 ∧ s5 = .slice B m d ∧ nb + rr.length = b.length ∧ m ≤ nb ∧ rr.length ≤ k ∧ Hid (m = read.length) ∧ Hid (m = 0 ∨ ∃ y, read[m - 1]? = some y ∧ q = y.seq + (y.l.length : Int)) ∧ Hid (Z = aheadS (read.map BtC.bt) nb (scanM k (if m = 0 then none else some q) rr)) ∧ Hid (BtsOwn wr w.heap.size B d read) ∧ Hid (In8 w A3 rr.length c3 rr) ∧ Hid (Ext w wr)) (fun s0 _ _ _ _ _ _ _ _ => lenS s0)
  case atStart => exact ⟨b, A, c, [], none, 0, 0, 0, b.length, 0, rfl, rfl, by omega, by omega, by omega, hide rfl, hide (.inl rfl), hide hZ0.out, hide (BtsOwn.nil _ _), hide h.out, hide (Ext.refl _)⟩
  case round =>
    obtain ⟨rr, A3, c3, read, B, d, m, nb, k, q, rfl, rfl, hnb, hmn, hk, hm, hlast, hz, hown, hin, hE⟩ := hrel
    have hnbi : (b.length : Int) - (rr.length : Int) = (nb : Int) := by omega
    by_cases hb0 : rr = []
    · subst hb0
      obtain rfl : nb = b.length := by simpa using hnb
      have hzz := hide (scan_end hz.out)
      go_wp2_with fail
      go_ret3
      exact ScanP.mk hE.out hzz.out hm.out hown.out
    · have hpos : (0 : Int) < rr.length := by have := List.length_pos_iff.2 hb0; omega
      have hgf := rfget_any A3 rr.length c3 rr w wr hin.out hE.out (by omega)
      cases hg : getF rr with
      | error e =>
        have hzz := hide (scan_err hz.out hk hb0 hg)
        have he0 : ¬ (e : Int) = 0 := by have := getF_code hg; omega
        rw [hg] at hgf
        unfold GotF at hgf
        simp only at hgf
        replace hgf := hide hgf
        clear hg
        go_wp2_with fail
        refine hgf.out.mono ?_
        rintro en w1 ⟨hE1, rfl⟩
        go_wp2_with fail
        go_ret3
        exact ScanP.mk (hE.out.trans hE1) hzz.out hm.out (hown.out.ext hE1)
      | ok pr =>
        obtain ⟨p, r⟩ := pr
        have hsm := getF_small hg
        have hsp : p.length ≤ 1000000000 := by omega
        have hsi : (r.length : Int) ≤ rr.length := by omega
        rw [hg] at hgf
        unfold GotF at hgf
        simp only at hgf
        replace hgf := hide hgf
        cases hd : decB p with
        | none =>
          have hzz := hide (scan_dec hz.out hk hb0 hg hd)
          clear hg
          go_wp2_with fail
          refine hgf.out.mono ?_
          rintro en w1 ⟨hE1, P, cp, A4, c4, rfl, hip, hir⟩
          have hdc := rdecode_any P p.length cp p w1 w1 hip (Ext.refl _) hsp
          rw [hd] at hdc
          unfold DecP at hdc
          simp only at hdc
          replace hdc := hide hdc
          go_wp2_with fail
          refine hdc.out.mono ?_
          rintro en w2 ⟨hE2, rfl⟩
          go_wp2_with fail
          refine wp_region_text follows (by kernel_rfl) (by kernel_rfl) (fun K hK => ?_); go_wp2_with fail; refine ⟨by kernel_rfl, ?_⟩
          go_wp2_with fail
          go_ret3
          exact ScanP.mk ((hE.out.trans (hE1.trans hE2)).alloc _).drew hzz.out hm.out (hown.out.ext ((hE1.trans hE2).trans ((Ext.refl w2).alloc _).drew))
        | some bt =>
          go_wp2_with fail
          refine hgf.out.mono ?_
          rintro en w1 ⟨hE1, P, cp, A4, c4, rfl, hip, hir⟩
          have hdc := rdecode_any P p.length cp p w1 w1 hip (Ext.refl _) hsp
          rw [hd] at hdc
          unfold DecP at hdc
          simp only at hdc
          replace hdc := hide hdc
          go_wp2_with fail
          refine hdc.out.mono ?_
          rintro en w2 ⟨hE2, l, B4, d4, hes, rfl, hev, hl64, hs1, hs2⟩
          obtain ⟨sq, es⟩ := bt
          simp only at hes hs1 hs2 ⊢
          obtain ⟨j, hj⟩ : ∃ j, j = l.length := ⟨_, rfl⟩
          rw [← hj] at hl64 ⊢
          obtain ⟨w5, hw5⟩ : ∃ w5, w5 = w2.alloc (.cells #[.int .i64 sq, .slice B4 j d4] 80) := ⟨_, rfl⟩
          have hE25 : Ext w2 w5 := by rw [hw5]; exact (Ext.refl w2).alloc _
          have hr5 : Row w5 w2.heap.size 80 #[.int .i64 sq, .slice B4 j d4] := by rw [hw5]; exact Row.new w2 _ _
          obtain ⟨g, hgg⟩ : ∃ g, g = w2.heap.size := ⟨_, rfl⟩
          rw [← hgg] at hr5
          have hEr5 := hE1.trans (hE2.trans hE25)
          have hE05 := hE.out.trans hEr5
          have hown5 := hown.out.ext hEr5
          have hx : EvsOwn w5 w.heap.size B4 d4 l ∧ l.length ≤ 64 ∧ 1 ≤ sq ∧ sq ≤ 1099511627776 := ⟨(hev.lower (Nat.le_trans hE.out.size hE1.size)).ext hE25, by omega, hs1, hs2⟩
          replace hj := hide hj
          have hbt : BtC.bt ⟨sq, l, B4, d4⟩ = ⟨sq, es⟩ := by unfold BtC.bt; simp only; rw [hes]
          have x0 := hr5.cell 0 rfl
          have x1 := hr5.cell 1 rfl
          have hwg := hr5.lt
          replace hdc := hide hdc
          replace hev := hide hev
          replace hes := hide hes
          replace hj := hide hj
          have hsq64 : sq + (j : Int) ≤ 1099511627840 := by have := hj.out; omega
          have hmle : m + 1 ≤ 1000000000 := by omega
          have hown5o : w5.ownsRow w.heap.size 80 2 (.slice B m d) m (bcells read) := by have := hown5.own; rw [← hm.out] at this; exact this
          have hown5d := hide ((Ext.refl w5).drew.owns hown5o)
          have hbase5d : w.heap.size ≤ w5.drew.heap.size := hE05.size
          replace hx := hide hx
          replace hE05 := hide hE05
          replace hown5o := hide hown5o
          rcases Nat.eq_zero_or_pos m with h0 | hmp
          · have hs : okN (if m = 0 then none else some q) sq := okN_if.2 (.inl h0)
            have hzz := scan_step hz.out hk hb0 hg hd hs
            simp only at hzz
            have hesl : es.length = j := by rw [hes.out, List.length_map]; exact hj.out.symm
            rw [hesl, ← hbt] at hzz
            replace hzz := hide hzz
            have h0i : ¬ (0 : Int) < m := by omega
            replace hown5 := hide hown5
            clear hg hd hs hdc hgf h0
            go_wp2_with fail
            rw [← hw5, ← hgg]
            replace hw5 := hide hw5
            replace hgg := hide hgg
            refine wp_region_text follows (by kernel_rfl) (by kernel_rfl) (fun K hK => ?_); go_wp2_with fail; refine ⟨by kernel_rfl, ?_⟩
            go_wp2_with (at_builtin; refine wpList_appZ (us := [.int .i64 sq, .slice B4 j d4]) (m := 1) elemBt hown5d.out rfl (.tmp 69) (.tmp 71) rfl rfl rfl rfl rfl (one_of rfl) (by omega) hbase5d (fun A8 c8 w8 ho8 hg8 _ => ?_); replace ho8 := hide ho8; replace hg8 := hide hg8)
            obtain rfl : m = read.length := hm.out
            obtain rfl : j = l.length := hj.out
            refine ⟨⟨r, A4, c4, read ++ [⟨sq, l, B4, d4⟩], A8, c8, read.length + 1, nb + (rr.length - r.length), k - 1, sq + (l.length : Int), rfl, rfl, by omega, by omega, by omega, hide (by rw [List.length_append]; rfl), hide (.inr ⟨⟨sq, l, B4, d4⟩, by simp, rfl⟩), hide (by rw [if_neg (by omega), List.map_append]; exact hzz.out), hide (BtsOwn.snoc (x := ⟨sq, l, B4, d4⟩) hown5.out hx.out (Ext.refl w5).drew hg8.out ho8.out), hide hir, hide (hE05.out.drew.grown hg8.out fun k hk => (by obtain ⟨_, _, hb⟩ := owns_row hown5d.out hk; exact hb))⟩, by simp [lenS]; omega⟩
          · obtain ⟨y, hy, hqy⟩ := hlast.out.resolve_left (by omega)
            obtain ⟨g', o', hB, k0, k1⟩ := bcells_at hown5.ok.cells hy
            obtain ⟨hyl, hy1, hy2⟩ := (hown5.each y (List.mem_of_getElem? hy)).2
            obtain ⟨i, rfl⟩ : ∃ i, m = i + 1 := ⟨m - 1, by omega⟩
            rw [Nat.add_sub_cancel] at k0 k1
            obtain ⟨ys, yl, yA, yc⟩ := y
            simp only at k0 k1 hyl hy1 hy2 hqy
            obtain ⟨jy, hjy⟩ : ∃ jy, jy = yl.length := ⟨_, rfl⟩
            rw [← hjy] at k1 hyl hqy
            replace hjy := hide hjy
            subst hB
            replace hown5 := hide hown5
            clear hy
            by_cases hsq : sq = q
            · have hs : okN (if i + 1 = 0 then none else some q) sq := okN_if.2 (.inr hsq)
              have hzz := scan_step hz.out hk hb0 hg hd hs
              simp only at hzz
              have hesl : es.length = j := by rw [hes.out, List.length_map]; exact hj.out.symm
              rw [hesl, ← hbt] at hzz
              replace hzz := hide hzz
              have hsi2 : ys + (jy : Int) = sq := by omega
              replace hqy := hide hqy
              clear hg hd hs hdc hgf hsq
              go_wp2_with fail
              rw [← hw5, ← hgg]
              replace hw5 := hide hw5
              replace hgg := hide hgg
              refine wp_region_text follows (by kernel_rfl) (by kernel_rfl) (fun K hK => ?_); go_wp2_with fail; refine ⟨by kernel_rfl, ?_⟩
              go_wp2_with (at_builtin; refine wpList_appZ (us := [.int .i64 sq, .slice B4 j d4]) (m := 1) elemBt hown5d.out rfl (.tmp 69) (.tmp 71) rfl rfl rfl rfl rfl (one_of rfl) (by omega) hbase5d (fun A8 c8 w8 ho8 hg8 _ => ?_); replace ho8 := hide ho8; replace hg8 := hide hg8)
              obtain rfl : j = l.length := hj.out
              refine ⟨⟨r, A4, c4, read ++ [⟨sq, l, B4, d4⟩], A8, c8, i + 1 + 1, nb + (rr.length - r.length), k - 1, sq + (l.length : Int), rfl, rfl, by omega, by omega, by omega, hide (by rw [List.length_append, ← hm.out]; rfl), hide (.inr ⟨⟨sq, l, B4, d4⟩, by rw [Nat.add_sub_cancel, hm.out]; simp, rfl⟩), hide (by rw [if_neg (by omega), List.map_append]; exact hzz.out), hide (BtsOwn.snocm (x := ⟨sq, l, B4, d4⟩) hm.out hown5.out hx.out (Ext.refl w5).drew hg8.out ho8.out), hide hir, hide (hE05.out.drew.grown hg8.out fun k hk => (by obtain ⟨_, _, hb⟩ := owns_row hown5d.out hk; exact hb))⟩, by simp [lenS]; omega⟩
            · have hs : ¬ okN (if i + 1 = 0 then none else some q) sq := fun h => (okN_if.1 h).elim (by omega) hsq
              have hzz := hide (scan_seq hz.out hk hb0 hg hd hs)
              have hsi2 : ¬ sq = ys + (jy : Int) := by omega
              replace hqy := hide hqy
              clear hg hd hs hdc hgf hsq
              go_wp2_with fail
              rw [← hw5, ← hgg]
              replace hw5 := hide hw5
              replace hgg := hide hgg
              refine wp_region_text follows (by kernel_rfl) (by kernel_rfl) (fun K hK => ?_); go_wp2_with fail; refine ⟨by kernel_rfl, ?_⟩
              go_wp2_with fail
              go_ret3
              exact ScanP.mk hE05.out.drew hzz.out hm.out (hown5.out.ext (Ext.refl w5).drew)
end Go.Proofs.YtohphanbnhiodaaGreat

/- What the logs' files tell, plainly. -/
namespace Go.Proofs.YtohphanbnhiodaaGreat
open Go.RowKit Go.Maps

/-- Which batches go on from nx: does it still go on, the next number, and those taken. -/
def takeB : Bool → Int → List Bt → Bool × Int × List Bt
  | g, nx, [] => (g, nx, [])
  | g, nx, x :: l => if g = true ∧ x.seq = nx then ((takeB true (x.seq + x.es.length) l).1, (takeB true (x.seq + x.es.length) l).2.1, x :: (takeB true (x.seq + x.es.length) l).2.2) else takeB false nx l
noncomputable def replM (P : PD) (fr : Int) : List Nat → Bool → Int → List Bt → Int → Except Nat (List Bt × Int)
  | [], _, _, out, last => .ok (out, last)
  | n :: ns, g, nx, out, _ => if (n : Int) < fr then replM P fr ns g nx out n else
    if (readM P (nameW n) 0 67108864).2 = 0 then
      replM P fr ns (takeB g nx (scanM (readM P (nameW n) 0 67108864).1.length none (readM P (nameW n) 0 67108864).1).1).1 (takeB g nx (scanM (readM P (nameW n) 0 67108864).1.length none (readM P (nameW n) 0 67108864).1).1).2.1
        (out ++ (takeB g nx (scanM (readM P (nameW n) 0 67108864).1.length none (readM P (nameW n) 0 67108864).1).1).2.2) n
    else .error (readM P (nameW n) 0 67108864).2
/-- What Replay answers. -/
def ReplP (w : World) (Z : Except Nat (List Bt × Int)) (e : Ending) (w' : World) : Prop := Ext w w' ∧ match Z with
  | .error k => e = .returned (.tuple #[.slice none 0 0, .int .i64 0, .int .i64 (k : Int)])
  | .ok (out, last) => ∃ (l : List BtC) (A : Option Addr) (c : Nat), out = l.map BtC.bt ∧ e = .returned (.tuple #[.slice A l.length c, .int .i64 last, .int .i64 0]) ∧ BtsOwn w' w.heap.size A c l
theorem ReplP.no {w w' : World} {Z : Except Nat (List Bt × Int)} {k : Nat} (hE : Ext w w') (h : Z = .error k) : ReplP w Z (.returned (.tuple #[.slice none 0 0, .int .i64 0, .int .i64 (k : Int)])) w' := by
  subst h
  exact ⟨hE, rfl⟩
theorem ReplP.yes {w w' : World} {Z : Except Nat (List Bt × Int)} {l : List BtC} {A : Option Addr} {m c : Nat} {last : Int} (hE : Ext w w') (hZ : Z = .ok (l.map BtC.bt, last)) (hm : m = l.length) (h : BtsOwn w' w.heap.size A c l) : ReplP w Z (.returned (.tuple #[.slice A m c, .int .i64 last, .int .i64 0])) w' := by
  subst hZ hm
  exact ⟨hE, l, A, c, rfl, rfl, h⟩
section
variable {Z : Except Nat (List Bt × Int)} {P : PD} {fr nx last : Int} {g : Bool} {out : List Bt} {ns : List Nat} {n : Nat}
theorem repl_end (h : Z = replM P fr [] g nx out last) : Z = .ok (out, last) := h
theorem repl_low (h : Z = replM P fr (n :: ns) g nx out last) (hl : (n : Int) < fr) : Z = replM P fr ns g nx out n := by rw [h, replM, if_pos hl]
theorem repl_err (h : Z = replM P fr (n :: ns) g nx out last) (hl : ¬ (n : Int) < fr) {b : List UInt8} {k : Nat} (hr : readM P (nameW n) 0 67108864 = (b, k)) (hk : k ≠ 0) : Z = .error k := by
  rw [h, replM, if_neg hl, hr]
  simp only
  rw [if_neg hk]
theorem repl_go (h : Z = replM P fr (n :: ns) g nx out last) (hl : ¬ (n : Int) < fr) {b : List UInt8} (hr : readM P (nameW n) 0 67108864 = (b, 0)) :
    Z = replM P fr ns (takeB g nx (scanM b.length none b).1).1 (takeB g nx (scanM b.length none b).1).2.1 (out ++ (takeB g nx (scanM b.length none b).1).2.2) n := by
  rw [h, replM, if_neg hl, hr]
  simp only
  rw [if_pos trivial]
end
end Go.Proofs.YtohphanbnhiodaaGreat

/- loggia/wal: Replay. -/
namespace Go.Proofs.YtohphanbnhiodaaGreat
open Go.RowKit Go.Maps

theorem scan_count : ∀ (k : Nat) (nx : Option Int) (b : List UInt8), (scanM k nx b).1.length ≤ b.length
  | 0, _, _ => by unfold scanM; simp
  | k + 1, nx, b => by
    unfold scanM
    split
    · simp
    · split
      · simp
      · rename_i p r hg
        have h1 := getF_small hg
        split
        · simp
        · split
          · have h2 := scan_count k (some ((‹Bt› : Bt).seq + (‹Bt› : Bt).es.length)) r
            simp only [List.length_cons]
            omega
          · simp
theorem drop_oneN {l : List Nat} {i k : Nat} (h : l[i]? = some k) : l.drop i = k :: l.drop (i + 1) := by
  obtain ⟨hi, rfl⟩ := List.getElem?_eq_some_iff.1 h
  exact List.drop_eq_getElem_cons hi
theorem BtsOwn.lower {w : World} {base b c : Nat} {A : Option Addr} {l : List BtC} (h : BtsOwn w base A c l) (hb : b ≤ base) : BtsOwn w b A c l := ⟨owns_lower h.own hb, fun x hx => ⟨(h.each x hx).1.lower hb, (h.each x hx).2⟩⟩
theorem BtsOwn.chg {w w' : World} {base c : Nat} {A : Option Addr} {l : List BtC} {S : Nat → Prop} (h : BtsOwn w base A c l) (hc : Chg S w w') (hS : ∀ g, base ≤ g → g < w.heap.size → ¬ S g) : BtsOwn w' base A c l :=
  ⟨hc.owns h.own fun g hg => by obtain ⟨cs, hr, hb⟩ := owns_row h.own hg; exact hS g hb hr.lt, fun x hx => ⟨(h.each x hx).1.chg hc fun g _ _ hr _ hb => hS g hb hr.lt, (h.each x hx).2⟩⟩
theorem step_appY {P : Program} {ops : Array Oper} {o : Oper} {a : Act} {w0 : World} {K : Act → World → Prop} {Q : Exit → Act → World → Prop} {E0 : Prop} {us : List Value} {T : TypeId} {t e size bytes m k : Nat} (E : Elem P t e size bytes) (hgd : o.guard = none)
    {base : Nat} {v : Value} {n : Nat} {xs : List Value} (hown : w0.ownsRow base e size v n xs) (hk : k = w0.heap.size) (s x : Operand)
    (ho : o.op = .call { callee := .builtin .append, args := #[s, x], argTypes := #[t, t] })
    (hs : a.eval s = v) (hx : a.eval x = .slice (some ⟨k, 0, none⟩) m m) (hl : us.length = m * size) (h1 : ∀ u ∈ us, u.oneCell' = true) (hsz : n + m ≤ 4294967296) (hbase : base ≤ w0.heap.size)
    (h : ∀ A1 c1 w', w'.ownsRow base e size (.slice A1 (n + m) c1) (n + m) (xs ++ us) → w0.grownBy w' v.ownBlock → ((Value.slice A1 (n + m) c1).ownBlock = v.ownBlock ∨ (Value.slice A1 (n + m) c1).ownBlock = some (w0.heap.size + 1)) → K (a.put o.dst (.slice A1 (n + m) c1)) w') :
    if Region.wanted o (yielded ops a.tmps) = true then Oper.wp P o a (w0.alloc (.cells us.toArray T)) K Q else E0 := by
  subst hk
  rw [if_pos (by simp [Region.wanted, hgd])]
  have hr : Cells (w0.alloc (.cells us.toArray T)) (some ⟨w0.heap.size, 0, none⟩) us := .inr ⟨w0.heap.size, 0, rfl, fun i u hu => by
    rw [Nat.zero_add, cell_of_row _ _ _ _ _ _ (heap_alloc_new w0 _)]
    simpa using hu⟩
  obtain ⟨A1, c1, w', hrun, h2, h3, h4⟩ := run_app (P := P) E (w0.alloc (.cells us.toArray T)) o.type (((Ext.refl w0).alloc _).owns hown) (c := m) hr hl h1 hsz (by simp; omega)
  unfold Oper.wp execOp
  simp only [ho, resolve, invoke, builtin, Sem.run_bind, Sem.run_pure, Result.andThen_ok, List.map_toArray, List.map_cons, List.map_nil, hs, hx, hrun]
  exact h A1 c1 w' h2 ⟨h3.os, h3.tape, h3.output, Nat.le_trans (by simp) h3.size, fun k hk hne => (h3.block k (by simp; omega) hne).trans (Below.heap_alloc w0 _ k hk)⟩ (by simpa using h4)
set_option maxRecDepth 100000 in
set_option maxHeartbeats 8000000 in
theorem replay_any (K Bd : Nat) (hK4 : K ≤ 4000000000) (hB4 : Bd ≤ 1000000000) (hKB : K * Bd ≤ 4000000000) (base d : Nat) (P : PD) (F : Nat → Prop) (fr nx0 : Int) (w : World) (h : DS w base d P F) (hf : I64ok' fr) (hx : I64ok' nx0) (hcnt : (logsM P).length ≤ K) (hbytes : ∀ n ∈ logsM P, (readM P (nameW n) 0 67108864).1.length ≤ Bd) :
    Calls Tryz.prog 14 #[.pointer (some ⟨d, 0, none⟩), .int .i64 fr, .int .i64 nx0] w fun e w' => ReplP w (replM P fr (logsM P) true nx0 [] (-1)) e w' := by
  have hmade := hide (made_any base d P F w h)
  obtain ⟨Z, hZ⟩ : ∃ Z, Z = replM P fr (logsM P) true nx0 [] (-1) := ⟨_, rfl⟩
  rw [← hZ]
  have hlt : ∀ n ∈ logsM P, n ≤ 99999999 := fun n hn => by
    obtain ⟨s, _, hs⟩ := List.mem_filterMap.1 hn
    have := numW_lt hs
    omega
  have hlogs := fun w1 (hE : Ext w w1) => logs_any base d P F w1 (h.ext hE)
  obtain ⟨ns, hns⟩ : ∃ ns, ns = logsM P := ⟨_, rfl⟩
  simp only [← hns] at hZ hlogs hcnt hbytes hlt
  obtain ⟨N, hN⟩ : ∃ N, N = ns.length := ⟨_, rfl⟩
  simp only [← hN] at hlogs hcnt
  obtain ⟨hx1, hx2⟩ := hx
  obtain ⟨hf1, hf2⟩ := hf
  replace hns := hide hns
  replace hN := hide hN
  replace hZ := hide hZ
  replace hlogs := hide hlogs
  replace hbytes := hide hbytes
  replace hlt := hide hlt
  replace h := hide h
  go_enter Tryz.func14, Tryz.ntmps14
  go_wp2_with fail
  refine hmade.out.mono ?_
  rintro e w1 ⟨rfl, hE1⟩
  go_wp2_with fail
  refine (hlogs.out w1 hE1).mono ?_
  rintro e w2 ⟨A, c, rfl, hown, hE2⟩
  have hcells := hide (Cells.of_own hown)
  have hE02 := hide (hE1.trans hE2)
  replace hown := hide hown
  go_wp2_with fail
  go_loopw [2, 9, 10, 11, 29] (fun s2 s9 s10 s11 s29 wr => ∃ (i m dd : Nat) (g : Bool) (nx last : Int) (read : List BtC) (B : Option Addr), s2 = .int .i64 nx ∧ s9 = .int .i64 last ∧ s10 = .slice B m dd ∧ s11 = .bool g ∧ s29 = .int .i64 (i : Int) ∧ i ≤ N ∧ m ≤ i * Bd ∧ -9223372036854775808 ≤ nx ∧ nx ≤ 9223372036854775807 ∧ Hid (m = read.length) ∧ Hid (Z = replM P fr (ns.drop i) g nx (read.map BtC.bt) last) ∧ Hid (BtsOwn wr w2.heap.size B dd read) ∧ Hid (Ext w2 wr)) (fun _ _ _ _ s29 _ => N - (intOf s29).toNat)
  case atStart => exact ⟨0, 0, 0, true, nx0, -1, [], none, rfl, rfl, rfl, rfl, rfl, by omega, by omega, by omega, by omega, hide rfl, hide hZ.out, hide (BtsOwn.nil _ _), hide (Ext.refl _)⟩
  case round =>
    obtain ⟨i, m, dd, g, nx, last, read, B, rfl, rfl, rfl, rfl, rfl, hi, hmi, hnx1, hnx2, hm, hz, hbo, hE⟩ := hrel
    by_cases hin : i < N
    · obtain ⟨n, hn⟩ : ∃ n, ns[i]? = some n := ⟨_, List.getElem?_eq_getElem (by have := hN.out; omega)⟩
      obtain ⟨ga, o, hA, hc⟩ := Cells.at_ (xs := nats ns) (hcells.out.ext hE.out) (by unfold nats; rw [List.length_map]; have := hN.out; omega)
      have hcell := hc i (.int .i64 (n : Int)) (by unfold nats; rw [List.getElem?_map, hn]; rfl)
      subst hA
      have hzz := hz.out
      rw [drop_oneN hn] at hzz
      have hmem := List.mem_of_getElem? hn
      have hn9 := hlt.out n hmem
      have hbn := hbytes.out n hmem
      by_cases hlow : (n : Int) < fr
      · have hz2 := hide (repl_low hzz hlow)
        clear hzz hc hn hbn
        have hm1 : m ≤ (i + 1) * Bd := Nat.le_trans hmi (Nat.mul_le_mul_right _ (Nat.le_succ i))
        go_wp2_with fail
        exact ⟨⟨i + 1, m, dd, g, nx, n, read, B, rfl, rfl, rfl, rfl, by go_num, by omega, hm1, hnx1, hnx2, hm, hide hz2.out, hbo, hE⟩, by simp [intOf]; omega⟩
      · have hlow' : fr ≤ (n : Int) := by omega
        have hnm := hide (name_yes n wr hn9)
        obtain ⟨nm, hnmd⟩ : ∃ nm, nm = nameW n := ⟨_, rfl⟩
        obtain ⟨RR, hR⟩ : ∃ RR, RR = readM P (nameW n) 0 67108864 := ⟨readM P (nameW n) 0 67108864, rfl⟩
        obtain ⟨by_, k⟩ := RR
        have hE0r := hE02.out.trans hE.out
        have hrd := fun w3 (hE3 : Ext wr w3) => read_any base d P F (nameW n) 0 67108864 w3 (h.out.ext (hE0r.trans hE3)) (by rw [nameW_len]; omega) (by omega) (by omega) (by omega) (by omega)
        unfold ReadPost str at hrd
        rw [← hR] at hbn hrd
        simp only at hbn hrd
        have hrd2 := hide hrd
        rw [← hnmd] at hnm hrd2
        have hnl : nm.length = 12 := by rw [hnmd]; exact nameW_len n
        replace hnmd := hide hnmd
        clear hrd hc hn
        by_cases hk : k = 0
        · subst hk
          have hz2 := hide (repl_go hzz hlow hR.symm)
          replace hR := hide hR
          clear hzz
          go_wp2_with fail
          refine hnm.out.mono ?_
          rintro e w3 ⟨rfl, hE3⟩
          go_wp2_with fail
          refine (hrd2.out w3 hE3).mono ?_
          rintro e w4 ⟨A4, k4, c4, rfl, hb4, hk4, hE4⟩
          have hin4 := hb4.in8
          have hbl : k4 = by_.length := hk4
          have hsc := scan_any A4 k4 c4 by_ w4 hin4 (by omega)
          have hcount := scan_count by_.length none by_
          obtain ⟨S, hS⟩ : ∃ S, S = scanM by_.length none by_ := ⟨scanM by_.length none by_, rfl⟩
          rw [← hS] at hsc hcount
          have hz3 := hz2.out
          rw [← hS] at hz3
          replace hz3 := hide hz3
          replace hsc := hide hsc
          replace hS := hide hS
          replace hk4 := hide hk4
          have hcb : S.1.length ≤ Bd := by omega
          have hE04 := hide (hE.out.trans (hE3.trans hE4))
          clear hz2 hbl hin4 hb4
          go_wp2_with fail
          refine hsc.out.mono ?_
          rintro e w5 ⟨hE5, l, AL, cl, hl, rfl, hbl⟩
          rw [hl] at hcb hz3
          rw [List.length_map] at hcb
          have hE05 := hide (hE04.out.trans hE5)
          have hbk0 : Hid (∀ k, (Value.slice B m dd).ownBlock = some k → k < w4.heap.size ∨ w5.heap.size ≤ k) := hide fun k hk => by
            have ho := hbo.out.own
            rw [← hm.out] at ho
            obtain ⟨cs, hrr, _⟩ := owns_row ho hk
            have := hrr.lt
            have := (hE3.trans hE4).size
            omega
          have hbo5 := hide (hbo.out.ext ((hE3.trans hE4).trans hE5))
          replace hl := hide hl
          replace hbl := hide hbl
          obtain ⟨L, hL⟩ : ∃ L, L = l.length := ⟨_, rfl⟩
          rw [← hL] at hcb ⊢
          replace hL := hide hL
          go_wp2_with fail
          obtain ⟨wo, rfl⟩ : ∃ wo, wo = wr := ⟨_, rfl⟩
          go_loopw [2, 10, 11, 59] (fun s2 s10 s11 s59 wi => ∃ (j m2 d2 : Nat) (g2 : Bool) (nx2 : Int) (read2 : List BtC) (B2 : Option Addr), s2 = .int .i64 nx2 ∧ s10 = .slice B2 m2 d2 ∧ s11 = .bool g2 ∧ s59 = .int .i64 (j : Int) ∧ j ≤ L ∧ m2 ≤ m + j ∧ -9223372036854775808 ≤ nx2 ∧ nx2 ≤ 9223372036854775807 ∧ Hid (m2 = read2.length) ∧ Hid (Z = replM P fr (ns.drop (i + 1)) (takeB g2 nx2 ((l.drop j).map BtC.bt)).1 (takeB g2 nx2 ((l.drop j).map BtC.bt)).2.1 (read2.map BtC.bt ++ (takeB g2 nx2 ((l.drop j).map BtC.bt)).2.2) n) ∧ Hid (BtsOwn wi w2.heap.size B2 d2 read2) ∧ Hid (Chg (fun k => k < w4.heap.size ∨ w5.heap.size ≤ k) w5 wi) ∧ Hid (Ext w2 wi) ∧ Hid (∀ k, (Value.slice B2 m2 d2).ownBlock = some k → k < w4.heap.size ∨ w5.heap.size ≤ k)) (fun _ _ _ s59 _ => L - (intOf s59).toNat)
          case atStart => exact ⟨0, m, dd, g, nx, read, B, rfl, rfl, rfl, rfl, by omega, by omega, hnx1, hnx2, hm, hide hz3.out, hbo5, hide (Chg.of_ext (Ext.refl _) _), hE05, hbk0⟩
          case round =>
            obtain ⟨j, m2, d2, g2, nx2, read2, B2, rfl, rfl, rfl, rfl, hj, hm2, hy1, hy2, hml, hzi, hboi, hch, hEi, hbk⟩ := hrel
            have hbli := (hbl.out.chg hch.out (fun g hg1 hg2 h => by omega))
            by_cases hjl : j < L
            · obtain ⟨x, hxx⟩ : ∃ x, l[j]? = some x := ⟨_, List.getElem?_eq_getElem (by have := hL.out; omega)⟩
              obtain ⟨gb, ob, hAL, k0, k1⟩ := bcells_at hbli.ok.cells hxx
              have hxo := hbli.each x (List.mem_of_getElem? hxx)
              have hzz := hzi.out
              rw [drop_oneB hxx, List.map_cons, takeB] at hzz
              obtain ⟨sq, xl, xA, xc⟩ := x
              simp only at k0 k1 hxo
              obtain ⟨bt, hbt⟩ : ∃ bt, bt = BtC.bt ⟨sq, xl, xA, xc⟩ := ⟨_, rfl⟩
              rw [← hbt] at hzz
              have hbs : bt.seq = sq := by rw [hbt]; rfl
              have hbe : bt.es.length = xl.length := by rw [hbt]; exact List.length_map _
              rw [hbs, hbe] at hzz
              subst hAL
              have hx1 := hxo.2.1
              have hx2 := hxo.2.2.1
              have hx3 := hxo.2.2.2
              obtain ⟨xn, hxn⟩ : ∃ xn, xn = xl.length := ⟨_, rfl⟩
              rw [← hxn] at k1 hx1 hzz
              replace hxn := hide hxn
              obtain ⟨w6, hw6⟩ : ∃ w6, w6 = wr.alloc (.cells #[.int .i64 sq, .slice xA xn xc] 80) := ⟨_, rfl⟩
              have hE6 : Ext wr w6 := by rw [hw6]; exact (Ext.refl wr).alloc _
              have hr6 : Row w6 wr.heap.size 80 #[.int .i64 sq, .slice xA xn xc] := by rw [hw6]; exact Row.new wr _ _
              obtain ⟨gx, hgx⟩ : ∃ gx, gx = wr.heap.size := ⟨_, rfl⟩
              rw [← hgx] at hr6
              have x0 := hr6.cell 0 rfl
              have x1 := hr6.cell 1 rfl
              by_cases hgo : g2 = true ∧ sq = nx2
              · obtain ⟨rfl, rfl⟩ := hgo
                rw [if_pos ⟨rfl, rfl⟩] at hzz
                have hown6 := hboi.out.ext hE6
                have hown6o : w6.ownsRow w2.heap.size 80 2 (.slice B2 m2 d2) m2 (bcells read2) := by have := hown6.own; rw [← hml.out] at this; exact this
                have hblk : ∀ k, (Value.slice B2 m2 d2).ownBlock = some k → k < gx := fun k hk => by
                  have ho2 := hboi.out.own
                  rw [← hml.out] at ho2
                  obtain ⟨cs, hrr, _⟩ := owns_row ho2 hk
                  rw [hgx]
                  exact hrr.lt
                have hE06 := hEi.out.trans hE6
                have hE006 := hide (hE02.out.trans hE06)
                have hbase6d : w2.heap.size ≤ w6.drew.heap.size := hE06.size
                have hS0 : w6.drew.cell? ⟨gx, 0, none⟩ = some (.int .i64 sq) ∧ w6.drew.cell? ⟨gx, 1, none⟩ = some (.slice xA xn xc) := ⟨x0, x1⟩
                have hEa : Ext w6.drew (w6.drew.alloc (.cells #[.int .i64 sq, .slice xA xn xc] 80)) := (Ext.refl _).alloc _
                have hSa : (w6.drew.alloc (.cells #[.int .i64 sq, .slice xA xn xc] 80)).cell? ⟨gx, 0, none⟩ = some (.int .i64 sq) ∧ (w6.drew.alloc (.cells #[.int .i64 sq, .slice xA xn xc] 80)).cell? ⟨gx, 1, none⟩ = some (.slice xA xn xc) := ⟨hEa.cell x0, hEa.cell x1⟩
                have hgr : ∀ w8, w6.drew.grownBy w8 (Value.slice B2 m2 d2).ownBlock → w8.cell? ⟨gx, 0, none⟩ = some (.int .i64 sq) ∧ w8.cell? ⟨gx, 1, none⟩ = some (.slice xA xn xc) := fun w8 hg8 => by
                  have hr8 := Row.grown (w := w6.drew) hr6.drew hg8 (fun e => by
                    have := hblk _ e.symm
                    omega)
                  exact ⟨hr8.cell 0 rfl, hr8.cell 1 rfl⟩
                have hown6d := hide ((Ext.refl w6).drew.owns hown6o)
                have hm4 : m2 + 1 ≤ m + (j + 1) := by omega
                have hm5 : m2 + 1 ≤ 4000000000 := by have := Nat.mul_le_mul_right Bd (show i + 1 ≤ K by omega); have := Nat.add_mul i 1 Bd; omega
                have hxb := hxo
                replace hxb := hide hxb
                replace hzz := hide hzz
                replace hgr := hide hgr
                replace hSa := hide hSa
                replace hS0 := hide hS0
                replace hown6 := hide hown6
                replace hbt := hide hbt
                have hgx2 := hide hgx
                rw [hw6, hgx] at x0
                clear hxx x1 hxo hown6o hblk hEa hbs hbe
                go_wp2_with fail
                rw [← hw6, ← hgx]
                replace hw6 := hide hw6
                replace hgx := hide hgx
                clear x0
                go_region_held3 (fun x => x.cell? ⟨gx, 0, none⟩ = some (.int .i64 sq) ∧ x.cell? ⟨gx, 1, none⟩ = some (.slice xA xn xc)) (first | exact hS0.out | exact hSa.out | exact hgr.out _ ‹_›) (first | (refine step_appY (us := [.int .i64 sq, .slice xA xn xc]) (m := 1) elemBt rfl hown6d.out rfl (.tmp 71) (.tmp 73) rfl rfl rfl rfl (one_of rfl) (by omega) hbase6d (fun A8 c8 w8 ho8 hg8 hl8 => ?_)))
                go_wp2_with fail
                have hwr : IntKind.i64.wrap (sq + (xn : Int)) = sq + (xn : Int) := by
                  simp [IntKind.wrap, IntKind.bits, IntKind.signed]
                  omega
                have hs42 : w2.heap.size ≤ w4.heap.size := hE04.out.size
                have hs56 : w5.heap.size ≤ w6.drew.heap.size := Nat.le_trans hch.out.size hE6.size
                have hch8 := (hch.out.trans (Chg.of_ext (hE6.trans (Ext.refl w6).drew) _) (fun _ _ h => h)).trans (Chg.of_grown hg8 (S := fun k => k < w4.heap.size ∨ w5.heap.size ≤ k) fun k _ hk => hbk.out k hk) (fun _ _ h => h)
                have hE8 : Ext w2 w8 := (hEi.out.trans hE6).drew.grown hg8 fun k hk => (by obtain ⟨_, _, hb⟩ := owns_row hown6d.out hk; exact hb)
                have hbk8 : ∀ k, (Value.slice A8 (m2 + 1) c8).ownBlock = some k → k < w4.heap.size ∨ w5.heap.size ≤ k := fun k hk => by
                  rcases hl8 with h | h
                  · exact hbk.out k (h.symm.trans hk)
                  · rw [h] at hk
                    injection hk with hk
                    omega
                have hxx2 := hxb.out
                have hz9 := hzz.out
                rw [hbt.out] at hz9
                obtain rfl : m2 = read2.length := hml.out
                obtain rfl : xn = xl.length := hxn.out
                exact ⟨⟨j + 1, read2.length + 1, c8, true, sq + (xl.length : Int), read2 ++ [⟨sq, xl, xA, xc⟩], A8, by rw [hwr], rfl, rfl, by go_num, by omega, hm4, by omega, by omega, hide (by rw [List.length_append]; rfl), hide (by rw [List.map_append, List.append_assoc]; exact hz9), hide (BtsOwn.snoc (x := ⟨sq, xl, xA, xc⟩) hown6.out ⟨(hxx2.1.lower hs42).ext hE6, hxx2.2⟩ (Ext.refl w6).drew hg8 ho8), hide hch8, hide hE8, hide hbk8⟩, by simp [intOf]; omega⟩
              · rw [if_neg hgo] at hzz
                replace hzz := hide hzz
                have hm3 : m2 ≤ m + (j + 1) := by omega
                replace hgx := hide hgx
                rw [hw6] at x0
                rw [hgx.out] at x0
                clear hxx x1 hxo
                cases g2 with
                | false =>
                  clear hgo
                  go_wp2_with fail
                  rw [← hw6]
                  exact ⟨⟨j + 1, m2, d2, false, nx2, read2, B2, rfl, rfl, rfl, by go_num, by omega, hm3, hy1, hy2, hml, hide hzz.out, hide (hboi.out.ext hE6), hide (hch.out.trans (Chg.of_ext hE6 _) (fun _ _ h => h)), hide (hEi.out.trans hE6), hbk⟩, by simp [intOf]; omega⟩
                | true =>
                  have hne : (sq == nx2) = false := by rw [beq_eq_false_iff_ne]; exact fun h => hgo ⟨rfl, h⟩
                  clear hgo
                  go_wp2_with fail
                  rw [← hw6]
                  exact ⟨⟨j + 1, m2, d2, false, nx2, read2, B2, rfl, rfl, rfl, by go_num, by omega, hm3, hy1, hy2, hml, hide hzz.out, hide (hboi.out.ext hE6), hide (hch.out.trans (Chg.of_ext hE6 _) (fun _ _ h => h)), hide (hEi.out.trans hE6), hbk⟩, by simp [intOf]; omega⟩
            · obtain rfl : j = L := by omega
              have hzz := hzi.out
              rw [show l.drop j = [] from List.drop_of_length_le (by have := hL.out; omega), List.map_nil, show takeB g2 nx2 [] = (g2, nx2, []) from rfl] at hzz
              simp only [List.append_nil] at hzz
              replace hzz := hide hzz
              have hm1 : m2 ≤ (i + 1) * Bd := by rw [Nat.add_mul]; exact Nat.le_trans hm2 (Nat.add_le_add hmi (by omega))
              go_wp2_with fail
              exact ⟨⟨i + 1, m2, d2, g2, nx2, n, read2, B2, rfl, rfl, rfl, rfl, by go_num, by omega, hm1, hy1, hy2, hml, hide hzz.out, hboi, hEi⟩, by simp [intOf]; omega⟩
        · have hki : ¬ (k : Int) = 0 := by omega
          have hz2 := hide (repl_err hzz hlow hR.symm hk)
          replace hR := hide hR
          clear hzz
          go_wp2_with fail
          refine hnm.out.mono ?_
          rintro e w3 ⟨rfl, hE3⟩
          go_wp2_with fail
          refine (hrd2.out w3 hE3).mono ?_
          rintro e w4 ⟨A4, k4, c4, rfl, hb4, hk4, hE4⟩
          go_wp2_with fail
          go_ret3
          exact ReplP.no (hE0r.trans (hE3.trans hE4)) hz2.out
    · obtain rfl : i = N := by omega
      have hzz := hz.out
      rw [List.drop_of_length_le (by have := hN.out; omega)] at hzz
      have hz2 := hide (repl_end hzz)
      clear hzz
      go_wp2_with fail
      go_ret3
      exact ReplP.yes (hE02.out.trans hE.out) hz2.out hm.out (hbo.out.lower hE02.out.size)
end Go.Proofs.YtohphanbnhiodaaGreat

/- Frames of batches that follow one another, plainly. -/
namespace Go.Proofs.YtohphanbnhiodaaGreat
open Go.RowKit Go.Maps

theorem frameL_pos (p : List UInt8) : 0 < (frameL p).length := by
  unfold frameL
  have := vb_pos p.length
  rw [List.length_append, List.length_append]
  omega
theorem scan_front {bt : Bt} {r : List UInt8} {k : Nat} {nx : Option Int} (h : checkB bt = 0) (ha : ∀ e ∈ bt.es, I64ok' e.at_) (hs : okN nx bt.seq) :
    scanM (k + 1) nx (frameL (encB bt) ++ r) = (bt :: (scanM k (some (bt.seq + bt.es.length)) r).1, (frameL (encB bt)).length + (scanM k (some (bt.seq + bt.es.length)) r).2.1, (scanM k (some (bt.seq + bt.es.length)) r).2.2) := by
  have hp := frameL_pos (encB bt)
  have hl := encB_len h ha
  have hne : ¬ frameL (encB bt) ++ r = [] := fun e => by
    rw [(List.append_eq_nil_iff.1 e).1] at hp
    simp at hp
  rw [scanM, if_neg hne, getF_put (by omega)]
  simp only
  rw [decB_enc h ha]
  simp only
  rw [if_pos hs, show (frameL (encB bt) ++ r).length - r.length = (frameL (encB bt)).length by rw [List.length_append]; omega]
theorem scan_nil (k : Nat) (nx : Option Int) : scanM k nx [] = ([], 0, 0) := by
  cases k <;> simp [scanM]
theorem one_ok {n : Int} (h1 : 1 ≤ n) (h2 : n ≤ 1099511627776) : checkB (oneB n) = 0 := by
  have e1 : checkEs [⟨5, [⟨[109, 115, 103], [97]⟩]⟩] = 0 := by decide +kernel
  have e2 : sizeEs [⟨5, [⟨[109, 115, 103], [97]⟩]⟩] ≤ 65536 := by decide +kernel
  unfold checkB oneB
  simp only [List.length_singleton]
  rw [if_neg (by omega), if_neg (by omega), e1, if_neg (by simp), if_neg (by omega), if_neg (by omega)]
theorem one_ints (n : Int) : ∀ e ∈ (oneB n).es, I64ok' e.at_ := fun e he => by
  rw [List.mem_singleton.1 he]
  unfold I64ok'
  simp
/-- The bytes of the two batches that awake writes. -/
def awB : List UInt8 := frameL (encB (oneB 1)) ++ frameL (encB (oneB 2))
theorem aw_app : appB [oneB 1, oneB 2] [] = .ok awB := by
  rw [appB, if_pos (one_ok (by omega) (by omega)), appB, if_pos (one_ok (by omega) (by omega)), appB]
  rfl
theorem aw_len : awB.length ≤ 200200 ∧ 0 < awB.length := by
  have h1 := frameL_len _ (encB_len (one_ok (n := 1) (by omega) (by omega)) (one_ints 1))
  have h2 := frameL_len _ (encB_len (one_ok (n := 2) (by omega) (by omega)) (one_ints 2))
  have h3 := frameL_pos (encB (oneB 1))
  unfold awB
  rw [List.length_append]
  omega
theorem aw_scan : (scanM awB.length none awB).1 = [oneB 1, oneB 2] := by
  have hl := aw_len
  have h3 := frameL_pos (encB (oneB 1))
  have h4 := frameL_pos (encB (oneB 2))
  obtain ⟨k, hk⟩ : ∃ k, awB.length = k + 1 + 1 := ⟨awB.length - 2, by unfold awB; rw [List.length_append]; omega⟩
  rw [hk]
  unfold awB
  rw [scan_front (nx := none) (one_ok (by omega) (by omega)) (one_ints 1) (show okN none (oneB 1).seq from trivial)]
  simp only
  have h5 := @scan_front (oneB 2) [] k (some ((oneB 1).seq + (oneB 1).es.length)) (one_ok (by omega) (by omega)) (one_ints 2) rfl
  rw [List.append_nil] at h5
  rw [h5, scan_nil]
def awN : List UInt8 := [108, 111, 103, 45, 48, 48, 48, 48, 48, 48, 48, 55]
theorem aw_name : nameW 7 = awN := by decide +kernel
def awP (b : List UInt8) : PD := ⟨[(awN, b, 0)], 0, 0, false⟩
theorem aw_append {b : List UInt8} (h : b.length ≤ 67108864) : appendM ⟨[], 0, 0, false⟩ awN b = (awP b, 0) := by
  have hn : namedM awN = true := by decide +kernel
  unfold appendM
  rw [if_pos hn]
  unfold PD.find putM fullM awP
  simp
  rw [if_neg (by omega)]
  simp [PD.goes, withG, withoutG, insG]
theorem aw_logs (b : List UInt8) : logsM (awP b) = [7] := by
  have h : numW awN = some 7 := by decide +kernel
  unfold logsM listM awP
  simp [fname, h]
theorem aw_read {b : List UInt8} (h : b.length ≤ 67108864) : readM (awP b) (nameW 7) 0 67108864 = (b, 0) := by
  have hn : namedM awN = true := by decide +kernel
  rw [aw_name]
  unfold readM
  rw [if_pos hn]
  unfold PD.find awP
  simp [fname]
  rw [if_neg (by omega), List.take_of_length_le h]
theorem aw_repl : replM (awP awB) 0 [7] true 1 [] (-1) = .ok ([oneB 1, oneB 2], 7) := by
  have hr := aw_read (b := awB) (by have := aw_len; omega)
  rw [replM, if_neg (by omega), hr]
  simp only
  rw [if_pos trivial, aw_scan, replM]
  rfl
theorem aw_size {b : List UInt8} : sizeM (awP b) awN = (b.length, true) := by
  unfold sizeM PD.find awP
  simp [fname]
end Go.Proofs.YtohphanbnhiodaaGreat

/- loggialaw15: awake. -/
namespace Go.Proofs.YtohphanbnhiodaaGreat
open Go.RowKit Go.Maps

/-- A call of the disk that lies above all that was there. -/
theorem DNext.ext {w0 w w' : World} {base d : Nat} {P P' : PD} {F : Nat → Prop} (h : DNext base d F w P' w') (hS : DS w base d P F) (hE : Ext w0 w) (hb : w0.heap.size ≤ base) : ∃ F', DS w' base d P' F' ∧ Ext w0 w' := by
  obtain ⟨F', h1, h2, _⟩ := h
  exact ⟨F', h1, hE.chg h2 fun i hi hf => by have := hS.base_le hf; omega⟩
set_option maxRecDepth 100000 in
set_option maxHeartbeats 4000000 in
theorem awake_any (w : World) : Calls Tryz.prog 6 #[] w fun e w' => e = .returned (.bool true) ∧ Ext w w' := by
  have hnm := name_yes 7 w (by omega)
  rw [aw_name, show ((7 : Nat) : Int) = 7 from rfl] at hnm
  have hnum := fun w1 => number_any awN w1
  rw [show numW awN = some 7 by decide +kernel] at hnum
  unfold NumW at hnum
  simp only [Option.getD_some, Option.isSome_some, show ((7 : Nat) : Int) = 7 from rfl] at hnum
  unfold awN at hnm hnum
  replace hnm := hide hnm
  replace hnum := hide hnum
  go_enter Tryz.func6, Tryz.ntmps6
  go_wp2_with fail
  refine hnm.out.mono ?_
  rintro e w1 ⟨rfl, hE1⟩
  go_wp2_with fail
  refine (hnum.out w1).mono ?_
  rintro e w2 ⟨hE2, rfl⟩
  have hnew := hide (new_yes w2.heap.size 0 w2 (by omega) (Nat.le_refl _))
  go_wp2_with fail
  refine hnew.out.mono ?_
  rintro e w3 ⟨d, F, rfl, hS3, hF3, hE3⟩
  have hop := open_any w2.heap.size d ⟨[], 0, 0, false⟩ F 7 w3 hS3 (by omega)
  rw [show ((7 : Nat) : Int) = 7 from rfl] at hop
  replace hop := hide hop
  go_wp2_with fail
  refine hop.out.mono ?_
  rintro e w4 ⟨b, rfl, hw4, hb4, hE4⟩
  rw [aw_name] at hw4
  have ho1 := hide (fun W => one_any 1 W)
  have ho2 := hide (fun W => one_any 2 W)
  go_wp2_with fail
  refine (ho1.out w4).mono ?_
  rintro e w5 ⟨g1, h1, rfl, hv1, hE5⟩
  go_wp2_with fail
  refine (ho2.out w5).mono ?_
  rintro e w6 ⟨g2, h2, rfl, hv2, hE6⟩
  obtain ⟨x1, hx1⟩ : ∃ x1 : BtC, x1 = ⟨1, [⟨⟨5, [⟨[109, 115, 103], [97]⟩]⟩, some ⟨h1, 0, none⟩, 1⟩], some ⟨g1, 0, none⟩, 1⟩ := ⟨_, rfl⟩
  obtain ⟨x2, hx2⟩ : ∃ x2 : BtC, x2 = ⟨2, [⟨⟨5, [⟨[109, 115, 103], [97]⟩]⟩, some ⟨h2, 0, none⟩, 1⟩], some ⟨g2, 0, none⟩, 1⟩ := ⟨_, rfl⟩
  obtain ⟨W7, hW7⟩ : ∃ W7, W7 = w6.alloc (.cells #[.int .i64 1, .slice (some ⟨g1, 0, none⟩) 1 1, .int .i64 2, .slice (some ⟨g2, 0, none⟩) 1 1] 80) := ⟨_, rfl⟩
  have hE7 : Ext w6 W7 := by rw [hW7]; exact (Ext.refl w6).alloc _
  have hr7 : Row W7 w6.heap.size 80 #[.int .i64 1, .slice (some ⟨g1, 0, none⟩) 1 1, .int .i64 2, .slice (some ⟨g2, 0, none⟩) 1 1] := by rw [hW7]; exact Row.new w6 _ _
  have hok1 : x1.Ok W7 := by rw [hx1]; exact ⟨((hv1.ext hE6).ext hE7).ok, by simp, by unfold I64ok'; simp⟩
  have hok2 : x2.Ok W7 := by rw [hx2]; exact ⟨(hv2.ext hE7).ok, by simp, by unfold I64ok'; simp⟩
  have hbs : BsOk W7 (some ⟨w6.heap.size, 0, none⟩) [x1, x2] := ⟨.inr ⟨w6.heap.size, 0, rfl, fun i v hv => by
    rw [Nat.zero_add]
    refine hr7.cell i ?_
    rw [hx1, hx2] at hv
    simpa [bcells, BtC.cells] using hv⟩, fun x hx => by
    rcases List.mem_cons.1 hx with rfl | hx
    · exact hok1
    · rw [List.mem_singleton.1 hx]; exact hok2⟩
  have hmap : [x1, x2].map BtC.bt = [oneB 1, oneB 2] := by rw [hx1, hx2]; rfl
  have hE37 := ((hE4.trans hE5).trans hE6).trans hE7
  have hap := wappend_any w2.heap.size b d 7 ⟨[], 0, 0, false⟩ F awN [x1, x2] (some ⟨w6.heap.size, 0, none⟩) 2 W7 (hw4.ext ((hE5.trans hE6).trans hE7)) (hS3.ext hE37) hbs (fun x hx y hy => by
    rcases List.mem_cons.1 hx with rfl | hx
    · rw [hx1] at hy; rw [List.mem_singleton.1 hy]; unfold I64ok'; simp
    · rw [List.mem_singleton.1 hx, hx2] at hy; rw [List.mem_singleton.1 hy]; unfold I64ok'; simp) (by simp) (by decide) (hE3.trans hE37).size
  rw [hmap, aw_app] at hap
  unfold AppP at hap
  simp only [List.length_cons, List.length_nil, Nat.zero_add, Nat.reduceAdd, show ((2 : Nat) = 0) = False from by simp, if_false] at hap
  rw [aw_append (by have := aw_len; omega)] at hap
  simp only at hap
  replace hap := hide hap
  replace hx1 := hide hx1
  replace hx2 := hide hx2
  replace hW7 := hide hW7
  unfold BtC.val
  go_wp2_with fail
  rw [← hW7.out]
  refine hap.out.mono ?_
  rintro e w8 ⟨wx, hEx, rfl, hN⟩
  go_wp2_with fail
  have hw8 : WrR w8 b d 7 awN := by
    obtain ⟨_, _, hC, _⟩ := hN
    exact hC.row (hw4.ext (((hE5.trans hE6).trans hE7).trans hEx)) (fun hf => by have := hS3.lt hf; omega)
  obtain ⟨F8, hS8, hE28⟩ := hN.ext (hS3.ext (hE37.trans hEx)) ((hE3.trans hE37).trans hEx) (Nat.le_refl _)
  have hrp := replay_any 1000 1000000 (by omega) (by omega) (by omega) w2.heap.size d (awP awB) F8 0 1 w8 hS8 (by unfold I64ok'; simp) (by unfold I64ok'; simp) (by rw [aw_logs]; simp) (fun n hn => by
    rw [aw_logs] at hn
    rw [List.mem_singleton.1 hn, aw_read (by have := aw_len; omega)]
    have := aw_len
    simp only
    omega)
  rw [aw_logs, aw_repl] at hrp
  unfold ReplP at hrp
  simp only at hrp
  replace hrp := hide hrp
  go_wp2_with fail
  refine hrp.out.mono ?_
  rintro e w9 ⟨hE9, l, AL, cl, hl, rfl, hbl⟩
  go_wp2_with fail
  refine (ho1.out w9).mono ?_
  rintro e w10 ⟨g3, h3, rfl, hv3, hE10⟩
  go_wp2_with fail
  refine (ho2.out w10).mono ?_
  rintro e w11 ⟨g4, h4, rfl, hv4, hE11⟩
  obtain ⟨y1, hy1⟩ : ∃ y1 : BtC, y1 = ⟨1, [⟨⟨5, [⟨[109, 115, 103], [97]⟩]⟩, some ⟨h3, 0, none⟩, 1⟩], some ⟨g3, 0, none⟩, 1⟩ := ⟨_, rfl⟩
  obtain ⟨y2, hy2⟩ : ∃ y2 : BtC, y2 = ⟨2, [⟨⟨5, [⟨[109, 115, 103], [97]⟩]⟩, some ⟨h4, 0, none⟩, 1⟩], some ⟨g4, 0, none⟩, 1⟩ := ⟨_, rfl⟩
  obtain ⟨W12, hW12⟩ : ∃ W12, W12 = w11.alloc (.cells #[.int .i64 1, .slice (some ⟨g3, 0, none⟩) 1 1, .int .i64 2, .slice (some ⟨g4, 0, none⟩) 1 1] 80) := ⟨_, rfl⟩
  have hE12 : Ext w11 W12 := by rw [hW12]; exact (Ext.refl w11).alloc _
  have hr12 : Row W12 w11.heap.size 80 #[.int .i64 1, .slice (some ⟨g3, 0, none⟩) 1 1, .int .i64 2, .slice (some ⟨g4, 0, none⟩) 1 1] := by rw [hW12]; exact Row.new w11 _ _
  have hq1 : y1.Ok W12 := by rw [hy1]; exact ⟨((hv3.ext hE11).ext hE12).ok, by simp, by unfold I64ok'; simp⟩
  have hq2 : y2.Ok W12 := by rw [hy2]; exact ⟨(hv4.ext hE12).ok, by simp, by unfold I64ok'; simp⟩
  have hbs2 : BsOk W12 (some ⟨w11.heap.size, 0, none⟩) [y1, y2] := ⟨.inr ⟨w11.heap.size, 0, rfl, fun i v hv => by
    rw [Nat.zero_add]
    refine hr12.cell i ?_
    rw [hy1, hy2] at hv
    simpa [bcells, BtC.cells] using hv⟩, fun x hx => by
    rcases List.mem_cons.1 hx with rfl | hx
    · exact hq1
    · rw [List.mem_singleton.1 hx]; exact hq2⟩
  have hmap2 : [y1, y2].map BtC.bt = [oneB 1, oneB 2] := by rw [hy1, hy2]; rfl
  have hE912 := (hE10.trans hE11).trans hE12
  have hll : l.length = 2 := by have := congrArg List.length hl; simpa using this.symm
  have hsame := samebatches_any l [y1, y2] AL (some ⟨w11.heap.size, 0, none⟩) cl 2 W12 ((hbl.ext hE912).ok) hbs2 (by rw [← hl]; exact hmap2.symm) (by omega)
  rw [hll] at hsame
  simp only [List.length_cons, List.length_nil, Nat.zero_add, Nat.reduceAdd] at hsame
  have hsame := hide hsame
  have hE812 := hE9.trans hE912
  have hnmb := hide (fun W (hE : Ext w8 W) => wnumber_any b d 7 awN W (hw8.ext hE))
  have hszz := fun W (hE : Ext w8 W) => wsize_any w2.heap.size b d 7 (awP awB) F8 awN W (hw8.ext hE) (hS8.ext hE) (by decide)
  simp only [aw_size] at hszz
  have hpos := aw_len.2
  obtain ⟨z, hz⟩ : ∃ z, z = awB.length := ⟨_, rfl⟩
  rw [← hz] at hszz hpos
  replace hszz := hide hszz
  replace hz := hide hz
  have hE2w := hide (hE1.trans (hE2.trans hE28))
  have hposi : (0 : Int) < z := by omega
  replace hW12 := hide hW12
  replace hy1 := hide hy1
  replace hy2 := hide hy2
  unfold BtC.val
  go_wp2_with fail
  rw [← hW12.out]
  refine hsame.out.mono ?_
  rintro e w13 ⟨rfl, hE13⟩
  go_wp2_with fail
  refine (hnmb.out w13 (hE812.trans hE13)).mono ?_
  rintro e w14 ⟨rfl, rfl⟩
  go_wp2_with fail
  refine (hszz.out w14 (hE812.trans hE13)).mono ?_
  rintro e w15 ⟨rfl, hE15⟩
  go_wp2_with fail
  go_ret
  exact ⟨rfl, hE2w.out.trans ((hE812.trans hE13).trans hE15)⟩
end Go.Proofs.YtohphanbnhiodaaGreat

/- A disk's blocks are not those of batches and writers. -/
namespace Go.Proofs.YtohphanbnhiodaaGreat
open Go.RowKit Go.Maps

theorem MapL.notRow {P : Program} {k : TypeId} {w : World} {m : Nat} {L : List (Value × Value)} (h : MapL P k w m L) {t : TypeId} {cs : Array Value} : ¬ Row w m t cs := fun hr => by
  obtain ⟨⟨_, _, h1, _⟩, _, _⟩ := h
  unfold Row at hr
  rw [hr] at h1
  cases h1
theorem DS.kind {w : World} {base d g : Nat} {P : PD} {F : Nat → Prop} (h : DS w base d P F) (hF : F g) {t : TypeId} {cs : Array Value} (hr : Row w g t cs) : t = 73 ∨ t = 107 ∨ t = 5 := by
  obtain ⟨m, E, hD, hf⟩ := h
  have key : ∀ {t2 : TypeId} {cs2 : Array Value}, Row w g t2 cs2 → t = t2 := fun {t2 cs2} h2 => Decidable.byContradiction fun hne => Row.unlike hr h2 hne rfl
  rcases (hf g).1 hF with rfl | rfl | ⟨e, he, rfl | ⟨a, ha, rfl⟩⟩
  · exact .inl (key hD.row)
  · obtain ⟨L, hL, _⟩ := hD.fs.map
    exact (hL.notRow hr).elim
  · exact .inr (.inl (key (hD.fs.ok e he).row))
  · obtain ⟨_, _, hb⟩ := (hD.fs.ok e he).buf
    rcases hb with ⟨h0, _⟩ | ⟨g, cur, hA, _, hrow, _⟩
    · rw [h0] at ha; cases ha
    · rw [hA] at ha
      injection ha with ha
      subst ha
      exact .inr (.inr (key hrow))
theorem BtsOwn.chgT {w w' : World} {base c : Nat} {A : Option Addr} {l : List BtC} {S : Nat → Prop} (h : BtsOwn w base A c l) (hc : Chg S w w') (hS : ∀ g t cs, Row w g t cs → t = 126 ∨ t = 89 ∨ t = 80 → ¬ S g) : BtsOwn w' base A c l :=
  ⟨hc.owns h.own fun g hg => by obtain ⟨cs, hr, hb⟩ := owns_row h.own hg; exact hS g _ cs hr (.inr (.inr rfl)), fun x hx => ⟨(h.each x hx).1.chg hc fun g t cs hr ht _ => hS g t cs hr (by rcases ht with ht | ht <;> simp [ht]), (h.each x hx).2⟩⟩
theorem ne_disk {t : TypeId} (h : t = 126 ∨ t = 89 ∨ t = 80 ∨ t = 86) : ¬ (t = 73 ∨ t = 107 ∨ t = 5) := by
  rcases h with rfl | rfl | rfl | rfl <;> decide
theorem BtsOwn.disk {w w' : World} {base b0 c d : Nat} {A : Option Addr} {l : List BtC} {P : PD} {F : Nat → Prop} (h : BtsOwn w base A c l) (hD : DS w b0 d P F) (hc : Chg F w w') : BtsOwn w' base A c l :=
  h.chgT hc fun g t cs hr ht hF => ne_disk (by rcases ht with h | h | h <;> simp [h]) (hD.kind hF hr)
theorem EvsOwn.disk {w w' : World} {base b0 c d : Nat} {A : Option Addr} {l : List EvC} {P : PD} {F : Nat → Prop} (h : EvsOwn w base A c l) (hD : DS w b0 d P F) (hc : Chg F w w') : EvsOwn w' base A c l :=
  h.chg hc fun g t cs hr ht _ hF => ne_disk (by rcases ht with h | h <;> simp [h]) (hD.kind hF hr)
theorem Row.disk {w w' : World} {g b0 d : Nat} {t : TypeId} {cs : Array Value} {P : PD} {F : Nat → Prop} (h : Row w g t cs) (hD : DS w b0 d P F) (hc : Chg F w w') (ht : t = 126 ∨ t = 89 ∨ t = 80 ∨ t = 86) : Row w' g t cs :=
  hc.row h fun hF => ne_disk ht (hD.kind hF h)
end Go.Proofs.YtohphanbnhiodaaGreat

/- loggiaref02: Text; loggiaref10: Bytes. -/
namespace Go.Proofs.YtohphanbnhiodaaGreat
open Go.RowKit

theorem step_buf {P : Program} {ops : Array Oper} {o : Oper} {a : Act} {w : World} {K : Act → World → Prop} {Q : Exit → Act → World → Prop} {E0 : Prop} {t e bytes : Nat} (E : Elem P t e 1 bytes) (hgd : o.guard = none)
    {base : Nat} {A B : Option Addr} {n c m c' : Nat} {xs news : List Value} (hb : Buf w base e A n c xs) (hr : Cells w B news) (s x : Operand)
    (ho : o.op = .call { callee := .builtin .append, args := #[s, x], argTypes := #[t, t] })
    (hs : a.eval s = .slice A n c) (hx : a.eval x = .slice B m c') (hl : news.length = m) (h1 : ∀ u ∈ news, u.oneCell' = true) (hsz : n + m ≤ 4294967296) (hbase : base ≤ w.heap.size)
    (h : ∀ A1 c1 w', Buf w' base e A1 (n + m) c1 (xs ++ news) → w.grownBy w' (Value.slice A n c).ownBlock → K (a.put o.dst (.slice A1 (n + m) c1)) w') :
    if Region.wanted o (yielded ops a.tmps) = true then Oper.wp P o a w K Q else E0 := by
  rw [if_pos (by simp [Region.wanted, hgd])]
  obtain ⟨A1, c1, w', hrun, h2, h3, _⟩ := run_buf (P := P) E w o.type hb (c' := c') hr hl h1 hsz hbase
  unfold Oper.wp execOp
  simp only [ho, resolve, invoke, builtin, Sem.run_bind, Sem.run_pure, Result.andThen_ok, List.map_toArray, List.map_cons, List.map_nil, hs, hx, hrun]
  exact h A1 c1 w' h2 h3
theorem Buf.own_le {w : World} {base : Nat} {e : TypeId} {A : Option Addr} {n c k : Nat} {xs : List Value} (h : Buf w base e A n c xs) (hk : (Value.slice A n c).ownBlock = some k) : base ≤ k := by
  have hbl := h.base_le
  cases A with
  | none => simp [Value.ownBlock] at hk
  | some b =>
    have := hbl b rfl
    simp [Value.ownBlock] at hk
    omega
set_option maxRecDepth 100000 in
theorem rtext_any (s : List UInt8) (w : World) (h : s.length ≤ 1000000000) : Calls Tryz.prog 104 #[.string ⟨s.toArray⟩] w fun e w' => NewB w (txL s) e w' := by
  have hby := hide (fun W => rbytes s.length W (by omega))
  have hl := vb_le10 (n := s.length) (by omega)
  have hw := wrap_u64 (m := s.length) (by omega)
  obtain ⟨n, hn⟩ : ∃ n, n = s.length := ⟨_, rfl⟩
  obtain ⟨V, hV⟩ : ∃ V, V = vb s.length := ⟨_, rfl⟩
  have htx : txL s = V ++ s := by rw [hV]; rfl
  rw [← hV, ← hn] at hby
  rw [← hV] at hl
  rw [← hn] at hw h
  rw [htx]
  have hlen : (⟨s.toArray⟩ : ByteArray).size = n := by rw [hn]; exact ByteArray.size_mk_toArray s
  replace hn := hide hn
  replace hV := hide hV
  clear htx
  go_enter Tryz.func104, Tryz.ntmps104
  go_wp2_with fail
  refine (hby.out w).mono ?_
  rintro e w1 ⟨A1, c1, rfl, hb1, hE1⟩
  have hsz := hE1.size
  go_wp2_with (at_builtin; refine wpList_buf_str hb1 (.tmp 6) (.tmp 7) rfl rfl rfl rfl (by have := hn.out; omega) hsz (fun A2 c2 w2 hb2 hg2 hE2 => ?_))
  go_ret
  exact ⟨A2, c2, ret_slice (by rw [List.length_append]), by rw [List.length_append, List.map_append]; exact hb2, hE2 w hE1 (Nat.le_refl _)⟩
set_option maxRecDepth 100000 in
set_option maxHeartbeats 4000000 in
theorem rputE_any (e : Ev) (B : Option Addr) (d : Nat) (w : World) (h : e.Ok w B) (hk : checkE e.fs = 0) (ha : I64ok' e.at_) :
    Calls Tryz.prog 76 #[e.val B d] w fun en w' => NewB w (putE e) en w' := by
  obtain ⟨h16, hfl⟩ := checkE_fs hk
  have hput : putE e = (vb (zig e.at_) ++ vb e.fs.length) ++ putFs (e.fs.take e.fs.length) := by unfold putE; rw [List.take_length]
  rw [hput]
  obtain ⟨at_, fs⟩ := e
  obtain ⟨hc, _, _⟩ := h
  unfold Ev.val
  simp only at hc h16 hfl ha ⊢
  have htl := putFs_take_len hfl
  obtain ⟨m, hm⟩ : ∃ m, m = fs.length := ⟨_, rfl⟩
  rw [← hm] at h16 htl ⊢
  obtain ⟨W, hW⟩ : ∃ W, W = w.alloc (.cells #[.int .i64 at_, .slice B m d] 89) := ⟨_, rfl⟩
  have hEW : Ext w W := by rw [hW]; exact (Ext.refl w).alloc _
  have hr : Row W w.heap.size 89 #[.int .i64 at_, .slice B m d] := by rw [hW]; exact Row.new w _ _
  obtain ⟨b, hb⟩ : ∃ b, b = w.heap.size := ⟨_, rfl⟩
  rw [← hb] at hr
  have h10 := vb_le10 (zig_lt ha.1 ha.2)
  have h10b := vb_le10 (n := m) (by omega)
  obtain ⟨L1, hL1⟩ : ∃ L1, L1 = vb (zig at_) := ⟨_, rfl⟩
  obtain ⟨L2, hL2⟩ : ∃ L2, L2 = vb m := ⟨_, rfl⟩
  rw [← hL1] at h10
  rw [← hL2] at h10b
  rw [← hL1, ← hL2]
  have hS0 : W.cell? ⟨b, 0, none⟩ = some (.int .i64 at_) ∧ W.cell? ⟨b, 1, none⟩ = some (.slice B m d) ∧ Ext W W := ⟨hr.cell 0 rfl, hr.cell 1 rfl, Ext.refl W⟩
  have hS1 : W.drew.cell? ⟨b, 0, none⟩ = some (.int .i64 at_) ∧ W.drew.cell? ⟨b, 1, none⟩ = some (.slice B m d) ∧ Ext W W.drew := ⟨hr.cell 0 rfl, hr.cell 1 rfl, (Ext.refl W).drew⟩
  have hpi : ∀ x, (x.cell? ⟨b, 0, none⟩ = some (.int .i64 at_) ∧ x.cell? ⟨b, 1, none⟩ = some (.slice B m d) ∧ Ext W x) → Calls Tryz.prog 103 #[.int .i64 at_] x fun e y => ∃ A1 c1, e = .returned (.slice A1 L1.length c1) ∧ Own8 y W.heap.size A1 L1.length c1 L1 ∧ (y.cell? ⟨b, 0, none⟩ = some (.int .i64 at_) ∧ y.cell? ⟨b, 1, none⟩ = some (.slice B m d) ∧ Ext W y) := fun x ⟨h0, h1, hE⟩ =>
    (rint_any at_ x ha.1 ha.2).mono fun e y hy => by
      obtain ⟨A1, c1, he, hb1, hEy⟩ := NewB.own hy hE.size
      rw [← hL1] at he hb1
      exact ⟨A1, c1, he, hb1, hEy.cell h0, hEy.cell h1, hE.trans hEy⟩
  have hpu : ∀ x A1 c1, Own8 x W.heap.size A1 L1.length c1 L1 → (x.cell? ⟨b, 0, none⟩ = some (.int .i64 at_) ∧ x.cell? ⟨b, 1, none⟩ = some (.slice B m d) ∧ Ext W x) → Calls Tryz.prog 75 #[.int .u64 (m : Int)] x fun e y => ∃ A2 c2, e = .returned (.slice A2 L2.length c2) ∧ Own8 y W.heap.size A1 L1.length c1 L1 ∧ Own8 y W.heap.size A2 L2.length c2 L2 ∧ (y.cell? ⟨b, 0, none⟩ = some (.int .i64 at_) ∧ y.cell? ⟨b, 1, none⟩ = some (.slice B m d) ∧ Ext W y) := fun x A1 c1 hb1 ⟨h0, h1, hE⟩ =>
    (rbytes m x (by omega)).mono fun e y hy => by
      obtain ⟨A2, c2, he, hb2, hEy⟩ := NewB.own hy hE.size
      rw [← hL2] at he hb2
      exact ⟨A2, c2, he, ⟨rfl, hb1.2.ext hEy⟩, hb2, hEy.cell h0, hEy.cell h1, hE.trans hEy⟩
  replace hpi := hide hpi
  replace hpu := hide hpu
  replace hS0 := hide hS0
  replace hS1 := hide hS1
  have hwm := wrap_u64 (m := m) (by omega)
  replace hW := hide hW
  replace hm := hide hm
  replace hfl := hide hfl
  replace htl := hide htl
  replace hb := hide hb
  clear hL1 hL2 hput
  go_enter Tryz.func76, Tryz.ntmps76
  go_wp2_with fail
  rw [← hW.out, ← hb.out]
  refine wp_region_held_drew (S := fun x => x.cell? ⟨b, 0, none⟩ = some (.int .i64 at_) ∧ x.cell? ⟨b, 1, none⟩ = some (.slice B m d) ∧ Ext W x) (by kernel_rfl) hS1.out (fun hHeld => ?_)
  refine wpAnyH_take (i := 0) (v := .pointer (some ⟨b, 0, none⟩)) rfl (by kernel_rfl) (by kernel_rfl) (by kernel_rfl) (fun _ _ _ h => h) (Or.inl ⟨by rfl, ?_⟩) (by assumption) ?_
  · intro w' hSw
    (try dsimp only at hSw)
    obtain ⟨z1, z2, z3⟩ := hSw
    go_simp
    try with_reducible rfl
    all_goals omega
  (try simp only [Act.put, List.setIfInBounds_toArray, List.set_cons_zero, List.set_cons_succ, List.getElem_toArray, List.getElem_cons_zero, List.getElem_cons_succ])
  refine wpAnyH_take (i := 1) (v := .int .i64 at_) rfl (by kernel_rfl) (by kernel_rfl) (by kernel_rfl) (fun _ _ _ h => h) (Or.inl ⟨by rfl, ?_⟩) (by assumption) ?_
  · intro w' hSw
    (try dsimp only at hSw)
    obtain ⟨z1, z2, z3⟩ := hSw
    go_simp
    try with_reducible rfl
    all_goals omega
  (try simp only [Act.put, List.setIfInBounds_toArray, List.set_cons_zero, List.set_cons_succ, List.getElem_toArray, List.getElem_cons_zero, List.getElem_cons_succ])
  refine wpAnyH_take (i := 3) (v := .pointer (some ⟨b, 1, none⟩)) rfl (by kernel_rfl) (by kernel_rfl) (by kernel_rfl) (fun _ _ _ h => h) (Or.inl ⟨by rfl, ?_⟩) (by assumption) ?_
  · intro w' hSw
    (try dsimp only at hSw)
    obtain ⟨z1, z2, z3⟩ := hSw
    go_simp
    try with_reducible rfl
    all_goals omega
  (try simp only [Act.put, List.setIfInBounds_toArray, List.set_cons_zero, List.set_cons_succ, List.getElem_toArray, List.getElem_cons_zero, List.getElem_cons_succ])
  refine wpAnyH_take (i := 4) (v := .slice B m d) rfl (by kernel_rfl) (by kernel_rfl) (by kernel_rfl) (fun _ _ _ h => h) (Or.inl ⟨by rfl, ?_⟩) (by assumption) ?_
  · intro w' hSw
    (try dsimp only at hSw)
    obtain ⟨z1, z2, z3⟩ := hSw
    go_simp
    try with_reducible rfl
    all_goals omega
  (try simp only [Act.put, List.setIfInBounds_toArray, List.set_cons_zero, List.set_cons_succ, List.getElem_toArray, List.getElem_cons_zero, List.getElem_cons_succ])
  refine wpAnyH_take (i := 5) (v := .int .i64 (m : Int)) rfl (by kernel_rfl) (by kernel_rfl) (by kernel_rfl) (fun _ _ _ h => h) (Or.inl ⟨by rfl, ?_⟩) (by assumption) ?_
  · intro w' hSw
    (try dsimp only at hSw)
    obtain ⟨z1, z2, z3⟩ := hSw
    go_simp
    try with_reducible rfl
    all_goals omega
  (try simp only [Act.put, List.setIfInBounds_toArray, List.set_cons_zero, List.set_cons_succ, List.getElem_toArray, List.getElem_cons_zero, List.getElem_cons_succ])
  refine wpAnyH_take (i := 6) (v := .int .u64 (m : Int)) rfl (by kernel_rfl) (by kernel_rfl) (by kernel_rfl) (fun _ _ _ h => h) (Or.inl ⟨by rfl, ?_⟩) (by assumption) ?_
  · intro w' hSw
    (try dsimp only at hSw)
    obtain ⟨z1, z2, z3⟩ := hSw
    go_simp
    try with_reducible rfl
    all_goals omega
  (try simp only [Act.put, List.setIfInBounds_toArray, List.set_cons_zero, List.set_cons_succ, List.getElem_toArray, List.getElem_cons_zero, List.getElem_cons_succ])
  refine wpAnyH_ready (rs := [2]) (by kernel_rfl) (by simp) ?_
  refine AllReadyH.cons rfl (fun K hK => ?_) AllReadyH.nil
  (first | go_at_call 103 | (go_simp; go_at_call 103)); (refine (hpi.out _ ‹_›).mono ?_; rintro en w2 ⟨A2, c2, rfl, hb2, hSc⟩)
  refine hK.out _ _ ?_ (fun hHeld1 => ?_)
  · exact hSc
  clear hK K
  (try simp only [Act.put, List.setIfInBounds_toArray, List.set_cons_zero, List.set_cons_succ, List.getElem_toArray, List.getElem_cons_zero, List.getElem_cons_succ])
  refine wpAnyH_ready (rs := [7]) (by kernel_rfl) (by simp) ?_
  refine AllReadyH.cons rfl (fun K hK => ?_) AllReadyH.nil
  (first | go_at_call 75 | (go_simp; go_at_call 75)); (refine (hpu.out _ _ _ hb2 hSc).mono ?_; rintro en w3 ⟨A3, c3, rfl, hb2, hb3, hSc2⟩)
  refine hK.out _ _ ?_ (fun hHeld2 => ?_)
  · exact hSc2
  clear hK K
  (try simp only [Act.put, List.setIfInBounds_toArray, List.set_cons_zero, List.set_cons_succ, List.getElem_toArray, List.getElem_cons_zero, List.getElem_cons_succ])
  refine wpAnyH_ready (rs := [8]) (by kernel_rfl) (by simp) ?_
  refine AllReadyH.cons rfl (fun K hK => ?_) AllReadyH.nil
  first | (refine step_buf elemB rfl hb2.2 hb3.2.cells (.tmp 7) (.tmp 12) rfl rfl rfl (by rw [List.length_map]) (bytes_one _) (by omega) (Ext.size hSc2.2.2) (fun A4 c4 w4 hb4 hg4 => ?_)) | (go_simp; refine step_buf elemB rfl hb2.2 hb3.2.cells (.tmp 7) (.tmp 12) rfl rfl rfl (by rw [List.length_map]) (bytes_one _) (by omega) (Ext.size hSc2.2.2) (fun A4 c4 w4 hb4 hg4 => ?_))
  have hE4 := Ext.grown hSc2.2.2 hg4 (fun k hk => hb2.2.own_le hk)
  have hS4 := And.intro (hE4.cell hS0.out.1) (And.intro (hE4.cell hS0.out.2.1) hE4)
  refine hK.out _ _ ?_ (fun hHeld3 => ?_)
  · exact hS4
  clear hK K
  (try simp only [Act.put, List.setIfInBounds_toArray, List.set_cons_zero, List.set_cons_succ, List.getElem_toArray, List.getElem_cons_zero, List.getElem_cons_succ])
  refine wpAnyH_take (i := 9) (v := .slice A4 (L1.length + L2.length) c4) rfl (by kernel_rfl) (by kernel_rfl) (by kernel_rfl) (fun _ _ _ h => h) (Or.inl ⟨by rfl, ?_⟩) (by assumption) ?_
  · intro w' hSw
    (try dsimp only at hSw)
    obtain ⟨z1, z2, z3⟩ := hSw
    go_simp
    try with_reducible rfl
    all_goals omega
  (try simp only [Act.put, List.setIfInBounds_toArray, List.set_cons_zero, List.set_cons_succ, List.getElem_toArray, List.getElem_cons_zero, List.getElem_cons_succ])
  refine wpAnyH_done (by kernel_rfl) ?_ _
  have hEW4 := hide hS4.2.2
  obtain ⟨LL, hLL⟩ : ∃ LL, LL = L1 ++ L2 := ⟨_, rfl⟩
  obtain ⟨k4, hk4⟩ : ∃ k4, k4 = L1.length + L2.length := ⟨_, rfl⟩
  have hb5 : Own8 w4 W.heap.size A4 k4 c4 LL := ⟨by rw [hLL, hk4, List.length_append], by rw [hLL, hk4, List.map_append]; exact hb4⟩
  have hk20 : k4 ≤ 20 := by omega
  rw [← hk4]
  replace hb5 := hide hb5
  replace hLL := hide hLL
  replace hk4 := hide hk4
  have hr2 := hide hr
  clear hSc hSc2 hb2 hb3 hb4 hg4 hE4 hS4 hpi hpu hS0 hS1 hHeld hHeld1 hHeld2 hHeld3 hr h10 h10b
  go_wp2_with fail
  go_loopw [3, 4] (fun s3 s4 wr => ∃ (i n5 c5 : Nat) (A5 : Option Addr) (L : List UInt8), s3 = .slice A5 n5 c5 ∧ s4 = .int .i64 (i : Int) ∧ i ≤ m ∧ n5 ≤ 100000 ∧ Hid (L = LL ++ putFs (fs.take i)) ∧ Hid (Own8 wr W.heap.size A5 n5 c5 L) ∧ Hid (Ext W wr)) (fun _ s4 _ => m - (intOf s4).toNat)
  case atStart => exact ⟨0, k4, c4, A4, LL, rfl, rfl, by omega, by omega, hide (by simp [putFs]), hb5, hEW4⟩
  case round =>
    clear hb5 hEW4
    obtain ⟨i, n5, c5, A5, L, rfl, rfl, hi, hn5, hL, hb5, hE⟩ := hrel
    have y1 := (hr2.out.ext hE.out).cell 1 rfl
    by_cases him : i < m
    · obtain ⟨f, hf⟩ : ∃ f, fs[i]? = some f := ⟨_, List.getElem?_eq_getElem (by rw [← hm.out]; exact him)⟩
      obtain ⟨g, o, rfl, k0, k1⟩ := fcells_at ((hc.ext hEW).ext hE.out) hf
      have q0 : ∀ W2, Ext W W2 → W2.cell? ⟨g, o + i * 2 + 1, none⟩ = some (strV f.2) := fun W2 h2 => by
        obtain ⟨g', o', he, _, k1'⟩ := fcells_at ((hc.ext hEW).ext h2) hf
        injection he with he
        injection he with he1 he2
        subst he1 he2
        exact k1'
      have hl1 := hfl.out f (List.mem_of_getElem? hf)
      have htk := putFs_take hf
      obtain ⟨nm, tx⟩ := f
      unfold strV at k0 k1 q0
      simp only at k0 k1 hl1 htk q0
      obtain ⟨hlf1, hlf2⟩ := hl1
      obtain ⟨L5, hL5⟩ : ∃ L5, L5 = L ++ txL nm := ⟨_, rfl⟩
      obtain ⟨L6, hL6⟩ : ∃ L6, L6 = L5 ++ txL tx := ⟨_, rfl⟩
      have hLl : L.length = n5 := hb5.out.1.symm
      have ht1 := txL_len (s := nm) (by omega)
      have ht2 := txL_len (s := tx) (by omega)
      have hL62 : Hid (L6 = LL ++ putFs (fs.take (i + 1))) := hide (by rw [hL6, hL5, hL.out, htk]; simp)
      have hl6 : L6.length ≤ 100000 := by
        rw [hL62.out, List.length_append]
        have := htl.out (i + 1)
        have := hk4.out
        have := congrArg List.length hLL.out
        rw [List.length_append] at this
        omega
      have hp1 := hide (fun x => rtext_any nm x (by omega))
      have hp2 := hide (fun x => rtext_any tx x (by omega))
      obtain ⟨T1, hT1⟩ : ∃ T, T = txL nm := ⟨_, rfl⟩
      obtain ⟨T2, hT2⟩ : ∃ T, T = txL tx := ⟨_, rfl⟩
      have hn6 : n5 + T1.length + T2.length ≤ 100000 := by
        rw [hL6, hL5, List.length_append, List.length_append, ← hT1, ← hT2] at hl6
        omega
      rw [← hT1] at hp1 hL5 ht1
      rw [← hT2] at hp2 hL6 ht2
      replace hT1 := hide hT1
      replace hT2 := hide hT2
      replace hL5 := hide hL5
      replace hL6 := hide hL6
      have q0' := hide q0
      clear hLl htk hf q0
      go_wp2_with fail
      refine (hp1.out wr).mono ?_
      rintro en w5 ⟨B5, d5, rfl, hc5, hE5⟩
      have hbx := hb5.out.2.ext hE5
      have hEx := hE.out.trans hE5
      have hsx := hEx.size
      have y1' := (hr2.out.ext hEx).cell 1 rfl
      go_wp2_with (at_builtin; refine wpList_buf elemB hbx hc5.cells (.tmp 21) (.tmp 28) rfl rfl rfl rfl rfl (by rw [List.length_map]) (bytes_one _) (by omega) hsx (fun A6 c6 w6 hb6 hg6 hE6 _ => ?_); have hW6 := hide (hE6 W hEx (Nat.le_refl _)); have y1q := (hr2.out.ext hW6.out).cell 1 rfl; have q1q := q0'.out w6 hW6.out; replace hb6 := hide hb6; clear hE6 hg6 y1 y1' k0 k1)
      refine (hp2.out w6).mono ?_
      rintro en w7 ⟨B7, d7, rfl, hc7, hE7⟩
      have hb6x := hb6.out.ext hE7
      have hEx7 := hW6.out.trans hE7
      have hsx7 := hEx7.size
      clear y1q q1q
      go_wp2_with (at_builtin; refine wpList_buf elemB hb6x hc7.cells (.tmp 30) (.tmp 37) rfl rfl rfl rfl rfl (by rw [List.length_map]) (bytes_one _) (by omega) hsx7 (fun A8 c8 w8 hb8 hg8 hE8 _ => ?_); have hW8 := hide (hE8 W hEx7 (Nat.le_refl _)); replace hb8 := hide hb8; clear hE8 hg8)
      exact ⟨⟨i + 1, n5 + T1.length + T2.length, c8, A8, L6, rfl, by go_num, by omega, by omega, hL62, hide ⟨by rw [hL6.out, hL5.out, List.length_append, List.length_append, ← hb5.out.1], by rw [hL6.out, hL5.out, List.map_append, List.map_append]; exact hb8.out⟩, hW8⟩, by simp [intOf]; omega⟩
    · obtain rfl : i = m := by omega
      have hLe : Hid (L = LL ++ putFs (fs.take i)) := hL
      go_wp2_with fail
      go_ret
      have hln : n5 = L.length := hb5.out.1
      refine ⟨A5, c5, ?_, ?_, hEW.trans hE.out⟩
      · rw [hln, hL.out, hLL.out]
        rfl
      · have hb9 := hb5.out.2.lower hEW.size
        rw [hln] at hb9
        rw [← hLL.out, ← hL.out]
        exact hb9
end Go.Proofs.YtohphanbnhiodaaGreat

