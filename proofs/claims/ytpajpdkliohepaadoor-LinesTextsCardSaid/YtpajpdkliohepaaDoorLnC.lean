/- loggiaref31: Quote. -/
import Derived.Test.YtpajpdkliohepaaDoorLnB
namespace Go.Proofs.YtpajpdkliohepaaDoor
open Go.RowKit

set_option maxRecDepth 100000 in
set_option maxHeartbeats 4000000 in
theorem rquote_any (s : List UInt8) (w : World) (hs : s.length ≤ 1000000) :
    Calls Tryd.prog 18 #[.string ⟨s.toArray⟩] w fun e w' => e = .returned (.string ⟨(quoteL s).toArray⟩) ∧ Ext w w' := by
  obtain ⟨W, hW⟩ : ∃ W, W = w.alloc (.cells #[.int .u8 34] 5) := ⟨_, rfl⟩
  have hb : Buf W w.heap.size 5 (some ⟨w.heap.size, 0, none⟩) 1 1 ([34].map B8) := by
    rw [hW]
    refine ⟨rfl, Nat.le_refl _, .inr ⟨w.heap.size, #[.int .u8 34], rfl, Nat.le_refl _, heap_alloc_new w _, Nat.le_refl _, rfl⟩⟩
  have hEW : Ext w W := by rw [hW]; exact (Ext.refl w).alloc _
  have hlen : ∀ i, (34 :: (s.take i).flatMap escL).length ≤ 4 * i + 1 := fun i => by
    have := flat_take_len s i
    rw [List.length_cons]
    omega
  obtain ⟨n, hn⟩ : ∃ n, n = s.length := ⟨_, rfl⟩
  have hsl := hide hs
  rw [← hn] at hs
  replace hlen := hide hlen
  go_enter Tryd.func18, Tryd.ntmps18
  go_wp2_with fail
  rw [← hW]
  clear hW
  go_loopw [3, 4] (fun s3 s4 wr => ∃ (i m : Nat) (A2 : Option Addr) (c2 : Nat), s4 = .int .i64 i ∧ i ≤ n ∧ s3 = .slice A2 m c2 ∧ m ≤ 4 * i + 1 ∧ Hid (m = (34 :: (s.take i).flatMap escL).length) ∧ Hid (Buf wr w.heap.size 5 A2 m c2 ((34 :: (s.take i).flatMap escL).map B8)) ∧ Hid (Push W (some ⟨w.heap.size, 0, none⟩) A2 wr)) (fun _ s4 _ => n - (intOf s4).toNat)
  case atStart => exact ⟨0, 1, some ⟨w.heap.size, 0, none⟩, 1, rfl, by omega, rfl, by omega, hide rfl, hide hb, hide (Push.refl _ _)⟩
  case round =>
    obtain ⟨i, m, A2, c2, rfl, hi, rfl, hm, hml, hb, hP⟩ := hrel
    have hE : Ext w wr := hP.out.ext hEW fun a ha => by cases ha; exact Nat.le_refl _
    have hsz := hE.size
    replace hE := hide hE
    by_cases hin : i < n
    · have hil : i < s.length := by rw [← hn]; exact hin
      have hsi : s[i]? = some s[i] := List.getElem?_eq_getElem hil
      have hrun := fun W => run_strindex hsi (z := (i : Int)) rfl W
      have htk := flat_take s i hil
      have hlt := hide (hlen.out (i + 1))
      obtain ⟨x, hx⟩ : ∃ x, x = s[i] := ⟨_, rfl⟩
      rw [← hx] at htk hrun
      have hx8 := x.toNat_lt
      have h1 := fun W => run_strindexk (k := .u8) (l := hexS) (hexS_at (x.toNat / 16) (by omega)) (z := (x.toNat : Int) / 16) (by omega) W
      have h2 := fun W => run_strindexk (k := .u8) (l := hexS) (hexS_at (x.toNat % 16) (by omega)) (z := (x.toNat : Int) % 16) (by omega) W
      unfold hexS at h1 h2
      obtain ⟨d1, hd1⟩ : ∃ d1, d1 = hexN (x.toNat / 16) := ⟨_, rfl⟩
      obtain ⟨d2, hd2⟩ : ∃ d2, d2 = hexN (x.toNat % 16) := ⟨_, rfl⟩
      rw [← hd1] at h1
      rw [← hd2] at h2
      have fin : ∀ A3 k c3 w3, k = m + (escL x).length → Buf w3 w.heap.size 5 A3 k c3 ((34 :: (s.take i).flatMap escL).map B8 ++ (escL x).map B8) → Push wr A2 A3 w3 → k ≤ 4 * (i + 1) + 1 ∧ Hid (k = (34 :: (s.take (i + 1)).flatMap escL).length) ∧ Hid (Buf w3 w.heap.size 5 A3 k c3 ((34 :: (s.take (i + 1)).flatMap escL).map B8)) ∧ Hid (Push W (some ⟨w.heap.size, 0, none⟩) A3 w3) := fun A3 k c3 w3 hk h hE => by
        have he : (34 :: (s.take i).flatMap escL) ++ escL x = 34 :: (s.take (i + 1)).flatMap escL := by rw [htk]; rfl
        have hk2 : k = (34 :: (s.take (i + 1)).flatMap escL).length := by rw [hk, hml.out, ← he, List.length_append]
        refine ⟨by rw [hk2]; exact hlt.out, hk2, ?_, hP.out.trans hE⟩
        rw [← he, List.map_append]
        exact h
      replace fin := hide fin
      replace hd1 := hide hd1
      replace hd2 := hide hd2
      clear hx htk hsi
      replace hn := hide hn
      go_wp2_with (at_builtin; refine wpList_bufK elemB hb.out _ _ rfl rfl rfl rfl (one_of rfl) (by simp; omega) hsz (fun A3 c3 w3 hb3 hE3 => ?_))
      all_goals first
        | (refine wp_region_text follows (by kernel_rfl) (by kernel_rfl) (fun K hK => ?_)
           go_wp2_with (at_builtin; refine wpList_bufK elemB hb.out.drew _ _ rfl rfl rfl rfl (one_of rfl) (by simp; omega) hsz (fun A3 c3 w3 hb3 hE3 => ?_))
           refine ⟨by kernel_rfl, ?_⟩
           go_wp2_with fail)
        | skip
      all_goals
        have hP3 : Push wr A2 A3 w3 := by first | exact hE3 | exact (Push.of_ext (Ext.refl wr).drew A2).trans hE3
        first
        | (have q : x.toNat = 34 := by omega
           have e := esc_q34 q
           have f := fin.out A3 (m + 2) c3 w3 (by rw [e]; rfl) (by rw [e]; exact hb3) hP3
           go_roundw
           case rel => exact ⟨i + 1, m + 2, A3, c3, by go_num, by omega, rfl, f.1, f.2.1, f.2.2.1, f.2.2.2⟩
           case measure => simp [intOf]; omega)
        | (have q : x.toNat = 34 ∨ x.toNat = 92 := by simp_all; omega
           have e := esc_q q
           have f := fin.out A3 (m + 2) c3 w3 (by rw [e]; rfl) (by rw [e]; exact hb3) hP3
           go_roundw
           case rel => exact ⟨i + 1, m + 2, A3, c3, by go_num, by omega, rfl, f.1, f.2.1, f.2.2.1, f.2.2.2⟩
           case measure => simp [intOf]; omega)
        | (have q : x.toNat = 10 := by simp_all; omega
           have e := esc_n q
           have f := fin.out A3 (m + 2) c3 w3 (by rw [e]; rfl) (by rw [e]; exact hb3) hP3
           go_roundw
           case rel => exact ⟨i + 1, m + 2, A3, c3, by go_num, by omega, rfl, f.1, f.2.1, f.2.2.1, f.2.2.2⟩
           case measure => simp [intOf]; omega)
        | (have q : x.toNat = 9 := by simp_all; omega
           have e := esc_t q
           have f := fin.out A3 (m + 2) c3 w3 (by rw [e]; rfl) (by rw [e]; exact hb3) hP3
           go_roundw
           case rel => exact ⟨i + 1, m + 2, A3, c3, by go_num, by omega, rfl, f.1, f.2.1, f.2.2.1, f.2.2.2⟩
           case measure => simp [intOf]; omega)
        | (have q : (x.toNat < 32 ∨ 126 < x.toNat) ∧ x.toNat ≠ 10 ∧ x.toNat ≠ 9 := by simp_all; omega
           have e := esc_x q
           rw [← hd1.out, ← hd2.out] at e
           have f := fin.out A3 (m + 4) c3 w3 (by rw [e]; rfl) (by rw [e]; exact hb3) hP3
           go_roundw
           case rel => exact ⟨i + 1, m + 4, A3, c3, by go_num, by omega, rfl, f.1, f.2.1, f.2.2.1, f.2.2.2⟩
           case measure => simp [intOf]; omega)
        | (have q : x.toNat ≠ 34 ∧ x.toNat ≠ 92 ∧ 32 ≤ x.toNat ∧ x.toNat ≤ 126 := by simp_all; omega
           have e := esc_o q
           have f := fin.out A3 (m + 1) c3 w3 (by rw [e]; rfl) (by rw [e]; exact hb3) hP3
           go_roundw
           case rel => exact ⟨i + 1, m + 1, A3, c3, by go_num, by omega, rfl, f.1, f.2.1, f.2.2.1, f.2.2.2⟩
           case measure => simp [intOf]; omega)
    · obtain rfl : i = n := by omega
      have hall : s.take i = s := List.take_of_length_le (by rw [← hn]; exact Nat.le_refl _)
      have hil : ¬ i < s.length := by omega
      rw [hall] at hml hb
      clear hall
      have hq : (34 :: s.flatMap escL) ++ [34] = quoteL s := rfl
      have hqm : (34 :: s.flatMap escL).map B8 ++ [.int .u8 34] = (quoteL s).map B8 := by rw [← hq, List.map_append]; rfl
      have hql : (quoteL s).length = m + 1 := by rw [← hq, List.length_append, ← hml.out]; rfl
      obtain ⟨q, hqd⟩ : ∃ q, q = quoteL s := ⟨_, rfl⟩
      rw [← hqd] at hqm hql
      replace hqm := hide hqm
      replace hqd := hide hqd
      replace hn := hide hn
      clear hq
      go_wp2_with (at_builtin; refine wpList_bufK elemB hb.out _ _ rfl rfl rfl rfl (one_of rfl) (by simp; omega) hsz (fun A3 c3 w3 hb3 hE3 => ?_); have hE4 := hide (hE3.ext hE.out hb.out.base_le); have hstr := fun cc => run_str (A := A3) (l := q) (w := w3) (by have h := hb3.cells; rw [hqm.out] at h; exact h) (m + 1) cc hql.symm)
      go_ret
      obtain rfl := hqd.out
      exact ⟨rfl, hE4.out⟩
end Go.Proofs.YtpajpdkliohepaaDoor
