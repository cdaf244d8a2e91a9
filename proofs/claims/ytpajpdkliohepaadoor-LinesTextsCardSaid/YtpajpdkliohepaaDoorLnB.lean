/- loggia/lines: Quote. -/
import Derived.Test.YtpajpdkliohepaaDoorLnA
import Derived.Test.YtpajpdkliohepaaDoorCnv
namespace Go.Proofs.YtpajpdkliohepaaDoor
open Go.RowKit

theorem flat_take (s : List UInt8) (i : Nat) (hi : i < s.length) : (s.take (i + 1)).flatMap escL = (s.take i).flatMap escL ++ escL s[i] := by
  rw [List.take_succ_eq_append_getElem hi, List.flatMap_append]
  simp
theorem flat_take_len (s : List UInt8) (i : Nat) : ((s.take i).flatMap escL).length ≤ 4 * i := by
  have := flat_len (s.take i)
  rw [List.length_take] at this
  omega
set_option maxRecDepth 100000 in
set_option maxHeartbeats 2000000 in
theorem quote_any (s : List UInt8) (w : World) (hs : s.length ≤ 1000000) :
    Calls Tryd.prog 15 #[.string ⟨s.toArray⟩] w fun e w' => e = .returned (.string ⟨(quoteL s).toArray⟩) ∧ Ext w w' := by
  obtain ⟨W, hW⟩ : ∃ W, W = w.alloc (.cells #[.int .u8 34] 5) := ⟨_, rfl⟩
  have hb : Buf W w.heap.size 5 (some ⟨w.heap.size, 0, none⟩) 1 1 ([34].map B8) := by
    rw [hW]
    refine ⟨rfl, Nat.le_refl _, .inr ⟨w.heap.size, #[.int .u8 34], rfl, Nat.le_refl _, heap_alloc_new w _, Nat.le_refl _, rfl⟩⟩
  obtain ⟨c1, W1, hcv, hB, hE1, hsz⟩ := run_bytes s W
  have hEW : Ext w W := by rw [hW]; exact (Ext.refl w).alloc _
  have hWs : W.heap.size = w.heap.size + 1 := by rw [hW]; simp
  have hlen : ∀ i, (34 :: (s.take i).flatMap escL).length ≤ 4 * i + 1 := fun i => by
    have := flat_take_len s i
    rw [List.length_cons]
    omega
  have hput := fun base n A c l x W => lput_any base n A c l x W
  obtain ⟨n, hn⟩ : ∃ n, n = s.length := ⟨_, rfl⟩
  rw [← hn] at hcv hs
  replace hn := hide hn
  replace hput := hide hput
  replace hlen := hide hlen
  go_enter Tryd.func15, Tryd.ntmps15
  rw [hW] at hcv
  go_wp2_with fail
  obtain ⟨hb1, hEw1, hsz1⟩ : Hid (Buf W1 w.heap.size 5 (some ⟨w.heap.size, 0, none⟩) 1 1 ([34].map B8)) ∧ Hid (Ext w W1) ∧ w.heap.size ≤ W1.heap.size := ⟨hide (hb.ext hE1), hide (hEW.trans hE1), (hEW.trans hE1).size⟩
  have hB' : Bs W1 (some ⟨w.heap.size + 1, 0, none⟩) s := by rw [← hWs]; exact hB
  clear hW hcv hb hB hE1 hEW hWs hsz
  go_loopw [3, 10] (fun s3 s10 wr => ∃ (i m : Nat) (A2 : Option Addr) (c2 : Nat), s10 = .int .i64 i ∧ i ≤ n ∧ s3 = .slice A2 m c2 ∧ m ≤ 4 * i + 1 ∧ Hid (m = (34 :: (s.take i).flatMap escL).length) ∧ Hid (Buf wr w.heap.size 5 A2 m c2 ((34 :: (s.take i).flatMap escL).map B8)) ∧ Hid (Push W1 (some ⟨w.heap.size, 0, none⟩) A2 wr)) (fun _ s10 _ => n - (intOf s10).toNat)
  case atStart => exact ⟨0, 1, some ⟨w.heap.size, 0, none⟩, 1, rfl, by omega, rfl, by omega, hide rfl, hb1, hide (Push.refl _ _)⟩
  case round =>
    obtain ⟨i, m, A2, c2, rfl, hi, rfl, hm, hml, hb, hP⟩ := hrel
    have hE : Ext w wr := hP.out.ext hEw1.out fun a ha => by cases ha; exact Nat.le_refl _
    have hsz := hE.size
    replace hE := hide hE
    by_cases hin : i < n
    · have hil : i < s.length := by rw [← hn.out]; exact hin
      have hB2 : Bs wr (some ⟨w.heap.size + 1, 0, none⟩) s := hP.out.cells hB' fun a b ha hb => by cases ha; cases hb; simp
      obtain ⟨g, o, hg, hc⟩ := hB2.at_ (by omega)
      injection hg with hg
      injection hg with hg ho
      subst hg
      subst ho
      have k0 := hc i hil
      rw [Nat.zero_add] at k0
      have htk := flat_take s i hil
      have hlt := hide (hlen.out (i + 1))
      obtain ⟨x, hx⟩ : ∃ x, x = s[i] := ⟨_, rfl⟩
      rw [← hx] at k0 htk
      have hp := hput.out w.heap.size m A2 c2 _ x wr hb.out hml.out (by omega) hsz
      replace htk := hide htk
      replace hp := hide hp
      clear hc hx hB2
      go_wp2_with fail
      refine hp.out.mono ?_
      rintro e w2 ⟨A3, c3, rfl, hb3, hP3⟩
      have he : (34 :: (s.take i).flatMap escL) ++ escL x = 34 :: (s.take (i + 1)).flatMap escL := by rw [htk.out]; rfl
      rw [he] at hb3 ⊢
      obtain ⟨k, hk⟩ : ∃ k, k = (34 :: (s.take (i + 1)).flatMap escL).length := ⟨_, rfl⟩
      rw [← hk] at hb3 ⊢
      have hkm := hlt.out
      rw [← hk] at hkm
      have hP4 := hide (hP.out.trans hP3)
      clear he hP3
      replace hk := hide hk
      replace hb3 := hide hb3
      go_wp2_with fail
      go_roundw
      case rel => exact ⟨i + 1, k, A3, c3, by go_num, by omega, rfl, by omega, hk, hb3, hP4⟩
      case measure => simp [intOf]; omega
    · obtain rfl : i = n := by omega
      have hall : s.take i = s := List.take_of_length_le (by rw [← hn.out]; exact Nat.le_refl _)
      rw [hall] at hml hb
      clear hall
      have hq : (34 :: s.flatMap escL) ++ [34] = quoteL s := rfl
      have hqm : (34 :: s.flatMap escL).map B8 ++ [.int .u8 34] = (quoteL s).map B8 := by rw [← hq, List.map_append]; rfl
      have hql : (quoteL s).length = m + 1 := by rw [← hq, List.length_append, ← hml.out]; rfl
      obtain ⟨q, hqd⟩ : ∃ q, q = quoteL s := ⟨_, rfl⟩
      rw [← hqd] at hqm hql
      replace hqm := hide hqm
      replace hqd := hide hqd
      clear hq
      go_wp2_with (first
        | (at_builtin; refine wpList_bufK elemB hb.out _ _ rfl rfl rfl rfl (one_of rfl) (by simp; omega) hsz (fun A3 c3 w3 hb3 hE3 => ?_); have hE4 := hide (hE3.ext hE.out hb.out.base_le); have hstr := fun cc => run_str (A := A3) (l := q) (w := w3) (by have h := hb3.cells; rw [hqm.out] at h; exact h) (m + 1) cc hql.symm)
        | fail)
      go_ret
      obtain rfl := hqd.out
      exact ⟨rfl, hE4.out⟩
end Go.Proofs.YtpajpdkliohepaaDoor
