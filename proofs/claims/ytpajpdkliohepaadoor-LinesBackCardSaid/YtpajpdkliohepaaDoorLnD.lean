/- loggia/lines: what is left of a line: next, hex, byte, skip. -/
import Derived.Test.YtpajpdkliohepaaDoorLnC
import Derived.Test.YtpajpdkliohepaaDoorShelf
namespace Go.Proofs.YtpajpdkliohepaaDoor
open Go.RowKit

def RdT : TypeId := 70
/-- A reader lies at block b, and s is left of its line. -/
def Rd (w : World) (b : Nat) (s : List UInt8) : Prop := Row w b 70 #[.string ⟨s.toArray⟩]
/-- Only the reader has turned. -/
def RdTo (w : World) (b : Nat) (s : List UInt8) (w' : World) : Prop := Rd w' b s ∧ Chg (fun k => k = b) w w'
theorem Rd.set {w : World} {b : Nat} {s : List UInt8} (h : Rd w b s) (t : List UInt8) : RdTo w b t (w.setCell ⟨b, 0, none⟩ (.string ⟨t.toArray⟩)) :=
  ⟨by have := Row.put h 0 (.string ⟨t.toArray⟩); exact this, Chg.of_set w _ rfl⟩
theorem RdTo.trans {w w1 w2 : World} {b : Nat} {s t : List UInt8} (h : RdTo w b s w1) (k : RdTo w1 b t w2) : RdTo w b t w2 := ⟨k.1, h.2.trans k.2 fun _ _ h => h⟩
theorem Rd.same {w : World} {b : Nat} {s : List UInt8} (h : Rd w b s) : RdTo w b s w := ⟨h, Chg.refl _ _⟩
set_option maxRecDepth 100000 in
set_option maxHeartbeats 1000000 in
theorem lnext_any (b : Nat) (s : List UInt8) (w : World) (h : Rd w b s) (hs : s.length ≤ 1000000) :
    Calls Tryd.prog 64 #[.pointer (some ⟨b, 0, none⟩)] w fun e w' => e = .returned (.int .u8 ((s.headD 0).toNat : Int)) ∧ RdTo w b (s.drop 1) w' := by
  have c0 : w.cell? ⟨b, 0, none⟩ = some (.string ⟨s.toArray⟩) := Row.cell h 0 rfl
  have f0 := Row.free h 0
  cases s with
  | nil =>
    have fin := hide h.same
    go_enter Tryd.func64, Tryd.ntmps64
    go_wp2_with fail
    go_ret
    exact ⟨rfl, fin.out⟩
  | cons x r =>
    have hrun := fun W => run_strindex (l := x :: r) (i := 0) (b := x) rfl (z := 0) rfl W
    have htl := fun W => run_strtail (x :: r) 1 (by simp) (z := 1) rfl W
    have fin := hide (h.set r)
    rw [show (x :: r).drop 1 = r from rfl] at htl ⊢
    obtain ⟨q, hq⟩ : ∃ q, q = x :: r := ⟨_, rfl⟩
    rw [← hq] at c0 hrun htl hs
    have hq0 : 0 < q.length := by rw [hq]; simp
    have hd : (x :: r).headD 0 = x := rfl
    rw [hd]
    have hemp : q.isEmpty = false := by rw [hq]; rfl
    clear hq hd
    go_enter Tryd.func64, Tryd.ntmps64
    go_wp2_with fail
    go_ret
    exact ⟨rfl, fin.out⟩
theorem ret_u8 {a b : Int} (h : a = b) : Ending.returned (.int .u8 a) = .returned (.int .u8 b) := by rw [h]
theorem index_hex (x : UInt8) : max 0 (Lib.indexByte hexS x) = (hexV x : Int) := by
  have h : ∀ k : Fin 256, max 0 (Lib.indexByte hexS (UInt8.ofNat k.val)) = (hexV (UInt8.ofNat k.val) : Int) := by decide +kernel
  have hk := h ⟨x.toNat, x.toNat_lt⟩
  rw [u8_of (n := x.toNat) (c := x) rfl] at hk
  exact hk
set_option maxRecDepth 100000 in
theorem lhex_any (x : UInt8) (w : World) : Calls Tryd.prog 65 #[.int .u8 (x.toNat : Int)] w fun e w' => e = .returned (.int .u8 (hexV x : Int)) ∧ w' = w := by
  have hi := Tryd.strings_IndexByte ⟨hexS.toArray⟩ (x.toNat : Int) w
  rw [show ((x.toNat : Int)).toNat.toUInt8 = x from u8_of rfl] at hi
  have hx := index_hex x
  have hl := hexV_lt x
  obtain ⟨z, hz⟩ : ∃ z, z = Lib.indexByte hexS x := ⟨_, rfl⟩
  rw [show (ByteArray.mk hexS.toArray).data.toList = hexS from rfl, ← hz] at hi
  rw [← hz] at hx
  unfold hexS at hi
  replace hi := hide hi
  obtain ⟨v, hv⟩ : ∃ v, v = hexV x := ⟨_, rfl⟩
  rw [← hv] at hx hl ⊢
  replace hx := hide hx
  clear hz hv
  go_enter Tryd.func65, Tryd.ntmps65
  go_wp2_with fail
  refine hi.out.mono ?_
  rintro e w1 ⟨rfl, rfl⟩
  go_wp2_with fail
  have he : max 0 z % 256 = (v : Int) := by have := hx.out; omega
  go_ret
  exact ⟨ret_u8 he, rfl⟩
theorem or_hex {x y : Nat} (hx : x < 16) (hy : y < 16) : bits .or .u8 ((x : Int) * 16 % 256) (y : Int) = (16 * (x : Int) + (y : Int)) % 256 := by
  have h : ∀ i j : Fin 16, (i.val * 16) ||| j.val = 16 * i.val + j.val := by decide +kernel
  have hk := h ⟨x, hx⟩ ⟨y, hy⟩
  simp only at hk
  rw [show (x : Int) * 16 % 256 = ((x * 16 : Nat) : Int) by omega, u8_or_nat _ _ (by omega) (by omega), hk]
  omega
theorem byteL_92 (r : List UInt8) : byteL (92 :: r) = if (r.headD 0).toNat = 110 then (10, r.drop 1) else if (r.headD 0).toNat = 116 then (9, r.drop 1) else if (r.headD 0).toNat = 120 then (UInt8.ofNat (16 * hexV ((r.drop 1).headD 0) + hexV (((r.drop 1).drop 1).headD 0)), ((r.drop 1).drop 1).drop 1) else (r.headD 0, r.drop 1) := by
  simp only [byteL]
  rw [if_neg (show ¬ ((92 : UInt8).toNat ≠ 92) by decide)]
  cases r with
  | nil => rfl
  | cons d r2 => simp
theorem byteL_o {c : UInt8} (r : List UInt8) (h : c.toNat ≠ 92) : byteL (c :: r) = (c, r) := by
  simp only [byteL]
  rw [if_pos h]
set_option maxRecDepth 100000 in
set_option maxHeartbeats 2000000 in
theorem lbyte_any (b : Nat) (s : List UInt8) (w : World) (h : Rd w b s) (hs : s.length ≤ 1000000) (hne : s ≠ []) :
    Calls Tryd.prog 50 #[.pointer (some ⟨b, 0, none⟩)] w fun e w' => e = .returned (.int .u8 ((byteL s).1.toNat : Int)) ∧ RdTo w b (byteL s).2 w' := by
  have hnx := fun W t (h : Rd W b t) (ht : t.length ≤ 1000000) => lnext_any b t W h ht
  have hhx := lhex_any
  have hn0 := hide (hnx w s h hs)
  obtain ⟨c, r, rfl⟩ : ∃ c r, s = c :: r := by
    cases s with
    | nil => exact absurd rfl hne
    | cons c r => exact ⟨c, r, rfl⟩
  have hrl : r.length ≤ 1000000 := by simp at hs; omega
  rw [show (c :: r).headD 0 = c from rfl, show (c :: r).drop 1 = r from rfl] at hn0
  replace hnx := hide hnx
  replace hhx := hide hhx
  by_cases h92 : c.toNat = 92
  · obtain rfl : c = 92 := UInt8.toNat_inj.1 h92
    rw [byteL_92]
    obtain ⟨d, hd⟩ : ∃ d, d = r.headD 0 := ⟨_, rfl⟩
    obtain ⟨r2, hr2⟩ : ∃ r2, r2 = r.drop 1 := ⟨_, rfl⟩
    have hr2l : r2.length ≤ 1000000 := by rw [hr2, List.length_drop]; omega
    obtain ⟨r3, hr3⟩ : ∃ r3, r3 = r2.drop 1 := ⟨_, rfl⟩
    have hr3l : r3.length ≤ 1000000 := by rw [hr3, List.length_drop]; omega
    obtain ⟨a, ha⟩ : ∃ a, a = r2.headD 0 := ⟨_, rfl⟩
    obtain ⟨a2, ha2⟩ : ∃ a2, a2 = r3.headD 0 := ⟨_, rfl⟩
    obtain ⟨r4, hr4⟩ : ∃ r4, r4 = r3.drop 1 := ⟨_, rfl⟩
    rw [← hd, ← hr2, ← hr3, ← ha, ← ha2, ← hr4]
    rw [show ((92 : UInt8).toNat : Int) = 92 from rfl] at hn0
    obtain ⟨P, hP⟩ : ∃ P : UInt8 × List UInt8, P = if d.toNat = 110 then (10, r2) else if d.toNat = 116 then (9, r2) else if d.toNat = 120 then (UInt8.ofNat (16 * hexV a + hexV a2), r4) else (d, r2) := ⟨_, rfl⟩
    rw [← hP]
    replace hP := hide hP
    go_enter Tryd.func50, Tryd.ntmps50
    go_wp2_with fail
    refine hn0.out.mono ?_
    rintro e w1 ⟨rfl, h1⟩
    have hn1 := hide (hnx.out w1 r h1.1 hrl)
    rw [← hd, ← hr2] at hn1
    clear hd hr2
    go_wp2_with fail
    refine hn1.out.mono ?_
    rintro e w2 ⟨rfl, h2⟩
    have hn2 := hide (hnx.out w2 r2 h2.1 hr2l)
    rw [← hr3, ← ha] at hn2
    have hn3' := fun W (h : Rd W b r3) => hnx.out W r3 h hr3l
    rw [← ha2, ← hr4] at hn3'
    replace hn3' := hide hn3'
    clear hr3 ha ha2 hr4
    go_wp2_with fail
    · go_ret
      have q : d.toNat = 110 := by simp_all; omega
      obtain rfl : P = (10, r2) := by rw [hP.out, if_pos q]
      exact ⟨rfl, h1.trans h2⟩
    · go_ret
      have q : d.toNat ≠ 110 ∧ d.toNat = 116 := by simp_all; omega
      obtain rfl : P = (9, r2) := by rw [hP.out, if_neg q.1, if_pos q.2]
      exact ⟨rfl, h1.trans h2⟩
    · have q : d.toNat ≠ 110 ∧ d.toNat ≠ 116 ∧ d.toNat = 120 := by simp_all; omega
      obtain rfl : P = (UInt8.ofNat (16 * hexV a + hexV a2), r4) := by rw [hP.out, if_neg q.1, if_neg q.2.1, if_pos q.2.2]
      refine hn2.out.mono ?_
      rintro e w3 ⟨rfl, h3⟩
      have hn3 := hide (hn3'.out w3 h3.1)
      go_wp2_with fail
      refine (hhx.out a w3).mono ?_
      rintro e w4 ⟨rfl, rfl⟩
      go_wp2_with fail
      refine hn3.out.mono ?_
      rintro e w5 ⟨rfl, h5⟩
      go_wp2_with fail
      refine (hhx.out a2 w5).mono ?_
      rintro e w6 ⟨rfl, rfl⟩
      go_wp2_with fail
      have hor := or_hex (hexV_lt a) (hexV_lt a2)
      go_ret
      exact ⟨ret_u8 hor, ((h1.trans h2).trans h3).trans h5⟩
    · go_ret
      have q : d.toNat ≠ 110 ∧ d.toNat ≠ 116 ∧ d.toNat ≠ 120 := by simp_all; omega
      obtain rfl : P = (d, r2) := by rw [hP.out, if_neg q.1, if_neg q.2.1, if_neg q.2.2]
      exact ⟨rfl, h1.trans h2⟩
  · rw [byteL_o _ h92]
    go_enter Tryd.func50, Tryd.ntmps50
    go_wp2_with fail
    refine hn0.out.mono ?_
    rintro e w1 ⟨rfl, h1⟩
    have hc : ¬ (c.toNat : Int) = 92 := by omega
    go_wp2_with fail
    go_ret
    exact ⟨rfl, h1⟩
set_option maxRecDepth 100000 in
theorem lskip_any (b : Nat) (s p : List UInt8) (w : World) (h : Rd w b s) :
    Calls Tryd.prog 48 #[.pointer (some ⟨b, 0, none⟩), .string ⟨p.toArray⟩] w fun e w' => e = .returned (.bool (Lib.hasPrefix s p)) ∧ RdTo w b (Lib.trimPrefix s p) w' := by
  have c0 : w.cell? ⟨b, 0, none⟩ = some (.string ⟨s.toArray⟩) := Row.cell h 0 rfl
  have f0 := Row.free h 0
  have hc : Calls Tryd.prog 63 #[.string ⟨s.toArray⟩, .string ⟨p.toArray⟩] w fun e w' => e = .returned (.tuple #[.string ⟨(Lib.trimPrefix s p).toArray⟩, .bool (Lib.hasPrefix s p)]) ∧ w' = w := Tryd.strings_CutPrefix ⟨s.toArray⟩ ⟨p.toArray⟩ w
  have fin := hide (h.set (Lib.trimPrefix s p))
  obtain ⟨t, ht⟩ : ∃ t, t = Lib.trimPrefix s p := ⟨_, rfl⟩
  obtain ⟨q, hq⟩ : ∃ q, q = Lib.hasPrefix s p := ⟨_, rfl⟩
  rw [← ht] at fin hc ⊢
  rw [← hq] at hc ⊢
  replace hc := hide hc
  clear ht hq
  go_enter Tryd.func48, Tryd.ntmps48
  go_wp2_with fail
  refine hc.out.mono ?_
  rintro e w1 ⟨rfl, rfl⟩
  go_wp2_with fail
  go_ret
  exact ⟨rfl, fin.out⟩
end Go.Proofs.YtpajpdkliohepaaDoor
