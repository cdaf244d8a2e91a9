/- loggia/lz: Size, next: the walks. -/
import Derived.Test.YteofooecfedplaaLzF
namespace Go.Proofs.Yteofooecfedplaa
open Go.RowKit

theorem ofInt_i64 (a : Nat) (ha : a < 9223372036854775808) : (BitVec.ofInt 64 (a : Int)).toNat = a := by
  rw [BitVec.ofInt_natCast, BitVec.toNat_ofNat]; exact Nat.mod_eq_of_lt (by omega)
theorem or_i64 (a b : Nat) (ha : a < 9223372036854775808) (hb : b < 9223372036854775808) : bits .or .i64 (a : Int) (b : Int) = ((a ||| b : Nat) : Int) := by
  have hx : a ||| b < 2 ^ 63 := Nat.or_lt_two_pow (by omega) (by omega)
  show IntKind.i64.wrap ((BitVec.ofInt 64 (a : Int) ||| BitVec.ofInt 64 (b : Int)).toNat : Int) = _
  rw [BitVec.toNat_or, ofInt_i64 a ha, ofInt_i64 b hb, IntKind.wrap_i64]
  omega
theorem or_add (a b i : Nat) (hb : b < 2 ^ i) : a * 2 ^ i ||| b = a * 2 ^ i + b := by
  have := Nat.shiftLeft_add_eq_or_of_lt hb a
  rw [Nat.shiftLeft_eq] at this
  exact this.symm
theorem or2 (a b : Nat) (ha : a < 256) (hb : b < 256) : bits .or .i64 ((a : Int) * 256) (b : Int) = ((a * 256 + b : Nat) : Int) := by
  have := or_i64 (a * 256) b (by omega) (by omega)
  rw [show ((a * 256 : Nat) : Int) = (a : Int) * 256 by omega] at this
  rw [this, show a * 256 = a * 2 ^ 8 by omega, or_add a b 8 (by omega)]
theorem or4 (a b c d : Nat) (ha : a < 256) (hb : b < 256) (hc : c < 256) (hd : d < 256) :
    bits .or .i64 (bits .or .i64 (bits .or .i64 ((a : Int) * 16777216) ((b : Int) * 65536)) ((c : Int) * 256)) (d : Int) = ((a * 16777216 + b * 65536 + c * 256 + d : Nat) : Int) := by
  have h1 := or_i64 (a * 16777216) (b * 65536) (by omega) (by omega)
  rw [show ((a * 16777216 : Nat) : Int) = (a : Int) * 16777216 by omega, show ((b * 65536 : Nat) : Int) = (b : Int) * 65536 by omega, show a * 16777216 = a * 2 ^ 24 by omega, or_add a (b * 65536) 24 (by omega)] at h1
  have h2 := or_i64 (a * 2 ^ 24 + b * 65536) (c * 256) (by omega) (by omega)
  rw [show ((c * 256 : Nat) : Int) = (c : Int) * 256 by omega, show a * 2 ^ 24 + b * 65536 = (a * 256 + b) * 2 ^ 16 by omega, or_add (a * 256 + b) (c * 256) 16 (by omega)] at h2
  have h3 := or_i64 ((a * 256 + b) * 2 ^ 16 + c * 256) d (by omega) (by omega)
  rw [show (a * 256 + b) * 2 ^ 16 + c * 256 = ((a * 256 + b) * 256 + c) * 2 ^ 8 by omega, or_add ((a * 256 + b) * 256 + c) d 8 (by omega)] at h3
  rw [h1, show a * 2 ^ 24 + b * 65536 = (a * 256 + b) * 2 ^ 16 by omega, h2, show (a * 256 + b) * 2 ^ 16 + c * 256 = ((a * 256 + b) * 256 + c) * 2 ^ 8 by omega, h3]

theorem at4 {w : World} {A : Option Addr} {l : List UInt8} (hl : Bs w A l) (h : 4 ≤ l.length) : ∃ g o, A = some ⟨g, o, none⟩ ∧ w.cell? ⟨g, o, none⟩ = some (.int .u8 (l[0].toNat : Int)) ∧ w.cell? ⟨g, o + 1, none⟩ = some (.int .u8 (l[1].toNat : Int)) ∧ w.cell? ⟨g, o + 2, none⟩ = some (.int .u8 (l[2].toNat : Int)) ∧
    w.cell? ⟨g, o + 3, none⟩ = some (.int .u8 (l[3].toNat : Int)) := by
  obtain ⟨g, o, hA, hc⟩ := hl.at_ (by omega)
  exact ⟨g, o, hA, hc 0 (by omega), hc 1 (by omega), hc 2 (by omega), hc 3 (by omega)⟩
/-- How many bytes packed ones tell of, and what is wrong. -/
def sizeM (l : List UInt8) : Nat × Nat :=
  if l.length < 4 then (0, 6) else
  if 16777216 < (l.getD 0 0).toNat * 16777216 + (l.getD 1 0).toNat * 65536 + (l.getD 2 0).toNat * 256 + (l.getD 3 0).toNat then (0, 2)
  else ((l.getD 0 0).toNat * 16777216 + (l.getD 1 0).toNat * 65536 + (l.getD 2 0).toNat * 256 + (l.getD 3 0).toNat, 0)

set_option maxRecDepth 100000 in
set_option maxHeartbeats 1000000 in
theorem size_any (A : Option Addr) (c : Nat) (l : List UInt8) (w : World) (hl : Bs w A l) (hn : l.length ≤ 1048576) :
    Calls Try.prog 15 #[.slice A l.length c] w fun e w' => e = .returned (.tuple #[.int .i64 (sizeM l).1, .int .i64 (sizeM l).2]) ∧ Ext w w' := by
  by_cases h4 : l.length < 4
  · have hs : sizeM l = (0, 6) := by unfold sizeM; rw [if_pos h4]
    rw [hs]
    go_enter Try.func15, Try.ntmps15
    go_wp2_with fail
    go_ret2
    exact ⟨rfl, Ext.refl _⟩
  · obtain ⟨g, o, rfl, c0, c1, c2, c3⟩ := at4 hl (by omega)
    obtain ⟨b0, hb0⟩ : ∃ b0, b0 = l[0].toNat := ⟨_, rfl⟩
    obtain ⟨b1, hb1⟩ : ∃ b0, b0 = l[1].toNat := ⟨_, rfl⟩
    obtain ⟨b2, hb2⟩ : ∃ b0, b0 = l[2].toNat := ⟨_, rfl⟩
    obtain ⟨b3, hb3⟩ : ∃ b0, b0 = l[3].toNat := ⟨_, rfl⟩
    have l0 : b0 < 256 := by rw [hb0]; exact l[0].toNat_lt
    have l1 : b1 < 256 := by rw [hb1]; exact l[1].toNat_lt
    have l2 : b2 < 256 := by rw [hb2]; exact l[2].toNat_lt
    have l3 : b3 < 256 := by rw [hb3]; exact l[3].toNat_lt
    obtain ⟨n, hnn⟩ : ∃ n, n = b0 * 16777216 + b1 * 65536 + b2 * 256 + b3 := ⟨_, rfl⟩
    have hs : sizeM l = if 16777216 < n then (0, 2) else (n, 0) := by
      unfold sizeM
      rw [if_neg h4, hnn, hb0, hb1, hb2, hb3]
      simp [List.getD, show 0 < l.length by omega, show 1 < l.length by omega, show 2 < l.length by omega, show 3 < l.length by omega]
    replace hs := hide hs
    rw [← hb0] at c0
    rw [← hb1] at c1
    rw [← hb2] at c2
    rw [← hb3] at c3
    clear hb0 hb1 hb2 hb3
    have hor := or4 b0 b1 b2 b3 l0 l1 l2 l3
    rw [← hnn] at hor
    replace hnn := hide hnn
    by_cases hbig : 16777216 < n
    all_goals
      go_enter Try.func15, Try.ntmps15
      go_wp2_with fail
      refine wp_region_text follows (by kernel_rfl) (by kernel_rfl) (fun K hK => ?_)
      go_wp2_with fail
      refine ⟨by kernel_rfl, ?_⟩
      go_wp2_with fail
      go_ret2
      refine ⟨?_, (Ext.refl _).drew⟩
      rw [hs.out]
      first | (rw [if_pos hbig]; rfl) | (rw [if_neg hbig]; rfl)
set_option maxRecDepth 100000 in
set_option maxHeartbeats 1000000 in
theorem rsize_any (A : Option Addr) (c : Nat) (l : List UInt8) (w : World) (hl : Bs w A l) (hn : l.length ≤ 1048576) :
    Calls Try.prog 16 #[.slice A l.length c] w fun e w' => e = .returned (.tuple #[.int .i64 (sizeM l).1, .int .i64 (sizeM l).2]) ∧ Ext w w' := by
  by_cases h4 : l.length < 4
  · have hs : sizeM l = (0, 6) := by unfold sizeM; rw [if_pos h4]
    rw [hs]
    go_enter Try.func16, Try.ntmps16
    go_wp2_with fail
    go_ret2
    exact ⟨rfl, Ext.refl _⟩
  · obtain ⟨g, o, rfl, c0, c1, c2, c3⟩ := at4 hl (by omega)
    obtain ⟨b0, hb0⟩ : ∃ b0, b0 = l[0].toNat := ⟨_, rfl⟩
    obtain ⟨b1, hb1⟩ : ∃ b0, b0 = l[1].toNat := ⟨_, rfl⟩
    obtain ⟨b2, hb2⟩ : ∃ b0, b0 = l[2].toNat := ⟨_, rfl⟩
    obtain ⟨b3, hb3⟩ : ∃ b0, b0 = l[3].toNat := ⟨_, rfl⟩
    have l0 : b0 < 256 := by rw [hb0]; exact l[0].toNat_lt
    have l1 : b1 < 256 := by rw [hb1]; exact l[1].toNat_lt
    have l2 : b2 < 256 := by rw [hb2]; exact l[2].toNat_lt
    have l3 : b3 < 256 := by rw [hb3]; exact l[3].toNat_lt
    obtain ⟨n, hnn⟩ : ∃ n, n = b0 * 16777216 + b1 * 65536 + b2 * 256 + b3 := ⟨_, rfl⟩
    have hs : sizeM l = if 16777216 < n then (0, 2) else (n, 0) := by
      unfold sizeM
      rw [if_neg h4, hnn, hb0, hb1, hb2, hb3]
      simp [List.getD, show 0 < l.length by omega, show 1 < l.length by omega, show 2 < l.length by omega, show 3 < l.length by omega]
    replace hs := hide hs
    rw [← hb0] at c0
    rw [← hb1] at c1
    rw [← hb2] at c2
    rw [← hb3] at c3
    clear hb0 hb1 hb2 hb3
    have hor : (b0 : Int) * 16777216 + (b1 : Int) * 65536 + (b2 : Int) * 256 + b3 = n := by omega
    replace hnn := hide hnn
    by_cases hbig : 16777216 < n
    all_goals
      go_enter Try.func16, Try.ntmps16
      go_wp2_with fail
      refine wp_region_text follows (by kernel_rfl) (by kernel_rfl) (fun K hK => ?_)
      go_wp2_with fail
      refine ⟨by kernel_rfl, ?_⟩
      go_wp2_with fail
      go_ret2
      refine ⟨?_, (Ext.refl _).drew⟩
      rw [hs.out]
      first | (rw [if_pos hbig]; rfl) | (rw [if_neg hbig]; rfl)
set_option maxRecDepth 100000 in
set_option maxHeartbeats 400000 in
theorem next_yes (b : Nat) (A : Option Addr) (n len c : Nat) (w : World) (hc0 : w.cell? ⟨b, 0, none⟩ = some (.slice A len c)) (hf : w.frozen? ⟨b, 0, none⟩ = false) (hn : n ≤ len) (hc : len ≤ c) (hl : len ≤ 16777216) :
    Calls Try.prog 26 #[.pointer (some ⟨b, 0, none⟩), .int .i64 n] w fun e w' => e = .returned (.tuple #[.slice A n c, .bool true]) ∧ w' = w.setCell ⟨b, 0, none⟩ (.slice (if c = n then A else A.map (fun x => x.add n)) (len - n) (c - n)) := by
  rcases Nat.lt_or_ge n c with h | h
  · have h' : ¬ c = n := by omega
    rw [if_neg h']
    clear h'
    go_enter Try.func26, Try.ntmps26
    go_wp2_with fail
    go_ret2
    exact ⟨rfl, rfl⟩
  · obtain rfl : n = len := by omega
    obtain rfl : n = c := by omega
    rw [if_pos rfl, Nat.sub_self]
    go_enter Try.func26, Try.ntmps26
    go_wp2_with fail
    go_ret2
    exact ⟨rfl, rfl⟩
set_option maxRecDepth 100000 in
set_option maxHeartbeats 400000 in
theorem next_no (b : Nat) (A : Option Addr) (n len c : Nat) (w : World) (hc0 : w.cell? ⟨b, 0, none⟩ = some (.slice A len c)) (hn : len < n) :
    Calls Try.prog 26 #[.pointer (some ⟨b, 0, none⟩), .int .i64 n] w fun e w' => e = .returned (.tuple #[.slice none 0 0, .bool false]) ∧ w' = w := by
  go_enter Try.func26, Try.ntmps26
  go_wp2_with fail
  go_ret2
  exact ⟨rfl, rfl⟩
end Go.Proofs.Yteofooecfedplaa
