/- loggia/varint: Put, PutInt, PutAll. -/
import Derived.Test.YtijnomopcpgikaaDoorClone
import Derived.Test.YtijnomopcpgikaaDoorVaP
import Derived.Laws.BitsAllLaws
namespace Go.Proofs.YtijnomopcpgikaaDoor
open Go.RowKit

theorem vb_round {x m : Nat} {pre : List UInt8} (h : vb x = pre ++ vb m) (hm : 128 ≤ m) : vb x = (pre ++ [UInt8.ofNat (m % 128 + 128)]) ++ vb (m / 128) := by
  rw [h, vb_ge (by omega), List.append_assoc]
  rfl
theorem nat_not (k a : Nat) (h : a < 2 ^ k) : (2 ^ k - 1) ^^^ a = 2 ^ k - 1 - a := by
  apply Nat.eq_of_testBit_eq
  intro i
  rw [Nat.testBit_xor, Nat.testBit_two_pow_sub_one, show 2 ^ k - 1 - a = 2 ^ k - (a + 1) by omega, Nat.testBit_two_pow_sub_succ h]
  by_cases hi : i < k
  · simp [hi]
  · have : a.testBit i = false := Nat.testBit_lt_two_pow (Nat.lt_of_lt_of_le h (Nat.pow_le_pow_right (by omega) (by omega)))
    simp [hi, this]
theorem bits_not64 (a : Nat) (h : a < 18446744073709551616) : bits .xor .u64 IntKind.u64.max (a : Int) = ((18446744073709551615 - a : Nat) : Int) := by
  rw [show IntKind.u64.max = ((18446744073709551615 : Nat) : Int) from rfl, u64_xor_nat _ _ (by omega) h]
  exact congrArg _ (nat_not 64 a h)
theorem bits_not32 (a : Nat) (h : a < 4294967296) : bits .xor .u32 IntKind.u32.max (a : Int) = ((4294967295 - a : Nat) : Int) := by
  rw [show IntKind.u32.max = ((4294967295 : Nat) : Int) from rfl, u32_xor_nat _ _ (by omega) h]
  exact congrArg _ (nat_not 32 a h)
theorem wrap_neg (x : Int) (h : x < 0) (h2 : -9223372036854775808 ≤ x) : IntKind.u64.wrap (IntKind.u64.wrap x * 2) = ((18446744073709551615 - (2 * (-1 - x).toNat + 1) : Nat) : Int) := by
  have e : ∀ y : Int, IntKind.u64.wrap y = y % 18446744073709551616 := fun y => by simp [IntKind.wrap, IntKind.bits, IntKind.signed]
  rw [e, e]
  omega
theorem or_more (m : Nat) : bits .or .u8 ((m : Int) % 256) 128 = ((m % 128 + 128 : Nat) : Int) := by
  have h : ∀ k : Fin 256, k.val ||| 128 = k.val % 128 + 128 := by decide +kernel
  have hk := h ⟨m % 256, by omega⟩
  simp only at hk
  rw [show (m : Int) % 256 = ((m % 256 : Nat) : Int) by omega, show (128 : Int) = ((128 : Nat) : Int) from rfl, u8_or_nat _ _ (by omega) (by omega), hk]
  congr 1
  omega
theorem snoc_B8 (l : List UInt8) {k : Nat} (hk : k < 256) : (l ++ [UInt8.ofNat k]).map B8 = l.map B8 ++ [.int .u8 (k : Int)] := by
  rw [List.map_append, List.map_singleton]
  unfold B8
  rw [UInt8.toNat_ofNat', Nat.mod_eq_of_lt hk]
set_option maxRecDepth 100000 in
set_option maxHeartbeats 1000000 in
theorem put_any (A : Option Addr) (n c x : Nat) (l : List UInt8) (w : World) (hn : n = l.length) (hl : Bs w A l) (hz : A = none → c = 0) (hle : n ≤ 1000000000) (hx : x < 18446744073709551616) :
    Calls Tryd.prog 25 #[.slice A n c, .int .u64 x] w fun e w' => NewB w (l ++ vb x) e w' := by
  have hcl := clone_any A n c l w hn hl hz (by omega)
  have h10 := vb_len10 hx
  replace hcl := hide hcl
  replace hn := hide hn
  clear hl hz
  go_enter Tryd.func25, Tryd.ntmps25
  go_wp2_with fail
  refine hcl.out.mono ?_
  rintro e w1 ⟨A1, c1, rfl, hb1, hE1⟩
  go_wp2_with fail
  go_loopw [1, 5] (fun s1 s5 wr => ∃ (m : Nat) (pre : List UInt8) (A2 : Option Addr) (c2 : Nat), s1 = .int .u64 m ∧ s5 = .slice A2 (n + pre.length) c2 ∧ m < 18446744073709551616 ∧ pre.length ≤ 10 ∧ Hid (vb x = pre ++ vb m) ∧ Hid (Buf wr w.heap.size 5 A2 (n + pre.length) c2 ((l ++ pre).map B8)) ∧ Hid (Ext w wr)) (fun s1 _ _ => (intOf s1).toNat)
  case atStart => exact ⟨x, [], A1, c1, rfl, rfl, hx, by simp, rfl, by rw [List.append_nil]; exact hide hb1, hide hE1⟩
  case round =>
    obtain ⟨m, pre, A2, c2, rfl, rfl, hm, hp, hv, hb, hE⟩ := hrel
    have hsz := hE.out.size
    by_cases h128 : 128 ≤ m
    · have hor := or_more m
      go_wp2_with (at_builtin; refine wpList_bufN elemB hb.out (.tmp 10) (.tmp 14) rfl rfl rfl rfl (one_of rfl) (by simp; omega) hsz (fun A3 c3 w3 hb3 hE3 => ?_))
      go_roundw
      case rel => exact ⟨m / 128, pre ++ [UInt8.ofNat (m % 128 + 128)], A3, c3, by go_num, by rw [List.length_append]; rfl, by omega, (by
        have h1 := congrArg List.length (vb_round hv.out h128)
        have h2 := vb_pos (m / 128)
        rw [List.length_append, List.length_append, List.length_singleton] at h1
        rw [List.length_append, List.length_singleton]
        omega), hide (vb_round hv.out h128), hide (by rw [← List.append_assoc, snoc_B8 _ (by omega), List.length_append]; exact hb3), hide (hE3 w hE.out (Nat.le_refl _))⟩
      case measure => simp [intOf]; omega
    · go_wp2_with (at_builtin; refine wpList_bufN elemB hb.out (.tmp 18) (.tmp 21) rfl rfl rfl rfl (one_of rfl) (by simp; omega) hsz (fun A3 c3 w3 hb3 hE3 => ?_))
      go_ret
      have hl : l ++ vb x = (l ++ pre) ++ [UInt8.ofNat m] := by rw [hv.out, vb_lt (by omega), List.append_assoc]
      have hlen : (l ++ vb x).length = n + pre.length + 1 := by rw [hl, hn.out]; simp; omega
      exact ⟨A3, c3, by rw [hlen]; rfl, by rw [hlen, hl, snoc_B8 _ (by omega)]; exact hb3, hE3 w hE.out (Nat.le_refl _)⟩
set_option maxRecDepth 100000 in
set_option maxHeartbeats 1000000 in
theorem putInt_any (A : Option Addr) (n c : Nat) (x : Int) (l : List UInt8) (w : World) (hn : n = l.length) (hl : Bs w A l) (hz : A = none → c = 0) (hle : n ≤ 1000000000) (hx : -9223372036854775808 ≤ x) (hx2 : x ≤ 9223372036854775807) :
    Calls Tryd.prog 51 #[.slice A n c, .int .i64 x] w fun e w' => NewB w (l ++ vb (zig x)) e w' := by
  have hp := put_any A n c (zig x) l w hn hl hz hle (zig_lt hx hx2)
  have hzd : zig x = if 0 ≤ x then 2 * x.toNat else 2 * (-1 - x).toNat + 1 := rfl
  obtain ⟨Z, hZ⟩ : ∃ Z, Z = zig x := ⟨_, rfl⟩
  rw [← hZ] at hp hzd ⊢
  clear hZ hn hl hz
  replace hp := hide hp
  by_cases h0 : 0 ≤ x
  · rw [if_pos h0] at hzd
    replace hzd := hide hzd
    go_enter Tryd.func51, Tryd.ntmps51
    go_wp2_with fail
    rw [show (x * 2 : Int) = (Z : Int) by have := hzd.out; omega]
    refine hp.out.mono ?_
    rintro e w1 ⟨A1, c1, rfl, hb1, hE1⟩
    go_wp2_with fail
    go_ret
    exact ⟨A1, c1, ret_slice (by rw [List.length_append]), hb1, hE1⟩
  · rw [if_neg h0] at hzd
    have hx64 := zig_lt hx hx2
    unfold zig at hx64
    rw [if_neg h0] at hx64
    have hnot := bits_not64 (18446744073709551615 - (2 * (-1 - x).toNat + 1)) (by omega)
    rw [show 18446744073709551615 - (18446744073709551615 - (2 * (-1 - x).toNat + 1)) = 2 * (-1 - x).toNat + 1 by omega, ← wrap_neg x (by omega) hx, ← hzd] at hnot
    clear hx64
    replace hzd := hide hzd
    replace hnot := hide hnot
    go_enter Tryd.func51, Tryd.ntmps51
    go_wp2_with fail
    rw [hnot.out]
    refine hp.out.mono ?_
    rintro e w1 ⟨A1, c1, rfl, hb1, hE1⟩
    go_wp2_with fail
    go_ret
    exact ⟨A1, c1, ret_slice (by rw [List.length_append]), hb1, hE1⟩
theorem vall_take (xs : List Int) (hx : ∀ x ∈ xs, -9223372036854775808 ≤ x ∧ x ≤ 9223372036854775807) : ∀ i, (vall (xs.take i)).length ≤ 10 * i := by
  induction xs with
  | nil => intro i; simp [vall]
  | cons x xs ih =>
    intro i
    cases i with
    | zero => simp [vall]
    | succ i =>
      have h1 := ih (fun y hy => hx y (List.mem_cons_of_mem _ hy)) i
      have h2 := hx x (List.mem_cons_self ..)
      have h3 := vb_len10 (zig_lt h2.1 h2.2)
      unfold vall at h1 ⊢
      rw [List.take_succ_cons, List.flatMap_cons, List.length_append]
      omega
set_option maxRecDepth 100000 in
set_option maxHeartbeats 1000000 in
theorem putAll_any (A B : Option Addr) (n c k c2 : Nat) (xs : List Int) (l : List UInt8) (w : World) (hn : n = l.length) (hl : Bs w A l) (hz : A = none → c = 0) (hk : k = xs.length) (hxs : Cells w B (xs.map (Value.int .i64))) (hle : n + 10 * k ≤ 1000000000) (hx : ∀ x ∈ xs, -9223372036854775808 ≤ x ∧ x ≤ 9223372036854775807) :
    Calls Tryd.prog 24 #[.slice A n c, .slice B k c2] w fun e w' => NewB w (l ++ vall xs) e w' := by
  have hcl := clone_any A n c l w hn hl hz (by omega)
  have hlen : ∀ i, (vall (xs.take i)).length ≤ 10 * i := vall_take xs hx
  replace hcl := hide hcl
  replace hn := hide hn
  replace hk := hide hk
  replace hx := hide hx
  replace hlen := hide hlen
  clear hl hz
  go_enter Tryd.func24, Tryd.ntmps24
  go_wp2_with fail
  refine hcl.out.mono ?_
  rintro e w1 ⟨A1, c1, rfl, hb1, hE1⟩
  go_wp2_with fail
  go_loopw [5, 12] (fun s5 s12 wr => ∃ (i : Nat) (A2 : Option Addr) (m2 c2 : Nat), s12 = .int .i64 i ∧ i ≤ k ∧ s5 = .slice A2 m2 c2 ∧ Hid (m2 = (l ++ vall (xs.take i)).length) ∧ Hid (Buf wr w.heap.size 5 A2 m2 c2 ((l ++ vall (xs.take i)).map B8)) ∧ Hid (Ext w wr)) (fun _ s12 _ => k - (intOf s12).toNat)
  case atStart => exact ⟨0, A1, n, c1, rfl, by omega, rfl, hide (by rw [hn.out]; simp [vall]), hide (by simpa [vall] using hb1), hide hE1⟩
  case round =>
    obtain ⟨i, A2, m2, c3, rfl, hi, rfl, hm2, hb, hE⟩ := hrel
    by_cases hik : i < k
    · have hik' : i < xs.length := by rw [← hk.out]; exact hik
      obtain ⟨g, o, rfl, hc⟩ := hxs.at_ (by rw [List.length_map]; omega)
      have hxi := hx.out xs[i] (List.getElem_mem hik')
      have hcell := hE.out.cell (hc i (.int .i64 xs[i]) (by rw [List.getElem?_map, List.getElem?_eq_getElem hik']; rfl))
      have hl10 := hlen.out i
      have hpi := putInt_any A2 m2 c3 xs[i] (l ++ vall (xs.take i)) wr hm2.out hb.out.cells hb.out.none_cap (by rw [hm2.out, List.length_append, ← hn.out]; omega) hxi.1 hxi.2
      have hnx : (l ++ vall (xs.take i)) ++ vb (zig xs[i]) = l ++ vall (xs.take (i + 1)) := by
        rw [List.append_assoc, List.take_succ_eq_append_getElem hik']
        unfold vall
        rw [List.flatMap_append]
        simp
      rw [hnx] at hpi
      obtain ⟨X, hX⟩ : ∃ X, X = xs[i] := ⟨_, rfl⟩
      rw [← hX] at hcell hpi hxi
      replace hpi := hide hpi
      clear hX hnx hc hl10
      go_wp2_with fail
      refine hpi.out.mono ?_
      rintro e w3 ⟨A3, c4, rfl, hb3, hE3⟩
      go_wp2_with fail
      go_roundw
      case rel => exact ⟨i + 1, A3, _, c4, by go_num, by omega, rfl, hide (by rw [List.length_append]), hide (by rw [← List.length_append]; exact hb3.lower hE.out.size), hide (hE.out.trans hE3)⟩
      case measure => simp [intOf]; omega
    · have hik2 : i = k := by omega
      have htk : xs.take i = xs := List.take_of_length_le (by rw [hik2, hk.out]; exact Nat.le_refl _)
      rw [htk] at hb hm2
      clear htk hik2
      go_wp2_with fail
      go_ret
      exact ⟨A2, c3, by rw [hm2.out]; rfl, by rw [← hm2.out]; exact hb.out, hE.out⟩
end Go.Proofs.YtijnomopcpgikaaDoor
