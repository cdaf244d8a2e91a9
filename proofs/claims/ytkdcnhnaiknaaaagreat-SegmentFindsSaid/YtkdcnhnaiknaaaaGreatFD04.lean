/- Texts of one proof, joined. -/
import Derived.Test.YtkdcnhnaiknaaaaGreatFD03
import Derived.Laws.BitsAllLaws
import Derived.Deep.QuietTactic
import Derived.BigQuiet
import Derived.Laws.DeepNot64
import Derived.Test.YtkdcnhnaiknaaaaGreatFD02
import Derived.Lib.AppendStr
import Derived.Laws.StructEq
import Derived.Deep.RegionHeld3
set_option linter.unusedSimpArgs false
set_option linter.unusedVariables false
namespace Go.Proofs.YtkdcnhnaiknaaaaGreat
section
open Go.RowKit
theorem vb_round {x m : Nat} {pre : List UInt8} (h : vb x = pre ++ vb m) (hm : 128 ≤ m) : vb x = (pre ++ [UInt8.ofNat (m % 128 + 128)]) ++ vb (m / 128) := by
  rw [h, vb_ge (by omega), List.append_assoc]
  rfl
theorem nat_not (k a : Nat) (h : a < 2 ^ k) : (2 ^ k - 1) ^^^ a = 2 ^ k - 1 - a := by
  apply Nat.eq_of_testBit_eq
  intro i
  rw [Nat.testBit_xor, Nat.testBit_two_pow_sub_one, show 2 ^ k - 1 - a = 2 ^ k - (a + 1) by omega, Nat.testBit_two_pow_sub_succ h]
  by_cases hi : i < k
  · simp [hi]
  · have : a.testBit i = false := Nat.testBit_lt_two_pow (Nat.lt_of_lt_of_le h (Nat.pow_le_pow_right (by omega) (by omega)))
    simp [hi, this]
theorem bits_not64 (a : Nat) (h : a < 18446744073709551616) : bits .xor .u64 IntKind.u64.max (a : Int) = ((18446744073709551615 - a : Nat) : Int) := by
  rw [show IntKind.u64.max = ((18446744073709551615 : Nat) : Int) from rfl, u64_xor_nat _ _ (by omega) h]
  exact congrArg _ (nat_not 64 a h)
theorem bits_not32 (a : Nat) (h : a < 4294967296) : bits .xor .u32 IntKind.u32.max (a : Int) = ((4294967295 - a : Nat) : Int) := by
  rw [show IntKind.u32.max = ((4294967295 : Nat) : Int) from rfl, u32_xor_nat _ _ (by omega) h]
  exact congrArg _ (nat_not 32 a h)
theorem wrap_neg (x : Int) (h : x < 0) (h2 : -9223372036854775808 ≤ x) : IntKind.u64.wrap (IntKind.u64.wrap x * 2) = ((18446744073709551615 - (2 * (-1 - x).toNat + 1) : Nat) : Int) := by
  have e : ∀ y : Int, IntKind.u64.wrap y = y % 18446744073709551616 := fun y => by simp [IntKind.wrap, IntKind.bits, IntKind.signed]
  rw [e, e]
  omega
theorem or_more (m : Nat) : bits .or .u8 ((m : Int) % 256) 128 = ((m % 128 + 128 : Nat) : Int) := by
  have h : ∀ k : Fin 256, k.val ||| 128 = k.val % 128 + 128 := by decide +kernel
  have hk := h ⟨m % 256, by omega⟩
  simp only at hk
  rw [show (m : Int) % 256 = ((m % 256 : Nat) : Int) by omega, show (128 : Int) = ((128 : Nat) : Int) from rfl, u8_or_nat _ _ (by omega) (by omega), hk]
  congr 1
  omega
theorem snoc_B8 (l : List UInt8) {k : Nat} (hk : k < 256) : (l ++ [UInt8.ofNat k]).map B8 = l.map B8 ++ [.int .u8 (k : Int)] := by
  rw [List.map_append, List.map_singleton]
  unfold B8
  rw [UInt8.toNat_ofNat', Nat.mod_eq_of_lt hk]
set_option maxRecDepth 100000 in
set_option maxHeartbeats 1000000 in
theorem put_any (A : Option Addr) (n c x : Nat) (l : List UInt8) (w : World) (hn : n = l.length) (hl : Bs w A l) (hz : A = none → c = 0) (hle : n ≤ 1000000000) (hx : x < 18446744073709551616) :
    Calls Tryz.prog 78 #[.slice A n c, .int .u64 x] w fun e w' => NewB w (l ++ vb x) e w' := by
  have hcl := clone_any A n c l w hn hl hz (by omega)
  have h10 := vb_len10 hx
  replace hcl := hide hcl
  replace hn := hide hn
  clear hl hz
  go_enter Tryz.func78, Tryz.ntmps78
  go_wp2_with fail
  refine hcl.out.mono ?_
  rintro e w1 ⟨A1, c1, rfl, hb1, hE1⟩
  go_wp2_with fail
  go_loopw [1, 5] (fun s1 s5 wr => ∃ (m : Nat) (pre : List UInt8) (A2 : Option Addr) (c2 : Nat), s1 = .int .u64 m ∧ s5 = .slice A2 (n + pre.length) c2 ∧ m < 18446744073709551616 ∧ pre.length ≤ 10 ∧ Hid (vb x = pre ++ vb m) ∧ Hid (Buf wr w.heap.size 5 A2 (n + pre.length) c2 ((l ++ pre).map B8)) ∧ Hid (Ext w wr)) (fun s1 _ _ => (intOf s1).toNat)
  case atStart => exact ⟨x, [], A1, c1, rfl, rfl, hx, by simp, rfl, by rw [List.append_nil]; exact hide hb1, hide hE1⟩
  case round =>
    obtain ⟨m, pre, A2, c2, rfl, rfl, hm, hp, hv, hb, hE⟩ := hrel
    have hsz := hE.out.size
    by_cases h128 : 128 ≤ m
    · have hor := or_more m
      go_wp2_with (at_builtin; refine wpList_bufN elemB hb.out (.tmp 10) (.tmp 14) rfl rfl rfl rfl (one_of rfl) (by simp; omega) hsz (fun A3 c3 w3 hb3 hE3 => ?_))
      go_roundw
      case rel => exact ⟨m / 128, pre ++ [UInt8.ofNat (m % 128 + 128)], A3, c3, by go_num, by rw [List.length_append]; rfl, by omega, (by
        have h1 := congrArg List.length (vb_round hv.out h128)
        have h2 := vb_pos (m / 128)
        rw [List.length_append, List.length_append, List.length_singleton] at h1
        rw [List.length_append, List.length_singleton]
        omega), hide (vb_round hv.out h128), hide (by rw [← List.append_assoc, snoc_B8 _ (by omega), List.length_append]; exact hb3), hide (hE3 w hE.out (Nat.le_refl _))⟩
      case measure => simp [intOf]; omega
    · go_wp2_with (at_builtin; refine wpList_bufN elemB hb.out (.tmp 18) (.tmp 21) rfl rfl rfl rfl (one_of rfl) (by simp; omega) hsz (fun A3 c3 w3 hb3 hE3 => ?_))
      go_ret
      have hl : l ++ vb x = (l ++ pre) ++ [UInt8.ofNat m] := by rw [hv.out, vb_lt (by omega), List.append_assoc]
      have hlen : (l ++ vb x).length = n + pre.length + 1 := by rw [hl, hn.out]; simp; omega
      exact ⟨A3, c3, by rw [hlen]; rfl, by rw [hlen, hl, snoc_B8 _ (by omega)]; exact hb3, hE3 w hE.out (Nat.le_refl _)⟩
set_option maxRecDepth 100000 in
set_option maxHeartbeats 1000000 in
theorem putInt_any (A : Option Addr) (n c : Nat) (x : Int) (l : List UInt8) (w : World) (hn : n = l.length) (hl : Bs w A l) (hz : A = none → c = 0) (hle : n ≤ 1000000000) (hx : -9223372036854775808 ≤ x) (hx2 : x ≤ 9223372036854775807) :
    Calls Tryz.prog 88 #[.slice A n c, .int .i64 x] w fun e w' => NewB w (l ++ vb (zig x)) e w' := by
  have hp := put_any A n c (zig x) l w hn hl hz hle (zig_lt hx hx2)
  have hzd : zig x = if 0 ≤ x then 2 * x.toNat else 2 * (-1 - x).toNat + 1 := rfl
  obtain ⟨Z, hZ⟩ : ∃ Z, Z = zig x := ⟨_, rfl⟩
  rw [← hZ] at hp hzd ⊢
  clear hZ hn hl hz
  replace hp := hide hp
  by_cases h0 : 0 ≤ x
  · rw [if_pos h0] at hzd
    replace hzd := hide hzd
    go_enter Tryz.func88, Tryz.ntmps88
    go_wp2_with fail
    rw [show (x * 2 : Int) = (Z : Int) by have := hzd.out; omega]
    refine hp.out.mono ?_
    rintro e w1 ⟨A1, c1, rfl, hb1, hE1⟩
    go_wp2_with fail
    go_ret
    exact ⟨A1, c1, ret_slice (by rw [List.length_append]), hb1, hE1⟩
  · rw [if_neg h0] at hzd
    have hx64 := zig_lt hx hx2
    unfold zig at hx64
    rw [if_neg h0] at hx64
    have hnot := bits_not64 (18446744073709551615 - (2 * (-1 - x).toNat + 1)) (by omega)
    rw [show 18446744073709551615 - (18446744073709551615 - (2 * (-1 - x).toNat + 1)) = 2 * (-1 - x).toNat + 1 by omega, ← wrap_neg x (by omega) hx, ← hzd] at hnot
    clear hx64
    replace hzd := hide hzd
    replace hnot := hide hnot
    go_enter Tryz.func88, Tryz.ntmps88
    go_wp2_with fail
    rw [hnot.out]
    refine hp.out.mono ?_
    rintro e w1 ⟨A1, c1, rfl, hb1, hE1⟩
    go_wp2_with fail
    go_ret
    exact ⟨A1, c1, ret_slice (by rw [List.length_append]), hb1, hE1⟩
theorem vall_take (xs : List Int) (hx : ∀ x ∈ xs, -9223372036854775808 ≤ x ∧ x ≤ 9223372036854775807) : ∀ i, (vall (xs.take i)).length ≤ 10 * i := by
  induction xs with
  | nil => intro i; simp [vall]
  | cons x xs ih =>
    intro i
    cases i with
    | zero => simp [vall]
    | succ i =>
      have h1 := ih (fun y hy => hx y (List.mem_cons_of_mem _ hy)) i
      have h2 := hx x (List.mem_cons_self ..)
      have h3 := vb_len10 (zig_lt h2.1 h2.2)
      unfold vall at h1 ⊢
      rw [List.take_succ_cons, List.flatMap_cons, List.length_append]
      omega
set_option maxRecDepth 100000 in
set_option maxHeartbeats 1000000 in
theorem putAll_any (A B : Option Addr) (n c k c2 : Nat) (xs : List Int) (l : List UInt8) (w : World) (hn : n = l.length) (hl : Bs w A l) (hz : A = none → c = 0) (hk : k = xs.length) (hxs : Cells w B (xs.map (Value.int .i64))) (hle : n + 10 * k ≤ 1000000000) (hx : ∀ x ∈ xs, -9223372036854775808 ≤ x ∧ x ≤ 9223372036854775807) :
    Calls Tryz.prog 47 #[.slice A n c, .slice B k c2] w fun e w' => NewB w (l ++ vall xs) e w' := by
  have hcl := clone_any A n c l w hn hl hz (by omega)
  have hlen : ∀ i, (vall (xs.take i)).length ≤ 10 * i := vall_take xs hx
  replace hcl := hide hcl
  replace hn := hide hn
  replace hk := hide hk
  replace hx := hide hx
  replace hlen := hide hlen
  clear hl hz
  go_enter Tryz.func47, Tryz.ntmps47
  go_wp2_with fail
  refine hcl.out.mono ?_
  rintro e w1 ⟨A1, c1, rfl, hb1, hE1⟩
  go_wp2_with fail
  go_loopw [5, 12] (fun s5 s12 wr => ∃ (i : Nat) (A2 : Option Addr) (m2 c2 : Nat), s12 = .int .i64 i ∧ i ≤ k ∧ s5 = .slice A2 m2 c2 ∧ Hid (m2 = (l ++ vall (xs.take i)).length) ∧ Hid (Buf wr w.heap.size 5 A2 m2 c2 ((l ++ vall (xs.take i)).map B8)) ∧ Hid (Ext w wr)) (fun _ s12 _ => k - (intOf s12).toNat)
  case atStart => exact ⟨0, A1, n, c1, rfl, by omega, rfl, hide (by rw [hn.out]; simp [vall]), hide (by simpa [vall] using hb1), hide hE1⟩
  case round =>
    obtain ⟨i, A2, m2, c3, rfl, hi, rfl, hm2, hb, hE⟩ := hrel
    by_cases hik : i < k
    · have hik' : i < xs.length := by rw [← hk.out]; exact hik
      obtain ⟨g, o, rfl, hc⟩ := hxs.at_ (by rw [List.length_map]; omega)
      have hxi := hx.out xs[i] (List.getElem_mem hik')
      have hcell := hE.out.cell (hc i (.int .i64 xs[i]) (by rw [List.getElem?_map, List.getElem?_eq_getElem hik']; rfl))
      have hl10 := hlen.out i
      have hpi := putInt_any A2 m2 c3 xs[i] (l ++ vall (xs.take i)) wr hm2.out hb.out.cells hb.out.none_cap (by rw [hm2.out, List.length_append, ← hn.out]; omega) hxi.1 hxi.2
      have hnx : (l ++ vall (xs.take i)) ++ vb (zig xs[i]) = l ++ vall (xs.take (i + 1)) := by
        rw [List.append_assoc, List.take_succ_eq_append_getElem hik']
        unfold vall
        rw [List.flatMap_append]
        simp
      rw [hnx] at hpi
      obtain ⟨X, hX⟩ : ∃ X, X = xs[i] := ⟨_, rfl⟩
      rw [← hX] at hcell hpi hxi
      replace hpi := hide hpi
      clear hX hnx hc hl10
      go_wp2_with fail
      refine hpi.out.mono ?_
      rintro e w3 ⟨A3, c4, rfl, hb3, hE3⟩
      go_wp2_with fail
      go_roundw
      case rel => exact ⟨i + 1, A3, _, c4, by go_num, by omega, rfl, hide (by rw [List.length_append]), hide (by rw [← List.length_append]; exact hb3.lower hE.out.size), hide (hE.out.trans hE3)⟩
      case measure => simp [intOf]; omega
    · have hik2 : i = k := by omega
      have htk : xs.take i = xs := List.take_of_length_le (by rw [hik2, hk.out]; exact Nat.le_refl _)
      rw [htk] at hb hm2
      clear htk hik2
      go_wp2_with fail
      go_ret
      exact ⟨A2, c3, by rw [hm2.out]; rfl, by rw [← hm2.out]; exact hb.out, hE.out⟩
end
section
open Go.RowKit
theorem buf_new (w : World) (us : List Value) (t : TypeId) (h : us.length ≤ 9223372036854775807) : Buf (w.alloc (.cells us.toArray t)) w.heap.size t (some ⟨w.heap.size, 0, none⟩) us.length us.length us :=
  ⟨rfl, Nat.le_refl _, .inr ⟨w.heap.size, us.toArray, rfl, Nat.le_refl _, heap_alloc_new w _, by simp, by simp⟩⟩
end
section
open Go.RowKit
structure In8 (w : World) (A : Option Addr) (n c : Nat) (l : List UInt8) : Prop where
  len : n = l.length
  bytes : Bs w A l
  cap : n ≤ c
  nil_ : A = none → c = 0
  at_ : ∀ a, A = some a → a.spot = Option.none ∧ a.block < w.heap.size
theorem In8.ext {w w1 : World} {A : Option Addr} {n c : Nat} {l : List UInt8} (h : In8 w A n c l) (hE : Ext w w1) : In8 w1 A n c l :=
  ⟨h.len, h.bytes.ext hE, h.cap, h.nil_, fun a ha => ⟨(h.at_ a ha).1, Nat.lt_of_lt_of_le (h.at_ a ha).2 hE.size⟩⟩
theorem Buf.in8 {w : World} {base : Nat} {e : TypeId} {A : Option Addr} {n c : Nat} {l : List UInt8} (h : Buf w base e A n c (l.map B8)) : In8 w A n c l := by
  refine ⟨by have := h.1; simpa using this.symm, h.cells, h.2.1, h.none_cap, fun a ha => ⟨?_, h.lt a ha⟩⟩
  rcases h.2.2 with ⟨h0, _⟩ | ⟨g, cur, hA, _⟩
  · rw [h0] at ha; cases ha
  · rw [hA] at ha; cases ha; rfl
def comb (i acc : Nat) : Except Nat (Nat × List UInt8) → Except Nat (Nat × List UInt8)
  | .ok (n, r) => .ok (acc + 128 ^ i * n, r)
  | .error e => .error e
theorem comb_zero (x : Except Nat (Nat × List UInt8)) : comb 0 0 x = x := by
  unfold comb
  split <;> simp
def Got (w0 w : World) (res : Except Nat (Nat × List UInt8)) (e : Ending) (w' : World) : Prop := Ext w w' ∧ match res with
  | .ok (v, r) => ∃ A c, e = .returned (.tuple #[.int .u64 v, .slice A r.length c, .int .i64 0]) ∧ In8 w0 A r.length c r
  | .error k => e = .returned (.tuple #[.int .u64 0, .slice none 0 0, .int .i64 k])
set_option maxRecDepth 100000 in
theorem run_head1 {n c k : Nat} {A : Option Addr} (h : k ≤ c) (hA : ∀ a, A = some a → a.spot = none) (W : World) :
    (Instr.sliceAt 25 (.slice A n c) none (some (.int .i64 k)) none).run Tryz.prog W = .ok (.slice A k c) W := by
  have ht := Tryz.underlying25
  have he : Tryz.prog.elem 25 = 5 := by unfold Program.elem; rw [ht]
  have hs : ∀ W : World, (sizeOf 5).run Tryz.prog W = .ok 1 W := fun W => by kernel_rfl
  rw [run_sliceAt_slice W _ _ _ _ _ (by rw [ht, he]), run_slice_h W _ A n c (by rw [ht, he]) .i64 k (by omega) (by omega), he, hs]
  simp only [Result.andThen_ok]
  congr 1
  unfold sliced
  have : (if c = 0 then A else A.map fun x => x.add (0 * 1)) = A := by
    cases A with
    | none => simp
    | some a =>
      obtain ⟨b, o, sp⟩ := a
      obtain rfl : sp = none := hA _ rfl
      simp [Addr.add_lit]
  rw [this]
  simp
set_option maxRecDepth 100000 in
theorem In8.from_ {w : World} {A : Option Addr} {n c : Nat} {l : List UInt8} (h : In8 w A n c l) {fr : Nat} (hf : fr ≤ n) {z : Int} (hz : z = (fr : Int)) :
    ∃ A' c', (∀ W : World, (Instr.sliceAt 25 (.slice A n c) (some (.int .i64 z)) none none).run Tryz.prog W = .ok (.slice A' (n - fr) c') W) ∧ In8 w A' (n - fr) c' (l.drop fr) := by
  subst hz
  have ht := Tryz.underlying25
  have he : Tryz.prog.elem 25 = 5 := by unfold Program.elem; rw [ht]
  have hs : ∀ W : World, (sizeOf 5).run Tryz.prog W = .ok 1 W := fun W => by kernel_rfl
  have hrun : ∀ W : World, (Instr.sliceAt 25 (.slice A n c) (some (.int .i64 fr)) none none).run Tryz.prog W = .ok (sliced A fr n c 1) W := by
    intro W
    rw [run_sliceAt_slice W _ _ _ _ _ (by rw [ht, he]), run_slice_l W _ A n c (by rw [ht, he]) .i64 fr (by omega) (by omega), he, hs]
    simp only [Result.andThen_ok]
    congr 1
  have hcap := h.cap
  refine ⟨_, _, hrun, by rw [List.length_drop, ← h.len], ?_, by omega, ?_, ?_⟩
  · rcases h.bytes with hb | ⟨g, o, rfl, hb⟩
    · left
      have : l = [] := by simpa using hb
      rw [this]
      simp
    · by_cases hcf : c = fr
      · left
        have := h.len
        rw [List.drop_of_length_le (by omega)]
        rfl
      · refine .inr ⟨g, o + fr, by rw [if_neg hcf]; simp [Addr.add_lit], fun i v hv => ?_⟩
        rw [Nat.add_assoc]
        refine hb (fr + i) v ?_
        rw [List.getElem?_map] at hv ⊢
        rw [List.getElem?_drop] at hv
        exact hv
  · intro hn
    cases A with
    | none => have := h.nil_ rfl; omega
    | some a => split at hn <;> cases hn
  · intro a ha
    cases A with
    | none => split at ha <;> cases ha
    | some b =>
      obtain ⟨h1, h2⟩ := h.at_ b rfl
      obtain ⟨b, o, sp⟩ := b
      obtain rfl : sp = Option.none := h1
      split at ha
      · cases ha; exact ⟨rfl, h2⟩
      · cases ha
        show (Addr.add ⟨b, o, none⟩ (fr * 1)).spot = none ∧ (Addr.add ⟨b, o, none⟩ (fr * 1)).block < w.heap.size
        rw [Addr.add_lit]
        exact ⟨rfl, h2⟩
theorem getV_get {l : List UInt8} {i : Nat} {x : UInt8} (h : l[i]? = some x) (h10 : i < 10) (acc : Nat) : comb i acc (getV i (l.drop i)) = if (i = 9 ∧ 1 < x.toNat) ∨ (0 < i ∧ x.toNat = 0) then .error 20 else
    if x.toNat < 128 then .ok (acc + 128 ^ i * x.toNat, l.drop (i + 1)) else comb (i + 1) (acc + 128 ^ i * (x.toNat - 128)) (getV (i + 1) (l.drop (i + 1))) := by
  have hi := (List.getElem?_eq_some_iff.1 h).1
  have h2 := (List.getElem?_eq_some_iff.1 h).2
  rw [List.drop_eq_getElem_cons hi, h2]
  conv => lhs; unfold getV
  rw [if_neg (by omega)]
  by_cases hb : (i = 9 ∧ 1 < x.toNat) ∨ (0 < i ∧ x.toNat = 0)
  · rw [if_pos hb, if_pos hb]; rfl
  · rw [if_neg hb, if_neg hb]
    by_cases h128 : x.toNat < 128
    · rw [if_pos h128, if_pos h128]; rfl
    · rw [if_neg h128, if_neg h128]
      unfold comb
      cases getV (i + 1) (l.drop (i + 1)) with
      | error e => rfl
      | ok p =>
        obtain ⟨n, r⟩ := p
        simp only
        rw [Nat.mul_add, Nat.pow_succ, Nat.add_assoc, Nat.mul_assoc]
theorem getV_end {l : List UInt8} {i : Nat} (h : l.length ≤ i ∨ 10 ≤ i) (acc : Nat) : comb i acc (getV i (l.drop i)) = .error 6 := by
  rcases h with h | h
  · rw [List.drop_of_length_le h]; rfl
  · cases l.drop i with
    | nil => rfl
    | cons x r => unfold getV; rw [if_pos h]; rfl
theorem or_bits {i acc y : Nat} (hi : i ≤ 9) (ha : acc < 128 ^ i) (hy : y < 128) (h9 : i = 9 → y ≤ 1) : bits .or .u64 (acc : Int) (IntKind.u64.wrap ((y : Int) * 2 ^ (7 * i))) = ((acc + 128 ^ i * y : Nat) : Int) := by
  have e : ∀ y : Int, IntKind.u64.wrap y = y % 18446744073709551616 := fun y => by simp [IntKind.wrap, IntKind.bits, IntKind.signed]
  have hp : (128 : Nat) ^ i = 2 ^ (7 * i) := by rw [show (128 : Nat) = 2 ^ 7 from rfl, ← Nat.pow_mul]
  rw [hp] at ha ⊢
  have hlt : y * 2 ^ (7 * i) < 18446744073709551616 := by
    rcases Nat.lt_or_ge i 9 with h | h
    · have h1 : 2 ^ (7 * i) ≤ 2 ^ 56 := Nat.pow_le_pow_right (by omega) (by omega)
      have h2 : y * 2 ^ (7 * i) ≤ 127 * 2 ^ 56 := Nat.mul_le_mul (by omega) h1
      omega
    · obtain rfl : i = 9 := by omega
      have := h9 rfl
      have h2 : y * 2 ^ (7 * 9) ≤ 1 * 2 ^ 63 := Nat.mul_le_mul this (Nat.le_refl _)
      omega
  have ha2 : acc < 18446744073709551616 := Nat.lt_of_lt_of_le ha (by
    have : 2 ^ (7 * i) ≤ 2 ^ 63 := Nat.pow_le_pow_right (by omega) (by omega)
    omega)
  have hc : IntKind.u64.wrap ((y : Int) * 2 ^ (7 * i)) = ((y * 2 ^ (7 * i) : Nat) : Int) := by
    rw [e]
    have : (y : Int) * 2 ^ (7 * i) = ((y * 2 ^ (7 * i) : Nat) : Int) := by simp
    rw [this]
    omega
  rw [hc, u64_or_nat _ _ ha2 hlt]
  have := Nat.shiftLeft_add_eq_or_of_lt ha y
  rw [Nat.shiftLeft_eq] at this
  rw [Nat.or_comm, ← this, Nat.add_comm, Nat.mul_comm y]
theorem acc_lt {i acc y : Nat} (ha : acc < 128 ^ i) (hy : y < 128) : acc + 128 ^ i * y < 128 ^ (i + 1) := by
  have h := Nat.mul_le_mul_left (128 ^ i) (show y + 1 ≤ 128 by omega)
  rw [Nat.mul_add, Nat.mul_one] at h
  rw [Nat.pow_succ]
  omega
theorem got_ok {w0 w w' : World} {res : Except Nat (Nat × List UInt8)} {v : Nat} {r : List UInt8} {A : Option Addr} {m c : Nat} {E : Int} (hr : res = .ok (v, r)) (hE : Ext w w') (hi : In8 w0 A m c r) (hv : E = (v : Int)) : Got w0 w res (.returned (.tuple #[.int .u64 E, .slice A m c, .int .i64 0])) w' := by
  subst hr hv
  have := hi.len
  subst this
  exact ⟨hE, A, c, rfl, hi⟩
theorem got_err {w0 w w' : World} {res : Except Nat (Nat × List UInt8)} {k : Nat} (hr : res = .error k) (hE : Ext w w') : Got w0 w res (.returned (.tuple #[.int .u64 0, .slice none 0 0, .int .i64 k])) w' := by
  subst hr
  exact ⟨hE, rfl⟩
theorem and_low {x : Nat} (h : x < 256) : bits .and .u8 (x : Int) 127 = ((x % 128 : Nat) : Int) := by
  have hf : ∀ k : Fin 256, k.val &&& 127 = k.val % 128 := by decide +kernel
  have hk := hf ⟨x, h⟩
  simp only at hk
  rw [show (127 : Int) = ((127 : Nat) : Int) from rfl, u8_and_nat _ _ (by omega) (by omega), hk]
set_option maxRecDepth 100000 in
set_option maxHeartbeats 2000000 in
theorem get_any (A : Option Addr) (n c : Nat) (l : List UInt8) (w0 w : World) (h : In8 w0 A n c l) (hw : Ext w0 w) (hle : n ≤ 1000000000) :
    Calls Tryz.prog 94 #[.slice A n c] w fun e w' => Got w0 w (getV 0 l) e w' := by
  obtain ⟨k, hk⟩ : ∃ k : Nat, (k : Int) = min (n : Int) 10 := ⟨min n 10, by omega⟩
  have hcap := h.cap
  have hmin := fun (W : World) => run_min2 (P := Tryz.prog) #[3, 3] 3 hk W
  have hhd := fun (W : World) => run_head1 (n := n) (c := c) (k := k) (A := A) (by omega) (fun a ha => (h.at_ a ha).1) W
  have hk1 : k ≤ 10 := by omega
  have hk2 : k ≤ n := by omega
  have hk3 : n ≤ k ∨ 10 ≤ k := by omega
  replace hk := hide hk
  replace hk3 := hide hk3
  replace h := hide h
  go_enter Tryz.func94, Tryz.ntmps94
  go_wp2_with fail
  go_step3
  go_wp2_with fail
  go_step3
  go_wp2_with fail
  go_loopw [2, 4, 13] (fun s2 s4 s13 wr => ∃ (i acc : Nat), s13 = .int .i64 i ∧ s2 = .int .u64 acc ∧ s4 = .int .i64 6 ∧ i ≤ k ∧ acc < 128 ^ i ∧ Hid (getV 0 l = comb i acc (getV i (l.drop i))) ∧ Hid (Ext w wr)) (fun _ _ s13 _ => k - (intOf s13).toNat)
  case atStart => exact ⟨0, 0, rfl, rfl, rfl, by omega, by simp, hide (by rw [comb_zero]; rfl), hide (Ext.refl w)⟩
  case round =>
    obtain ⟨i, acc, rfl, rfl, rfl, hi, hacc, hg, hE⟩ := hrel
    by_cases hik : i < k
    · have hil : i < l.length := by rw [← h.out.len]; omega
      obtain ⟨g, o, rfl, hc⟩ := h.out.bytes.at_ (by omega)
      have hcell := (hw.trans hE.out).cell (hc i hil)
      have hgg := getV_get (List.getElem?_eq_getElem hil) (by omega) acc
      rw [← hg.out] at hgg
      obtain ⟨x, hx⟩ : ∃ x, x = l[i].toNat := ⟨_, rfl⟩
      have hx256 : x < 256 := by rw [hx]; exact l[i].toNat_lt
      rw [← hx] at hcell hgg
      replace hx := hide hx
      replace hgg := hide hgg
      have hand := and_low hx256
      obtain ⟨y, hy⟩ : ∃ y, y = x % 128 := ⟨_, rfl⟩
      rw [← hy] at hand
      replace hy := hide hy
      obtain ⟨A', c', hrun, hin⟩ := h.out.from_ (fr := i + 1) (by omega) (z := (i : Int) + 1) (by omega)
      have hor := fun h9 : i = 9 → y ≤ 1 => or_bits (i := i) (acc := acc) (y := y) (by omega) hacc (by have := hy.out; omega) h9
      replace hor := hide hor
      have hin' := hide hin
      clear hc hg hin
      have hnx := fun (h1 : ¬((i = 9 ∧ 1 < x) ∨ (0 < i ∧ x = 0))) (h2 : 128 ≤ x) => hgg.out.trans ((if_neg h1).trans (if_neg (by omega)))
      have hok := fun (h1 : ¬((i = 9 ∧ 1 < x) ∨ (0 < i ∧ x = 0))) (h2 : x < 128) => hgg.out.trans ((if_neg h1).trans (if_pos h2))
      have hbad := fun (h1 : (i = 9 ∧ 1 < x) ∨ (0 < i ∧ x = 0)) => hgg.out.trans (if_pos h1)
      have hyy : y < 128 := by have := hy.out; omega
      have hyx : x < 128 → y = x := fun h => by have := hy.out; omega
      have hyx2 : 128 ≤ x → y = x - 128 := fun h => by have := hy.out; omega
      have hz : ((x : Int) == 0) = true → x = 0 := fun h => by simp at h; omega
      have hz2 : ((x : Int) == 0) = false → x ≠ 0 := fun h => by simp at h; omega
      replace hnx := hide hnx
      replace hok := hide hok
      replace hbad := hide hbad
      replace hyx := hide hyx
      replace hyx2 := hide hyx2
      replace hz := hide hz
      replace hz2 := hide hz2
      by_cases h9 : i = 9
      · subst h9
        have hor9 : y ≤ 1 → bits .or .u64 (acc : Int) (IntKind.u64.wrap ((y : Int) * 9223372036854775808)) = ((acc + 128 ^ 9 * y : Nat) : Int) := fun hy1 => by
          have e : (2 : Int) ^ (7 * 9) = 9223372036854775808 := by simp
          have := hor.out fun _ => hy1
          rw [e] at this
          exact this
        replace hor9 := hide hor9
        obtain ⟨A9, c9, hrun9, hin9⟩ := h.out.from_ (fr := 10) (by omega) (z := 10) rfl
        replace hin9 := hide hin9
        clear hrun hin'
        go_wp2_with fail
        · go_ret3
          exact got_err (hbad.out (.inl ⟨by trivial, by omega⟩)) hE.out
        · go_ret3
          exact got_err (hbad.out (.inr ⟨by omega, hz.out (by assumption)⟩)) hE.out
        · refine wp_region_text follows (by kernel_rfl) (by kernel_rfl) (fun K hK => ?_)
          go_wp2_with fail
          refine ⟨by kernel_rfl, ?_⟩
          go_wp2_with fail
          go_ret3
          have hx1 : x ≤ 1 := by omega
          exact got_ok (hok.out (by have := hz2.out (by assumption); omega) (by omega)) hE.out.drew hin9.out (by rw [hor9.out (by have := hyx.out (by omega); omega), hyx.out (by omega)])
      · go_wp2_with fail
        · rw [Exit.noGoto_ret]
          go_ret3
          exact got_err (hbad.out (.inr ⟨by omega, hz.out (by assumption)⟩)) hE.out
        · refine wp_region_text follows (by kernel_rfl) (by kernel_rfl) (fun K hK => ?_)
          go_wp2_with fail
          refine ⟨by kernel_rfl, ?_⟩
          go_wp2_with fail
          rw [Exit.noGoto_ret]
          go_ret3
          exact got_ok (hok.out (by have := hz2.out (by assumption); omega) (by omega)) hE.out.drew hin'.out (by rw [hor.out (by omega), hyx.out (by omega)])
        · go_roundw
          case rel => exact ⟨i + 1, acc + 128 ^ i * y, by go_num, by rw [hor.out (by omega)], rfl, by omega, acc_lt hacc hyy, hide (by rw [hnx.out (by omega) (by omega), hyx2.out (by omega)]), hE⟩
          case measure => simp [intOf]; omega
        · refine wp_region_text follows (by kernel_rfl) (by kernel_rfl) (fun K hK => ?_)
          go_wp2_with fail
          refine ⟨by kernel_rfl, ?_⟩
          go_wp2_with fail
          rw [Exit.noGoto_ret]
          go_ret3
          exact got_ok (hok.out (by omega) (by omega)) hE.out.drew hin'.out (by rw [hor.out (by omega), hyx.out (by omega)])
        · go_roundw
          case rel => exact ⟨i + 1, acc + 128 ^ i * y, by go_num, by rw [hor.out (by omega)], rfl, by omega, acc_lt hacc hyy, hide (by rw [hnx.out (by omega) (by omega), hyx2.out (by omega)]), hE⟩
          case measure => simp [intOf]; omega
    · have hii : i = k := by omega
      have hge := getV_end (l := l) (i := i) (by rw [← h.out.len, hii]; exact hk3.out) acc
      rw [← hg.out] at hge
      replace hge := hide hge
      replace hii := hide hii
      go_wp2_with fail
      rw [Exit.noGoto_ret]
      go_ret3
      exact got_err hge.out hE.out
end
section
open Go.RowKit
set_option maxRecDepth 100000 in
theorem elemI : Elem Tryz.prog 40 3 1 8 := ⟨Tryz.underlying40, ⟨_, _, rfl, rfl, rfl, rfl, rfl⟩, by omega, by omega⟩
theorem getV_err : ∀ (l : List UInt8) (i k : Nat), getV i l = .error k → 0 < k
  | [], i, k, h => by unfold getV at h; cases h; omega
  | x :: l, i, k, h => by
    unfold getV at h
    split at h
    · cases h; omega
    · split at h
      · cases h; omega
      · split at h
        · cases h
        · split at h
          · cases h
          · rename_i e hg
            cases h
            exact getV_err l (i + 1) k hg
def GotI (w0 w : World) (res : Except Nat (Nat × List UInt8)) (e : Ending) (w' : World) : Prop := Ext w w' ∧ match res with
  | .ok (v, r) => ∃ A c, e = .returned (.tuple #[.int .i64 (unzig v), .slice A r.length c, .int .i64 0]) ∧ In8 w0 A r.length c r
  | .error k => e = .returned (.tuple #[.int .i64 0, .slice none 0 0, .int .i64 k])
set_option maxRecDepth 100000 in
set_option maxHeartbeats 1000000 in
theorem getInt_any (A : Option Addr) (n c : Nat) (l : List UInt8) (w0 w : World) (h : In8 w0 A n c l) (hw : Ext w0 w) (hle : n ≤ 1000000000) :
    Calls Tryz.prog 153 #[.slice A n c] w fun e w' => GotI w0 w (getV 0 l) e w' := by
  have hg := get_any A n c l w0 w h hw hle
  cases hr : getV 0 l with
  | error k =>
    rw [hr] at hg
    have hk := getV_err l 0 k hr
    have hk0 : ((k : Int) != 0) = true := by simp; omega
    replace hg := hide hg
    clear h hr hk
    go_enter Tryz.func153, Tryz.ntmps153
    go_wp2_with fail
    refine hg.out.mono ?_
    rintro e w1 ⟨hE1, rfl⟩
    go_wp2_with fail
    go_ret3
    exact ⟨hE1, rfl⟩
  | ok p =>
    obtain ⟨v, r⟩ := p
    have hv := getV_lt64 hr
    rw [hr] at hg
    replace hg := hide hg
    have hand : bits .and .u64 (v : Int) 1 = ((v % 2 : Nat) : Int) := by
      rw [show (1 : Int) = ((1 : Nat) : Int) from rfl, u64_and_nat _ _ hv (by omega), Nat.and_one_is_mod]
    obtain ⟨q, hq⟩ : ∃ q, q = v % 2 := ⟨_, rfl⟩
    obtain ⟨d, hd⟩ : ∃ d, d = v / 2 := ⟨_, rfl⟩
    have hnot := i64_not d (by omega)
    have hdv : (v : Int) / 2 = (d : Int) := by omega
    rw [← hq] at hand
    have hu : unzig v = if q = 0 then (d : Int) else -1 - (d : Int) := by unfold unzig; rw [← hq, ← hd]
    have hq2 : q ≤ 1 := by omega
    have hd2 : d < 9223372036854775808 := by omega
    replace hu := hide hu
    clear hq hd h hr
    rcases (show q = 0 ∨ q = 1 by omega) with rfl | rfl
    · have hu2 : unzig v = d := hu.out
      replace hu2 := hide hu2
      clear hu
      go_enter Tryz.func153, Tryz.ntmps153
      go_wp2_with fail
      refine hg.out.mono ?_
      rintro e w1 ⟨hE1, A1, c1, rfl, hin⟩
      go_wp2_with fail
      go_ret3
      exact ⟨hE1, A1, c1, by rw [hu2.out]; rfl, hin⟩
    · have hu2 : unzig v = -1 - (d : Int) := hu.out
      replace hu2 := hide hu2
      clear hu
      go_enter Tryz.func153, Tryz.ntmps153
      go_wp2_with fail
      refine hg.out.mono ?_
      rintro e w1 ⟨hE1, A1, c1, rfl, hin⟩
      go_wp2_with fail
      go_ret3
      exact ⟨hE1, A1, c1, by rw [hu2.out]; rfl, hin⟩
end
section
open Go.RowKit
theorem strCells_B8 (l : List UInt8) : Lib.strCells ⟨l.toArray⟩ = l.map B8 := rfl
set_option maxRecDepth 100000 in
theorem run_buf_str (w : World) (ty : TypeId) {base : Nat} {A : Option Addr} {n c : Nat} {xs : List Value} (hb : Buf w base 5 A n c xs) (s : List UInt8) (hsz : n + s.length ≤ 4294967296) (hbase : base ≤ w.heap.size) :
    ∃ A1 c1 w', (Builtin.append_ #[25, 9] ty #[.slice A n c, .string ⟨s.toArray⟩]).run Tryz.prog w = .ok (.slice A1 (n + s.length) c1) w' ∧ Buf w' base 5 A1 (n + s.length) c1 (xs ++ s.map B8) ∧ w.grownBy w' (Value.slice A n c).ownBlock ∧
      (A1 = A ∨ A1 = some ⟨w.heap.size, 0, none⟩) := by
  obtain ⟨i, z, hi, hz, h3, h4, h5⟩ := elemB.hi
  have hz8 : i.zero = some (.int .u8 0) := by
    obtain ⟨j, hj, hj2⟩ : ∃ j, Tryz.prog.info? 5 = some j ∧ j.zero = some (.int .u8 0) := ⟨_, rfl, rfl⟩
    rw [hi] at hj
    injection hj with hj
    rw [hj]
    exact hj2
  have ht := Tryz.underlying25
  have hu := Tryz.underlying9
  have hss : (⟨s.toArray⟩ : ByteArray).size = s.length := ByteArray.size_mk_toArray s
  obtain ⟨hx, hnc, hA⟩ := hb
  rcases hA with ⟨rfl, rfl⟩ | ⟨g, cur, rfl, hbg, hg, hs, htk⟩
  · obtain rfl : n = 0 := by omega
    obtain rfl : xs = [] := List.eq_nil_of_length_eq_zero hx
    by_cases hs0 : s = []
    · subst hs0
      refine ⟨none, 0, w, ?_, ⟨rfl, Nat.le_refl _, .inl ⟨rfl, rfl⟩⟩, World.grownBy.refl w _, .inl rfl⟩
      have hf := Lib.run_firstCells_string (P := Tryz.prog) (w := w) 1 ⟨#[]⟩
      rw [show (ByteArray.mk #[]).size = 0 from rfl] at hf
      have e0 : (ByteArray.mk #[]).size = 0 := rfl
      simp [Builtin.append_, run_underlying ht, run_underlying hu, sizeOf, typeInfo, hi, h3, Builtin.lenOf, e0, hf]
    · have hl : 0 < s.length := List.length_pos_iff.2 hs0
      have hr := run_append_nil_string (P := Tryz.prog) w 25 9 ty 5 i (.int .u8 0) ht hu hi hz8 ⟨s.toArray⟩ (by omega) (by omega) (by rw [h4, hss]; omega)
      have hge := grownCap_ge w s.length 0 5
      rw [hss] at hr
      refine ⟨_, _, _, by rw [hr, Nat.zero_add], ⟨by simp, by rw [Nat.zero_add]; exact hge, .inr ⟨w.heap.size, _, rfl, hbase, heap_alloc_new w.drew _, ?_, ?_⟩⟩, ?_, .inr rfl⟩
      · simp only [Array.size_append, size_zeroCells]
        simp [Value.cells]
        omega
      · simp only [Array.toList_append]
        rw [Nat.zero_add, List.take_append_of_le_length (by simp), List.take_of_length_le (by simp)]
        simp
        exact fun b _ => rfl
      · exact (Ext.refl w |>.drew.alloc _) |> fun h => ⟨Below.os h, Below.tape h, Below.output h, Below.size h, fun k hk _ => Below.block h k hk⟩
  · by_cases hroom : n + s.length ≤ c
    · have hr := Lib.run_append_room_string (P := Tryz.prog) (w := w) 25 9 ty 5 i ht hu hi h3 g n c cur hg ⟨s.toArray⟩ (by rw [hss]; exact hroom) (by rw [hss]; omega)
      rw [hss, strCells_B8] at hr
      refine ⟨some ⟨g, 0, none⟩, c, _, hr, ⟨by rw [List.length_append, List.length_map]; omega, hroom, .inr ⟨g, _, rfl, hbg, setRow_heap w g cur _ 5 (0, 0) hg, ?_, ?_⟩⟩, grown_setRow w g _, .inl rfl⟩
      · simp
        omega
      · simp only
        rw [htk]
        rw [List.take_append_of_le_length (by rw [List.length_append, List.length_map]; omega), List.take_of_length_le (by rw [List.length_append, List.length_map]; omega)]
    · have hge := grownCap_ge w (n + s.length) c 5
      have hb2 := nextslicecap_le (need := n + s.length) (old := c) (by omega)
      have holds : ∀ (j : Nat) (v : Value), xs[j]? = some v → w.cell? (Addr.add ⟨g, 0, none⟩ j) = some v := by
        intro j v hv
        rw [Addr.add_lit, Nat.zero_add, cell_of_row w g j cur 5 (0, 0) hg]
        rw [← htk, List.getElem?_take] at hv
        split at hv
        · simpa using hv
        · cases hv
      have hr := Lib.run_append_grow_string (P := Tryz.prog) (w := w) 25 9 ty 5 i (.int .u8 0) ht hu hi hz8 ⟨g, 0, none⟩ n c xs (by rw [h3]; omega) holds ⟨s.toArray⟩ (by rw [hss]; omega) (by rw [hss]; omega) (by rw [hss, h4]; omega)
      rw [hss, strCells_B8] at hr
      refine ⟨some ⟨w.heap.size, 0, none⟩, grownCap w (n + s.length) c 5, _, hr, ⟨by rw [List.length_append, List.length_map]; omega, hge, .inr ⟨w.heap.size, _, rfl, hbase, heap_alloc_new w.drew _, ?_, ?_⟩⟩, ?_, .inr rfl⟩
      · simp only [Array.size_append, List.size_toArray, size_zeroCells, List.length_map]
        simp [Value.cells]
        omega
      · simp only [Array.toList_append]
        rw [List.take_append_of_le_length (by simp; omega), List.take_of_length_le (by simp; omega)]
      · exact (Ext.refl w |>.drew.alloc _) |> fun h => ⟨Below.os h, Below.tape h, Below.output h, Below.size h, fun k hk _ => Below.block h k hk⟩
theorem wpList_buf_str {ops : Array Oper} {rest : List Oper} {o : Oper} {a : Act} {Q : Exit → Act → World → Prop} {w : World} {base : Nat} {A : Option Addr} {n c : Nat} {xs : List Value} {s : List UInt8} (hb : Buf w base 5 A n c xs) (x y : Operand)
    (ho : o.op = .call { callee := .builtin .append, args := #[x, y], argTypes := #[25, 9] }) (hgd : o.guard = none) (hx : a.eval x = .slice A n c) (hy : a.eval y = .string ⟨s.toArray⟩) (hsz : n + s.length ≤ 4294967296) (hbase : base ≤ w.heap.size)
    (h : ∀ A1 c1 w', Buf w' base 5 A1 (n + s.length) c1 (xs ++ s.map B8) → w.grownBy w' (Value.slice A n c).ownBlock → (∀ w0, Ext w0 w → w0.heap.size ≤ base → Ext w0 w') → wpList Tryz.prog ops Q rest (a.put o.dst (.slice A1 (n + s.length) c1)) w') : wpList Tryz.prog ops Q (o :: rest) a w :=
  wpList_plain hgd fun K hK => by
    obtain ⟨A1, c1, w', hrun, h2, h3, _⟩ := run_buf_str w o.type hb s hsz hbase
    unfold Oper.wp execOp
    simp only [ho, resolve, invoke, builtin, Sem.run_bind, Sem.run_pure, Result.andThen_ok, List.map_toArray, List.map_cons, List.map_nil, hx, hy, hrun]
    refine hK _ _ (h A1 c1 w' h2 h3 (fun w0 hE hw => hE.grown h3 fun k hk => ?_))
    have hbl := hb.base_le
    cases A with
    | none => simp [Value.ownBlock] at hk
    | some b =>
      have := hbl b rfl
      simp [Value.ownBlock] at hk
      omega
end
section
open Go.RowKit
set_option maxRecDepth 100000 in
theorem run_headk (kk : IntKind) {n c k : Nat} {A : Option Addr} (h : k ≤ c) (hA : ∀ a, A = some a → a.spot = none) (W : World) :
    (Instr.sliceAt 25 (.slice A n c) none (some (.int kk k)) none).run Tryz.prog W = .ok (.slice A k c) W := by
  have ht := Tryz.underlying25
  have he : Tryz.prog.elem 25 = 5 := by unfold Program.elem; rw [ht]
  have hs : ∀ W : World, (sizeOf 5).run Tryz.prog W = .ok 1 W := fun W => by kernel_rfl
  rw [run_sliceAt_slice W _ _ _ _ _ (by rw [ht, he]), run_slice_h W _ A n c (by rw [ht, he]) kk k (by omega) (by omega), he, hs]
  simp only [Result.andThen_ok]
  congr 1
  unfold sliced
  have : (if c = 0 then A else A.map fun x => x.add (0 * 1)) = A := by
    cases A with
    | none => simp
    | some a =>
      obtain ⟨b, o, sp⟩ := a
      obtain rfl : sp = none := hA _ rfl
      simp [Addr.add_lit]
  rw [this]
  simp
set_option maxRecDepth 100000 in
theorem In8.fromk (kk : IntKind) {w : World} {A : Option Addr} {n c : Nat} {l : List UInt8} (h : In8 w A n c l) {fr : Nat} (hf : fr ≤ n) {z : Int} (hz : z = (fr : Int)) :
    ∃ A' c', (∀ W : World, (Instr.sliceAt 25 (.slice A n c) (some (.int kk z)) none none).run Tryz.prog W = .ok (.slice A' (n - fr) c') W) ∧ In8 w A' (n - fr) c' (l.drop fr) := by
  subst hz
  have ht := Tryz.underlying25
  have he : Tryz.prog.elem 25 = 5 := by unfold Program.elem; rw [ht]
  have hs : ∀ W : World, (sizeOf 5).run Tryz.prog W = .ok 1 W := fun W => by kernel_rfl
  have hrun : ∀ W : World, (Instr.sliceAt 25 (.slice A n c) (some (.int kk fr)) none none).run Tryz.prog W = .ok (sliced A fr n c 1) W := by
    intro W
    rw [run_sliceAt_slice W _ _ _ _ _ (by rw [ht, he]), run_slice_l W _ A n c (by rw [ht, he]) kk fr (by omega) (by omega), he, hs]
    simp only [Result.andThen_ok]
    congr 1
  have hcap := h.cap
  refine ⟨_, _, hrun, by rw [List.length_drop, ← h.len], ?_, by omega, ?_, ?_⟩
  · rcases h.bytes with hb | ⟨g, o, rfl, hb⟩
    · left
      have : l = [] := by simpa using hb
      rw [this]
      simp
    · by_cases hcf : c = fr
      · left
        have := h.len
        rw [List.drop_of_length_le (by omega)]
        rfl
      · refine .inr ⟨g, o + fr, by rw [if_neg hcf]; simp [Addr.add_lit], fun i v hv => ?_⟩
        rw [Nat.add_assoc]
        refine hb (fr + i) v ?_
        rw [List.getElem?_map] at hv ⊢
        rw [List.getElem?_drop] at hv
        exact hv
  · intro hn
    cases A with
    | none => have := h.nil_ rfl; omega
    | some a => split at hn <;> cases hn
  · intro a ha
    cases A with
    | none => split at ha <;> cases ha
    | some b =>
      obtain ⟨h1, h2⟩ := h.at_ b rfl
      obtain ⟨b, o, sp⟩ := b
      obtain rfl : sp = Option.none := h1
      split at ha
      · cases ha; exact ⟨rfl, h2⟩
      · cases ha
        show (Addr.add ⟨b, o, none⟩ (fr * 1)).spot = none ∧ (Addr.add ⟨b, o, none⟩ (fr * 1)).block < w.heap.size
        rw [Addr.add_lit]
        exact ⟨rfl, h2⟩
theorem In8.headk (kk : IntKind) {w : World} {A : Option Addr} {n c : Nat} {l : List UInt8} (h : In8 w A n c l) {k : Nat} (hk : k ≤ n) {z : Int} (hz : z = (k : Int)) :
    (∀ W : World, (Instr.sliceAt 25 (.slice A n c) none (some (.int kk z)) none).run Tryz.prog W = .ok (.slice A k c) W) ∧ In8 w A k c (l.take k) := by
  subst hz
  refine ⟨fun W => run_headk kk (by have := h.cap; omega) (fun a ha => (h.at_ a ha).1) W, by rw [List.length_take, ← h.len]; omega, ?_, by have := h.cap; omega, h.nil_, h.at_⟩
  rcases h.bytes with hb | ⟨g, o, rfl, hb⟩
  · left
    have : l = [] := by simpa using hb
    rw [this]
    simp
  · refine .inr ⟨g, o, rfl, fun i v hv => hb i v ?_⟩
    rw [List.getElem?_map] at hv ⊢
    rw [List.getElem?_take] at hv
    split at hv
    · exact hv
    · cases hv
set_option maxRecDepth 100000 in
theorem In8.subk (kk k2 : IntKind) {w : World} {A : Option Addr} {n c : Nat} {l : List UInt8} (h : In8 w A n c l) {fr k : Nat} (hf : fr + k ≤ n) {z0 z : Int} (hz0 : z0 = (fr : Int)) (hz : z = (fr : Int) + (k : Int)) :
    ∃ A' c', (∀ W : World, (Instr.sliceAt 25 (.slice A n c) (some (.int kk z0)) (some (.int k2 z)) none).run Tryz.prog W = .ok (.slice A' k c') W) ∧ In8 w A' k c' ((l.drop fr).take k) := by
  subst hz0
  subst hz
  have ht := Tryz.underlying25
  have he : Tryz.prog.elem 25 = 5 := by unfold Program.elem; rw [ht]
  have hs : ∀ W : World, (sizeOf 5).run Tryz.prog W = .ok 1 W := fun W => by kernel_rfl
  have hcap := h.cap
  have hrun : ∀ W : World, (Instr.sliceAt 25 (.slice A n c) (some (.int kk fr)) (some (.int k2 ((fr : Int) + (k : Int)))) none).run Tryz.prog W = .ok (sliced A fr (fr + k) c 1) W := by
    intro W
    rw [run_sliceAt_slice W _ _ _ _ _ (by rw [ht, he]), run_slice_lh W _ A n c (by rw [ht, he]) kk k2 fr ((fr : Int) + k) (by omega) (by omega) (by omega), he, hs]
    simp only [Result.andThen_ok]
    congr 1
  unfold sliced at hrun
  rw [Nat.add_sub_cancel_left] at hrun
  refine ⟨_, _, hrun, by rw [List.length_take, List.length_drop, ← h.len]; omega, ?_, by omega, ?_, ?_⟩
  · rcases h.bytes with hb | ⟨g, o, rfl, hb⟩
    · left
      have : l = [] := by simpa using hb
      rw [this]
      simp
    · by_cases hcf : c = fr
      · left
        have : k = 0 := by omega
        subst this
        simp
      · refine .inr ⟨g, o + fr, by rw [if_neg hcf]; simp [Addr.add_lit], fun i v hv => ?_⟩
        rw [Nat.add_assoc]
        refine hb (fr + i) v ?_
        rw [List.getElem?_map] at hv ⊢
        rw [List.getElem?_take] at hv
        split at hv
        · rw [List.getElem?_drop] at hv
          exact hv
        · cases hv
  · intro hn
    cases A with
    | none => have := h.nil_ rfl; omega
    | some a => split at hn <;> cases hn
  · intro a ha
    cases A with
    | none => split at ha <;> cases ha
    | some b =>
      obtain ⟨h1, h2⟩ := h.at_ b rfl
      obtain ⟨b, o, sp⟩ := b
      obtain rfl : sp = Option.none := h1
      split at ha
      · cases ha; exact ⟨rfl, h2⟩
      · cases ha
        show (Addr.add ⟨b, o, none⟩ (fr * 1)).spot = none ∧ (Addr.add ⟨b, o, none⟩ (fr * 1)).block < w.heap.size
        rw [Addr.add_lit]
        exact ⟨rfl, h2⟩
end
section
open Go.RowKit
theorem run_max2e {P : Program} (ts : Array TypeId) (ty : TypeId) {x y m : Int} (hm : m = max x y) (W : World) : (Builtin.max_ ts ty #[.int .i64 x, .int .i64 y]).run P W = .ok (.int .i64 m) W := by
  simp only [Builtin.max_, List.foldlM, Builtin.max2, Sem.run_bind, Sem.run_pure, Result.andThen_ok]
  subst hm
  congr 2
  split <;> omega
def GotT (w0 w : World) (res : Except Nat (List UInt8 × List UInt8)) (e : Ending) (w' : World) : Prop := Ext w w' ∧ match res with
  | .ok (s, r) => ∃ A c, e = .returned (.tuple #[.string ⟨s.toArray⟩, .slice A r.length c, .int .i64 0]) ∧ In8 w0 A r.length c r
  | .error k => e = .returned (.tuple #[.string ⟨#[]⟩, .slice none 0 0, .int .i64 k])
set_option maxRecDepth 100000 in
theorem putText_any (A : Option Addr) (n c : Nat) (l s : List UInt8) (w : World) (hn : n = l.length) (hl : Bs w A l) (hz : A = none → c = 0) (hle : n ≤ 1000000000) (hs : s.length ≤ 1000000000) :
    Calls Tryz.prog 147 #[.slice A n c, .string ⟨s.toArray⟩] w fun e w' => NewB w (l ++ txL s) e w' := by
  have hp := hide (put_any A n c s.length l w hn hl hz hle (by omega))
  have h10 := vb_le10 (n := s.length) (by omega)
  have htx : l ++ txL s = (l ++ vb s.length) ++ s := by unfold txL; simp
  rw [htx]
  obtain ⟨L, hL⟩ : ∃ L, L = l ++ vb s.length := ⟨_, rfl⟩
  have hLl : L.length ≤ 1000000010 := by rw [hL, List.length_append]; omega
  rw [← hL] at hp ⊢
  clear hL htx hl hz hn h10
  go_enter Tryz.func147, Tryz.ntmps147
  go_wp2_with fail
  refine hp.out.mono ?_
  rintro e w1 ⟨A1, c1, rfl, hb1, hE1⟩
  have hsz := hE1.size
  go_wp2_with (at_builtin; refine wpList_buf_str hb1 (.tmp 9) (.tmp 10) rfl rfl rfl rfl (by omega) hsz (fun A2 c2 w2 hb2 hg2 hE2 => ?_))
  go_ret
  exact ⟨A2, c2, ret_slice (by rw [List.length_append]), by rw [List.length_append, List.map_append]; exact hb2, hE2 _ hE1 (Nat.le_refl _)⟩
set_option maxRecDepth 100000 in
set_option maxHeartbeats 1000000 in
theorem getText_any (A : Option Addr) (n c most : Nat) (l : List UInt8) (w0 w : World) (h : In8 w0 A n c l) (hw : Ext w0 w) (hle : n ≤ 1000000000) (hm : most ≤ 1000000000) :
    Calls Tryz.prog 154 #[.slice A n c, .int .i64 most] w fun e w' => GotT w0 w (getT most l) e w' := by
  have hg := get_any A n c l w0 w h hw hle
  have hmax := run_max2e (P := Tryz.prog) #[3, 3] 3 (x := 0) (y := (most : Int)) (m := (most : Int)) (by omega)
  unfold getT
  cases hr : getV 0 l with
  | error k =>
    rw [hr] at hg
    have hk := getV_err l 0 k hr
    have hk0 : ((k : Int) != 0) = true := by simp; omega
    replace hg := hide hg
    clear h hr hk
    go_enter Tryz.func154, Tryz.ntmps154
    go_wp2_with fail
    refine hg.out.mono ?_
    rintro e w1 ⟨hE1, rfl⟩
    go_wp2_with fail
    go_ret3
    exact ⟨hE1, rfl⟩
  | ok p =>
    obtain ⟨v, r⟩ := p
    have hv := getV_lt64 hr
    have hrl : r.length ≤ 1000000000 := by
      obtain ⟨_, _, q, hq, _⟩ := getV_lt l 0 v r hr
      have := h.len
      rw [hq, List.length_append] at this
      omega
    rw [hr] at hg
    replace hg := hide hg
    simp only
    by_cases h1 : most < v
    · rw [if_pos h1]
      have h1' : (most : Int) < v := by omega
      clear h hr
      go_enter Tryz.func154, Tryz.ntmps154
      go_wp2_with fail
      refine hg.out.mono ?_
      rintro e w1 ⟨hE1, A1, c1, rfl, hi1⟩
      go_wp2_with fail
      go_ret3
      exact ⟨hE1, rfl⟩
    · rw [if_neg h1]
      have h1' : ¬ (most : Int) < v := by omega
      by_cases h2 : r.length < v
      · rw [if_pos h2]
        have h2' : (r.length : Int) < v := by omega
        clear h hr
        go_enter Tryz.func154, Tryz.ntmps154
        go_wp2_with fail
        refine hg.out.mono ?_
        rintro e w1 ⟨hE1, A1, c1, rfl, hi1⟩
        go_wp2_with fail
        go_ret3
        exact ⟨hE1, rfl⟩
      · rw [if_neg h2]
        have h2' : ¬ (r.length : Int) < v := by omega
        clear h hr
        go_enter Tryz.func154, Tryz.ntmps154
        go_wp2_with fail
        refine hg.out.mono ?_
        rintro e w1 ⟨hE1, A1, c1, rfl, hi1⟩
        obtain ⟨hh1, hh2⟩ := hi1.headk .u64 (k := v) (by omega) (z := (v : Int)) rfl
        obtain ⟨A2, c2, ht1, ht2⟩ := hi1.fromk .u64 (fr := v) (by omega) (z := (v : Int)) rfl
        have hst : ∀ W, Ext w0 W → (convert 25 9 (.slice A1 v c1)).run Tryz.prog W = .ok (.string ⟨(r.take v).toArray⟩) W := fun W hW => run_str (hh2.bytes.ext hW) v c1 hh2.len
        have hst1 := hst _ (hw.trans hE1).drew
        have hlen : (r.drop v).length = r.length - v := List.length_drop
        obtain ⟨R, hR⟩ : ∃ R, R = r.length - v := ⟨_, rfl⟩
        rw [← hR] at ht1 ht2 hlen
        replace hlen := hide hlen
        replace hR := hide hR
        clear hh2
        go_wp2_with fail
        refine wp_region_text follows (by kernel_rfl) (by kernel_rfl) (fun K hK => ?_)
        go_wp2_with fail
        refine ⟨by kernel_rfl, ?_⟩
        go_wp2_with fail
        go_ret3
        exact ⟨hE1.drew, A2, c2, by rw [hlen.out]; rfl, by rw [hlen.out]; exact ht2⟩
end
section
open Go.RowKit
set_option maxRecDepth 100000 in
set_option maxHeartbeats 2000000 in
theorem recheck_any (e : Ev) (A : Option Addr) (c : Nat) (w : World) (h : e.Ok w A) : Calls Tryz.prog 54 #[e.val A c] w fun en w' => en = .returned (.int .i64 (checkE e.fs : Int)) ∧ Ext w w' := by
  obtain ⟨at_, fs⟩ := e
  obtain ⟨hc, hm, hl⟩ := h
  unfold Ev.val
  simp only at hc hm hl ⊢
  obtain ⟨n, hn⟩ : ∃ n, n = fs.length := ⟨_, rfl⟩
  obtain ⟨z, hz⟩ : ∃ z, z = checkE fs := ⟨_, rfl⟩
  have hmany : 16 < n → z = 3 := fun h => by rw [hz]; unfold checkE; rw [if_pos (by omega)]
  have hgo : n ≤ 16 → z = checkF (fs.drop 0) := fun h => by rw [hz]; unfold checkE; rw [if_neg (by omega)]; rfl
  have hnm := fun s W (hs : s.length ≤ 9223372036854775807) => risname_any s W hs
  rw [← hz, ← hn]
  rw [← hn] at hm
  have hEW : Ext w (w.alloc (.cells #[.int .i64 at_, .slice A n c] 37)) := (Ext.refl w).alloc _
  have hrow : Row (w.alloc (.cells #[.int .i64 at_, .slice A n c] 37)) w.heap.size 37 #[.int .i64 at_, .slice A n c] := Row.new w _ _
  replace hn := hide hn
  replace hl := hide hl
  replace hnm := hide hnm
  replace hgo := hide hgo
  clear hz
  by_cases h16 : 16 < n
  · have hz3 := hmany h16
    subst hz3
    clear hmany hrow
    go_enter Tryz.func54, Tryz.ntmps54
    go_wp2_with fail
    go_ret
    exact ⟨rfl, hEW⟩
  · clear hmany
    have hz0 := hgo.out (by omega)
    replace hz0 := hide hz0
    go_enter Tryz.func54, Tryz.ntmps54
    go_wp2_with fail
    obtain ⟨W0, hW0⟩ : ∃ W0, W0 = w.alloc (.cells #[.int .i64 at_, .slice A n c] 37) := ⟨_, rfl⟩
    rw [← hW0] at hEW hrow ⊢
    clear hW0
    go_loopw [3] (fun s3 wr => ∃ i : Nat, s3 = .int .i64 i ∧ i ≤ n ∧ Hid (z = checkF (fs.drop i)) ∧ Hid (Ext W0 wr)) (fun s3 _ => n - (intOf s3).toNat)
    case atStart => exact ⟨0, rfl, by omega, hz0, hide (Ext.refl _)⟩
    case round =>
      obtain ⟨i, rfl, hi, hz, hE⟩ := hrel
      have y1 := (hrow.ext hE.out).cell 1 rfl
      by_cases hin : i < n
      · have hil : i < fs.length := by rw [← hn.out]; exact hin
        obtain ⟨f, hf⟩ : ∃ f, fs[i]? = some f := ⟨_, List.getElem?_eq_getElem hil⟩
        obtain ⟨g, o, rfl, k0, k1⟩ := fcells_at (hc.ext (hEW.trans hE.out)) hf
        obtain ⟨hl1, hl2⟩ := hl.out f (List.mem_of_getElem? hf)
        have hz2 := hz.out
        rw [checkF_drop hf] at hz2
        unfold strV at k0 k1
        obtain ⟨nm, tx⟩ := f
        simp only at k0 k1 hl1 hl2 hz2
        have hnm1 := fun W => hnm.out nm W hl1
        obtain ⟨q, hq⟩ : ∃ q, q = nameL nm := ⟨_, rfl⟩
        rw [← hq] at hnm1 hz2
        have hi0 : (0 : Int) ≤ i := by omega
        have hi1 : (i : Int) < n := by omega
        replace hnm1 := hide hnm1
        replace hz2 := hide hz2
        clear hf hq
        go_wp2_with fail
        refine (hnm1.out _).mono ?_
        rintro e w3 ⟨rfl, rfl⟩
        cases q with
        | false =>
          obtain rfl : z = 100 := by rw [hz2.out]; rfl
          go_wp2_with fail
          go_ret
          exact ⟨rfl, hEW.trans hE.out⟩
        | true =>
          by_cases hlt : 4096 < tx.length
          · obtain rfl : z = 2 := by rw [hz2.out, if_neg (by simp), if_pos hlt]
            go_wp2_with fail
            go_ret
            exact ⟨rfl, hEW.trans hE.out⟩
          · have hz3 := hide (show z = checkF (fs.drop (i + 1)) by rw [hz2.out, if_neg (by simp), if_neg hlt])
            go_wp2_with fail
            go_roundw
            case rel => exact ⟨i + 1, by go_num, by omega, hz3, hE⟩
            case measure => simp [intOf]; omega
      · obtain rfl : z = 0 := by
          have h := hz.out
          rw [List.drop_of_length_le (by rw [← hn.out]; omega)] at h
          exact h
        go_wp2_with fail
        go_ret
        exact ⟨rfl, hEW.trans hE.out⟩
theorem take_one2 {α : Type} {xs : List α} {i : Nat} {x : α} (h : xs[i]? = some x) : xs.take (i + 1) = xs.take i ++ [x] := by
  obtain ⟨hi, rfl⟩ := List.getElem?_eq_some_iff.1 h
  exact List.take_succ_eq_append_getElem hi
end
section
open Go.RowKit
theorem sizeFs_le : ∀ {fs : List Fd}, (∀ f ∈ fs, f.1.length ≤ 32 ∧ f.2.length ≤ 4096) → sizeFs fs ≤ 5000 * fs.length
  | [], _ => by simp [sizeFs]
  | f :: fs, h => by
    have h1 := sizeFs_le (fs := fs) fun x hx => h x (by simp [hx])
    have hf := h f (by simp)
    have h5 : sizeFs (f :: fs) = f.1.length + f.2.length + sizeFs fs := by unfold sizeFs; rw [List.map_cons, List.sum_cons]; rfl
    rw [h5, List.length_cons]
    omega
end
section
open Go.RowKit
def Own8 (w : World) (base : Nat) (A : Option Addr) (n c : Nat) (l : List UInt8) : Prop := n = l.length ∧ Buf w base 5 A n c (l.map B8)
theorem Own8.nil_ {w : World} {base : Nat} {A : Option Addr} {n c : Nat} {l : List UInt8} (h : Own8 w base A n c l) : A = none → c = 0 := fun hA => by
  obtain ⟨_, _, _, h3⟩ := h
  rcases h3 with ⟨_, h3⟩ | ⟨g, cur, hB, _⟩
  · exact h3
  · rw [hA] at hB; cases hB
theorem NewB.own {w w0 w' : World} {l : List UInt8} {e : Ending} (h : NewB w l e w') (hb : w0.heap.size ≤ w.heap.size) : ∃ A c, e = .returned (.slice A l.length c) ∧ Own8 w' w0.heap.size A l.length c l ∧ Ext w w' := by
  obtain ⟨A, c, he, hb', hE⟩ := h
  exact ⟨A, c, he, ⟨rfl, hb'.lower hb⟩, hE⟩
theorem wrap_u64 {m : Nat} (h : m < 18446744073709551616) : IntKind.u64.wrap (m : Int) = (m : Int) := by
  simp [IntKind.wrap, IntKind.bits, IntKind.signed]
  omega
theorem putFs_take {fs : List Fd} {i : Nat} {f : Fd} (h : fs[i]? = some f) : putFs (fs.take (i + 1)) = putFs (fs.take i) ++ txL f.1 ++ txL f.2 := by
  unfold putFs
  rw [take_one2 h, List.flatMap_append]
  simp [putF]
theorem putFs_take_len {fs : List Fd} (h : ∀ f ∈ fs, f.1.length ≤ 32 ∧ f.2.length ≤ 4096) (i : Nat) : (putFs (fs.take i)).length ≤ 5000 * fs.length := by
  have h1 := putFs_len (fs := fs.take i) fun f hf => h f (List.mem_of_mem_take hf)
  have h2 := sizeFs_le (fs := fs.take i) fun f hf => h f (List.mem_of_mem_take hf)
  have h3 := List.length_take_le i fs
  have h4 : ∀ {gs : List Fd}, (∀ f ∈ gs, f.1.length ≤ 32 ∧ f.2.length ≤ 4096) → sizeFs gs ≤ 4128 * gs.length := by
    intro gs
    induction gs with
    | nil => intro _; simp [sizeFs]
    | cons f gs ih =>
      intro h
      have h1 := ih fun x hx => h x (by simp [hx])
      have hf := h f (by simp)
      have h5 : sizeFs (f :: gs) = f.1.length + f.2.length + sizeFs gs := by unfold sizeFs; rw [List.map_cons, List.sum_cons]; rfl
      rw [h5, List.length_cons]
      omega
  have h5 := h4 (gs := fs.take i) fun f hf => h f (List.mem_of_mem_take hf)
  have h6 : (fs.take i).length ≤ fs.length := by rw [List.length_take]; omega
  omega
set_option maxRecDepth 100000 in
set_option maxHeartbeats 4000000 in
theorem evput_any (A : Option Addr) (n c : Nat) (l : List UInt8) (e : Ev) (B : Option Addr) (d : Nat) (w : World) (hn : n = l.length) (hl : Bs w A l) (hz : A = none → c = 0) (hle : n ≤ 100000000) (h : e.Ok w B) (hk : checkE e.fs = 0) (ha : I64ok' e.at_) :
    Calls Tryz.prog 174 #[.slice A n c, e.val B d] w fun en w' => NewB w (l ++ putE e) en w' := by
  obtain ⟨h16, hfl⟩ := checkE_fs hk
  have hput : l ++ putE e = (l ++ vb (zig e.at_) ++ vb e.fs.length) ++ putFs (e.fs.take e.fs.length) := by unfold putE; rw [List.take_length]; simp
  rw [hput]
  obtain ⟨at_, fs⟩ := e
  obtain ⟨hc, _, _⟩ := h
  unfold Ev.val
  simp only at hc h16 hfl ha ⊢
  have htl := putFs_take_len hfl
  obtain ⟨m, hm⟩ : ∃ m, m = fs.length := ⟨_, rfl⟩
  rw [← hm] at h16 htl ⊢
  obtain ⟨W, hW⟩ : ∃ W, W = w.alloc (.cells #[.int .i64 at_, .slice B m d] 37) := ⟨_, rfl⟩
  have hEW : Ext w W := by rw [hW]; exact (Ext.refl w).alloc _
  have hr : Row W w.heap.size 37 #[.int .i64 at_, .slice B m d] := by rw [hW]; exact Row.new w _ _
  obtain ⟨b, hb⟩ : ∃ b, b = w.heap.size := ⟨_, rfl⟩
  rw [← hb] at hr
  have h10 := vb_le10 (zig_lt ha.1 ha.2)
  have h10b := vb_le10 (n := m) (by omega)
  obtain ⟨L1, hL1⟩ : ∃ L1, L1 = l ++ vb (zig at_) := ⟨_, rfl⟩
  obtain ⟨L2, hL2⟩ : ∃ L2, L2 = L1 ++ vb m := ⟨_, rfl⟩
  have hl1 : L1.length ≤ 100000010 := by rw [hL1, List.length_append]; omega
  have hl2 : L2.length ≤ 100000020 := by rw [hL2, List.length_append]; omega
  rw [← hL1, ← hL2]
  have hS0 : W.cell? ⟨b, 0, none⟩ = some (.int .i64 at_) ∧ W.cell? ⟨b, 1, none⟩ = some (.slice B m d) ∧ Ext W W := ⟨hr.cell 0 rfl, hr.cell 1 rfl, Ext.refl W⟩
  have hS1 : W.drew.cell? ⟨b, 0, none⟩ = some (.int .i64 at_) ∧ W.drew.cell? ⟨b, 1, none⟩ = some (.slice B m d) ∧ Ext W W.drew := ⟨hr.cell 0 rfl, hr.cell 1 rfl, (Ext.refl W).drew⟩
  have hpi : ∀ x, (x.cell? ⟨b, 0, none⟩ = some (.int .i64 at_) ∧ x.cell? ⟨b, 1, none⟩ = some (.slice B m d) ∧ Ext W x) → Calls Tryz.prog 88 #[.slice A n c, .int .i64 at_] x fun e y => ∃ A1 c1, e = .returned (.slice A1 L1.length c1) ∧ Own8 y w.heap.size A1 L1.length c1 L1 ∧ (y.cell? ⟨b, 0, none⟩ = some (.int .i64 at_) ∧ y.cell? ⟨b, 1, none⟩ = some (.slice B m d) ∧ Ext W y) := fun x ⟨h0, h1, hE⟩ =>
    (putInt_any A n c at_ l x hn (hl.ext (hEW.trans hE)) hz (by omega) ha.1 ha.2).mono fun e y hy => by
      obtain ⟨A1, c1, he, hb1, hEy⟩ := NewB.own hy (hEW.trans hE).size
      rw [← hL1] at he hb1
      exact ⟨A1, c1, he, hb1, hEy.cell h0, hEy.cell h1, hE.trans hEy⟩
  have hpu : ∀ x A1 c1, Own8 x w.heap.size A1 L1.length c1 L1 → (x.cell? ⟨b, 0, none⟩ = some (.int .i64 at_) ∧ x.cell? ⟨b, 1, none⟩ = some (.slice B m d) ∧ Ext W x) → Calls Tryz.prog 78 #[.slice A1 L1.length c1, .int .u64 (m : Int)] x fun e y => ∃ A2 c2, e = .returned (.slice A2 L2.length c2) ∧ Own8 y w.heap.size A2 L2.length c2 L2 ∧ (y.cell? ⟨b, 0, none⟩ = some (.int .i64 at_) ∧ y.cell? ⟨b, 1, none⟩ = some (.slice B m d) ∧ Ext W y) := fun x A1 c1 hb1 ⟨h0, h1, hE⟩ =>
    (put_any A1 L1.length c1 m L1 x rfl hb1.2.cells hb1.nil_ (by omega) (by omega)).mono fun e y hy => by
      obtain ⟨A2, c2, he, hb2, hEy⟩ := NewB.own hy (hEW.trans hE).size
      rw [← hL2] at he hb2
      exact ⟨A2, c2, he, hb2, hEy.cell h0, hEy.cell h1, hE.trans hEy⟩
  replace hpi := hide hpi
  replace hpu := hide hpu
  replace hS0 := hide hS0
  replace hS1 := hide hS1
  have hwm := wrap_u64 (m := m) (by omega)
  replace hW := hide hW
  replace hm := hide hm
  replace hfl := hide hfl
  replace htl := hide htl
  replace hb := hide hb
  clear hL1 hL2 hput h10 h10b hl hz hn
  go_enter Tryz.func174, Tryz.ntmps174
  go_wp2_with fail
  rw [← hW.out, ← hb.out]
  refine wp_region_held_drew (S := fun x => x.cell? ⟨b, 0, none⟩ = some (.int .i64 at_) ∧ x.cell? ⟨b, 1, none⟩ = some (.slice B m d) ∧ Ext W x) (by kernel_rfl) hS1.out (fun hHeld => ?_)
  refine wpAnyH_take (i := 0) (v := .slice A n c) rfl (by kernel_rfl) (by kernel_rfl) (by kernel_rfl) (fun _ _ _ h => h) (Or.inl ⟨by rfl, ?_⟩) (by assumption) ?_
  · intro w' hSw
    (try dsimp only at hSw)
    obtain ⟨z1, z2, z3⟩ := hSw
    go_simp
    try with_reducible rfl
    all_goals omega
  (try simp only [Act.put, List.setIfInBounds_toArray, List.set_cons_zero, List.set_cons_succ, List.getElem_toArray, List.getElem_cons_zero, List.getElem_cons_succ])
  refine wpAnyH_take (i := 1) (v := .pointer (some ⟨b, 0, none⟩)) rfl (by kernel_rfl) (by kernel_rfl) (by kernel_rfl) (fun _ _ _ h => h) (Or.inl ⟨by rfl, ?_⟩) (by assumption) ?_
  · intro w' hSw
    (try dsimp only at hSw)
    obtain ⟨z1, z2, z3⟩ := hSw
    go_simp
    try with_reducible rfl
    all_goals omega
  (try simp only [Act.put, List.setIfInBounds_toArray, List.set_cons_zero, List.set_cons_succ, List.getElem_toArray, List.getElem_cons_zero, List.getElem_cons_succ])
  refine wpAnyH_take (i := 2) (v := .int .i64 at_) rfl (by kernel_rfl) (by kernel_rfl) (by kernel_rfl) (fun _ _ _ h => h) (Or.inl ⟨by rfl, ?_⟩) (by assumption) ?_
  · intro w' hSw
    (try dsimp only at hSw)
    obtain ⟨z1, z2, z3⟩ := hSw
    go_simp
    try with_reducible rfl
    all_goals omega
  (try simp only [Act.put, List.setIfInBounds_toArray, List.set_cons_zero, List.set_cons_succ, List.getElem_toArray, List.getElem_cons_zero, List.getElem_cons_succ])
  refine wpAnyH_take (i := 4) (v := .pointer (some ⟨b, 1, none⟩)) rfl (by kernel_rfl) (by kernel_rfl) (by kernel_rfl) (fun _ _ _ h => h) (Or.inl ⟨by rfl, ?_⟩) (by assumption) ?_
  · intro w' hSw
    (try dsimp only at hSw)
    obtain ⟨z1, z2, z3⟩ := hSw
    go_simp
    try with_reducible rfl
    all_goals omega
  (try simp only [Act.put, List.setIfInBounds_toArray, List.set_cons_zero, List.set_cons_succ, List.getElem_toArray, List.getElem_cons_zero, List.getElem_cons_succ])
  refine wpAnyH_take (i := 5) (v := .slice B m d) rfl (by kernel_rfl) (by kernel_rfl) (by kernel_rfl) (fun _ _ _ h => h) (Or.inl ⟨by rfl, ?_⟩) (by assumption) ?_
  · intro w' hSw
    (try dsimp only at hSw)
    obtain ⟨z1, z2, z3⟩ := hSw
    go_simp
    try with_reducible rfl
    all_goals omega
  (try simp only [Act.put, List.setIfInBounds_toArray, List.set_cons_zero, List.set_cons_succ, List.getElem_toArray, List.getElem_cons_zero, List.getElem_cons_succ])
  refine wpAnyH_take (i := 6) (v := .int .i64 (m : Int)) rfl (by kernel_rfl) (by kernel_rfl) (by kernel_rfl) (fun _ _ _ h => h) (Or.inl ⟨by rfl, ?_⟩) (by assumption) ?_
  · intro w' hSw
    (try dsimp only at hSw)
    obtain ⟨z1, z2, z3⟩ := hSw
    go_simp
    try with_reducible rfl
    all_goals omega
  (try simp only [Act.put, List.setIfInBounds_toArray, List.set_cons_zero, List.set_cons_succ, List.getElem_toArray, List.getElem_cons_zero, List.getElem_cons_succ])
  refine wpAnyH_take (i := 7) (v := .int .u64 (m : Int)) rfl (by kernel_rfl) (by kernel_rfl) (by kernel_rfl) (fun _ _ _ h => h) (Or.inl ⟨by rfl, ?_⟩) (by assumption) ?_
  · intro w' hSw
    (try dsimp only at hSw)
    obtain ⟨z1, z2, z3⟩ := hSw
    go_simp
    try with_reducible rfl
    all_goals omega
  (try simp only [Act.put, List.setIfInBounds_toArray, List.set_cons_zero, List.set_cons_succ, List.getElem_toArray, List.getElem_cons_zero, List.getElem_cons_succ])
  refine wpAnyH_ready (rs := [3]) (by kernel_rfl) (by simp) ?_
  refine AllReadyH.cons rfl (fun K hK => ?_) AllReadyH.nil
  (first | go_at_call 88 | (go_simp; go_at_call 88)); (refine (hpi.out _ ‹_›).mono ?_; rintro en w3 ⟨A1, c1, rfl, hb1, hSc⟩)
  refine hK.out _ _ ?_ (fun hHeld1 => ?_)
  · exact hSc
  clear hK K
  (try simp only [Act.put, List.setIfInBounds_toArray, List.set_cons_zero, List.set_cons_succ, List.getElem_toArray, List.getElem_cons_zero, List.getElem_cons_succ])
  refine wpAnyH_ready (rs := [8]) (by kernel_rfl) (by simp) ?_
  refine AllReadyH.cons rfl (fun K hK => ?_) AllReadyH.nil
  (first | go_at_call 78 | (go_simp; go_at_call 78)); (refine (hpu.out _ _ _ hb1 hSc).mono ?_; rintro en w4 ⟨A2, c2, rfl, hb2, hSc2⟩)
  refine hK.out _ _ ?_ (fun hHeld2 => ?_)
  · exact hSc2
  clear hK K
  (try simp only [Act.put, List.setIfInBounds_toArray, List.set_cons_zero, List.set_cons_succ, List.getElem_toArray, List.getElem_cons_zero, List.getElem_cons_succ])
  refine wpAnyH_take (i := 9) (v := .slice A2 L2.length c2) rfl (by kernel_rfl) (by kernel_rfl) (by kernel_rfl) (fun _ _ _ h => h) (Or.inl ⟨by rfl, ?_⟩) (by assumption) ?_
  · intro w' hSw
    (try dsimp only at hSw)
    obtain ⟨z1, z2, z3⟩ := hSw
    go_simp
    try with_reducible rfl
    all_goals omega
  (try simp only [Act.put, List.setIfInBounds_toArray, List.set_cons_zero, List.set_cons_succ, List.getElem_toArray, List.getElem_cons_zero, List.getElem_cons_succ])
  refine wpAnyH_done (by kernel_rfl) ?_ _
  clear hHeld hHeld1 hHeld2 hSc hb1 hpi hpu hS0 hS1
  have hEW4 : Ext W w4 := hSc2.2.2
  have y1 : w4.cell? ⟨b, 1, none⟩ = some (.slice B m d) := hSc2.2.1
  have hsz4 : w.heap.size ≤ w4.heap.size := (hEW.trans hEW4).size
  replace hb2 := hide hb2
  replace hEW4 := hide hEW4
  clear hSc2
  go_wp2_with fail
  go_loopw [0, 19] (fun s0 s19 wr => ∃ (i n4 c4 : Nat) (A4 : Option Addr) (L : List UInt8), s19 = .int .i64 (i : Int) ∧ s0 = .slice A4 n4 c4 ∧ i ≤ m ∧ n4 ≤ 100100000 ∧ Hid (L = L2 ++ putFs (fs.take i)) ∧ Hid (Own8 wr w.heap.size A4 n4 c4 L) ∧ Hid (Ext w4 wr)) (fun _ s19 _ => m - (intOf s19).toNat)
  case atStart => exact ⟨0, L2.length, c2, A2, L2, rfl, rfl, by omega, by omega, hide (by simp [putFs]), hb2, hide (Ext.refl w4)⟩
  case round =>
    obtain ⟨i, n4, c4, A4, L, rfl, rfl, hi, hn4, hL, hb4, hE⟩ := hrel
    by_cases him : i < m
    · obtain ⟨f, hf⟩ : ∃ f, fs[i]? = some f := ⟨_, List.getElem?_eq_getElem (by rw [← hm.out]; exact him)⟩
      obtain ⟨g, o, rfl, k0, k1⟩ := fcells_at (((hc.ext hEW).ext hEW4.out).ext hE.out) hf
      have hl1 := hfl.out f (List.mem_of_getElem? hf)
      have htk := putFs_take hf
      obtain ⟨nm, tx⟩ := f
      unfold strV at k0 k1
      simp only at k0 k1 hl1 htk
      obtain ⟨hlf1, hlf2⟩ := hl1
      obtain ⟨g2, hg2⟩ : ∃ g2, g2 = wr.heap.size := ⟨_, rfl⟩
      obtain ⟨Wf, hWf⟩ : ∃ Wf, Wf = wr.alloc (.cells #[.string ⟨nm.toArray⟩, .string ⟨tx.toArray⟩] 105) := ⟨_, rfl⟩
      have hEf : Ext wr Wf := by rw [hWf]; exact (Ext.refl wr).alloc _
      have hrf : Row Wf g2 105 #[.string ⟨nm.toArray⟩, .string ⟨tx.toArray⟩] := by rw [hWf, hg2]; exact Row.new wr _ _
      obtain ⟨L5, hL5⟩ : ∃ L5, L5 = L ++ txL nm := ⟨_, rfl⟩
      obtain ⟨L6, hL6⟩ : ∃ L6, L6 = L5 ++ txL tx := ⟨_, rfl⟩
      have hLl : L.length = n4 := hb4.out.1.symm
      have ht1 := txL_len (s := nm) (by omega)
      have ht2 := txL_len (s := tx) (by omega)
      have hl5 : L5.length ≤ 100200000 := by rw [hL5, List.length_append]; omega
      have hL62 : Hid (L6 = L2 ++ putFs (fs.take (i + 1))) := hide (by rw [hL6, hL5, hL.out, htk]; simp)
      have hl6 : L6.length ≤ 100100000 := by
        rw [hL62.out, List.length_append]
        have := htl.out (i + 1)
        omega
      have hEb : Ext w Wf := (hEW.trans hEW4.out).trans (hE.out.trans hEf)
      have hT1 : Wf.drew.cell? ⟨g2, 0, none⟩ = some (.string ⟨nm.toArray⟩) ∧ Wf.drew.cell? ⟨g2, 1, none⟩ = some (.string ⟨tx.toArray⟩) ∧ Ext Wf Wf.drew := ⟨hrf.cell 0 rfl, hrf.cell 1 rfl, (Ext.refl Wf).drew⟩
      have hb4f : Buf Wf w.heap.size 5 A4 n4 c4 (L.map B8) := hb4.out.2.ext hEf
      have hp1 : ∀ x, (x.cell? ⟨g2, 0, none⟩ = some (.string ⟨nm.toArray⟩) ∧ x.cell? ⟨g2, 1, none⟩ = some (.string ⟨tx.toArray⟩) ∧ Ext Wf x) → Calls Tryz.prog 147 #[.slice A4 n4 c4, .string ⟨nm.toArray⟩] x fun e y => ∃ A5 c5, e = .returned (.slice A5 L5.length c5) ∧ Own8 y w.heap.size A5 L5.length c5 L5 ∧ (y.cell? ⟨g2, 0, none⟩ = some (.string ⟨nm.toArray⟩) ∧ y.cell? ⟨g2, 1, none⟩ = some (.string ⟨tx.toArray⟩) ∧ Ext Wf y) := fun x ⟨h0, h1, hE⟩ =>
        (putText_any A4 n4 c4 L nm x hLl.symm (hb4f.cells.ext hE) hb4.out.nil_ (by omega) (by omega)).mono fun e y hy => by
          obtain ⟨A1, c1, he, hb1, hEy⟩ := NewB.own hy (hEb.trans hE).size
          rw [← hL5] at he hb1
          exact ⟨A1, c1, he, hb1, hEy.cell h0, hEy.cell h1, hE.trans hEy⟩
      have hp2 : ∀ x A5 c5, Own8 x w.heap.size A5 L5.length c5 L5 → (x.cell? ⟨g2, 0, none⟩ = some (.string ⟨nm.toArray⟩) ∧ x.cell? ⟨g2, 1, none⟩ = some (.string ⟨tx.toArray⟩) ∧ Ext Wf x) → Calls Tryz.prog 147 #[.slice A5 L5.length c5, .string ⟨tx.toArray⟩] x fun e y => ∃ A6 c6, e = .returned (.slice A6 L6.length c6) ∧ Own8 y w.heap.size A6 L6.length c6 L6 ∧ (y.cell? ⟨g2, 0, none⟩ = some (.string ⟨nm.toArray⟩) ∧ y.cell? ⟨g2, 1, none⟩ = some (.string ⟨tx.toArray⟩) ∧ Ext Wf y) := fun x A5 c5 hb1 ⟨h0, h1, hE⟩ =>
        (putText_any A5 L5.length c5 L5 tx x rfl hb1.2.cells hb1.nil_ (by omega) (by omega)).mono fun e y hy => by
          obtain ⟨A2, c2, he, hb2, hEy⟩ := NewB.own hy (hEb.trans hE).size
          rw [← hL6] at he hb2
          exact ⟨A2, c2, he, hb2, hEy.cell h0, hEy.cell h1, hE.trans hEy⟩
      have hi0 : (0 : Int) ≤ i := by omega
      have hi1 : (i : Int) < m := by omega
      have hEwf := hide (hE.out.trans hEf)
      replace hp1 := hide hp1
      replace hp2 := hide hp2
      replace hT1 := hide hT1
      replace hg2 := hide hg2
      replace hLl := hide hLl
      replace hWf := hide hWf
      clear hf hL5 hL6 htk ht1 ht2 hrf hEb hb4f
      go_wp2_with fail
      rw [← hWf.out, ← hg2.out]
      refine wp_region_held_drew (S := fun x => x.cell? ⟨g2, 0, none⟩ = some (.string ⟨nm.toArray⟩) ∧ x.cell? ⟨g2, 1, none⟩ = some (.string ⟨tx.toArray⟩) ∧ Ext Wf x) (by kernel_rfl) hT1.out (fun hHeld => ?_)
      refine wpAnyH_take (i := 0) (v := .slice A4 n4 c4) rfl (by kernel_rfl) (by kernel_rfl) (by kernel_rfl) (fun _ _ _ h => h) (Or.inl ⟨by rfl, ?_⟩) (by assumption) ?_
      · intro w' hSw
        (try dsimp only at hSw)
        obtain ⟨z1, z2, z3⟩ := hSw
        go_simp
        try with_reducible rfl
        all_goals omega
      (try simp only [Act.put, List.setIfInBounds_toArray, List.set_cons_zero, List.set_cons_succ, List.getElem_toArray, List.getElem_cons_zero, List.getElem_cons_succ])
      refine wpAnyH_take (i := 1) (v := .pointer (some ⟨g2, 0, none⟩)) rfl (by kernel_rfl) (by kernel_rfl) (by kernel_rfl) (fun _ _ _ h => h) (Or.inl ⟨by rfl, ?_⟩) (by assumption) ?_
      · intro w' hSw
        (try dsimp only at hSw)
        obtain ⟨z1, z2, z3⟩ := hSw
        go_simp
        try with_reducible rfl
        all_goals omega
      (try simp only [Act.put, List.setIfInBounds_toArray, List.set_cons_zero, List.set_cons_succ, List.getElem_toArray, List.getElem_cons_zero, List.getElem_cons_succ])
      refine wpAnyH_take (i := 2) (v := .string ⟨nm.toArray⟩) rfl (by kernel_rfl) (by kernel_rfl) (by kernel_rfl) (fun _ _ _ h => h) (Or.inl ⟨by rfl, ?_⟩) (by assumption) ?_
      · intro w' hSw
        (try dsimp only at hSw)
        obtain ⟨z1, z2, z3⟩ := hSw
        go_simp
        try with_reducible rfl
        all_goals omega
      (try simp only [Act.put, List.setIfInBounds_toArray, List.set_cons_zero, List.set_cons_succ, List.getElem_toArray, List.getElem_cons_zero, List.getElem_cons_succ])
      refine wpAnyH_take (i := 4) (v := .pointer (some ⟨g2, 1, none⟩)) rfl (by kernel_rfl) (by kernel_rfl) (by kernel_rfl) (fun _ _ _ h => h) (Or.inl ⟨by rfl, ?_⟩) (by assumption) ?_
      · intro w' hSw
        (try dsimp only at hSw)
        obtain ⟨z1, z2, z3⟩ := hSw
        go_simp
        try with_reducible rfl
        all_goals omega
      (try simp only [Act.put, List.setIfInBounds_toArray, List.set_cons_zero, List.set_cons_succ, List.getElem_toArray, List.getElem_cons_zero, List.getElem_cons_succ])
      refine wpAnyH_take (i := 5) (v := .string ⟨tx.toArray⟩) rfl (by kernel_rfl) (by kernel_rfl) (by kernel_rfl) (fun _ _ _ h => h) (Or.inl ⟨by rfl, ?_⟩) (by assumption) ?_
      · intro w' hSw
        (try dsimp only at hSw)
        obtain ⟨z1, z2, z3⟩ := hSw
        go_simp
        try with_reducible rfl
        all_goals omega
      (try simp only [Act.put, List.setIfInBounds_toArray, List.set_cons_zero, List.set_cons_succ, List.getElem_toArray, List.getElem_cons_zero, List.getElem_cons_succ])
      refine wpAnyH_ready (rs := [3]) (by kernel_rfl) (by simp) ?_
      refine AllReadyH.cons rfl (fun K hK => ?_) AllReadyH.nil
      (first | go_at_call 147 | (go_simp; go_at_call 147)); (refine (hp1.out _ ‹_›).mono ?_; rintro en w5 ⟨A5, c5, rfl, hb5, hSc⟩)
      refine hK.out _ _ ?_ (fun hHeld1 => ?_)
      · exact hSc
      clear hK K
      (try simp only [Act.put, List.setIfInBounds_toArray, List.set_cons_zero, List.set_cons_succ, List.getElem_toArray, List.getElem_cons_zero, List.getElem_cons_succ])
      refine wpAnyH_ready (rs := [6]) (by kernel_rfl) (by simp) ?_
      refine AllReadyH.cons rfl (fun K hK => ?_) AllReadyH.nil
      (first | go_at_call 147 | (go_simp; go_at_call 147)); (refine (hp2.out _ _ _ hb5 hSc).mono ?_; rintro en w6 ⟨A6, c6, rfl, hb6, hSc2⟩)
      refine hK.out _ _ ?_ (fun hHeld2 => ?_)
      · exact hSc2
      clear hK K
      (try simp only [Act.put, List.setIfInBounds_toArray, List.set_cons_zero, List.set_cons_succ, List.getElem_toArray, List.getElem_cons_zero, List.getElem_cons_succ])
      refine wpAnyH_take (i := 7) (v := .slice A6 L6.length c6) rfl (by kernel_rfl) (by kernel_rfl) (by kernel_rfl) (fun _ _ _ h => h) (Or.inl ⟨by rfl, ?_⟩) (by assumption) ?_
      · intro w' hSw
        (try dsimp only at hSw)
        obtain ⟨z1, z2, z3⟩ := hSw
        go_simp
        try with_reducible rfl
        all_goals omega
      (try simp only [Act.put, List.setIfInBounds_toArray, List.set_cons_zero, List.set_cons_succ, List.getElem_toArray, List.getElem_cons_zero, List.getElem_cons_succ])
      refine wpAnyH_done (by kernel_rfl) ?_ _
      have hE6 := hide (hEwf.out.trans hSc2.2.2)
      replace hb6 := hide hb6
      clear hHeld hHeld1 hHeld2 hSc hSc2 hb5
      go_wp2_with fail
      go_roundw
      case rel => exact ⟨i + 1, L6.length, c6, A6, L6, by go_num, rfl, by omega, by omega, hL62, hb6, hE6⟩
      case measure => simp [intOf]; omega
    · obtain rfl : i = m := by omega
      obtain ⟨hbl, hbb⟩ := hb4.out
      have hEfin := hide ((hEW.trans hEW4.out).trans hE.out)
      have hfin : NewB w (L2 ++ putFs (fs.take i)) (.returned (.slice A4 n4 c4)) wr := ⟨A4, c4, by rw [← hL.out, hbl], by rw [← hL.out, ← hbl]; exact hbb, hEfin.out⟩
      replace hfin := hide hfin
      clear hbb hbl
      go_wp2_with fail
      go_ret
      exact hfin.out
end
end Go.Proofs.YtkdcnhnaiknaaaaGreat
