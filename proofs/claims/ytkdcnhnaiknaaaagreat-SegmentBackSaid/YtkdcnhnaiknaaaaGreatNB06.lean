/- loggiaref02: Bytes, Zigzag, Int, All. -/
import Derived.Test.YtkdcnhnaiknaaaaGreatNB05
import Derived.Deep.QuietTactic
import Derived.BigQuiet
import Derived.Test.YtkdcnhnaiknaaaaGreatNB02
import Derived.Lib.AppendZeros
import Derived.Test.YtkdcnhnaiknaaaaGreatNB04
set_option linter.unusedSimpArgs false
set_option linter.unusedVariables false
namespace Go.Proofs.YtkdcnhnaiknaaaaGreat
open Go.RowKit

theorem buf_new (w : World) (us : List Value) (t : TypeId) (h : us.length ≤ 9223372036854775807) : Buf (w.alloc (.cells us.toArray t)) w.heap.size t (some ⟨w.heap.size, 0, none⟩) us.length us.length us :=
  ⟨rfl, Nat.le_refl _, .inr ⟨w.heap.size, us.toArray, rfl, Nat.le_refl _, heap_alloc_new w _, by simp, by simp⟩⟩
theorem newB_one (w : World) {k : Nat} (hk : k < 256) : NewB w [UInt8.ofNat k] (.returned (.slice (some ⟨w.heap.size, 0, none⟩) 1 1)) (w.alloc (.cells #[.int .u8 (k : Int)] 5)) := by
  have h := snoc_B8 [] hk
  rw [List.nil_append] at h
  refine ⟨_, _, rfl, ?_, (Ext.refl w).alloc _⟩
  rw [h]
  exact buf_new w [.int .u8 (k : Int)] 5 (by simp)
set_option maxRecDepth 100000 in
set_option maxHeartbeats 1000000 in
theorem rbytes_any (k : Nat) : ∀ (n : Nat) (w : World), n < 128 ^ (k + 1) → n < 18446744073709551616 → Calls Tryz.prog 161 #[.int .u64 n] w fun e w' => NewB w (vb n) e w' := by
  induction k with
  | zero =>
    intro n w h1 h2
    have h3 : n < 128 := by simpa using h1
    rw [vb_lt h3]
    clear h1
    go_enter Tryz.func161, Tryz.ntmps161
    go_wp2_with fail
    go_ret
    exact newB_one w (by omega)
  | succ k ih =>
    intro n w h1 h2
    by_cases h3 : n < 128
    · rw [vb_lt h3]
      clear h1 ih
      go_enter Tryz.func161, Tryz.ntmps161
      go_wp2_with fail
      go_ret
      exact newB_one w (by omega)
    · obtain ⟨q, hq⟩ : ∃ q, q = n % 128 + 128 := ⟨_, rfl⟩
      obtain ⟨m, hm⟩ : ∃ m, m = n / 128 := ⟨_, rfl⟩
      have hih := ih m (w.alloc (.cells #[.int .u8 (q : Int)] 5)) (by rw [Nat.pow_succ] at h1; omega) (by omega)
      have hb0 := buf_new w [.int .u8 (q : Int)] 5 (by simp)
      have h10 := vb_len10 (n := m) (by omega)
      have hE0 : Ext w (w.alloc (.cells #[.int .u8 (q : Int)] 5)) := (Ext.refl w).alloc _
      have hsn : B8 (UInt8.ofNat q) = .int .u8 (q : Int) := by unfold B8; rw [UInt8.toNat_ofNat', Nat.mod_eq_of_lt (by omega)]
      have hvb := vb_ge h3
      rw [← hq, ← hm] at hvb
      have hv1 : ((n : Int) % 128 + 128) = (q : Int) := by omega
      have hv2 : (n : Int) / 128 = (m : Int) := by omega
      have hq2 : q < 256 := by omega
      clear h1 ih hq hm
      replace hih := hide hih
      replace hb0 := hide hb0
      replace hE0 := hide hE0
      replace hsn := hide hsn
      replace hvb := hide hvb
      go_enter Tryz.func161, Tryz.ntmps161
      go_wp2_with fail
      refine hih.out.mono ?_
      rintro e w1 ⟨A1, c1, rfl, hb1, hE1⟩
      have hb2 := hb0.out.ext hE1
      have hE2 := hE0.out.trans hE1
      have hsz := hE2.size
      go_wp2_with (at_builtin; refine wpList_buf elemB hb2 hb1.cells (.tmp 12) (.tmp 15) rfl rfl rfl rfl rfl (by rw [List.length_map]) (bytes_one _) (by simp; omega) hsz (fun A3 c3 w3 hb3 _ hE3 _ => ?_))
      go_ret
      rw [hvb.out]
      refine ⟨A3, c3, ret_slice (by rw [List.length_cons, Nat.add_comm]), ?_, hE3 w hE2 (Nat.le_refl _)⟩
      have : (UInt8.ofNat q :: vb m).map B8 = [.int .u8 (q : Int)] ++ (vb m).map B8 := by rw [List.map_cons, hsn.out]; rfl
      rw [this, List.length_cons, Nat.add_comm]
      exact hb3
theorem rbytes (n : Nat) (w : World) (h : n < 18446744073709551616) : Calls Tryz.prog 161 #[.int .u64 n] w fun e w' => NewB w (vb n) e w' := rbytes_any 9 n w (by omega) h
set_option maxRecDepth 100000 in
set_option maxHeartbeats 1000000 in
theorem zigzag_any (x : Int) (w : World) (hx : -9223372036854775808 ≤ x) (hx2 : x ≤ 9223372036854775807) : Calls Tryz.prog 166 #[.int .i64 x] w fun e w' => e = .returned (.int .u64 (zig x)) ∧ w' = w := by
  go_enter Tryz.func166, Tryz.ntmps166
  go_wp2_with fail
  all_goals go_ret
  all_goals exact ⟨ret_int (by unfold zig; first | (rw [if_pos (by omega)]; omega) | (rw [if_neg (by omega)]; omega)), rfl⟩
set_option maxRecDepth 100000 in
set_option maxHeartbeats 1000000 in
theorem rint_any (x : Int) (w : World) (hx : -9223372036854775808 ≤ x) (hx2 : x ≤ 9223372036854775807) : Calls Tryz.prog 119 #[.int .i64 x] w fun e w' => NewB w (vb (zig x)) e w' := by
  have hz := hide (fun w => zigzag_any x w hx hx2)
  have hb := hide (fun w => rbytes (zig x) w (zig_lt hx hx2))
  go_enter Tryz.func119, Tryz.ntmps119
  go_wp2_with fail
  refine (hz.out _).mono ?_
  rintro e w1 ⟨rfl, rfl⟩
  go_wp2_with fail
  refine (hb.out _).mono ?_
  rintro e w2 ⟨A, c, rfl, hb2, hE⟩
  go_wp2_with fail
  go_ret
  exact ⟨A, c, rfl, hb2, hE⟩
set_option maxRecDepth 100000 in
set_option maxHeartbeats 1000000 in
theorem rall_any (B : Option Addr) (k c2 : Nat) (xs : List Int) (w : World) (hk : k = xs.length) (hxs : Cells w B (xs.map (Value.int .i64))) (hle : k ≤ 100000000) (hx : ∀ x ∈ xs, -9223372036854775808 ≤ x ∧ x ≤ 9223372036854775807) :
    Calls Tryz.prog 64 #[.slice B k c2] w fun e w' => NewB w (vall xs) e w' := by
  have hlen : ∀ i, (vall (xs.take i)).length ≤ 10 * i := vall_take xs hx
  replace hk := hide hk
  replace hx := hide hx
  replace hlen := hide hlen
  go_enter Tryz.func64, Tryz.ntmps64
  go_wp2_with fail
  go_loopw [3, 4] (fun s3 s4 wr => ∃ (i : Nat) (A2 : Option Addr) (m2 c2 : Nat), s4 = .int .i64 i ∧ i ≤ k ∧ s3 = .slice A2 m2 c2 ∧ Hid (m2 = (vall (xs.take i)).length) ∧ Hid (Buf wr w.heap.size 5 A2 m2 c2 ((vall (xs.take i)).map B8)) ∧ Hid (Ext w wr)) (fun _ s4 _ => k - (intOf s4).toNat)
  case atStart => exact ⟨0, none, 0, 0, rfl, by omega, rfl, hide rfl, hide (Buf.nil _ _ _), hide (Ext.refl w)⟩
  case round =>
    obtain ⟨i, A2, m2, c3, rfl, hi, rfl, hm2, hb, hE⟩ := hrel
    by_cases hik : i < k
    · have hik' : i < xs.length := by rw [← hk.out]; exact hik
      obtain ⟨g, o, rfl, hc⟩ := hxs.at_ (by rw [List.length_map]; omega)
      have hxi := hx.out xs[i] (List.getElem_mem hik')
      have hcell := hE.out.cell (hc i (.int .i64 xs[i]) (by rw [List.getElem?_map, List.getElem?_eq_getElem hik']; rfl))
      have hl10 := hlen.out i
      have hpi := fun w => rint_any xs[i] w hxi.1 hxi.2
      have hnx : vall (xs.take i) ++ vb (zig xs[i]) = vall (xs.take (i + 1)) := by
        rw [List.take_succ_eq_append_getElem hik']
        unfold vall
        rw [List.flatMap_append]
        simp
      have hvz := vb_len10 (zig_lt hxi.1 hxi.2)
      have hm3 : m2 ≤ 10 * i := by rw [hm2.out]; exact hl10
      obtain ⟨X, hX⟩ : ∃ X, X = xs[i] := ⟨_, rfl⟩
      rw [← hX] at hcell hpi hxi hvz hnx
      replace hpi := hide hpi
      replace hnx := hide hnx
      clear hX hc hl10
      go_wp2_with fail
      refine (hpi.out _).mono ?_
      rintro e w3 ⟨A3, c4, rfl, hb3, hE3⟩
      have hb2 := hb.out.ext hE3
      have hE4 := hE.out.trans hE3
      have hsz := hE4.size
      go_wp2_with (at_builtin; refine wpList_buf elemB hb2 hb3.cells (.tmp 11) (.tmp 16) rfl rfl rfl rfl rfl (by rw [List.length_map]) (bytes_one _) (by omega) hsz (fun A5 c5 w5 hb5 _ hE5 _ => ?_))
      go_roundw
      case rel => exact ⟨i + 1, A5, _, c5, by go_num, by omega, rfl, hide (by rw [← hnx.out, List.length_append, hm2.out]), hide (by rw [← hnx.out, List.map_append]; exact hb5), hide (hE5 w hE4 (Nat.le_refl _))⟩
      case measure => simp [intOf]; omega
    · have hik2 : i = k := by omega
      have htk : xs.take i = xs := List.take_of_length_le (by rw [hik2, hk.out]; exact Nat.le_refl _)
      rw [htk] at hb hm2
      clear htk hik2
      go_wp2_with fail
      go_ret
      exact ⟨A2, c3, by rw [← hm2.out]; rfl, by rw [← hm2.out]; exact hb.out, hE.out⟩
end Go.Proofs.YtkdcnhnaiknaaaaGreat

/- loggia/varint: Get. -/
namespace Go.Proofs.YtkdcnhnaiknaaaaGreat
open Go.RowKit

/-- A slice of bytes that may be read. -/
structure In8 (w : World) (A : Option Addr) (n c : Nat) (l : List UInt8) : Prop where
  len : n = l.length
  bytes : Bs w A l
  cap : n ≤ c
  nil_ : A = none → c = 0
  at_ : ∀ a, A = some a → a.spot = Option.none ∧ a.block < w.heap.size
theorem In8.ext {w w1 : World} {A : Option Addr} {n c : Nat} {l : List UInt8} (h : In8 w A n c l) (hE : Ext w w1) : In8 w1 A n c l :=
  ⟨h.len, h.bytes.ext hE, h.cap, h.nil_, fun a ha => ⟨(h.at_ a ha).1, Nat.lt_of_lt_of_le (h.at_ a ha).2 hE.size⟩⟩
theorem Buf.in8 {w : World} {base : Nat} {e : TypeId} {A : Option Addr} {n c : Nat} {l : List UInt8} (h : Buf w base e A n c (l.map B8)) : In8 w A n c l := by
  refine ⟨by have := h.1; simpa using this.symm, h.cells, h.2.1, h.none_cap, fun a ha => ⟨?_, h.lt a ha⟩⟩
  rcases h.2.2 with ⟨h0, _⟩ | ⟨g, cur, hA, _⟩
  · rw [h0] at ha; cases ha
  · rw [hA] at ha; cases ha; rfl
def comb (i acc : Nat) : Except Nat (Nat × List UInt8) → Except Nat (Nat × List UInt8)
  | .ok (n, r) => .ok (acc + 128 ^ i * n, r)
  | .error e => .error e
theorem comb_zero (x : Except Nat (Nat × List UInt8)) : comb 0 0 x = x := by
  unfold comb
  split <;> simp
def Got (w0 w : World) (res : Except Nat (Nat × List UInt8)) (e : Ending) (w' : World) : Prop := Ext w w' ∧ match res with
  | .ok (v, r) => ∃ A c, e = .returned (.tuple #[.int .u64 v, .slice A r.length c, .int .i64 0]) ∧ In8 w0 A r.length c r
  | .error k => e = .returned (.tuple #[.int .u64 0, .slice none 0 0, .int .i64 k])
set_option maxRecDepth 100000 in
theorem run_head1 {n c k : Nat} {A : Option Addr} (h : k ≤ c) (hA : ∀ a, A = some a → a.spot = none) (W : World) :
    (Instr.sliceAt 25 (.slice A n c) none (some (.int .i64 k)) none).run Tryz.prog W = .ok (.slice A k c) W := by
  have ht := Tryz.underlying25
  have he : Tryz.prog.elem 25 = 5 := by unfold Program.elem; rw [ht]
  have hs : ∀ W : World, (sizeOf 5).run Tryz.prog W = .ok 1 W := fun W => by kernel_rfl
  rw [run_sliceAt_slice W _ _ _ _ _ (by rw [ht, he]), run_slice_h W _ A n c (by rw [ht, he]) .i64 k (by omega) (by omega), he, hs]
  simp only [Result.andThen_ok]
  congr 1
  unfold sliced
  have : (if c = 0 then A else A.map fun x => x.add (0 * 1)) = A := by
    cases A with
    | none => simp
    | some a =>
      obtain ⟨b, o, sp⟩ := a
      obtain rfl : sp = none := hA _ rfl
      simp [Addr.add_lit]
  rw [this]
  simp
set_option maxRecDepth 100000 in
theorem In8.from_ {w : World} {A : Option Addr} {n c : Nat} {l : List UInt8} (h : In8 w A n c l) {fr : Nat} (hf : fr ≤ n) {z : Int} (hz : z = (fr : Int)) :
    ∃ A' c', (∀ W : World, (Instr.sliceAt 25 (.slice A n c) (some (.int .i64 z)) none none).run Tryz.prog W = .ok (.slice A' (n - fr) c') W) ∧ In8 w A' (n - fr) c' (l.drop fr) := by
  subst hz
  have ht := Tryz.underlying25
  have he : Tryz.prog.elem 25 = 5 := by unfold Program.elem; rw [ht]
  have hs : ∀ W : World, (sizeOf 5).run Tryz.prog W = .ok 1 W := fun W => by kernel_rfl
  have hrun : ∀ W : World, (Instr.sliceAt 25 (.slice A n c) (some (.int .i64 fr)) none none).run Tryz.prog W = .ok (sliced A fr n c 1) W := by
    intro W
    rw [run_sliceAt_slice W _ _ _ _ _ (by rw [ht, he]), run_slice_l W _ A n c (by rw [ht, he]) .i64 fr (by omega) (by omega), he, hs]
    simp only [Result.andThen_ok]
    congr 1
  have hcap := h.cap
  refine ⟨_, _, hrun, by rw [List.length_drop, ← h.len], ?_, by omega, ?_, ?_⟩
  · rcases h.bytes with hb | ⟨g, o, rfl, hb⟩
    · left
      have : l = [] := by simpa using hb
      rw [this]
      simp
    · by_cases hcf : c = fr
      · left
        have := h.len
        rw [List.drop_of_length_le (by omega)]
        rfl
      · refine .inr ⟨g, o + fr, by rw [if_neg hcf]; simp [Addr.add_lit], fun i v hv => ?_⟩
        rw [Nat.add_assoc]
        refine hb (fr + i) v ?_
        rw [List.getElem?_map] at hv ⊢
        rw [List.getElem?_drop] at hv
        exact hv
  · intro hn
    cases A with
    | none => have := h.nil_ rfl; omega
    | some a => split at hn <;> cases hn
  · intro a ha
    cases A with
    | none => split at ha <;> cases ha
    | some b =>
      obtain ⟨h1, h2⟩ := h.at_ b rfl
      obtain ⟨b, o, sp⟩ := b
      obtain rfl : sp = Option.none := h1
      split at ha
      · cases ha; exact ⟨rfl, h2⟩
      · cases ha
        show (Addr.add ⟨b, o, none⟩ (fr * 1)).spot = none ∧ (Addr.add ⟨b, o, none⟩ (fr * 1)).block < w.heap.size
        rw [Addr.add_lit]
        exact ⟨rfl, h2⟩
theorem getV_get {l : List UInt8} {i : Nat} {x : UInt8} (h : l[i]? = some x) (h10 : i < 10) (acc : Nat) : comb i acc (getV i (l.drop i)) = if (i = 9 ∧ 1 < x.toNat) ∨ (0 < i ∧ x.toNat = 0) then .error 20 else
    if x.toNat < 128 then .ok (acc + 128 ^ i * x.toNat, l.drop (i + 1)) else comb (i + 1) (acc + 128 ^ i * (x.toNat - 128)) (getV (i + 1) (l.drop (i + 1))) := by
  have hi := (List.getElem?_eq_some_iff.1 h).1
  have h2 := (List.getElem?_eq_some_iff.1 h).2
  rw [List.drop_eq_getElem_cons hi, h2]
  conv => lhs; unfold getV
  rw [if_neg (by omega)]
  by_cases hb : (i = 9 ∧ 1 < x.toNat) ∨ (0 < i ∧ x.toNat = 0)
  · rw [if_pos hb, if_pos hb]; rfl
  · rw [if_neg hb, if_neg hb]
    by_cases h128 : x.toNat < 128
    · rw [if_pos h128, if_pos h128]; rfl
    · rw [if_neg h128, if_neg h128]
      unfold comb
      cases getV (i + 1) (l.drop (i + 1)) with
      | error e => rfl
      | ok p =>
        obtain ⟨n, r⟩ := p
        simp only
        rw [Nat.mul_add, Nat.pow_succ, Nat.add_assoc, Nat.mul_assoc]
theorem getV_end {l : List UInt8} {i : Nat} (h : l.length ≤ i ∨ 10 ≤ i) (acc : Nat) : comb i acc (getV i (l.drop i)) = .error 6 := by
  rcases h with h | h
  · rw [List.drop_of_length_le h]; rfl
  · cases l.drop i with
    | nil => rfl
    | cons x r => unfold getV; rw [if_pos h]; rfl
theorem or_bits {i acc y : Nat} (hi : i ≤ 9) (ha : acc < 128 ^ i) (hy : y < 128) (h9 : i = 9 → y ≤ 1) : bits .or .u64 (acc : Int) (IntKind.u64.wrap ((y : Int) * 2 ^ (7 * i))) = ((acc + 128 ^ i * y : Nat) : Int) := by
  have e : ∀ y : Int, IntKind.u64.wrap y = y % 18446744073709551616 := fun y => by simp [IntKind.wrap, IntKind.bits, IntKind.signed]
  have hp : (128 : Nat) ^ i = 2 ^ (7 * i) := by rw [show (128 : Nat) = 2 ^ 7 from rfl, ← Nat.pow_mul]
  rw [hp] at ha ⊢
  have hlt : y * 2 ^ (7 * i) < 18446744073709551616 := by
    rcases Nat.lt_or_ge i 9 with h | h
    · have h1 : 2 ^ (7 * i) ≤ 2 ^ 56 := Nat.pow_le_pow_right (by omega) (by omega)
      have h2 : y * 2 ^ (7 * i) ≤ 127 * 2 ^ 56 := Nat.mul_le_mul (by omega) h1
      omega
    · obtain rfl : i = 9 := by omega
      have := h9 rfl
      have h2 : y * 2 ^ (7 * 9) ≤ 1 * 2 ^ 63 := Nat.mul_le_mul this (Nat.le_refl _)
      omega
  have ha2 : acc < 18446744073709551616 := Nat.lt_of_lt_of_le ha (by
    have : 2 ^ (7 * i) ≤ 2 ^ 63 := Nat.pow_le_pow_right (by omega) (by omega)
    omega)
  have hc : IntKind.u64.wrap ((y : Int) * 2 ^ (7 * i)) = ((y * 2 ^ (7 * i) : Nat) : Int) := by
    rw [e]
    have : (y : Int) * 2 ^ (7 * i) = ((y * 2 ^ (7 * i) : Nat) : Int) := by simp
    rw [this]
    omega
  rw [hc, u64_or_nat _ _ ha2 hlt]
  have := Nat.shiftLeft_add_eq_or_of_lt ha y
  rw [Nat.shiftLeft_eq] at this
  rw [Nat.or_comm, ← this, Nat.add_comm, Nat.mul_comm y]
theorem acc_lt {i acc y : Nat} (ha : acc < 128 ^ i) (hy : y < 128) : acc + 128 ^ i * y < 128 ^ (i + 1) := by
  have h := Nat.mul_le_mul_left (128 ^ i) (show y + 1 ≤ 128 by omega)
  rw [Nat.mul_add, Nat.mul_one] at h
  rw [Nat.pow_succ]
  omega
theorem got_ok {w0 w w' : World} {res : Except Nat (Nat × List UInt8)} {v : Nat} {r : List UInt8} {A : Option Addr} {m c : Nat} {E : Int} (hr : res = .ok (v, r)) (hE : Ext w w') (hi : In8 w0 A m c r) (hv : E = (v : Int)) : Got w0 w res (.returned (.tuple #[.int .u64 E, .slice A m c, .int .i64 0])) w' := by
  subst hr hv
  have := hi.len
  subst this
  exact ⟨hE, A, c, rfl, hi⟩
theorem got_err {w0 w w' : World} {res : Except Nat (Nat × List UInt8)} {k : Nat} (hr : res = .error k) (hE : Ext w w') : Got w0 w res (.returned (.tuple #[.int .u64 0, .slice none 0 0, .int .i64 k])) w' := by
  subst hr
  exact ⟨hE, rfl⟩
theorem and_low {x : Nat} (h : x < 256) : bits .and .u8 (x : Int) 127 = ((x % 128 : Nat) : Int) := by
  have hf : ∀ k : Fin 256, k.val &&& 127 = k.val % 128 := by decide +kernel
  have hk := hf ⟨x, h⟩
  simp only at hk
  rw [show (127 : Int) = ((127 : Nat) : Int) from rfl, u8_and_nat _ _ (by omega) (by omega), hk]
set_option maxRecDepth 100000 in
set_option maxHeartbeats 2000000 in
theorem get_any (A : Option Addr) (n c : Nat) (l : List UInt8) (w0 w : World) (h : In8 w0 A n c l) (hw : Ext w0 w) (hle : n ≤ 1000000000) :
    Calls Tryz.prog 94 #[.slice A n c] w fun e w' => Got w0 w (getV 0 l) e w' := by
  obtain ⟨k, hk⟩ : ∃ k : Nat, (k : Int) = min (n : Int) 10 := ⟨min n 10, by omega⟩
  have hcap := h.cap
  have hmin := fun (W : World) => run_min2 (P := Tryz.prog) #[3, 3] 3 hk W
  have hhd := fun (W : World) => run_head1 (n := n) (c := c) (k := k) (A := A) (by omega) (fun a ha => (h.at_ a ha).1) W
  have hk1 : k ≤ 10 := by omega
  have hk2 : k ≤ n := by omega
  have hk3 : n ≤ k ∨ 10 ≤ k := by omega
  replace hk := hide hk
  replace hk3 := hide hk3
  replace h := hide h
  go_enter Tryz.func94, Tryz.ntmps94
  go_wp2_with fail
  go_step3
  go_wp2_with fail
  go_step3
  go_wp2_with fail
  go_loopw [2, 4, 13] (fun s2 s4 s13 wr => ∃ (i acc : Nat), s13 = .int .i64 i ∧ s2 = .int .u64 acc ∧ s4 = .int .i64 6 ∧ i ≤ k ∧ acc < 128 ^ i ∧ Hid (getV 0 l = comb i acc (getV i (l.drop i))) ∧ Hid (Ext w wr)) (fun _ _ s13 _ => k - (intOf s13).toNat)
  case atStart => exact ⟨0, 0, rfl, rfl, rfl, by omega, by simp, hide (by rw [comb_zero]; rfl), hide (Ext.refl w)⟩
  case round =>
    obtain ⟨i, acc, rfl, rfl, rfl, hi, hacc, hg, hE⟩ := hrel
    by_cases hik : i < k
    · have hil : i < l.length := by rw [← h.out.len]; omega
      obtain ⟨g, o, rfl, hc⟩ := h.out.bytes.at_ (by omega)
      have hcell := (hw.trans hE.out).cell (hc i hil)
      have hgg := getV_get (List.getElem?_eq_getElem hil) (by omega) acc
      rw [← hg.out] at hgg
      obtain ⟨x, hx⟩ : ∃ x, x = l[i].toNat := ⟨_, rfl⟩
      have hx256 : x < 256 := by rw [hx]; exact l[i].toNat_lt
      rw [← hx] at hcell hgg
      replace hx := hide hx
      replace hgg := hide hgg
      have hand := and_low hx256
      obtain ⟨y, hy⟩ : ∃ y, y = x % 128 := ⟨_, rfl⟩
      rw [← hy] at hand
      replace hy := hide hy
      obtain ⟨A', c', hrun, hin⟩ := h.out.from_ (fr := i + 1) (by omega) (z := (i : Int) + 1) (by omega)
      have hor := fun h9 : i = 9 → y ≤ 1 => or_bits (i := i) (acc := acc) (y := y) (by omega) hacc (by have := hy.out; omega) h9
      replace hor := hide hor
      have hin' := hide hin
      clear hc hg hin
      have hnx := fun (h1 : ¬((i = 9 ∧ 1 < x) ∨ (0 < i ∧ x = 0))) (h2 : 128 ≤ x) => hgg.out.trans ((if_neg h1).trans (if_neg (by omega)))
      have hok := fun (h1 : ¬((i = 9 ∧ 1 < x) ∨ (0 < i ∧ x = 0))) (h2 : x < 128) => hgg.out.trans ((if_neg h1).trans (if_pos h2))
      have hbad := fun (h1 : (i = 9 ∧ 1 < x) ∨ (0 < i ∧ x = 0)) => hgg.out.trans (if_pos h1)
      have hyy : y < 128 := by have := hy.out; omega
      have hyx : x < 128 → y = x := fun h => by have := hy.out; omega
      have hyx2 : 128 ≤ x → y = x - 128 := fun h => by have := hy.out; omega
      have hz : ((x : Int) == 0) = true → x = 0 := fun h => by simp at h; omega
      have hz2 : ((x : Int) == 0) = false → x ≠ 0 := fun h => by simp at h; omega
      replace hnx := hide hnx
      replace hok := hide hok
      replace hbad := hide hbad
      replace hyx := hide hyx
      replace hyx2 := hide hyx2
      replace hz := hide hz
      replace hz2 := hide hz2
      by_cases h9 : i = 9
      · subst h9
        have hor9 : y ≤ 1 → bits .or .u64 (acc : Int) (IntKind.u64.wrap ((y : Int) * 9223372036854775808)) = ((acc + 128 ^ 9 * y : Nat) : Int) := fun hy1 => by
          have e : (2 : Int) ^ (7 * 9) = 9223372036854775808 := by simp
          have := hor.out fun _ => hy1
          rw [e] at this
          exact this
        replace hor9 := hide hor9
        obtain ⟨A9, c9, hrun9, hin9⟩ := h.out.from_ (fr := 10) (by omega) (z := 10) rfl
        replace hin9 := hide hin9
        clear hrun hin'
        go_wp2_with fail
        · go_ret3
          exact got_err (hbad.out (.inl ⟨by trivial, by omega⟩)) hE.out
        · go_ret3
          exact got_err (hbad.out (.inr ⟨by omega, hz.out (by assumption)⟩)) hE.out
        · refine wp_region_text follows (by kernel_rfl) (by kernel_rfl) (fun K hK => ?_)
          go_wp2_with fail
          refine ⟨by kernel_rfl, ?_⟩
          go_wp2_with fail
          go_ret3
          have hx1 : x ≤ 1 := by omega
          exact got_ok (hok.out (by have := hz2.out (by assumption); omega) (by omega)) hE.out.drew hin9.out (by rw [hor9.out (by have := hyx.out (by omega); omega), hyx.out (by omega)])
      · go_wp2_with fail
        · rw [Exit.noGoto_ret]
          go_ret3
          exact got_err (hbad.out (.inr ⟨by omega, hz.out (by assumption)⟩)) hE.out
        · refine wp_region_text follows (by kernel_rfl) (by kernel_rfl) (fun K hK => ?_)
          go_wp2_with fail
          refine ⟨by kernel_rfl, ?_⟩
          go_wp2_with fail
          rw [Exit.noGoto_ret]
          go_ret3
          exact got_ok (hok.out (by have := hz2.out (by assumption); omega) (by omega)) hE.out.drew hin'.out (by rw [hor.out (by omega), hyx.out (by omega)])
        · go_roundw
          case rel => exact ⟨i + 1, acc + 128 ^ i * y, by go_num, by rw [hor.out (by omega)], rfl, by omega, acc_lt hacc hyy, hide (by rw [hnx.out (by omega) (by omega), hyx2.out (by omega)]), hE⟩
          case measure => simp [intOf]; omega
        · refine wp_region_text follows (by kernel_rfl) (by kernel_rfl) (fun K hK => ?_)
          go_wp2_with fail
          refine ⟨by kernel_rfl, ?_⟩
          go_wp2_with fail
          rw [Exit.noGoto_ret]
          go_ret3
          exact got_ok (hok.out (by omega) (by omega)) hE.out.drew hin'.out (by rw [hor.out (by omega), hyx.out (by omega)])
        · go_roundw
          case rel => exact ⟨i + 1, acc + 128 ^ i * y, by go_num, by rw [hor.out (by omega)], rfl, by omega, acc_lt hacc hyy, hide (by rw [hnx.out (by omega) (by omega), hyx2.out (by omega)]), hE⟩
          case measure => simp [intOf]; omega
    · have hii : i = k := by omega
      have hge := getV_end (l := l) (i := i) (by rw [← h.out.len, hii]; exact hk3.out) acc
      rw [← hg.out] at hge
      replace hge := hide hge
      replace hii := hide hii
      go_wp2_with fail
      rw [Exit.noGoto_ret]
      go_ret3
      exact got_err hge.out hE.out
end Go.Proofs.YtkdcnhnaiknaaaaGreat

/- A slice of bytes, cut by an index of any kind. -/
namespace Go.Proofs.YtkdcnhnaiknaaaaGreat
open Go.RowKit

set_option maxRecDepth 100000 in
theorem run_headk (kk : IntKind) {n c k : Nat} {A : Option Addr} (h : k ≤ c) (hA : ∀ a, A = some a → a.spot = none) (W : World) :
    (Instr.sliceAt 25 (.slice A n c) none (some (.int kk k)) none).run Tryz.prog W = .ok (.slice A k c) W := by
  have ht := Tryz.underlying25
  have he : Tryz.prog.elem 25 = 5 := by unfold Program.elem; rw [ht]
  have hs : ∀ W : World, (sizeOf 5).run Tryz.prog W = .ok 1 W := fun W => by kernel_rfl
  rw [run_sliceAt_slice W _ _ _ _ _ (by rw [ht, he]), run_slice_h W _ A n c (by rw [ht, he]) kk k (by omega) (by omega), he, hs]
  simp only [Result.andThen_ok]
  congr 1
  unfold sliced
  have : (if c = 0 then A else A.map fun x => x.add (0 * 1)) = A := by
    cases A with
    | none => simp
    | some a =>
      obtain ⟨b, o, sp⟩ := a
      obtain rfl : sp = none := hA _ rfl
      simp [Addr.add_lit]
  rw [this]
  simp
set_option maxRecDepth 100000 in
theorem In8.fromk (kk : IntKind) {w : World} {A : Option Addr} {n c : Nat} {l : List UInt8} (h : In8 w A n c l) {fr : Nat} (hf : fr ≤ n) {z : Int} (hz : z = (fr : Int)) :
    ∃ A' c', (∀ W : World, (Instr.sliceAt 25 (.slice A n c) (some (.int kk z)) none none).run Tryz.prog W = .ok (.slice A' (n - fr) c') W) ∧ In8 w A' (n - fr) c' (l.drop fr) := by
  subst hz
  have ht := Tryz.underlying25
  have he : Tryz.prog.elem 25 = 5 := by unfold Program.elem; rw [ht]
  have hs : ∀ W : World, (sizeOf 5).run Tryz.prog W = .ok 1 W := fun W => by kernel_rfl
  have hrun : ∀ W : World, (Instr.sliceAt 25 (.slice A n c) (some (.int kk fr)) none none).run Tryz.prog W = .ok (sliced A fr n c 1) W := by
    intro W
    rw [run_sliceAt_slice W _ _ _ _ _ (by rw [ht, he]), run_slice_l W _ A n c (by rw [ht, he]) kk fr (by omega) (by omega), he, hs]
    simp only [Result.andThen_ok]
    congr 1
  have hcap := h.cap
  refine ⟨_, _, hrun, by rw [List.length_drop, ← h.len], ?_, by omega, ?_, ?_⟩
  · rcases h.bytes with hb | ⟨g, o, rfl, hb⟩
    · left
      have : l = [] := by simpa using hb
      rw [this]
      simp
    · by_cases hcf : c = fr
      · left
        have := h.len
        rw [List.drop_of_length_le (by omega)]
        rfl
      · refine .inr ⟨g, o + fr, by rw [if_neg hcf]; simp [Addr.add_lit], fun i v hv => ?_⟩
        rw [Nat.add_assoc]
        refine hb (fr + i) v ?_
        rw [List.getElem?_map] at hv ⊢
        rw [List.getElem?_drop] at hv
        exact hv
  · intro hn
    cases A with
    | none => have := h.nil_ rfl; omega
    | some a => split at hn <;> cases hn
  · intro a ha
    cases A with
    | none => split at ha <;> cases ha
    | some b =>
      obtain ⟨h1, h2⟩ := h.at_ b rfl
      obtain ⟨b, o, sp⟩ := b
      obtain rfl : sp = Option.none := h1
      split at ha
      · cases ha; exact ⟨rfl, h2⟩
      · cases ha
        show (Addr.add ⟨b, o, none⟩ (fr * 1)).spot = none ∧ (Addr.add ⟨b, o, none⟩ (fr * 1)).block < w.heap.size
        rw [Addr.add_lit]
        exact ⟨rfl, h2⟩
theorem In8.headk (kk : IntKind) {w : World} {A : Option Addr} {n c : Nat} {l : List UInt8} (h : In8 w A n c l) {k : Nat} (hk : k ≤ n) {z : Int} (hz : z = (k : Int)) :
    (∀ W : World, (Instr.sliceAt 25 (.slice A n c) none (some (.int kk z)) none).run Tryz.prog W = .ok (.slice A k c) W) ∧ In8 w A k c (l.take k) := by
  subst hz
  refine ⟨fun W => run_headk kk (by have := h.cap; omega) (fun a ha => (h.at_ a ha).1) W, by rw [List.length_take, ← h.len]; omega, ?_, by have := h.cap; omega, h.nil_, h.at_⟩
  rcases h.bytes with hb | ⟨g, o, rfl, hb⟩
  · left
    have : l = [] := by simpa using hb
    rw [this]
    simp
  · refine .inr ⟨g, o, rfl, fun i v hv => hb i v ?_⟩
    rw [List.getElem?_map] at hv ⊢
    rw [List.getElem?_take] at hv
    split at hv
    · exact hv
    · cases hv
set_option maxRecDepth 100000 in
theorem In8.subk (kk k2 : IntKind) {w : World} {A : Option Addr} {n c : Nat} {l : List UInt8} (h : In8 w A n c l) {fr k : Nat} (hf : fr + k ≤ n) {z0 z : Int} (hz0 : z0 = (fr : Int)) (hz : z = (fr : Int) + (k : Int)) :
    ∃ A' c', (∀ W : World, (Instr.sliceAt 25 (.slice A n c) (some (.int kk z0)) (some (.int k2 z)) none).run Tryz.prog W = .ok (.slice A' k c') W) ∧ In8 w A' k c' ((l.drop fr).take k) := by
  subst hz0
  subst hz
  have ht := Tryz.underlying25
  have he : Tryz.prog.elem 25 = 5 := by unfold Program.elem; rw [ht]
  have hs : ∀ W : World, (sizeOf 5).run Tryz.prog W = .ok 1 W := fun W => by kernel_rfl
  have hcap := h.cap
  have hrun : ∀ W : World, (Instr.sliceAt 25 (.slice A n c) (some (.int kk fr)) (some (.int k2 ((fr : Int) + (k : Int)))) none).run Tryz.prog W = .ok (sliced A fr (fr + k) c 1) W := by
    intro W
    rw [run_sliceAt_slice W _ _ _ _ _ (by rw [ht, he]), run_slice_lh W _ A n c (by rw [ht, he]) kk k2 fr ((fr : Int) + k) (by omega) (by omega) (by omega), he, hs]
    simp only [Result.andThen_ok]
    congr 1
  unfold sliced at hrun
  rw [Nat.add_sub_cancel_left] at hrun
  refine ⟨_, _, hrun, by rw [List.length_take, List.length_drop, ← h.len]; omega, ?_, by omega, ?_, ?_⟩
  · rcases h.bytes with hb | ⟨g, o, rfl, hb⟩
    · left
      have : l = [] := by simpa using hb
      rw [this]
      simp
    · by_cases hcf : c = fr
      · left
        have : k = 0 := by omega
        subst this
        simp
      · refine .inr ⟨g, o + fr, by rw [if_neg hcf]; simp [Addr.add_lit], fun i v hv => ?_⟩
        rw [Nat.add_assoc]
        refine hb (fr + i) v ?_
        rw [List.getElem?_map] at hv ⊢
        rw [List.getElem?_take] at hv
        split at hv
        · rw [List.getElem?_drop] at hv
          exact hv
        · cases hv
  · intro hn
    cases A with
    | none => have := h.nil_ rfl; omega
    | some a => split at hn <;> cases hn
  · intro a ha
    cases A with
    | none => split at ha <;> cases ha
    | some b =>
      obtain ⟨h1, h2⟩ := h.at_ b rfl
      obtain ⟨b, o, sp⟩ := b
      obtain rfl : sp = Option.none := h1
      split at ha
      · cases ha; exact ⟨rfl, h2⟩
      · cases ha
        show (Addr.add ⟨b, o, none⟩ (fr * 1)).spot = none ∧ (Addr.add ⟨b, o, none⟩ (fr * 1)).block < w.heap.size
        rw [Addr.add_lit]
        exact ⟨rfl, h2⟩
end Go.Proofs.YtkdcnhnaiknaaaaGreat

/- The sum of bytes (CRC-32, reflected), plainly. -/
namespace Go.Proofs.YtkdcnhnaiknaaaaGreat

def cstep (y : Nat) : Nat := if y % 2 = 1 then (y / 2) ^^^ 3988292384 else y / 2
def c8 (y : Nat) : Nat := cstep (cstep (cstep (cstep (cstep (cstep (cstep (cstep y)))))))
/-- One byte more. -/
def con (x : Nat) (c : UInt8) : Nat := c8 (x ^^^ c.toNat)
def cnot (x : Nat) : Nat := 4294967295 - x
def cnext (s : Nat) (l : List UInt8) : Nat := cnot (l.foldl con (cnot s))
theorem half_xor (a b : Nat) : (a ^^^ b) / 2 = (a / 2) ^^^ (b / 2) := by
  have := Nat.shiftRight_xor_distrib (a := a) (b := b) (i := 1)
  simpa [Nat.shiftRight_eq_div_pow] using this
theorem odd_xor (a b : Nat) : (a ^^^ b) % 2 = (a % 2) ^^^ (b % 2) := by
  have := Nat.xor_mod_two_pow (a := a) (b := b) (n := 1)
  simpa using this
theorem cstep_xor (a b : Nat) : cstep (a ^^^ b) = cstep a ^^^ cstep b := by
  unfold cstep
  rw [half_xor, odd_xor]
  rcases Nat.mod_two_eq_zero_or_one a with ha | ha <;> rcases Nat.mod_two_eq_zero_or_one b with hb | hb <;> rw [ha, hb]
  · rfl
  · show (a / 2 ^^^ b / 2) ^^^ 3988292384 = (a / 2) ^^^ (b / 2 ^^^ 3988292384)
    rw [Nat.xor_assoc]
  · show (a / 2 ^^^ b / 2) ^^^ 3988292384 = (a / 2 ^^^ 3988292384) ^^^ (b / 2)
    rw [Nat.xor_assoc, Nat.xor_assoc, Nat.xor_comm (b / 2)]
  · show (a / 2 ^^^ b / 2) = (a / 2 ^^^ 3988292384) ^^^ (b / 2 ^^^ 3988292384)
    rw [Nat.xor_assoc, ← Nat.xor_assoc 3988292384, Nat.xor_comm 3988292384 (b / 2), Nat.xor_assoc (b / 2), Nat.xor_self, Nat.xor_zero]
theorem c8_xor (a b : Nat) : c8 (a ^^^ b) = c8 a ^^^ c8 b := by
  unfold c8
  simp only [cstep_xor]
theorem cstep_two (z : Nat) : cstep (z * 2) = z := by
  unfold cstep
  rw [if_neg (by omega)]
  omega
theorem c8_high (z : Nat) : c8 (z * 256) = z := by
  unfold c8
  rw [show z * 256 = z * 2 * 2 * 2 * 2 * 2 * 2 * 2 * 2 by omega]
  simp only [cstep_two]
theorem split_low (y : Nat) : y = (y % 256) ^^^ (y / 256 * 256) := by
  have h : y / 256 * 256 ||| y % 256 = y / 256 * 256 + y % 256 := by
    have := Nat.shiftLeft_add_eq_or_of_lt (b := y % 256) (i := 8) (Nat.mod_lt _ (by decide)) (y / 256)
    rw [Nat.shiftLeft_eq] at this
    exact this.symm
  apply Nat.eq_of_testBit_eq
  intro i
  rw [Nat.testBit_xor]
  have h1 : (y % 256).testBit i = (decide (i < 8) && y.testBit i) := Nat.testBit_mod_two_pow y 8 i
  have h2 : (y / 256 * 256).testBit i = (decide (8 ≤ i) && y.testBit i) := by
    have e : y / 256 * 256 = (y >>> 8) <<< 8 := by rw [Nat.shiftRight_eq_div_pow, Nat.shiftLeft_eq]
    rw [e, Nat.testBit_shiftLeft, Nat.testBit_shiftRight]
    by_cases h8 : 8 ≤ i
    · rw [show 8 + (i - 8) = i by omega]
    · simp [h8]
  rw [h1, h2]
  by_cases h8 : i < 8
  · simp [h8, show ¬ 8 ≤ i by omega]
  · simp [h8, show 8 ≤ i by omega]
/-- By the table. -/
theorem con_table (x : Nat) (c : UInt8) : con x c = c8 ((x ^^^ c.toNat) % 256) ^^^ (x / 256) := by
  unfold con
  have hc : c.toNat / 256 = 0 := by have := c.toNat_lt; omega
  have h := Nat.shiftRight_xor_distrib (a := x) (b := c.toNat) (i := 8)
  rw [Nat.shiftRight_eq_div_pow, Nat.shiftRight_eq_div_pow, Nat.shiftRight_eq_div_pow] at h
  have h2 : (x ^^^ c.toNat) / 256 = x / 256 := by
    have : (2 : Nat) ^ 8 = 256 := rfl
    rw [this, hc, Nat.xor_zero] at h
    exact h
  conv => lhs; rw [split_low (x ^^^ c.toNat)]
  rw [c8_xor, c8_high, h2]
theorem cstep_lt {y : Nat} (h : y < 4294967296) : cstep y < 4294967296 := by
  unfold cstep
  split
  · exact Nat.xor_lt_two_pow (n := 32) (by omega) (by omega)
  · omega
theorem c8_lt {y : Nat} (h : y < 4294967296) : c8 y < 4294967296 := by
  unfold c8
  exact cstep_lt (cstep_lt (cstep_lt (cstep_lt (cstep_lt (cstep_lt (cstep_lt (cstep_lt h)))))))
theorem con_lt {x : Nat} (c : UInt8) (h : x < 4294967296) : con x c < 4294967296 := by
  unfold con
  have := c.toNat_lt
  exact c8_lt (Nat.xor_lt_two_pow (n := 32) (by omega) (by omega))
theorem fold_lt : ∀ (l : List UInt8) {x : Nat}, x < 4294967296 → l.foldl con x < 4294967296
  | [], _, h => h
  | c :: l, _, h => fold_lt l (con_lt c h)
theorem cnext_lt (s : Nat) (l : List UInt8) : cnext s l < 4294967296 := by
  unfold cnext cnot
  omega
theorem cstep_inj {a b : Nat} (ha : a < 4294967296) (hb : b < 4294967296) (h : cstep a = cstep b) : a = b := by
  have top : ∀ z, z < 2147483648 → 2147483648 ≤ z ^^^ 3988292384 := fun z hz => by
    apply Nat.le_of_not_lt
    intro hlt
    have h1 : (z ^^^ 3988292384).testBit 31 = false := Nat.testBit_lt_two_pow hlt
    rw [Nat.testBit_xor, Nat.testBit_lt_two_pow (show z < 2 ^ 31 from hz)] at h1
    revert h1
    decide
  unfold cstep at h
  rcases Nat.mod_two_eq_zero_or_one a with pa | pa <;> rcases Nat.mod_two_eq_zero_or_one b with pb | pb <;> simp only [pa, pb] at h
  · simp at h; omega
  · simp at h; have := top (b / 2) (by omega); omega
  · simp at h; have := top (a / 2) (by omega); omega
  · simp at h
    have h2 := congrArg (· ^^^ 3988292384) h
    simp [Nat.xor_assoc] at h2
    omega
theorem c8_inj {a b : Nat} (ha : a < 4294967296) (hb : b < 4294967296) (h : c8 a = c8 b) : a = b := by
  unfold c8 at h
  have q := @cstep_lt
  refine cstep_inj ha hb (cstep_inj (q ha) (q hb) (cstep_inj (q (q ha)) (q (q hb)) (cstep_inj (q (q (q ha))) (q (q (q hb))) (cstep_inj (q (q (q (q ha)))) (q (q (q (q hb)))) (cstep_inj (q (q (q (q (q ha))))) (q (q (q (q (q hb))))) (cstep_inj (q (q (q (q (q (q ha)))))) (q (q (q (q (q (q hb)))))) (cstep_inj (q (q (q (q (q (q (q ha))))))) (q (q (q (q (q (q (q hb))))))) h)))))))
theorem con_inj_left {a b : Nat} (c : UInt8) (ha : a < 4294967296) (hb : b < 4294967296) (h : con a c = con b c) : a = b := by
  have := c.toNat_lt
  have h1 := c8_inj (Nat.xor_lt_two_pow (n := 32) (by omega) (by omega)) (Nat.xor_lt_two_pow (n := 32) (by omega) (by omega)) h
  have h2 := congrArg (· ^^^ c.toNat) h1
  simpa [Nat.xor_assoc] using h2
theorem con_inj_right {a : Nat} {c d : UInt8} (ha : a < 4294967296) (h : con a c = con a d) : c = d := by
  have := c.toNat_lt
  have := d.toNat_lt
  have h1 := c8_inj (Nat.xor_lt_two_pow (n := 32) (by omega) (by omega)) (Nat.xor_lt_two_pow (n := 32) (by omega) (by omega)) h
  have h2 := congrArg (a ^^^ ·) h1
  simp only [← Nat.xor_assoc, Nat.xor_self, Nat.zero_xor] at h2
  exact UInt8.toNat_inj.1 h2
theorem fold_inj : ∀ (l : List UInt8) {a b : Nat}, a < 4294967296 → b < 4294967296 → l.foldl con a = l.foldl con b → a = b
  | [], _, _, _, _, h => h
  | c :: l, _, _, ha, hb, h => con_inj_left c ha hb (fold_inj l (con_lt c ha) (con_lt c hb) h)
/-- One byte that is another one turns the sum. -/
theorem cnext_one {s : Nat} (p q : List UInt8) {c d : UInt8} (h : cnext s (p ++ c :: q) = cnext s (p ++ d :: q)) : c = d := by
  unfold cnext at h
  have hs : cnot s < 4294967296 := by unfold cnot; omega
  have hp := fold_lt p hs
  rw [List.foldl_append, List.foldl_append, List.foldl_cons, List.foldl_cons] at h
  have h1 := fold_lt q (con_lt c hp)
  have h2 := fold_lt q (con_lt d hp)
  unfold cnot at h h1 h2 hs hp
  have h3 := fold_inj q (con_lt c hp) (con_lt d hp) (by omega)
  exact con_inj_right hp h3
end Go.Proofs.YtkdcnhnaiknaaaaGreat

/- loggia/crc: table, Next; loggiaref03: on, Next, Of. -/
namespace Go.Proofs.YtkdcnhnaiknaaaaGreat
open Go.RowKit

def citer : Nat → Nat → Nat
  | 0, y => y
  | k + 1, y => citer k (cstep y)
theorem citer8 (y : Nat) : c8 y = citer 8 y := rfl
theorem citer_step {z v j : Nat} (h : z = citer (8 - j) v) (hj : j < 8) : z = citer (8 - (j + 1)) (cstep v) := by
  rw [h, show 8 - j = (8 - (j + 1)) + 1 by omega]
  rfl
theorem citer_end {z v j : Nat} (h : z = citer (8 - j) v) (hj : 8 ≤ j) : z = v := by
  rw [h, show 8 - j = 0 by omega]
  rfl
theorem cstep_odd {v : Nat} (h : v % 2 = 1) : cstep v = (v / 2) ^^^ 3988292384 := by unfold cstep; rw [if_pos h]
theorem cstep_even {v : Nat} (h : v % 2 = 0) : cstep v = v / 2 := by unfold cstep; rw [if_neg (by omega)]
theorem xor_poly {d : Nat} (h : d < 4294967296) : bits .xor .u32 (d : Int) 3988292384 = ((d ^^^ 3988292384 : Nat) : Int) := by
  rw [show (3988292384 : Int) = ((3988292384 : Nat) : Int) from rfl, u32_xor_nat _ _ h (by omega)]
set_option maxRecDepth 100000 in
set_option maxHeartbeats 1000000 in
theorem on_any (x c : Nat) (w : World) (hx : x < 4294967296) (hc : c < 256) : Calls Tryz.prog 188 #[.int .u32 x, .int .u8 c] w fun e w' => e = .returned (.int .u32 (c8 (x ^^^ c) : Nat)) ∧ w' = w := by
  have hxor : bits .xor .u32 (x : Int) (c : Int) = ((x ^^^ c : Nat) : Int) := u32_xor_nat _ _ hx (by omega)
  have hlt : x ^^^ c < 4294967296 := Nat.xor_lt_two_pow (n := 32) hx (by omega)
  obtain ⟨y, hy⟩ : ∃ y, y = x ^^^ c := ⟨_, rfl⟩
  rw [← hy] at hxor hlt ⊢
  obtain ⟨z, hz⟩ : ∃ z, z = c8 y := ⟨_, rfl⟩
  rw [← hz]
  rw [citer8] at hz
  replace hz := hide hz
  clear hy
  go_enter Tryz.func188, Tryz.ntmps188
  go_wp2_with fail
  go_loop [0, 5] (fun s0 s5 => ∃ (j v : Nat), s5 = .int .i64 j ∧ j ≤ 8 ∧ s0 = .int .u32 v ∧ v < 4294967296 ∧ Hid (z = citer (8 - j) v)) (fun _ s5 => 8 - (intOf s5).toNat)
  case atStart => exact ⟨0, y, rfl, by omega, rfl, hlt, hz⟩
  case round =>
    obtain ⟨j, v, rfl, hj, rfl, hv, hzv⟩ := hrel
    by_cases hj8 : j < 8
    · have hn := citer_step hzv.out hj8
      have hcl := cstep_lt hv
      replace hn := hide hn
      rcases Nat.mod_two_eq_zero_or_one v with hm | hm
      · have hs := cstep_even hm
        have hm2 : (v : Int) % 2 = 0 := by omega
        rw [hs] at hn hcl
        clear hm hs hzv
        go_wp2_with fail
        go_round
        case rel => exact ⟨j + 1, v / 2, by go_num, by omega, by go_num, hcl, hn⟩
        case measure => simp [intOf]; omega
      · have hs := cstep_odd hm
        have hm2 : (v : Int) % 2 = 1 := by omega
        obtain ⟨d, hd⟩ : ∃ d, d = v / 2 := ⟨_, rfl⟩
        have hdv : (v : Int) / 2 = (d : Int) := by omega
        have hxp := xor_poly (d := d) (by omega)
        rw [hs, ← hd] at hn hcl
        obtain ⟨q, hq⟩ : ∃ q, q = d ^^^ 3988292384 := ⟨_, rfl⟩
        rw [← hq] at hn hcl hxp
        clear hm hs hzv hd hq
        go_wp2_with fail
        go_round
        case rel => exact ⟨j + 1, q, by go_num, by omega, rfl, hcl, hn⟩
        case measure => simp [intOf]; omega
    · have hn := citer_end hzv.out (by omega)
      replace hn := hide hn
      clear hzv
      go_wp2_with fail
      go_ret
      exact ⟨by rw [hn.out]; rfl, rfl⟩
set_option maxRecDepth 100000 in
set_option maxHeartbeats 1000000 in
theorem rnext_any (A : Option Addr) (s n c : Nat) (l : List UInt8) (w0 w : World) (hb : In8 w0 A n c l) (hw : Ext w0 w) (hs : s < 4294967296) (hle : n ≤ 1000000000) :
    Calls Tryz.prog 169 #[.int .u32 s, .slice A n c] w fun e w' => e = .returned (.int .u32 (cnext s l : Nat)) ∧ w' = w := by
  have hnot := bits_not32 s hs
  have hcl : cnot s < 4294967296 := by unfold cnot; omega
  rw [show 4294967295 - s = cnot s from rfl] at hnot
  obtain ⟨y, hy⟩ : ∃ y, y = cnot s := ⟨_, rfl⟩
  rw [← hy] at hnot hcl
  have hr : cnext s l = 4294967295 - l.foldl con y := by unfold cnext; rw [← hy]; rfl
  replace hr := hide hr
  clear hy
  replace hb := hide hb
  go_enter Tryz.func169, Tryz.ntmps169
  go_wp2_with fail
  go_loop [0, 5] (fun s0 s5 => ∃ (i v : Nat), s5 = .int .i64 i ∧ i ≤ n ∧ s0 = .int .u32 v ∧ v < 4294967296 ∧ Hid (l.foldl con y = (l.drop i).foldl con v)) (fun _ s5 => n - (intOf s5).toNat)
  case atStart => exact ⟨0, y, rfl, by omega, rfl, hcl, rfl⟩
  case round =>
    obtain ⟨i, v, rfl, hi, rfl, hv, hf⟩ := hrel
    by_cases hin : i < n
    · have hil : i < l.length := by rw [← hb.out.len]; omega
      obtain ⟨g, o, rfl, hc⟩ := hb.out.bytes.at_ (by omega)
      have hcell := hw.cell (hc i hil)
      have hon := hide (fun w => on_any v l[i].toNat w hv l[i].toNat_lt)
      have hn : l.foldl con y = (l.drop (i + 1)).foldl con (con v l[i]) := by rw [hf.out, List.drop_eq_getElem_cons hil]; rfl
      have hcl2 := con_lt l[i] hv
      unfold con at hn hcl2
      replace hn := hide hn
      clear hc hf
      go_wp2_with fail
      refine (hon.out _).mono ?_
      rintro e w1 ⟨rfl, rfl⟩
      go_wp2_with fail
      go_round
      case rel => exact ⟨i + 1, _, by go_num, by omega, rfl, hcl2, hn⟩
      case measure => simp [intOf]; omega
    · have hf2 : l.foldl con y = v := by rw [hf.out, List.drop_of_length_le (by rw [← hb.out.len]; omega)]; rfl
      have hnv := bits_not32 v hv
      replace hf2 := hide hf2
      clear hf
      go_wp2_with fail
      go_ret
      exact ⟨ret_int (by rw [hr.out, hf2.out]), rfl⟩
set_option maxRecDepth 100000 in
theorem of_any (A : Option Addr) (n c : Nat) (l : List UInt8) (w0 w : World) (h : In8 w0 A n c l) (hw : Ext w0 w) (hle : n ≤ 1000000000) :
    Calls Tryz.prog 124 #[.slice A n c] w fun e w' => e = .returned (.int .u32 (cnext 0 l : Nat)) ∧ w' = w := by
  have hn := hide (rnext_any A 0 n c l w0 w h hw (show 0 < 4294967296 by decide) hle)
  clear h
  go_enter Tryz.func124, Tryz.ntmps124
  go_wp2_with fail
  refine hn.out.mono ?_
  rintro e w1 ⟨rfl, rfl⟩
  go_wp2_with fail
  go_ret
  exact ⟨rfl, rfl⟩
end Go.Proofs.YtkdcnhnaiknaaaaGreat

/- loggia/crc: table, Next. -/
namespace Go.Proofs.YtkdcnhnaiknaaaaGreat
open Go.RowKit

/-- The table, as far as it is filled. -/
def tabA (i : Nat) : Array Value := ((List.range 256).map fun k => if k < i then Value.int .u32 (c8 k : Nat) else .int .u32 0).toArray
theorem tabA_get {i k : Nat} (hk : k < 256) : (tabA i)[k]? = some (if k < i then Value.int .u32 (c8 k : Nat) else .int .u32 0) := by
  unfold tabA
  simp [hk]
theorem tabA_put {i : Nat} (hi : i < 256) : (tabA i).setIfInBounds i (.int .u32 (c8 i : Nat)) = tabA (i + 1) := by
  apply Array.ext_getElem?
  intro k
  rw [Array.getElem?_setIfInBounds]
  by_cases hk : k < 256
  · rw [tabA_get hk, tabA_get hk]
    have hs : i < (tabA i).size := by unfold tabA; simp; omega
    by_cases hik : i = k
    · subst hik
      rw [if_pos rfl, if_pos hs, if_pos (by omega)]
    · rw [if_neg hik]
      by_cases h1 : k < i
      · rw [if_pos h1, if_pos (by omega)]
      · rw [if_neg h1, if_neg (by omega)]
  · have h1 : (tabA i)[k]? = none := by unfold tabA; simp; omega
    have h2 : (tabA (i + 1))[k]? = none := by unfold tabA; simp; omega
    rw [h1, h2, if_neg (by omega)]
set_option maxRecDepth 100000 in
theorem tabA_zero : Tryz.zeroCells286 = tabA 0 := by kernel_rfl
theorem and_one {v : Nat} (h : v < 4294967296) : bits .and .u32 (v : Int) 1 = ((v % 2 : Nat) : Int) := by
  rw [show (1 : Int) = ((1 : Nat) : Int) from rfl, u32_and_nat _ _ h (by omega), Nat.and_one_is_mod]
set_option maxRecDepth 100000 in
set_option maxHeartbeats 2000000 in
theorem table_any (w : World) : Calls Tryz.prog 212 #[] w fun e w' => e = .returned (.pointer (some ⟨w.heap.size, 0, none⟩)) ∧ Row w' w.heap.size 286 (tabA 256) ∧ Ext w w' := by
  have hz : Row (w.alloc (.cells Tryz.zeroCells286 286)) w.heap.size 286 (tabA 0) := by rw [tabA_zero]; exact Row.new w _ _
  have hE0 : Ext w (w.alloc (.cells Tryz.zeroCells286 286)) := (Ext.refl w).alloc _
  replace hz := hide hz
  replace hE0 := hide hE0
  go_enter Tryz.func212, Tryz.ntmps212
  go_wp2_with fail
  go_loopw [2, 3, 4, 5] (fun _ _ _ s5 wr => ∃ (i : Nat), s5 = .int .i64 i ∧ i ≤ 256 ∧ Hid (Row wr w.heap.size 286 (tabA i)) ∧ Hid (Ext w wr)) (fun _ _ _ s5 _ => 256 - (intOf s5).toNat)
  case atStart => exact ⟨0, rfl, by omega, hz, hE0⟩
  case round =>
    obtain ⟨i, rfl, hi, hr, hE⟩ := hrel
    by_cases hin : i < 256
    · obtain ⟨z, hz8⟩ : ∃ z, z = c8 i := ⟨_, rfl⟩
      have hz9 := hide hz8
      rw [citer8] at hz8
      replace hz8 := hide hz8
      obtain ⟨wo, rfl⟩ : ∃ wo : World, wo = wr := ⟨_, rfl⟩
      go_wp2_with fail
      go_loop [3, 4, 10] (fun s3 _ s10 => ∃ (j v : Nat), s10 = .int .i64 j ∧ j ≤ 8 ∧ s3 = .int .u32 v ∧ v < 4294967296 ∧ Hid (z = citer (8 - j) v)) (fun _ _ s10 => 8 - (intOf s10).toNat)
      case atStart => exact ⟨0, i, rfl, by omega, by go_num, by omega, hz8⟩
      case round =>
        obtain ⟨j, v, rfl, hj, rfl, hv, hzv⟩ := hrel
        by_cases hj8 : j < 8
        · have hn := citer_step hzv.out hj8
          have hcl := cstep_lt hv
          have hand := and_one hv
          obtain ⟨q, hq⟩ : ∃ q, q = v % 2 := ⟨_, rfl⟩
          obtain ⟨d, hd⟩ : ∃ d, d = v / 2 := ⟨_, rfl⟩
          have hdv : (v : Int) / 2 = (d : Int) := by omega
          have hd32 : d < 4294967296 := by omega
          have hxp := xor_poly hd32
          rw [← hq] at hand
          rcases (show q = 0 ∨ q = 1 by omega) with rfl | rfl
          · rw [cstep_even hq.symm, ← hd] at hn
            replace hn := hide hn
            clear hq hd hzv hcl
            go_wp2_with fail
            go_round
            case rel => exact ⟨j + 1, d, by go_num, by omega, rfl, hd32, hn⟩
            case measure => simp [intOf]; omega
          · rw [cstep_odd hq.symm, ← hd] at hn hcl
            obtain ⟨y, hy⟩ : ∃ y, y = d ^^^ 3988292384 := ⟨_, rfl⟩
            rw [← hy] at hn hcl hxp
            replace hn := hide hn
            clear hq hd hzv hy
            go_wp2_with fail
            go_round
            case rel => exact ⟨j + 1, y, by go_num, by omega, rfl, hcl, hn⟩
            case measure => simp [intOf]; omega
        · have hn := citer_end hzv.out (by omega)
          have hcell := hr.out.cell i (tabA_get hin)
          have hfr := hr.out.free i
          have hlt := hr.out.lt
          rw [if_neg (by omega)] at hcell
          have hp := hr.out.put i (.int .u32 (v : Nat))
          rw [← hn, hz9.out, tabA_put hin] at hp
          have hn' := hide (hz9.out.symm.trans hn)
          replace hp := hide hp
          have hEs := hide (hE.out.setCell (p := ⟨w.heap.size, i, none⟩) (Nat.le_refl _) (.int .u32 ((c8 i : Nat) : Int)))
          clear hzv hn
          go_wp2_with fail
          go_roundw
          case rel => exact ⟨i + 1, by go_num, by omega, by rw [← hn'.out]; exact hp, by rw [← hn'.out]; exact hEs⟩
          case measure => simp [intOf]; omega
    · obtain rfl : i = 256 := by omega
      go_wp2_with fail
      go_ret
      exact ⟨rfl, hr.out, hE.out⟩
end Go.Proofs.YtkdcnhnaiknaaaaGreat

/- loggia/crc: Next, Sum. -/
namespace Go.Proofs.YtkdcnhnaiknaaaaGreat
open Go.RowKit

theorem con_parts (v : Nat) (c : UInt8) : con v c = c8 ((v % 256) ^^^ c.toNat) ^^^ (v / 256) := by
  rw [con_table]
  congr 2
  have h := Nat.xor_mod_two_pow (a := v) (b := c.toNat) (n := 8)
  have hc := c.toNat_lt
  rw [show (2 : Nat) ^ 8 = 256 from rfl, Nat.mod_eq_of_lt (a := c.toNat) (by omega)] at h
  exact h
set_option maxRecDepth 100000 in
set_option maxHeartbeats 1000000 in
theorem next_any (A : Option Addr) (s n c : Nat) (l : List UInt8) (w0 w : World) (hb : In8 w0 A n c l) (hw : Ext w0 w) (hs : s < 4294967296) (hle : n ≤ 1000000000) :
    Calls Tryz.prog 184 #[.int .u32 s, .slice A n c] w fun e w' => e = .returned (.int .u32 (cnext s l : Nat)) ∧ Ext w w' := by
  have htab := hide (table_any w)
  have hnot := bits_not32 s hs
  have hcl : cnot s < 4294967296 := by unfold cnot; omega
  rw [show 4294967295 - s = cnot s from rfl] at hnot
  obtain ⟨y, hy⟩ : ∃ y, y = cnot s := ⟨_, rfl⟩
  rw [← hy] at hnot hcl
  have hr : cnext s l = 4294967295 - l.foldl con y := by unfold cnext; rw [← hy]; rfl
  replace hr := hide hr
  clear hy
  replace hb := hide hb
  go_enter Tryz.func184, Tryz.ntmps184
  go_wp2_with fail
  refine htab.out.mono ?_
  rintro e w1 ⟨rfl, hrow, hE1⟩
  replace hrow := hide hrow
  replace hE1 := hide hE1
  go_wp2_with fail
  go_loop [6, 8, 14] (fun s6 _ s14 => ∃ (i v : Nat), s14 = .int .i64 i ∧ i ≤ n ∧ s6 = .int .u32 v ∧ v < 4294967296 ∧ Hid (l.foldl con y = (l.drop i).foldl con v)) (fun _ _ s14 => n - (intOf s14).toNat)
  case atStart => exact ⟨0, y, rfl, by omega, rfl, hcl, rfl⟩
  case round =>
    obtain ⟨i, v, rfl, hi, rfl, hv, hf⟩ := hrel
    by_cases hin : i < n
    · have hil : i < l.length := by rw [← hb.out.len]; omega
      obtain ⟨g, o, rfl, hc⟩ := hb.out.bytes.at_ (by omega)
      have hcell := (hw.trans hE1.out).cell (hc i hil)
      have hn : l.foldl con y = (l.drop (i + 1)).foldl con (con v l[i]) := by rw [hf.out, List.drop_eq_getElem_cons hil]; rfl
      have hcl2 := con_lt l[i] hv
      have hcp := con_parts v l[i]
      obtain ⟨x, hx⟩ : ∃ x, x = l[i].toNat := ⟨_, rfl⟩
      have hx8 : x < 256 := by rw [hx]; exact l[i].toNat_lt
      rw [← hx] at hcell hcp
      obtain ⟨z, hz⟩ : ∃ z, z = con v l[i] := ⟨_, rfl⟩
      rw [← hz] at hn hcl2 hcp
      obtain ⟨m, hm⟩ : ∃ m, m = v % 256 := ⟨_, rfl⟩
      have hmv : (v : Int) % 256 = (m : Int) := by omega
      have hm8 : m < 256 := by omega
      have hx2 := u8_xor_nat m x hm8 hx8
      rw [← hm] at hcp
      have hk8 : m ^^^ x < 256 := Nat.xor_lt_two_pow (n := 8) hm8 hx8
      obtain ⟨k, hk⟩ : ∃ k, k = m ^^^ x := ⟨_, rfl⟩
      rw [← hk] at hcp hx2 hk8
      have htc := hrow.out.cell k (tabA_get hk8)
      rw [if_pos hk8] at htc
      obtain ⟨t, ht⟩ : ∃ t, t = c8 k := ⟨_, rfl⟩
      have ht32 : t < 4294967296 := by rw [ht]; exact c8_lt (by omega)
      rw [← ht] at htc hcp
      obtain ⟨d, hd⟩ : ∃ d, d = v / 256 := ⟨_, rfl⟩
      have hdv : (v : Int) / 256 = (d : Int) := by omega
      have hx3 := u32_xor_nat t d ht32 (by omega)
      rw [← hd] at hcp
      rw [← hcp] at hx3
      replace hn := hide hn
      clear hc hf hx hz hm hk ht hd hcp
      go_wp2_with fail
      go_round
      case rel => exact ⟨i + 1, z, by go_num, by omega, rfl, hcl2, hn⟩
      case measure => simp [intOf]; omega
    · have hf2 : l.foldl con y = v := by rw [hf.out, List.drop_of_length_le (by rw [← hb.out.len]; omega)]; rfl
      have hnv := bits_not32 v hv
      replace hf2 := hide hf2
      clear hf
      go_wp2_with fail
      go_ret
      exact ⟨ret_int (by rw [hr.out, hf2.out]), hE1.out⟩
def csum (s : Nat) (ls : List (List UInt8)) : Nat := ls.foldl cnext s
theorem csum_lt {s : Nat} (h : s < 4294967296) : ∀ (ls : List (List UInt8)), csum s ls < 4294967296 := by
  intro ls
  induction ls generalizing s with
  | nil => exact h
  | cons l ls ih => exact ih (cnext_lt s l)
set_option maxRecDepth 100000 in
set_option maxHeartbeats 1000000 in
theorem sum_any (B : Option Addr) (k c2 : Nat) (ps : List (Option Addr × Nat × List UInt8)) (w : World) (hk : k = ps.length) (hB : Cells w B (ps.map fun p => .slice p.1 p.2.2.length p.2.1)) (hin : ∀ p ∈ ps, In8 w p.1 p.2.2.length p.2.1 p.2.2) (hle : ∀ p ∈ ps, p.2.2.length ≤ 1000000000) (hk9 : k ≤ 1000000) :
    Calls Tryz.prog 148 #[.slice B k c2] w fun e w' => e = .returned (.int .u32 (csum 0 (ps.map fun p => p.2.2) : Nat)) ∧ Ext w w' := by
  replace hk := hide hk
  replace hin := hide hin
  replace hle := hide hle
  go_enter Tryz.func148, Tryz.ntmps148
  go_wp2_with fail
  go_loopw [3, 5, 8] (fun s3 _ s8 wr => ∃ (i v : Nat), s8 = .int .i64 i ∧ i ≤ k ∧ s3 = .int .u32 v ∧ v < 4294967296 ∧ Hid (csum 0 (ps.map fun p => p.2.2) = csum v ((ps.drop i).map fun p => p.2.2)) ∧ Hid (Ext w wr)) (fun _ _ s8 _ => k - (intOf s8).toNat)
  case atStart => exact ⟨0, 0, rfl, by omega, rfl, by omega, hide rfl, hide (Ext.refl w)⟩
  case round =>
    obtain ⟨i, v, rfl, hi, rfl, hv, hf, hE⟩ := hrel
    by_cases hik : i < k
    · have hil : i < ps.length := by rw [← hk.out]; omega
      obtain ⟨g, o, rfl, hc⟩ := hB.at_ (by rw [List.length_map]; omega)
      have hcell := hE.out.cell (hc i _ (by rw [List.getElem?_map, List.getElem?_eq_getElem hil]; rfl))
      have hn : csum 0 (ps.map fun p => p.2.2) = csum (cnext v ps[i].2.2) ((ps.drop (i + 1)).map fun p => p.2.2) := by rw [hf.out, List.drop_eq_getElem_cons hil]; rfl
      have hnx := next_any ps[i].1 v ps[i].2.2.length ps[i].2.1 ps[i].2.2 w wr (hin.out _ (List.getElem_mem hil)) hE.out hv (hle.out _ (List.getElem_mem hil))
      have hcl := cnext_lt v ps[i].2.2
      obtain ⟨p, hp⟩ : ∃ p, p = ps[i] := ⟨_, rfl⟩
      rw [← hp] at hcell hn hnx hcl
      obtain ⟨z, hz⟩ : ∃ z, z = cnext v p.2.2 := ⟨_, rfl⟩
      rw [← hz] at hn hnx hcl
      replace hn := hide hn
      replace hnx := hide hnx
      clear hp hc hf hz
      go_wp2_with fail
      refine hnx.out.mono ?_
      rintro e w1 ⟨rfl, hE1⟩
      go_wp2_with fail
      go_roundw
      case rel => exact ⟨i + 1, z, by go_num, by omega, rfl, hcl, hn, hide (hE.out.trans hE1)⟩
      case measure => simp [intOf]; omega
    · have hf2 : csum 0 (ps.map fun p => p.2.2) = v := by rw [hf.out, List.drop_of_length_le (by rw [← hk.out]; omega)]; rfl
      replace hf2 := hide hf2
      clear hf
      go_wp2_with fail
      go_ret
      exact ⟨by rw [hf2.out]; rfl, hE.out⟩
end Go.Proofs.YtkdcnhnaiknaaaaGreat

/- slices.Grow of nothing, slices.Concat of bytes. -/
namespace Go.Proofs.YtkdcnhnaiknaaaaGreat
open Go.RowKit

set_option maxRecDepth 100000 in
set_option maxHeartbeats 1000000 in
theorem grow_any (n : Nat) (w : World) (hn : n ≤ 1000000000) : Calls Tryz.prog 185 #[.slice none 0 0, .int .i64 n] w fun e w' => ∃ A c, e = .returned (.slice A 0 c) ∧ Buf w' w.heap.size 5 A 0 c [] ∧ Ext w w' := by
  have hn0 : ¬ (n : Int) < 0 := by omega
  rcases Nat.eq_zero_or_pos n with rfl | hpos
  · go_enter Tryz.func185, Tryz.ntmps185
    go_wp2_with fail
    go_ret
    exact ⟨none, 0, rfl, Buf.nil _ _ _, Ext.refl w⟩
  · have hpos' : (0 : Int) < n := by omega
    obtain ⟨i, z, hi, hz, h3, h4, h5⟩ := elemB.hi
    have hrun := fun W ty => Lib.run_append_nil_zeros (P := Tryz.prog) W 25 3 ty 5 i z .i64 .i64 Tryz.underlying25 Tryz.underlying3 hi hz n hpos (by omega) (by omega) (by rw [h4]; omega)
    have hge := grownCap_ge w n 0 5
    obtain ⟨cur, hcur⟩ : ∃ cur, cur = Builtin.zeroCells z.cells n ++ Builtin.zeroCells z.cells (grownCap w n 0 5 - n) := ⟨_, rfl⟩
    have hcs : cur.size = grownCap w n 0 5 := by rw [hcur, Array.size_append, size_zeroCells, size_zeroCells, h5]; omega
    have hh0 := fun W => run_head1 (n := 0) (c := 0) (k := 0) (A := none) (Nat.le_refl _) nofun W
    have hh1 := fun W => run_head1 (n := n) (c := grownCap w n 0 5) (k := 0) (A := some ⟨w.heap.size, 0, none⟩) (by omega) (fun a ha => by cases ha; rfl) W
    obtain ⟨C, hC⟩ : ∃ C, C = grownCap w n 0 5 := ⟨_, rfl⟩
    rw [← hC] at hge hh1
    have hrun1 := fun ty => hrun w ty
    rw [← hcur, ← hC] at hrun1
    rw [← hC] at hcs
    replace hrun1 := hide hrun1
    clear hrun hC hcur h5 h4 h3 hz hi
    go_enter Tryz.func185, Tryz.ntmps185
    go_wp2_with (at_builtin; refine Lib.wpList_append_run _ rfl (.tmp 20) (.tmp 21) 25 3 rfl (.slice none 0 0) (.int .i64 n) rfl rfl _ _ (hrun1.out _) ?_)
    go_ret
    refine ⟨some ⟨w.heap.size, 0, none⟩, C, rfl, ⟨rfl, Nat.zero_le _, .inr ⟨w.heap.size, cur, rfl, Nat.le_refl _, heap_alloc_new w _, by omega, by simp⟩⟩, ?_⟩
    exact ((Ext.refl w).alloc _).drew
/-- The bytes of slices, one behind the other. -/
def catL (ps : List (Option Addr × Nat × List UInt8)) : List UInt8 := ps.flatMap fun p => p.2.2
theorem catL_take {ps : List (Option Addr × Nat × List UInt8)} {i : Nat} (h : i < ps.length) : catL (ps.take (i + 1)) = catL (ps.take i) ++ ps[i].2.2 := by
  unfold catL
  rw [List.take_succ_eq_append_getElem h, List.flatMap_append]
  simp
theorem catL_take_len (ps : List (Option Addr × Nat × List UInt8)) (i : Nat) : (catL (ps.take i)).length ≤ (catL ps).length := by
  have h : catL ps = catL (ps.take i) ++ catL (ps.drop i) := by
    unfold catL
    rw [← List.flatMap_append, List.take_append_drop]
  rw [h, List.length_append]
  omega
set_option maxRecDepth 100000 in
set_option maxHeartbeats 2000000 in
theorem concat_any (B : Option Addr) (k c2 : Nat) (ps : List (Option Addr × Nat × List UInt8)) (w : World) (hk : k = ps.length) (hB : Cells w B (ps.map fun p => .slice p.1 p.2.2.length p.2.1)) (hin : ∀ p ∈ ps, In8 w p.1 p.2.2.length p.2.1 p.2.2) (hle : (catL ps).length ≤ 1000000000) (hk9 : k ≤ 1000000) :
    Calls Tryz.prog 149 #[.slice B k c2] w fun e w' => NewB w (catL ps) e w' := by
  have hctl := catL_take_len ps
  obtain ⟨T, hT⟩ : ∃ T, T = (catL ps).length := ⟨_, rfl⟩
  rw [← hT] at hle hctl
  replace hk := hide hk
  replace hin := hide hin
  replace hctl := hide hctl
  replace hT := hide hT
  go_enter Tryz.func149, Tryz.ntmps149
  go_wp2_with fail
  go_loopw [3, 5, 11] (fun s3 _ s11 wr => ∃ (i v : Nat), s11 = .int .i64 (i : Int) ∧ i ≤ k ∧ s3 = .int .i64 (v : Int) ∧ v ≤ T ∧ Hid (v = (catL (ps.take i)).length) ∧ wr = w) (fun _ _ s11 _ => k - (intOf s11).toNat)
  case atStart => exact ⟨0, 0, rfl, by omega, rfl, by omega, hide (by simp [catL]), rfl⟩
  case round =>
    obtain ⟨i, v, rfl, hi, rfl, hv, hvl, rfl⟩ := hrel
    by_cases hik : i < k
    · have hil : i < ps.length := by rw [← hk.out]; omega
      obtain ⟨g, o, rfl, hc⟩ := hB.at_ (by rw [List.length_map]; omega)
      have hcell := hc i _ (by rw [List.getElem?_map, List.getElem?_eq_getElem hil]; rfl)
      have htk := catL_take hil
      have htl := hctl.out (i + 1)
      obtain ⟨p, hp⟩ : ∃ p, p = ps[i] := ⟨_, rfl⟩
      rw [← hp] at hcell htk
      have hvn : v + p.2.2.length = (catL (ps.take (i + 1))).length := by rw [htk, List.length_append, hvl.out]
      have hvT : v + p.2.2.length ≤ T := by omega
      have hnn : ¬ ((v : Int) + (p.2.2.length : Int)) < 0 := by omega
      have hi0 : (0 : Int) ≤ i := by omega
      have hi1 : (i : Int) < k := by omega
      replace hvn := hide hvn
      clear hp hc htk htl
      go_wp2_with fail
      go_roundw
      case rel => exact ⟨i + 1, v + p.2.2.length, by go_num, by omega, by go_num, hvT, hvn, trivial⟩
      case measure => simp [intOf]; omega
    · have hall : ps.take i = ps := List.take_of_length_le (by rw [← hk.out]; omega)
      have hgr := hide (grow_any v wr (by omega))
      rw [hall] at hvl
      go_wp2_with fail
      refine hgr.out.mono ?_
      rintro e w1 ⟨A1, c1, rfl, hb1, hE1⟩
      replace hb1 := hide hb1
      obtain ⟨wo, hwo⟩ : ∃ wo, wo = wr := ⟨_, rfl⟩
      rw [← hwo] at hE1 hB hin hb1
      have hgoal : ∀ e w', NewB wo (catL ps) e w' → NewB wr (catL ps) e w' := fun e w' h => by rw [← hwo]; exact h
      replace hgoal := hide hgoal
      replace hwo := hide hwo
      go_wp2_with fail
      go_loopw [6, 8, 27] (fun s6 _ s27 wz => ∃ (i n4 c4 : Nat) (A4 : Option Addr), s27 = .int .i64 (i : Int) ∧ i ≤ k ∧ s6 = .slice A4 n4 c4 ∧ n4 ≤ T ∧ Hid (n4 = (catL (ps.take i)).length) ∧ Hid (Buf wz wo.heap.size 5 A4 n4 c4 ((catL (ps.take i)).map B8)) ∧ Hid (Ext wo wz)) (fun _ _ s27 _ => k - (intOf s27).toNat)
      case atStart => exact ⟨0, 0, c1, A1, rfl, by omega, rfl, by omega, hide (by simp [catL]), hide (by simpa [catL] using hb1.out), hide hE1⟩
      case round =>
        obtain ⟨j, n4, c4, A4, rfl, hj, rfl, hn4, hnl, hb4, hE⟩ := hrel
        by_cases hjk : j < k
        · have hil : j < ps.length := by rw [← hk.out]; omega
          obtain ⟨g, o, rfl, hc⟩ := hB.at_ (by rw [List.length_map]; omega)
          have hcell := hE.out.cell (hc j _ (by rw [List.getElem?_map, List.getElem?_eq_getElem hil]; rfl))
          have htk := catL_take hil
          have htl := hctl.out (j + 1)
          have hpin := (hin.out _ (List.getElem_mem hil)).ext hE.out
          obtain ⟨p, hp⟩ : ∃ p, p = ps[j] := ⟨_, rfl⟩
          rw [← hp] at hcell htk hpin
          have hvn : n4 + p.2.2.length = (catL (ps.take (j + 1))).length := by rw [htk, List.length_append, hnl.out]
          have hvT : n4 + p.2.2.length ≤ T := by omega
          have hmap : (catL (ps.take (j + 1))).map B8 = (catL (ps.take j)).map B8 ++ p.2.2.map B8 := by rw [htk, List.map_append]
          have hi0 : (0 : Int) ≤ j := by omega
          have hi1 : (j : Int) < k := by omega
          have hszr : wo.heap.size ≤ (‹World›).heap.size := hE.out.size
          replace hvn := hide hvn
          replace hmap := hide hmap
          clear hp hc htk htl
          go_wp2_with (at_builtin; refine wpList_buf elemB hb4.out hpin.bytes (.tmp 31) (.tmp 32) rfl rfl rfl rfl rfl (by rw [List.length_map]) (fun u hu => by obtain ⟨x, _, rfl⟩ := List.mem_map.1 hu; rfl) (by omega) hszr (fun A5 c5 w5 hb5 hg5 hE5 _ => ?_))
          refine ⟨⟨j + 1, n4 + p.2.2.length, c5, A5, by go_num, by omega, rfl, hvT, hvn, hide (by rw [hmap.out]; exact hb5), hide (hE5 _ hE.out (Nat.le_refl _))⟩, ?_⟩
          simp [intOf]
          omega
        · have hall : ps.take j = ps := List.take_of_length_le (by rw [← hk.out]; omega)
          rw [hall] at hnl hb4
          have hfin : ∀ wz, Ext wo wz → Buf wz wo.heap.size 5 A4 n4 c4 ((catL ps).map B8) → NewB wo (catL ps) (.returned (.slice A4 n4 c4)) wz := fun wz h1 h2 => ⟨A4, c4, by rw [← hnl.out], by rw [← hnl.out]; exact h2, h1⟩
          replace hfin := hide hfin
          go_wp2_with fail
          go_ret
          exact hgoal.out _ _ (hfin.out _ hE.out hb4.out)
end Go.Proofs.YtkdcnhnaiknaaaaGreat

/- Frames, plainly. -/
namespace Go.Proofs.YtkdcnhnaiknaaaaGreat
open Go.RowKit

/-- Four bytes of a number, the greatest first. -/
def be4 (s : Nat) : List UInt8 := [UInt8.ofNat (s / 16777216 % 256), UInt8.ofNat (s / 65536 % 256), UInt8.ofNat (s / 256 % 256), UInt8.ofNat (s % 256)]
/-- The number of bytes, the greatest first. -/
def be (l : List UInt8) : Nat := l.foldl (fun s x => s * 256 + x.toNat) 0
theorem be_be4 {s : Nat} (h : s < 4294967296) : be (be4 s) = s := by
  have h1 : ∀ k, (UInt8.ofNat (k % 256)).toNat = k % 256 := fun k => by rw [UInt8.toNat_ofNat']; omega
  unfold be be4
  simp only [List.foldl_cons, List.foldl_nil, h1]
  omega
theorem cnot_cnot {x : Nat} (h : x < 4294967296) : cnot (cnot x) = x := by unfold cnot; omega
theorem cnext_app (a b : List UInt8) : cnext (cnext 0 a) b = cnext 0 (a ++ b) := by
  unfold cnext
  rw [cnot_cnot (fold_lt a (by unfold cnot; omega)), List.foldl_append]
/-- A payload's frame. -/
def frameL (p : List UInt8) : List UInt8 := vb p.length ++ be4 (cnext 0 (vb p.length ++ p)) ++ p
/-- The payload of the frame that stands first, and what stands behind; or why there is none. -/
def getF (l : List UInt8) : Except Nat (List UInt8 × List UInt8) := match getV 0 l with
  | .error k => if k = 6 then .error 41 else .error 40
  | .ok (n, r) => if 16777216 < n then .error 40 else if r.length < 4 + n then .error 41 else
    if cnext 0 (l.take (l.length - r.length) ++ (r.drop 4).take n) = be (r.take 4) then .ok ((r.drop 4).take n, r.drop (4 + n)) else .error 40
theorem getF_put {p : List UInt8} (h : p.length ≤ 16777216) (r : List UInt8) : getF (frameL p ++ r) = .ok (p, r) := by
  have hb4 : ∀ s, (be4 s).length = 4 := fun _ => rfl
  unfold getF frameL
  rw [List.append_assoc, List.append_assoc, getV_put (by omega)]
  simp only
  rw [if_neg (by omega), if_neg (by rw [List.length_append, List.length_append, hb4]; omega)]
  obtain ⟨B, hB⟩ : ∃ B, B = be4 (cnext 0 (vb p.length ++ p)) := ⟨_, rfl⟩
  have hBl : B.length = 4 := by rw [hB]; rfl
  have hBv : be B = cnext 0 (vb p.length ++ p) := by rw [hB]; exact be_be4 (cnext_lt _ _)
  rw [← hB]
  have e1 : (vb p.length ++ (B ++ (p ++ r))).length - (B ++ (p ++ r)).length = (vb p.length).length := by rw [List.length_append]; omega
  have e2 : (B ++ (p ++ r)).drop 4 = p ++ r := List.drop_left' hBl
  have e3 : (B ++ (p ++ r)).take 4 = B := List.take_left' hBl
  have e4 : (B ++ (p ++ r)).drop (4 + p.length) = r := by rw [← List.drop_drop, e2]; exact List.drop_left' rfl
  rw [e1, e2, e3, e4, List.take_left' rfl, List.take_left' rfl, hBv, if_pos rfl]
/-- A frame that is one is one whatever stands behind it. -/
theorem getV_other : ∀ (l : List UInt8) (i n : Nat) (r r' : List UInt8), getV i l = .ok (n, r) → ∃ p, l = p ++ r ∧ getV i (p ++ r') = .ok (n, r')
  | [], i, n, r, r', h => by unfold getV at h; cases h
  | x :: l, i, n, r, r', h => by
    unfold getV at h
    split at h
    · cases h
    · rename_i h1
      split at h
      · cases h
      · rename_i h2
        split at h
        · rename_i h3
          injection h with h
          injection h with e1 e2
          refine ⟨[x], by rw [← e2]; rfl, ?_⟩
          show getV i (x :: r') = _
          unfold getV
          rw [if_neg h1, if_neg h2, if_pos h3, e1]
        · rename_i h3
          split at h
          · rename_i m r1 hg
            injection h with h
            injection h with e1 e2
            obtain ⟨p, hp, hq⟩ := getV_other l (i + 1) m r1 r' hg
            refine ⟨x :: p, by rw [hp, ← e2]; rfl, ?_⟩
            show getV i (x :: (p ++ r')) = _
            unfold getV
            rw [if_neg h1, if_neg h2, if_neg h3, hq]
            simp only
            rw [e1]
          · cases h
theorem getF_other {l p r : List UInt8} (h : getF l = .ok (p, r)) (r' : List UInt8) : ∃ f, l = f ++ r ∧ f ≠ [] ∧ getF (f ++ r') = .ok (p, r') := by
  unfold getF at h
  split at h
  · split at h <;> cases h
  · rename_i n r0 hg
    split at h
    · cases h
    · rename_i h1
      split at h
      · cases h
      · rename_i h2
        split at h
        · rename_i h3
          injection h with h
          injection h with e1 e2
          obtain ⟨v, hv, hq⟩ := getV_other l 0 n r0 (r0.take (4 + n) ++ r') hg
          have hvn : v ≠ [] := by
            obtain ⟨_, _, q, hq2, hqn⟩ := getV_lt l 0 n r0 hg
            rw [hv] at hq2
            rw [List.append_cancel_right hq2]
            exact hqn
          refine ⟨v ++ r0.take (4 + n), by rw [hv, ← e2, List.append_assoc, List.take_append_drop], by simp [hvn], ?_⟩
          unfold getF
          rw [List.append_assoc, hq]
          simp only
          have hl4 : (r0.take (4 + n)).length = 4 + n := by rw [List.length_take]; omega
          rw [if_neg h1, if_neg (by rw [List.length_append, hl4]; omega)]
          have e3 : (v ++ (r0.take (4 + n) ++ r')).length - (r0.take (4 + n) ++ r').length = v.length := by rw [List.length_append]; omega
          have e4 : l.length - r0.length = v.length := by rw [hv, List.length_append]; omega
          have e5 : ((r0.take (4 + n) ++ r').drop 4).take n = (r0.drop 4).take n := by
            rw [List.drop_append_of_le_length (by omega), List.take_append_of_le_length (by rw [List.length_drop]; omega), List.drop_take, List.take_take]
            congr 1
            omega
          have e6 : (r0.take (4 + n) ++ r').take 4 = r0.take 4 := by
            rw [List.take_append_of_le_length (by omega), List.take_take]
            congr 1
            omega
          have e7 : (r0.take (4 + n) ++ r').drop (4 + n) = r' := List.drop_left' hl4
          rw [e4, hv, List.take_left' rfl] at h3
          rw [e3, List.take_left' rfl, e5, e6, e7, if_pos h3, e1]
        · cases h
theorem getF_less {l p r : List UInt8} (h : getF l = .ok (p, r)) : r.length < l.length ∧ p.length ≤ 16777216 ∧ p.length ≤ l.length := by
  obtain ⟨f, hf, hne, _⟩ := getF_other h []
  have hpos := List.length_pos_iff.2 hne
  refine ⟨by rw [hf, List.length_append]; omega, ?_⟩
  unfold getF at h
  split at h
  · split at h <;> cases h
  · rename_i n r0 hg
    obtain ⟨_, _, q, hq, _⟩ := getV_lt l 0 n r0 hg
    split at h
    · cases h
    · split at h
      · cases h
      · split at h
        · injection h with h
          injection h with e1 e2
          rw [← e1, List.length_take, List.length_drop, hq, List.length_append]
          omega
        · cases h
theorem getF_code {l : List UInt8} {k : Nat} (h : getF l = .error k) : k = 40 ∨ k = 41 := by
  unfold getF at h
  split at h
  · split at h <;> (injection h with h; omega)
  · split at h
    · injection h with h; omega
    · split at h
      · injection h with h; omega
      · split at h
        · cases h
        · injection h with h; omega
end Go.Proofs.YtkdcnhnaiknaaaaGreat

