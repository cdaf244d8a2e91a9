/- loggia/varint: Get. -/
import Derived.Test.YtijnomopcpgikaaDoorVaB
import Derived.Deep.QuietTactic
import Derived.BigQuiet
namespace Go.Proofs.YtijnomopcpgikaaDoor
open Go.RowKit

/-- A slice of bytes that may be read. -/
structure In8 (w : World) (A : Option Addr) (n c : Nat) (l : List UInt8) : Prop where
  len : n = l.length
  bytes : Bs w A l
  cap : n ≤ c
  nil_ : A = none → c = 0
  at_ : ∀ a, A = some a → a.spot = Option.none ∧ a.block < w.heap.size
theorem In8.ext {w w1 : World} {A : Option Addr} {n c : Nat} {l : List UInt8} (h : In8 w A n c l) (hE : Ext w w1) : In8 w1 A n c l :=
  ⟨h.len, h.bytes.ext hE, h.cap, h.nil_, fun a ha => ⟨(h.at_ a ha).1, Nat.lt_of_lt_of_le (h.at_ a ha).2 hE.size⟩⟩
theorem Buf.in8 {w : World} {base : Nat} {e : TypeId} {A : Option Addr} {n c : Nat} {l : List UInt8} (h : Buf w base e A n c (l.map B8)) : In8 w A n c l := by
  refine ⟨by have := h.1; simpa using this.symm, h.cells, h.2.1, h.none_cap, fun a ha => ⟨?_, h.lt a ha⟩⟩
  rcases h.2.2 with ⟨h0, _⟩ | ⟨g, cur, hA, _⟩
  · rw [h0] at ha; cases ha
  · rw [hA] at ha; cases ha; rfl
def comb (i acc : Nat) : Except Nat (Nat × List UInt8) → Except Nat (Nat × List UInt8)
  | .ok (n, r) => .ok (acc + 128 ^ i * n, r)
  | .error e => .error e
theorem comb_zero (x : Except Nat (Nat × List UInt8)) : comb 0 0 x = x := by
  unfold comb
  split <;> simp
def Got (w0 w : World) (res : Except Nat (Nat × List UInt8)) (e : Ending) (w' : World) : Prop := Ext w w' ∧ match res with
  | .ok (v, r) => ∃ A c, e = .returned (.tuple #[.int .u64 v, .slice A r.length c, .int .i64 0]) ∧ In8 w0 A r.length c r
  | .error k => e = .returned (.tuple #[.int .u64 0, .slice none 0 0, .int .i64 k])
set_option maxRecDepth 100000 in
theorem run_head1 {n c k : Nat} {A : Option Addr} (h : k ≤ c) (hA : ∀ a, A = some a → a.spot = none) (W : World) :
    (Instr.sliceAt 25 (.slice A n c) none (some (.int .i64 k)) none).run Tryd.prog W = .ok (.slice A k c) W := by
  have ht := Tryd.underlying25
  have he : Tryd.prog.elem 25 = 5 := by unfold Program.elem; rw [ht]
  have hs : ∀ W : World, (sizeOf 5).run Tryd.prog W = .ok 1 W := fun W => by kernel_rfl
  rw [run_sliceAt_slice W _ _ _ _ _ (by rw [ht, he]), run_slice_h W _ A n c (by rw [ht, he]) .i64 k (by omega) (by omega), he, hs]
  simp only [Result.andThen_ok]
  congr 1
  unfold sliced
  have : (if c = 0 then A else A.map fun x => x.add (0 * 1)) = A := by
    cases A with
    | none => simp
    | some a =>
      obtain ⟨b, o, sp⟩ := a
      obtain rfl : sp = none := hA _ rfl
      simp [Addr.add_lit]
  rw [this]
  simp
set_option maxRecDepth 100000 in
theorem In8.from_ {w : World} {A : Option Addr} {n c : Nat} {l : List UInt8} (h : In8 w A n c l) {fr : Nat} (hf : fr ≤ n) {z : Int} (hz : z = (fr : Int)) :
    ∃ A' c', (∀ W : World, (Instr.sliceAt 25 (.slice A n c) (some (.int .i64 z)) none none).run Tryd.prog W = .ok (.slice A' (n - fr) c') W) ∧ In8 w A' (n - fr) c' (l.drop fr) := by
  subst hz
  have ht := Tryd.underlying25
  have he : Tryd.prog.elem 25 = 5 := by unfold Program.elem; rw [ht]
  have hs : ∀ W : World, (sizeOf 5).run Tryd.prog W = .ok 1 W := fun W => by kernel_rfl
  have hrun : ∀ W : World, (Instr.sliceAt 25 (.slice A n c) (some (.int .i64 fr)) none none).run Tryd.prog W = .ok (sliced A fr n c 1) W := by
    intro W
    rw [run_sliceAt_slice W _ _ _ _ _ (by rw [ht, he]), run_slice_l W _ A n c (by rw [ht, he]) .i64 fr (by omega) (by omega), he, hs]
    simp only [Result.andThen_ok]
    congr 1
  have hcap := h.cap
  refine ⟨_, _, hrun, by rw [List.length_drop, ← h.len], ?_, by omega, ?_, ?_⟩
  · rcases h.bytes with hb | ⟨g, o, rfl, hb⟩
    · left
      have : l = [] := by simpa using hb
      rw [this]
      simp
    · by_cases hcf : c = fr
      · left
        have := h.len
        rw [List.drop_of_length_le (by omega)]
        rfl
      · refine .inr ⟨g, o + fr, by rw [if_neg hcf]; simp [Addr.add_lit], fun i v hv => ?_⟩
        rw [Nat.add_assoc]
        refine hb (fr + i) v ?_
        rw [List.getElem?_map] at hv ⊢
        rw [List.getElem?_drop] at hv
        exact hv
  · intro hn
    cases A with
    | none => have := h.nil_ rfl; omega
    | some a => split at hn <;> cases hn
  · intro a ha
    cases A with
    | none => split at ha <;> cases ha
    | some b =>
      obtain ⟨h1, h2⟩ := h.at_ b rfl
      obtain ⟨b, o, sp⟩ := b
      obtain rfl : sp = Option.none := h1
      split at ha
      · cases ha; exact ⟨rfl, h2⟩
      · cases ha
        show (Addr.add ⟨b, o, none⟩ (fr * 1)).spot = none ∧ (Addr.add ⟨b, o, none⟩ (fr * 1)).block < w.heap.size
        rw [Addr.add_lit]
        exact ⟨rfl, h2⟩
theorem getV_get {l : List UInt8} {i : Nat} {x : UInt8} (h : l[i]? = some x) (h10 : i < 10) (acc : Nat) : comb i acc (getV i (l.drop i)) = if (i = 9 ∧ 1 < x.toNat) ∨ (0 < i ∧ x.toNat = 0) then .error 20 else
    if x.toNat < 128 then .ok (acc + 128 ^ i * x.toNat, l.drop (i + 1)) else comb (i + 1) (acc + 128 ^ i * (x.toNat - 128)) (getV (i + 1) (l.drop (i + 1))) := by
  have hi := (List.getElem?_eq_some_iff.1 h).1
  have h2 := (List.getElem?_eq_some_iff.1 h).2
  rw [List.drop_eq_getElem_cons hi, h2]
  conv => lhs; unfold getV
  rw [if_neg (by omega)]
  by_cases hb : (i = 9 ∧ 1 < x.toNat) ∨ (0 < i ∧ x.toNat = 0)
  · rw [if_pos hb, if_pos hb]; rfl
  · rw [if_neg hb, if_neg hb]
    by_cases h128 : x.toNat < 128
    · rw [if_pos h128, if_pos h128]; rfl
    · rw [if_neg h128, if_neg h128]
      unfold comb
      cases getV (i + 1) (l.drop (i + 1)) with
      | error e => rfl
      | ok p =>
        obtain ⟨n, r⟩ := p
        simp only
        rw [Nat.mul_add, Nat.pow_succ, Nat.add_assoc, Nat.mul_assoc]
theorem getV_end {l : List UInt8} {i : Nat} (h : l.length ≤ i ∨ 10 ≤ i) (acc : Nat) : comb i acc (getV i (l.drop i)) = .error 6 := by
  rcases h with h | h
  · rw [List.drop_of_length_le h]; rfl
  · cases l.drop i with
    | nil => rfl
    | cons x r => unfold getV; rw [if_pos h]; rfl
theorem or_bits {i acc y : Nat} (hi : i ≤ 9) (ha : acc < 128 ^ i) (hy : y < 128) (h9 : i = 9 → y ≤ 1) : bits .or .u64 (acc : Int) (IntKind.u64.wrap ((y : Int) * 2 ^ (7 * i))) = ((acc + 128 ^ i * y : Nat) : Int) := by
  have e : ∀ y : Int, IntKind.u64.wrap y = y % 18446744073709551616 := fun y => by simp [IntKind.wrap, IntKind.bits, IntKind.signed]
  have hp : (128 : Nat) ^ i = 2 ^ (7 * i) := by rw [show (128 : Nat) = 2 ^ 7 from rfl, ← Nat.pow_mul]
  rw [hp] at ha ⊢
  have hlt : y * 2 ^ (7 * i) < 18446744073709551616 := by
    rcases Nat.lt_or_ge i 9 with h | h
    · have h1 : 2 ^ (7 * i) ≤ 2 ^ 56 := Nat.pow_le_pow_right (by omega) (by omega)
      have h2 : y * 2 ^ (7 * i) ≤ 127 * 2 ^ 56 := Nat.mul_le_mul (by omega) h1
      omega
    · obtain rfl : i = 9 := by omega
      have := h9 rfl
      have h2 : y * 2 ^ (7 * 9) ≤ 1 * 2 ^ 63 := Nat.mul_le_mul this (Nat.le_refl _)
      omega
  have ha2 : acc < 18446744073709551616 := Nat.lt_of_lt_of_le ha (by
    have : 2 ^ (7 * i) ≤ 2 ^ 63 := Nat.pow_le_pow_right (by omega) (by omega)
    omega)
  have hc : IntKind.u64.wrap ((y : Int) * 2 ^ (7 * i)) = ((y * 2 ^ (7 * i) : Nat) : Int) := by
    rw [e]
    have : (y : Int) * 2 ^ (7 * i) = ((y * 2 ^ (7 * i) : Nat) : Int) := by simp
    rw [this]
    omega
  rw [hc, u64_or_nat _ _ ha2 hlt]
  have := Nat.shiftLeft_add_eq_or_of_lt ha y
  rw [Nat.shiftLeft_eq] at this
  rw [Nat.or_comm, ← this, Nat.add_comm, Nat.mul_comm y]
theorem acc_lt {i acc y : Nat} (ha : acc < 128 ^ i) (hy : y < 128) : acc + 128 ^ i * y < 128 ^ (i + 1) := by
  have h := Nat.mul_le_mul_left (128 ^ i) (show y + 1 ≤ 128 by omega)
  rw [Nat.mul_add, Nat.mul_one] at h
  rw [Nat.pow_succ]
  omega
theorem got_ok {w0 w w' : World} {res : Except Nat (Nat × List UInt8)} {v : Nat} {r : List UInt8} {A : Option Addr} {m c : Nat} {E : Int} (hr : res = .ok (v, r)) (hE : Ext w w') (hi : In8 w0 A m c r) (hv : E = (v : Int)) : Got w0 w res (.returned (.tuple #[.int .u64 E, .slice A m c, .int .i64 0])) w' := by
  subst hr hv
  have := hi.len
  subst this
  exact ⟨hE, A, c, rfl, hi⟩
theorem got_err {w0 w w' : World} {res : Except Nat (Nat × List UInt8)} {k : Nat} (hr : res = .error k) (hE : Ext w w') : Got w0 w res (.returned (.tuple #[.int .u64 0, .slice none 0 0, .int .i64 k])) w' := by
  subst hr
  exact ⟨hE, rfl⟩
theorem and_low {x : Nat} (h : x < 256) : bits .and .u8 (x : Int) 127 = ((x % 128 : Nat) : Int) := by
  have hf : ∀ k : Fin 256, k.val &&& 127 = k.val % 128 := by decide +kernel
  have hk := hf ⟨x, h⟩
  simp only at hk
  rw [show (127 : Int) = ((127 : Nat) : Int) from rfl, u8_and_nat _ _ (by omega) (by omega), hk]
set_option maxRecDepth 100000 in
set_option maxHeartbeats 2000000 in
theorem get_any (A : Option Addr) (n c : Nat) (l : List UInt8) (w0 w : World) (h : In8 w0 A n c l) (hw : Ext w0 w) (hle : n ≤ 1000000000) :
    Calls Tryd.prog 57 #[.slice A n c] w fun e w' => Got w0 w (getV 0 l) e w' := by
  obtain ⟨k, hk⟩ : ∃ k : Nat, (k : Int) = min (n : Int) 10 := ⟨min n 10, by omega⟩
  have hcap := h.cap
  have hmin := fun (W : World) => run_min2 (P := Tryd.prog) #[3, 3] 3 hk W
  have hhd := fun (W : World) => run_head1 (n := n) (c := c) (k := k) (A := A) (by omega) (fun a ha => (h.at_ a ha).1) W
  have hk1 : k ≤ 10 := by omega
  have hk2 : k ≤ n := by omega
  have hk3 : n ≤ k ∨ 10 ≤ k := by omega
  replace hk := hide hk
  replace hk3 := hide hk3
  replace h := hide h
  go_enter Tryd.func57, Tryd.ntmps57
  go_wp2_with fail
  go_step3
  go_wp2_with fail
  go_step3
  go_wp2_with fail
  go_loopw [2, 4, 13] (fun s2 s4 s13 wr => ∃ (i acc : Nat), s13 = .int .i64 i ∧ s2 = .int .u64 acc ∧ s4 = .int .i64 6 ∧ i ≤ k ∧ acc < 128 ^ i ∧ Hid (getV 0 l = comb i acc (getV i (l.drop i))) ∧ Hid (Ext w wr)) (fun _ _ s13 _ => k - (intOf s13).toNat)
  case atStart => exact ⟨0, 0, rfl, rfl, rfl, by omega, by simp, hide (by rw [comb_zero]; rfl), hide (Ext.refl w)⟩
  case round =>
    obtain ⟨i, acc, rfl, rfl, rfl, hi, hacc, hg, hE⟩ := hrel
    by_cases hik : i < k
    · have hil : i < l.length := by rw [← h.out.len]; omega
      obtain ⟨g, o, rfl, hc⟩ := h.out.bytes.at_ (by omega)
      have hcell := (hw.trans hE.out).cell (hc i hil)
      have hgg := getV_get (List.getElem?_eq_getElem hil) (by omega) acc
      rw [← hg.out] at hgg
      obtain ⟨x, hx⟩ : ∃ x, x = l[i].toNat := ⟨_, rfl⟩
      have hx256 : x < 256 := by rw [hx]; exact l[i].toNat_lt
      rw [← hx] at hcell hgg
      replace hx := hide hx
      replace hgg := hide hgg
      have hand := and_low hx256
      obtain ⟨y, hy⟩ : ∃ y, y = x % 128 := ⟨_, rfl⟩
      rw [← hy] at hand
      replace hy := hide hy
      obtain ⟨A', c', hrun, hin⟩ := h.out.from_ (fr := i + 1) (by omega) (z := (i : Int) + 1) (by omega)
      have hor := fun h9 : i = 9 → y ≤ 1 => or_bits (i := i) (acc := acc) (y := y) (by omega) hacc (by have := hy.out; omega) h9
      replace hor := hide hor
      have hin' := hide hin
      clear hc hg hin
      have hnx := fun (h1 : ¬((i = 9 ∧ 1 < x) ∨ (0 < i ∧ x = 0))) (h2 : 128 ≤ x) => hgg.out.trans ((if_neg h1).trans (if_neg (by omega)))
      have hok := fun (h1 : ¬((i = 9 ∧ 1 < x) ∨ (0 < i ∧ x = 0))) (h2 : x < 128) => hgg.out.trans ((if_neg h1).trans (if_pos h2))
      have hbad := fun (h1 : (i = 9 ∧ 1 < x) ∨ (0 < i ∧ x = 0)) => hgg.out.trans (if_pos h1)
      have hyy : y < 128 := by have := hy.out; omega
      have hyx : x < 128 → y = x := fun h => by have := hy.out; omega
      have hyx2 : 128 ≤ x → y = x - 128 := fun h => by have := hy.out; omega
      have hz : ((x : Int) == 0) = true → x = 0 := fun h => by simp at h; omega
      have hz2 : ((x : Int) == 0) = false → x ≠ 0 := fun h => by simp at h; omega
      replace hnx := hide hnx
      replace hok := hide hok
      replace hbad := hide hbad
      replace hyx := hide hyx
      replace hyx2 := hide hyx2
      replace hz := hide hz
      replace hz2 := hide hz2
      by_cases h9 : i = 9
      · subst h9
        have hor9 : y ≤ 1 → bits .or .u64 (acc : Int) (IntKind.u64.wrap ((y : Int) * 9223372036854775808)) = ((acc + 128 ^ 9 * y : Nat) : Int) := fun hy1 => by
          have e : (2 : Int) ^ (7 * 9) = 9223372036854775808 := by simp
          have := hor.out fun _ => hy1
          rw [e] at this
          exact this
        replace hor9 := hide hor9
        obtain ⟨A9, c9, hrun9, hin9⟩ := h.out.from_ (fr := 10) (by omega) (z := 10) rfl
        replace hin9 := hide hin9
        clear hrun hin'
        go_wp2_with fail
        · go_ret3
          exact got_err (hbad.out (.inl ⟨by trivial, by omega⟩)) hE.out
        · go_ret3
          exact got_err (hbad.out (.inr ⟨by omega, hz.out (by assumption)⟩)) hE.out
        · refine wp_region_text follows (by kernel_rfl) (by kernel_rfl) (fun K hK => ?_)
          go_wp2_with fail
          refine ⟨by kernel_rfl, ?_⟩
          go_wp2_with fail
          go_ret3
          have hx1 : x ≤ 1 := by omega
          exact got_ok (hok.out (by have := hz2.out (by assumption); omega) (by omega)) hE.out.drew hin9.out (by rw [hor9.out (by have := hyx.out (by omega); omega), hyx.out (by omega)])
      · go_wp2_with fail
        · rw [Exit.noGoto_ret]
          go_ret3
          exact got_err (hbad.out (.inr ⟨by omega, hz.out (by assumption)⟩)) hE.out
        · refine wp_region_text follows (by kernel_rfl) (by kernel_rfl) (fun K hK => ?_)
          go_wp2_with fail
          refine ⟨by kernel_rfl, ?_⟩
          go_wp2_with fail
          rw [Exit.noGoto_ret]
          go_ret3
          exact got_ok (hok.out (by have := hz2.out (by assumption); omega) (by omega)) hE.out.drew hin'.out (by rw [hor.out (by omega), hyx.out (by omega)])
        · go_roundw
          case rel => exact ⟨i + 1, acc + 128 ^ i * y, by go_num, by rw [hor.out (by omega)], rfl, by omega, acc_lt hacc hyy, hide (by rw [hnx.out (by omega) (by omega), hyx2.out (by omega)]), hE⟩
          case measure => simp [intOf]; omega
        · refine wp_region_text follows (by kernel_rfl) (by kernel_rfl) (fun K hK => ?_)
          go_wp2_with fail
          refine ⟨by kernel_rfl, ?_⟩
          go_wp2_with fail
          rw [Exit.noGoto_ret]
          go_ret3
          exact got_ok (hok.out (by omega) (by omega)) hE.out.drew hin'.out (by rw [hor.out (by omega), hyx.out (by omega)])
        · go_roundw
          case rel => exact ⟨i + 1, acc + 128 ^ i * y, by go_num, by rw [hor.out (by omega)], rfl, by omega, acc_lt hacc hyy, hide (by rw [hnx.out (by omega) (by omega), hyx2.out (by omega)]), hE⟩
          case measure => simp [intOf]; omega
    · have hii : i = k := by omega
      have hge := getV_end (l := l) (i := i) (by rw [← h.out.len, hii]; exact hk3.out) acc
      rw [← hg.out] at hge
      replace hge := hide hge
      replace hii := hide hii
      go_wp2_with fail
      rw [Exit.noGoto_ret]
      go_ret3
      exact got_err hge.out hE.out
end Go.Proofs.YtijnomopcpgikaaDoor
