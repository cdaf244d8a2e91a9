/- Numbers in bytes, plainly: seven bits a byte, the lowest first. -/
import Derived.Test.YtohphanbnhiodaaGreatM01
import Derived.Laws.BitsAllLaws
import Derived.Lib.ConvBytes
import Derived.Test.YtohphanbnhiodaaGreatRows
import Derived.Test.YtohphanbnhiodaaGreatShelf
import Derived.Maps.Keyed
import Derived.Maps.OwnOps
import Derived.Maps.RangeRun
import Derived.Maps.Range
import Derived.Laws.IdiomRangeMap
set_option linter.unusedSimpArgs false
set_option linter.unusedVariables false
namespace Go.Proofs.YtohphanbnhiodaaGreat

/-- A number's bytes. -/
def vb (n : Nat) : List UInt8 := if _h : n < 128 then [UInt8.ofNat n] else UInt8.ofNat (n % 128 + 128) :: vb (n / 128)
termination_by n
decreasing_by omega
theorem vb_lt {n : Nat} (h : n < 128) : vb n = [UInt8.ofNat n] := by rw [vb, dif_pos h]
theorem vb_ge {n : Nat} (h : ¬ n < 128) : vb n = UInt8.ofNat (n % 128 + 128) :: vb (n / 128) := by rw [vb, dif_neg h]
theorem vb_len : ∀ (k n : Nat), n < 128 ^ k → (vb n).length ≤ max k 1
  | 0, n, h => by
    have : n = 0 := by simpa using h
    subst this
    rw [vb_lt (by omega)]
    simp
  | k + 1, n, h => by
    by_cases hn : n < 128
    · rw [vb_lt hn]; simp
    · rw [vb_ge hn, List.length_cons]
      have ih := vb_len k (n / 128) (by rw [Nat.pow_succ] at h; omega)
      have : 1 ≤ k := by
        rcases Nat.eq_zero_or_pos k with rfl | hk
        · simp at h; omega
        · exact hk
      omega
theorem vb_len10 {n : Nat} (h : n < 18446744073709551616) : (vb n).length ≤ 10 := vb_len 10 n (by omega)
theorem vb_pos (n : Nat) : 1 ≤ (vb n).length := by
  by_cases hn : n < 128
  · rw [vb_lt hn]; simp
  · rw [vb_ge hn]; simp
/-- The number that bytes begin with, and what is left; or the error. i bytes have been read. -/
def getV (i : Nat) : List UInt8 → Except Nat (Nat × List UInt8)
  | [] => .error 6
  | x :: l => if 10 ≤ i then .error 6 else if (i = 9 ∧ 1 < x.toNat) ∨ (0 < i ∧ x.toNat = 0) then .error 20 else
    if x.toNat < 128 then .ok (x.toNat, l) else match getV (i + 1) l with
      | .ok (n, r) => .ok (x.toNat - 128 + 128 * n, r)
      | .error e => .error e
theorem getV_lt : ∀ (l : List UInt8) (i n : Nat) (r : List UInt8), getV i l = .ok (n, r) → i ≤ 9 ∧ n < 2 * 128 ^ (9 - i) ∧ ∃ p, l = p ++ r ∧ p ≠ []
  | [], i, n, r, h => by simp [getV] at h
  | x :: l, i, n, r, h => by
    unfold getV at h
    by_cases h10 : 10 ≤ i
    · rw [if_pos h10] at h; cases h
    rw [if_neg h10] at h
    by_cases hb : (i = 9 ∧ 1 < x.toNat) ∨ (0 < i ∧ x.toNat = 0)
    · rw [if_pos hb] at h; cases h
    rw [if_neg hb] at h
    have hx := x.toNat_lt
    by_cases h128 : x.toNat < 128
    · rw [if_pos h128] at h
      injection h with h
      injection h with h1 h2
      subst h1 h2
      refine ⟨by omega, ?_, [x], rfl, by simp⟩
      by_cases h9 : i = 9
      · subst h9
        simp only [Nat.sub_self, Nat.pow_zero]
        omega
      · have : 128 ^ 1 ≤ 128 ^ (9 - i) := Nat.pow_le_pow_right (by omega) (by omega)
        omega
    · rw [if_neg h128] at h
      split at h
      · rename_i m r' hg
        injection h with h
        injection h with h1 h2
        subst h1 h2
        obtain ⟨h3, h4, p, hp, _⟩ := getV_lt l (i + 1) m r' hg
        refine ⟨by omega, ?_, x :: p, by rw [hp]; rfl, by simp⟩
        have : 9 - i = (9 - (i + 1)) + 1 := by omega
        rw [this, Nat.pow_succ]
        omega
      · cases h
theorem getV_lt64 {l : List UInt8} {n : Nat} {r : List UInt8} (h : getV 0 l = .ok (n, r)) : n < 18446744073709551616 := by
  have := (getV_lt l 0 n r h).2.1
  omega
/-- What was put is got. -/
theorem getV_vb : ∀ (k i n : Nat) (r : List UInt8), k + i = 9 → n < 2 * 128 ^ k → (0 < i → 0 < n) → getV i (vb n ++ r) = .ok (n, r)
  | k, i, n, r, hk, hn, h0 => by
    by_cases h128 : n < 128
    · rw [vb_lt h128]
      have hx : (UInt8.ofNat n).toNat = n := by rw [UInt8.toNat_ofNat']; omega
      show getV i (UInt8.ofNat n :: r) = _
      unfold getV
      rw [if_neg (by omega), hx, if_neg, if_pos h128]
      rintro (⟨rfl, h1⟩ | ⟨h1, h2⟩)
      · obtain rfl : k = 0 := by omega
        simp at hn
        omega
      · have := h0 h1; omega
    · rw [vb_ge h128]
      have hx : (UInt8.ofNat (n % 128 + 128)).toNat = n % 128 + 128 := by rw [UInt8.toNat_ofNat']; omega
      show getV i (UInt8.ofNat (n % 128 + 128) :: (vb (n / 128) ++ r)) = _
      have hk0 : 1 ≤ k := by
        rcases Nat.eq_zero_or_pos k with rfl | h
        · simp at hn; omega
        · exact h
      obtain ⟨k, rfl⟩ : ∃ j, k = j + 1 := ⟨k - 1, by omega⟩
      have ih := getV_vb k (i + 1) (n / 128) r (by omega) (by rw [Nat.pow_succ] at hn; omega) (fun _ => by omega)
      unfold getV
      rw [if_neg (by omega), hx, if_neg (by omega), if_neg (by omega), ih]
      simp only
      rw [show n % 128 + 128 - 128 + 128 * (n / 128) = n by omega]
theorem getV_put {n : Nat} (h : n < 18446744073709551616) (r : List UInt8) : getV 0 (vb n ++ r) = .ok (n, r) := getV_vb 9 0 n r rfl (by omega) (by omega)
/-- Whole numbers, zigzag. -/
def zig (n : Int) : Nat := if 0 ≤ n then 2 * n.toNat else 2 * (-1 - n).toNat + 1
def unzig (u : Nat) : Int := if u % 2 = 0 then ((u / 2 : Nat) : Int) else -1 - ((u / 2 : Nat) : Int)
theorem unzig_zig (n : Int) : unzig (zig n) = n := by
  unfold unzig zig
  split <;> split <;> omega
theorem zig_lt {n : Int} (h1 : -9223372036854775808 ≤ n) (h2 : n ≤ 9223372036854775807) : zig n < 18446744073709551616 := by
  unfold zig
  split <;> omega
theorem unzig_ok {u : Nat} (h : u < 18446744073709551616) : -9223372036854775808 ≤ unzig u ∧ unzig u ≤ 9223372036854775807 := by
  unfold unzig
  split <;> omega
def vall (l : List Int) : List UInt8 := l.flatMap fun n => vb (zig n)
/-- So many whole numbers, and what is left. -/
def getAll : Nat → List UInt8 → Except Nat (List Int × List UInt8)
  | 0, l => .ok ([], l)
  | k + 1, l => match getV 0 l with
    | .error e => .error e
    | .ok (u, r) => match getAll k r with
      | .error e => .error e
      | .ok (ns, r') => .ok (unzig u :: ns, r')
theorem getAll_put : ∀ (ns : List Int) (r : List UInt8), (∀ n ∈ ns, -9223372036854775808 ≤ n ∧ n ≤ 9223372036854775807) → getAll ns.length (vall ns ++ r) = .ok (ns, r)
  | [], r, _ => rfl
  | n :: ns, r, h => by
    have hn := h n (List.mem_cons_self ..)
    have ih := getAll_put ns r fun m hm => h m (List.mem_cons_of_mem _ hm)
    show getAll (ns.length + 1) ((vb (zig n) ++ vall ns) ++ r) = _
    unfold getAll
    have e := getV_put (zig_lt hn.1 hn.2) (vall ns ++ r)
    rw [List.append_assoc, e]
    simp only [ih, unzig_zig]
theorem getAll_len : ∀ (k : Nat) (l : List UInt8) (ns : List Int) (r : List UInt8), getAll k l = .ok (ns, r) → ns.length = k ∧ (∀ n ∈ ns, -9223372036854775808 ≤ n ∧ n ≤ 9223372036854775807) ∧ ∃ p, l = p ++ r
  | 0, l, ns, r, h => by
    unfold getAll at h
    injection h with h
    injection h with h1 h2
    subst h1 h2
    exact ⟨rfl, nofun, [], rfl⟩
  | k + 1, l, ns, r, h => by
    unfold getAll at h
    split at h
    · cases h
    · rename_i u r1 hu
      split at h
      · cases h
      · rename_i ns1 r2 hr
        injection h with h
        injection h with h1 h2
        subst h1 h2
        obtain ⟨h3, h4, p2, h5⟩ := getAll_len k r1 ns1 r2 hr
        obtain ⟨_, _, p1, h6, _⟩ := getV_lt l 0 u r1 hu
        refine ⟨by rw [List.length_cons, h3], fun n hn => ?_, p1 ++ p2, by rw [h6, h5, List.append_assoc]⟩
        rcases List.mem_cons.1 hn with rfl | hn
        · exact unzig_ok (getV_lt64 hu)
        · exact h4 n hn
end Go.Proofs.YtohphanbnhiodaaGreat

/- loggia/varint: Put, PutInt, PutAll. -/
namespace Go.Proofs.YtohphanbnhiodaaGreat
open Go.RowKit

theorem vb_round {x m : Nat} {pre : List UInt8} (h : vb x = pre ++ vb m) (hm : 128 ≤ m) : vb x = (pre ++ [UInt8.ofNat (m % 128 + 128)]) ++ vb (m / 128) := by
  rw [h, vb_ge (by omega), List.append_assoc]
  rfl
theorem nat_not (k a : Nat) (h : a < 2 ^ k) : (2 ^ k - 1) ^^^ a = 2 ^ k - 1 - a := by
  apply Nat.eq_of_testBit_eq
  intro i
  rw [Nat.testBit_xor, Nat.testBit_two_pow_sub_one, show 2 ^ k - 1 - a = 2 ^ k - (a + 1) by omega, Nat.testBit_two_pow_sub_succ h]
  by_cases hi : i < k
  · simp [hi]
  · have : a.testBit i = false := Nat.testBit_lt_two_pow (Nat.lt_of_lt_of_le h (Nat.pow_le_pow_right (by omega) (by omega)))
    simp [hi, this]
theorem bits_not64 (a : Nat) (h : a < 18446744073709551616) : bits .xor .u64 IntKind.u64.max (a : Int) = ((18446744073709551615 - a : Nat) : Int) := by
  rw [show IntKind.u64.max = ((18446744073709551615 : Nat) : Int) from rfl, u64_xor_nat _ _ (by omega) h]
  exact congrArg _ (nat_not 64 a h)
theorem bits_not32 (a : Nat) (h : a < 4294967296) : bits .xor .u32 IntKind.u32.max (a : Int) = ((4294967295 - a : Nat) : Int) := by
  rw [show IntKind.u32.max = ((4294967295 : Nat) : Int) from rfl, u32_xor_nat _ _ (by omega) h]
  exact congrArg _ (nat_not 32 a h)
theorem wrap_neg (x : Int) (h : x < 0) (h2 : -9223372036854775808 ≤ x) : IntKind.u64.wrap (IntKind.u64.wrap x * 2) = ((18446744073709551615 - (2 * (-1 - x).toNat + 1) : Nat) : Int) := by
  have e : ∀ y : Int, IntKind.u64.wrap y = y % 18446744073709551616 := fun y => by simp [IntKind.wrap, IntKind.bits, IntKind.signed]
  rw [e, e]
  omega
theorem or_more (m : Nat) : bits .or .u8 ((m : Int) % 256) 128 = ((m % 128 + 128 : Nat) : Int) := by
  have h : ∀ k : Fin 256, k.val ||| 128 = k.val % 128 + 128 := by decide +kernel
  have hk := h ⟨m % 256, by omega⟩
  simp only at hk
  rw [show (m : Int) % 256 = ((m % 256 : Nat) : Int) by omega, show (128 : Int) = ((128 : Nat) : Int) from rfl, u8_or_nat _ _ (by omega) (by omega), hk]
  congr 1
  omega
theorem snoc_B8 (l : List UInt8) {k : Nat} (hk : k < 256) : (l ++ [UInt8.ofNat k]).map B8 = l.map B8 ++ [.int .u8 (k : Int)] := by
  rw [List.map_append, List.map_singleton]
  unfold B8
  rw [UInt8.toNat_ofNat', Nat.mod_eq_of_lt hk]
set_option maxRecDepth 100000 in
set_option maxHeartbeats 1000000 in
theorem put_any (A : Option Addr) (n c x : Nat) (l : List UInt8) (w : World) (hn : n = l.length) (hl : Bs w A l) (hz : A = none → c = 0) (hle : n ≤ 1000000000) (hx : x < 18446744073709551616) :
    Calls Tryz.prog 70 #[.slice A n c, .int .u64 x] w fun e w' => NewB w (l ++ vb x) e w' := by
  have hcl := clone_any A n c l w hn hl hz (by omega)
  have h10 := vb_len10 hx
  replace hcl := hide hcl
  replace hn := hide hn
  clear hl hz
  go_enter Tryz.func70, Tryz.ntmps70
  go_wp2_with fail
  refine hcl.out.mono ?_
  rintro e w1 ⟨A1, c1, rfl, hb1, hE1⟩
  go_wp2_with fail
  go_loopw [1, 5] (fun s1 s5 wr => ∃ (m : Nat) (pre : List UInt8) (A2 : Option Addr) (c2 : Nat), s1 = .int .u64 m ∧ s5 = .slice A2 (n + pre.length) c2 ∧ m < 18446744073709551616 ∧ pre.length ≤ 10 ∧ Hid (vb x = pre ++ vb m) ∧ Hid (Buf wr w.heap.size 5 A2 (n + pre.length) c2 ((l ++ pre).map B8)) ∧ Hid (Ext w wr)) (fun s1 _ _ => (intOf s1).toNat)
  case atStart => exact ⟨x, [], A1, c1, rfl, rfl, hx, by simp, rfl, by rw [List.append_nil]; exact hide hb1, hide hE1⟩
  case round =>
    obtain ⟨m, pre, A2, c2, rfl, rfl, hm, hp, hv, hb, hE⟩ := hrel
    have hsz := hE.out.size
    by_cases h128 : 128 ≤ m
    · have hor := or_more m
      go_wp2_with (at_builtin; refine wpList_bufN elemB hb.out (.tmp 10) (.tmp 14) rfl rfl rfl rfl (one_of rfl) (by simp; omega) hsz (fun A3 c3 w3 hb3 hE3 => ?_))
      go_roundw
      case rel => exact ⟨m / 128, pre ++ [UInt8.ofNat (m % 128 + 128)], A3, c3, by go_num, by rw [List.length_append]; rfl, by omega, (by
        have h1 := congrArg List.length (vb_round hv.out h128)
        have h2 := vb_pos (m / 128)
        rw [List.length_append, List.length_append, List.length_singleton] at h1
        rw [List.length_append, List.length_singleton]
        omega), hide (vb_round hv.out h128), hide (by rw [← List.append_assoc, snoc_B8 _ (by omega), List.length_append]; exact hb3), hide (hE3 w hE.out (Nat.le_refl _))⟩
      case measure => simp [intOf]; omega
    · go_wp2_with (at_builtin; refine wpList_bufN elemB hb.out (.tmp 18) (.tmp 21) rfl rfl rfl rfl (one_of rfl) (by simp; omega) hsz (fun A3 c3 w3 hb3 hE3 => ?_))
      go_ret
      have hl : l ++ vb x = (l ++ pre) ++ [UInt8.ofNat m] := by rw [hv.out, vb_lt (by omega), List.append_assoc]
      have hlen : (l ++ vb x).length = n + pre.length + 1 := by rw [hl, hn.out]; simp; omega
      exact ⟨A3, c3, by rw [hlen]; rfl, by rw [hlen, hl, snoc_B8 _ (by omega)]; exact hb3, hE3 w hE.out (Nat.le_refl _)⟩
set_option maxRecDepth 100000 in
set_option maxHeartbeats 1000000 in
theorem putInt_any (A : Option Addr) (n c : Nat) (x : Int) (l : List UInt8) (w : World) (hn : n = l.length) (hl : Bs w A l) (hz : A = none → c = 0) (hle : n ≤ 1000000000) (hx : -9223372036854775808 ≤ x) (hx2 : x ≤ 9223372036854775807) :
    Calls Tryz.prog 97 #[.slice A n c, .int .i64 x] w fun e w' => NewB w (l ++ vb (zig x)) e w' := by
  have hp := put_any A n c (zig x) l w hn hl hz hle (zig_lt hx hx2)
  have hzd : zig x = if 0 ≤ x then 2 * x.toNat else 2 * (-1 - x).toNat + 1 := rfl
  obtain ⟨Z, hZ⟩ : ∃ Z, Z = zig x := ⟨_, rfl⟩
  rw [← hZ] at hp hzd ⊢
  clear hZ hn hl hz
  replace hp := hide hp
  by_cases h0 : 0 ≤ x
  · rw [if_pos h0] at hzd
    replace hzd := hide hzd
    go_enter Tryz.func97, Tryz.ntmps97
    go_wp2_with fail
    rw [show (x * 2 : Int) = (Z : Int) by have := hzd.out; omega]
    refine hp.out.mono ?_
    rintro e w1 ⟨A1, c1, rfl, hb1, hE1⟩
    go_wp2_with fail
    go_ret
    exact ⟨A1, c1, ret_slice (by rw [List.length_append]), hb1, hE1⟩
  · rw [if_neg h0] at hzd
    have hx64 := zig_lt hx hx2
    unfold zig at hx64
    rw [if_neg h0] at hx64
    have hnot := bits_not64 (18446744073709551615 - (2 * (-1 - x).toNat + 1)) (by omega)
    rw [show 18446744073709551615 - (18446744073709551615 - (2 * (-1 - x).toNat + 1)) = 2 * (-1 - x).toNat + 1 by omega, ← wrap_neg x (by omega) hx, ← hzd] at hnot
    clear hx64
    replace hzd := hide hzd
    replace hnot := hide hnot
    go_enter Tryz.func97, Tryz.ntmps97
    go_wp2_with fail
    rw [hnot.out]
    refine hp.out.mono ?_
    rintro e w1 ⟨A1, c1, rfl, hb1, hE1⟩
    go_wp2_with fail
    go_ret
    exact ⟨A1, c1, ret_slice (by rw [List.length_append]), hb1, hE1⟩
theorem vall_take (xs : List Int) (hx : ∀ x ∈ xs, -9223372036854775808 ≤ x ∧ x ≤ 9223372036854775807) : ∀ i, (vall (xs.take i)).length ≤ 10 * i := by
  induction xs with
  | nil => intro i; simp [vall]
  | cons x xs ih =>
    intro i
    cases i with
    | zero => simp [vall]
    | succ i =>
      have h1 := ih (fun y hy => hx y (List.mem_cons_of_mem _ hy)) i
      have h2 := hx x (List.mem_cons_self ..)
      have h3 := vb_len10 (zig_lt h2.1 h2.2)
      unfold vall at h1 ⊢
      rw [List.take_succ_cons, List.flatMap_cons, List.length_append]
      omega
end Go.Proofs.YtohphanbnhiodaaGreat

/- loggiaref02: Bytes, Zigzag, Int, All. -/
namespace Go.Proofs.YtohphanbnhiodaaGreat
open Go.RowKit

theorem buf_new (w : World) (us : List Value) (t : TypeId) (h : us.length ≤ 9223372036854775807) : Buf (w.alloc (.cells us.toArray t)) w.heap.size t (some ⟨w.heap.size, 0, none⟩) us.length us.length us :=
  ⟨rfl, Nat.le_refl _, .inr ⟨w.heap.size, us.toArray, rfl, Nat.le_refl _, heap_alloc_new w _, by simp, by simp⟩⟩
theorem newB_one (w : World) {k : Nat} (hk : k < 256) : NewB w [UInt8.ofNat k] (.returned (.slice (some ⟨w.heap.size, 0, none⟩) 1 1)) (w.alloc (.cells #[.int .u8 (k : Int)] 5)) := by
  have h := snoc_B8 [] hk
  rw [List.nil_append] at h
  refine ⟨_, _, rfl, ?_, (Ext.refl w).alloc _⟩
  rw [h]
  exact buf_new w [.int .u8 (k : Int)] 5 (by simp)
set_option maxRecDepth 100000 in
set_option maxHeartbeats 1000000 in
theorem rbytes_any (k : Nat) : ∀ (n : Nat) (w : World), n < 128 ^ (k + 1) → n < 18446744073709551616 → Calls Tryz.prog 75 #[.int .u64 n] w fun e w' => NewB w (vb n) e w' := by
  induction k with
  | zero =>
    intro n w h1 h2
    have h3 : n < 128 := by simpa using h1
    rw [vb_lt h3]
    clear h1
    go_enter Tryz.func75, Tryz.ntmps75
    go_wp2_with fail
    go_ret
    exact newB_one w (by omega)
  | succ k ih =>
    intro n w h1 h2
    by_cases h3 : n < 128
    · rw [vb_lt h3]
      clear h1 ih
      go_enter Tryz.func75, Tryz.ntmps75
      go_wp2_with fail
      go_ret
      exact newB_one w (by omega)
    · obtain ⟨q, hq⟩ : ∃ q, q = n % 128 + 128 := ⟨_, rfl⟩
      obtain ⟨m, hm⟩ : ∃ m, m = n / 128 := ⟨_, rfl⟩
      have hih := ih m (w.alloc (.cells #[.int .u8 (q : Int)] 5)) (by rw [Nat.pow_succ] at h1; omega) (by omega)
      have hb0 := buf_new w [.int .u8 (q : Int)] 5 (by simp)
      have h10 := vb_len10 (n := m) (by omega)
      have hE0 : Ext w (w.alloc (.cells #[.int .u8 (q : Int)] 5)) := (Ext.refl w).alloc _
      have hsn : B8 (UInt8.ofNat q) = .int .u8 (q : Int) := by unfold B8; rw [UInt8.toNat_ofNat', Nat.mod_eq_of_lt (by omega)]
      have hvb := vb_ge h3
      rw [← hq, ← hm] at hvb
      have hv1 : ((n : Int) % 128 + 128) = (q : Int) := by omega
      have hv2 : (n : Int) / 128 = (m : Int) := by omega
      have hq2 : q < 256 := by omega
      clear h1 ih hq hm
      replace hih := hide hih
      replace hb0 := hide hb0
      replace hE0 := hide hE0
      replace hsn := hide hsn
      replace hvb := hide hvb
      go_enter Tryz.func75, Tryz.ntmps75
      go_wp2_with fail
      refine hih.out.mono ?_
      rintro e w1 ⟨A1, c1, rfl, hb1, hE1⟩
      have hb2 := hb0.out.ext hE1
      have hE2 := hE0.out.trans hE1
      have hsz := hE2.size
      go_wp2_with (at_builtin; refine wpList_buf elemB hb2 hb1.cells (.tmp 12) (.tmp 15) rfl rfl rfl rfl rfl (by rw [List.length_map]) (bytes_one _) (by simp; omega) hsz (fun A3 c3 w3 hb3 _ hE3 _ => ?_))
      go_ret
      rw [hvb.out]
      refine ⟨A3, c3, ret_slice (by rw [List.length_cons, Nat.add_comm]), ?_, hE3 w hE2 (Nat.le_refl _)⟩
      have : (UInt8.ofNat q :: vb m).map B8 = [.int .u8 (q : Int)] ++ (vb m).map B8 := by rw [List.map_cons, hsn.out]; rfl
      rw [this, List.length_cons, Nat.add_comm]
      exact hb3
theorem rbytes (n : Nat) (w : World) (h : n < 18446744073709551616) : Calls Tryz.prog 75 #[.int .u64 n] w fun e w' => NewB w (vb n) e w' := rbytes_any 9 n w (by omega) h
set_option maxRecDepth 100000 in
set_option maxHeartbeats 1000000 in
theorem zigzag_any (x : Int) (w : World) (hx : -9223372036854775808 ≤ x) (hx2 : x ≤ 9223372036854775807) : Calls Tryz.prog 118 #[.int .i64 x] w fun e w' => e = .returned (.int .u64 (zig x)) ∧ w' = w := by
  go_enter Tryz.func118, Tryz.ntmps118
  go_wp2_with fail
  all_goals go_ret
  all_goals exact ⟨ret_int (by unfold zig; first | (rw [if_pos (by omega)]; omega) | (rw [if_neg (by omega)]; omega)), rfl⟩
set_option maxRecDepth 100000 in
set_option maxHeartbeats 1000000 in
theorem rint_any (x : Int) (w : World) (hx : -9223372036854775808 ≤ x) (hx2 : x ≤ 9223372036854775807) : Calls Tryz.prog 103 #[.int .i64 x] w fun e w' => NewB w (vb (zig x)) e w' := by
  have hz := hide (fun w => zigzag_any x w hx hx2)
  have hb := hide (fun w => rbytes (zig x) w (zig_lt hx hx2))
  go_enter Tryz.func103, Tryz.ntmps103
  go_wp2_with fail
  refine (hz.out _).mono ?_
  rintro e w1 ⟨rfl, rfl⟩
  go_wp2_with fail
  refine (hb.out _).mono ?_
  rintro e w2 ⟨A, c, rfl, hb2, hE⟩
  go_wp2_with fail
  go_ret
  exact ⟨A, c, rfl, hb2, hE⟩
end Go.Proofs.YtohphanbnhiodaaGreat

/- loggia/wal: Name; loggiaref15: Name. -/
namespace Go.Proofs.YtohphanbnhiodaaGreat
open Go.RowKit

/-- A row of bytes that was text in the program. -/
def RowM (w : World) (g : Nat) (cs : List Value) : Prop := w.heap[g]? = some (.cells cs.toArray 5 (cs.length, cs.length + 1))
theorem RowM.lt {w : World} {g : Nat} {cs : List Value} (h : RowM w g cs) : g < w.heap.size := (Array.getElem?_eq_some_iff.1 h).1
theorem RowM.cell {w : World} {g : Nat} {cs : List Value} (h : RowM w g cs) {i : Nat} {v : Value} (hv : cs[i]? = some v) : w.cell? ⟨g, i, none⟩ = some v := (cell_of_row w g i _ _ _ h).trans (by simpa using hv)
theorem RowM.free {w : World} {g : Nat} {cs : List Value} (h : RowM w g cs) {i : Nat} (hi : i < cs.length) : w.frozen? ⟨g, i, none⟩ = false := by
  simp [World.frozen?, show w.heap[g]? = some (.cells cs.toArray 5 (cs.length, cs.length + 1)) from h]
  omega
theorem RowM.put {w : World} {g : Nat} {cs : List Value} (h : RowM w g cs) (i : Nat) (v : Value) : RowM (w.setCell ⟨g, i, none⟩ v) g (cs.set i v) := by
  unfold RowM at h ⊢
  simp [World.setCell, Array.getElem?_modify, h]
theorem RowM.bs {w : World} {g : Nat} {l : List UInt8} (h : RowM w g (l.map B8)) : Bs w (some ⟨g, 0, none⟩) l := .inr ⟨g, 0, rfl, fun i v hv => by
  rw [Nat.zero_add]
  exact h.cell hv⟩
theorem RowM.new (w : World) (cs : List Value) : RowM (w.alloc (.cells cs.toArray 5 (cs.length, cs.length + 1))) w.heap.size cs := heap_alloc_new w _
set_option maxRecDepth 100000 in
set_option maxHeartbeats 4000000 in
theorem name_no (n : Int) (w : World) (h : n < 0 ∨ 99999999 < n) : Calls Tryz.prog 32 #[.int .i64 n] w fun e w' => e = .returned (.tuple #[.string ⟨#[]⟩, .int .i64 1]) ∧ w' = w := by
  by_cases h0 : n < 0
  · clear h
    go_enter Tryz.func32, Tryz.ntmps32
    go_wp2_with fail
    go_ret2
    exact ⟨rfl, rfl⟩
  · have h1 : 99999999 < n := by omega
    clear h
    go_enter Tryz.func32, Tryz.ntmps32
    go_wp2_with fail
    go_ret2
    exact ⟨rfl, rfl⟩
set_option maxRecDepth 100000 in
set_option maxHeartbeats 4000000 in
theorem name_yes (n : Nat) (w : World) (h : n ≤ 99999999) : Calls Tryz.prog 32 #[.int .i64 (n : Int)] w fun e w' => e = .returned (.tuple #[.string ⟨(nameW n).toArray⟩, .int .i64 0]) ∧ Ext w w' := by
  obtain ⟨Z, hZ⟩ : ∃ Z, Z = nameW n := ⟨_, rfl⟩
  rw [← hZ]
  replace hZ := hide hZ
  have hb0 := RowM.new w [.int .u8 108, .int .u8 111, .int .u8 103, .int .u8 45, .int .u8 48, .int .u8 48, .int .u8 48, .int .u8 48, .int .u8 48, .int .u8 48, .int .u8 48, .int .u8 48]
  have hsm := run_same w #[.int .u8 108, .int .u8 111, .int .u8 103, .int .u8 45, .int .u8 48, .int .u8 48, .int .u8 48, .int .u8 48, .int .u8 48, .int .u8 48, .int .u8 48, .int .u8 48] 12 12
  replace hb0 := hide hb0
  go_enter Tryz.func32, Tryz.ntmps32
  go_wp2_with fail
  go_loopw [0, 5] (fun s0 s5 wr => ∃ (k i m : Nat), s0 = .int .i64 (m : Int) ∧ s5 = .int .i64 (i : Int) ∧ i + k = 11 ∧ Hid (m = n / 10 ^ k) ∧ k ≤ 8 ∧ m ≤ 99999999 ∧ (k = 8 → m = 0) ∧ Hid (RowM wr w.heap.size ((midW k n).map B8)) ∧ Hid (Ext w wr)) (fun _ s5 _ => (intOf s5).toNat)
  case atStart => exact ⟨0, 11, n, rfl, rfl, rfl, hide (by simp), by omega, h, by omega, hide (hb0.out), hide ((Ext.refl w).alloc _)⟩
  case round =>
    obtain ⟨k, i, m, rfl, rfl, hik, hm, hk, hm9, hk8, hb, hE⟩ := hrel
    by_cases hm0 : m = 0
    · subst hm0
      have hzz : midW k n = Z := by rw [hZ.out]; exact midW_end hk hm.out.symm
      have hs := run_str hb.out.bs 12 12 (by rw [midW_len n hk])
      rw [hzz] at hs
      replace hzz := hide hzz
      clear hik hk8
      go_wp2_with fail
      go_ret2
      exact ⟨rfl, hE.out⟩
    · have hk7 : k < 8 := by omega
      obtain ⟨d, hd⟩ : ∃ d, d = m % 10 := ⟨_, rfl⟩
      have hd10 : d < 10 := by omega
      have hdi : (m : Int) % 10 = (d : Int) := by omega
      have hfr := hb.out.free (i := i) (by rw [List.length_map, midW_len n hk]; omega)
      have hcell : ∃ v, wr.cell? ⟨w.heap.size, i, none⟩ = some v := ⟨_, hb.out.cell (List.getElem?_eq_getElem (by rw [List.length_map, midW_len n hk]; omega))⟩
      obtain ⟨v0, hv0⟩ := hcell
      have hi12 : (i : Int) < 12 := by omega
      replace hd := hide hd
      go_wp2_with fail
      have hrow := hb.out.put i (.int .u8 (48 + (d : Int)))
      have hset : ((midW k n).map B8).set i (.int .u8 (48 + (d : Int))) = (midW (k + 1) n).map B8 := by
        rw [← midW_set n hk7, List.map_set, show 11 - k = i by omega]
        congr 1
        unfold B8
        rw [UInt8.toNat_ofNat', ← hm.out, ← hd.out, Nat.mod_eq_of_lt (by omega)]
        rfl
      rw [hset] at hrow
      refine ⟨⟨k + 1, i - 1, m / 10, by rw [show (m : Int) / 10 = ((m / 10 : Nat) : Int) by omega], by rw [show (i : Int) - 1 = ((i - 1 : Nat) : Int) by omega], by omega, hide (by rw [hm.out, Nat.div_div_eq_div_mul, Nat.pow_succ]), by omega, by omega, fun hk1 => ?_, hide hrow, hide (hE.out.setCell (p := ⟨w.heap.size, i, none⟩) (Nat.le_refl _) _)⟩, by simp [intOf]; omega⟩
      obtain rfl : k = 7 := by omega
      have := hm.out
      omega
set_option maxRecDepth 100000 in
set_option maxHeartbeats 4000000 in
theorem rname_no (n : Int) (w : World) (h : n < 0 ∨ 99999999 < n) : Calls Tryz.prog 8 #[.int .i64 n] w fun e w' => e = .returned (.tuple #[.string ⟨#[]⟩, .int .i64 1]) ∧ w' = w := by
  by_cases h0 : n < 0
  · clear h
    go_enter Tryz.func8, Tryz.ntmps8
    go_wp2_with fail
    go_ret2
    exact ⟨rfl, rfl⟩
  · have h1 : 99999999 < n := by omega
    clear h
    go_enter Tryz.func8, Tryz.ntmps8
    go_wp2_with fail
    go_ret2
    exact ⟨rfl, rfl⟩
set_option maxRecDepth 100000 in
set_option maxHeartbeats 4000000 in
theorem rname_yes (n : Nat) (w : World) (h : n ≤ 99999999) : Calls Tryz.prog 8 #[.int .i64 (n : Int)] w fun e w' => e = .returned (.tuple #[.string ⟨(nameW n).toArray⟩, .int .i64 0]) ∧ Ext w w' := by
  obtain ⟨Z, hZ⟩ : ∃ Z, Z = nameW n := ⟨_, rfl⟩
  rw [← hZ]
  replace hZ := hide hZ
  have hb0 := RowM.new w [.int .u8 108, .int .u8 111, .int .u8 103, .int .u8 45, .int .u8 48, .int .u8 48, .int .u8 48, .int .u8 48, .int .u8 48, .int .u8 48, .int .u8 48, .int .u8 48]
  have hsm := run_same w #[.int .u8 108, .int .u8 111, .int .u8 103, .int .u8 45, .int .u8 48, .int .u8 48, .int .u8 48, .int .u8 48, .int .u8 48, .int .u8 48, .int .u8 48, .int .u8 48] 12 12
  replace hb0 := hide hb0
  go_enter Tryz.func8, Tryz.ntmps8
  go_wp2_with fail
  go_loopw [0, 5] (fun s0 s5 wr => ∃ (k i m : Nat), s0 = .int .i64 (m : Int) ∧ s5 = .int .i64 (i : Int) ∧ i + k = 11 ∧ Hid (m = n / 10 ^ k) ∧ k ≤ 8 ∧ m ≤ 99999999 ∧ (k = 8 → m = 0) ∧ Hid (RowM wr w.heap.size ((midW k n).map B8)) ∧ Hid (Ext w wr)) (fun _ s5 _ => (intOf s5).toNat)
  case atStart => exact ⟨0, 11, n, rfl, rfl, rfl, hide (by simp), by omega, h, by omega, hide (hb0.out), hide ((Ext.refl w).alloc _)⟩
  case round =>
    obtain ⟨k, i, m, rfl, rfl, hik, hm, hk, hm9, hk8, hb, hE⟩ := hrel
    by_cases hm0 : k = 8
    · subst hm0
      obtain rfl : m = 0 := hk8 rfl
      obtain rfl : i = 3 := by omega
      have hzz : midW 8 n = Z := by rw [hZ.out]; exact midW_end hk hm.out.symm
      have hs := run_str hb.out.bs 12 12 (by rw [midW_len n hk])
      rw [hzz] at hs
      replace hzz := hide hzz
      clear hik hk8
      go_wp2_with fail
      go_ret2
      exact ⟨rfl, hE.out⟩
    · have hk7 : k < 8 := by omega
      obtain ⟨d, hd⟩ : ∃ d, d = m % 10 := ⟨_, rfl⟩
      have hd10 : d < 10 := by omega
      have hdi : (m : Int) % 10 = (d : Int) := by omega
      have hfr := hb.out.free (i := i) (by rw [List.length_map, midW_len n hk]; omega)
      have hcell : ∃ v, wr.cell? ⟨w.heap.size, i, none⟩ = some v := ⟨_, hb.out.cell (List.getElem?_eq_getElem (by rw [List.length_map, midW_len n hk]; omega))⟩
      obtain ⟨v0, hv0⟩ := hcell
      have hi4 : (4 : Int) ≤ (i : Int) := by omega
      have hi12 : (i : Int) < 12 := by omega
      replace hd := hide hd
      go_wp2_with fail
      have hrow := hb.out.put i (.int .u8 (48 + (d : Int)))
      have hset : ((midW k n).map B8).set i (.int .u8 (48 + (d : Int))) = (midW (k + 1) n).map B8 := by
        rw [← midW_set n hk7, List.map_set, show 11 - k = i by omega]
        congr 1
        unfold B8
        rw [UInt8.toNat_ofNat', ← hm.out, ← hd.out, Nat.mod_eq_of_lt (by omega)]
        rfl
      rw [hset] at hrow
      refine ⟨⟨k + 1, i - 1, m / 10, by rw [show (m : Int) / 10 = ((m / 10 : Nat) : Int) by omega], by rw [show (i : Int) - 1 = ((i - 1 : Nat) : Int) by omega], by omega, hide (by rw [hm.out, Nat.div_div_eq_div_mul, Nat.pow_succ]), by omega, by omega, fun hk1 => ?_, hide hrow, hide (hE.out.setCell (p := ⟨w.heap.size, i, none⟩) (Nat.le_refl _) _)⟩, by simp [intOf]; omega⟩
      obtain rfl : k = 7 := by omega
      have := hm.out
      omega
end Go.Proofs.YtohphanbnhiodaaGreat

/- The bytes of a string: a row of the call's own. -/
namespace Go.Proofs.YtohphanbnhiodaaGreat
open Go.RowKit

/-- What an append onto a row of the call's own leaves: only that row may have turned, and the new row is the old one, or lies in a new block. -/
structure Push (w : World) (A A1 : Option Addr) (w' : World) : Prop where
  chg : Chg (fun k => ∃ a, A = some a ∧ a.block = k) w w'
  new : A1 = A ∨ ∃ a, A1 = some a ∧ w.heap.size ≤ a.block
theorem Push.refl (w : World) (A : Option Addr) : Push w A A w := ⟨Chg.refl _ _, .inl rfl⟩
theorem Push.of_ext {w w1 : World} (h : Ext w w1) (A : Option Addr) : Push w A A w1 := ⟨Chg.of_ext h _, .inl rfl⟩
theorem Push.trans {w w1 w2 : World} {A A1 A2 : Option Addr} (h : Push w A A1 w1) (k : Push w1 A1 A2 w2) : Push w A A2 w2 := by
  refine ⟨h.chg.trans k.chg fun i hi ⟨a, ha, hk⟩ => ?_, ?_⟩
  · rcases h.new with rfl | ⟨b, hb, hle⟩
    · exact ⟨a, ha, hk⟩
    · rw [ha] at hb
      cases hb
      omega
  · rcases k.new with rfl | ⟨b, hb, hle⟩
    · exact h.new
    · exact .inr ⟨b, hb, Nat.le_trans h.chg.size hle⟩
theorem Push.ext {w0 w w1 : World} {A A1 : Option Addr} (h : Push w A A1 w1) (hE : Ext w0 w) (hA : ∀ a, A = some a → w0.heap.size ≤ a.block) : Ext w0 w1 :=
  hE.chg h.chg fun i hi ⟨a, ha, hk⟩ => by have := hA a ha; omega
theorem Push.cells {w w1 : World} {A A1 B : Option Addr} {xs : List Value} (h : Push w A A1 w1) (hB : Cells w B xs) (hn : ∀ a b, A = some a → B = some b → a.block ≠ b.block) : Cells w1 B xs :=
  h.chg.cells hB fun b hb ⟨a, ha, hk⟩ => hn a b ha hb hk
theorem Push.row {w w1 : World} {A A1 : Option Addr} {g : Nat} {t : TypeId} {cs : Array Value} (h : Push w A A1 w1) (hr : Row w g t cs) (hn : ∀ a, A = some a → a.block ≠ g) : Row w1 g t cs :=
  h.chg.row hr fun ⟨a, ha, hk⟩ => hn a ha hk
theorem Push.away {w w1 : World} {A A1 : Option Addr} {g : Nat} (h : Push w A A1 w1) (hg : g < w.heap.size) (hn : ∀ a, A = some a → a.block ≠ g) : ∀ a, A1 = some a → a.block ≠ g := fun a ha => by
  rcases h.new with rfl | ⟨b, hb, hle⟩
  · exact hn a ha
  · rw [ha] at hb
    cases hb
    omega
/-- 'append' of values that the statement has just laid in a new block: what it keeps. -/
theorem wpList_bufK {P : Program} {ops : Array Oper} {rest : List Oper} {o : Oper} {a : Act} {Q : Exit → Act → World → Prop} {w0 : World} {us : List Value} {T : TypeId} {t e bytes : Nat} (E : Elem P t e 1 bytes)
    {base : Nat} {A : Option Addr} {n c : Nat} {xs : List Value} (hb : Buf w0 base e A n c xs) (s x : Operand)
    (ho : o.op = .call { callee := .builtin .append, args := #[s, x], argTypes := #[t, t] }) (hgd : o.guard = none)
    (hs : a.eval s = .slice A n c) (hx : a.eval x = .slice (some ⟨w0.heap.size, 0, none⟩) us.length us.length) (h1 : ∀ u ∈ us, u.oneCell' = true) (hsz : n + us.length ≤ 4294967296) (hbase : base ≤ w0.heap.size)
    (h : ∀ A1 c1 w', Buf w' base e A1 (n + us.length) c1 (xs ++ us) → Push w0 A A1 w' → wpList P ops Q rest (a.put o.dst (.slice A1 (n + us.length) c1)) w') :
    wpList P ops Q (o :: rest) a (w0.alloc (.cells us.toArray T)) := by
  refine wpList_buf E (hb.alloc _) (B := some ⟨w0.heap.size, 0, none⟩) (news := us) (.inr ⟨w0.heap.size, 0, rfl, fun i u hu => ?_⟩) s x ho hgd hs hx rfl rfl h1 hsz (by simp; omega) fun A1 c1 w' h2 hg _ h4 => h A1 c1 w' h2 ⟨?_, ?_⟩
  · rw [Nat.zero_add, cell_of_row _ _ _ _ _ _ (heap_alloc_new w0 _)]
    simpa using hu
  · refine (Chg.of_ext ((Ext.refl w0).alloc _) (fun k => ∃ a, A = some a ∧ a.block = k)).trans (Chg.of_grown (S := fun k => ∃ a, A = some a ∧ a.block = k) hg fun k _ hk => ?_) fun _ _ h => h
    cases A with
    | none => simp [Value.ownBlock] at hk
    | some b => exact ⟨b, rfl, by simpa [Value.ownBlock] using hk⟩
  · rcases h4 with rfl | rfl
    · exact .inl rfl
    · exact .inr ⟨_, rfl, by simp⟩
set_option maxRecDepth 100000 in
theorem run_bytes (s : List UInt8) (w : World) : ∃ c w1, (convert 9 34 (.string ⟨s.toArray⟩)).run Tryz.prog w = .ok (.slice (some ⟨w.heap.size, 0, none⟩) s.length c) w1 ∧ Bs w1 (some ⟨w.heap.size, 0, none⟩) s ∧ Ext w w1 ∧ w1.heap.size = w.heap.size + 1 := by
  refine ⟨grownCap w s.length 0 5, Lib.bytesWorld w 5 ⟨s.toArray⟩, ?_, ?_, ?_, Lib.bytesWorld_size _ _ _⟩
  · exact Lib.run_convert_string_bytes w 9 34 5 ⟨s.toArray⟩ Tryz.underlying9 Tryz.underlying34 Tryz.underlying5
  · refine .inr ⟨w.heap.size, 0, rfl, fun i v hv => ?_⟩
    rw [List.getElem?_map] at hv
    obtain ⟨b, hb, rfl⟩ := Option.map_eq_some_iff.1 hv
    have hi := (List.getElem?_eq_some_iff.1 hb).1
    have h := Lib.bytesWorld_cell w 5 ⟨s.toArray⟩ i (by rw [ByteArray.size_mk_toArray]; exact hi)
    rw [Nat.zero_add, h]
    unfold B8
    simp [List.getD, hb]
  · unfold Lib.bytesWorld
    rw [show w.heap.size = w.drew.heap.size from rfl, freeze_new]
    exact (Ext.refl w).drew.alloc _
end Go.Proofs.YtohphanbnhiodaaGreat

/- Strings as lists of bytes: a head, a tail, a byte. -/
namespace Go.Proofs.YtohphanbnhiodaaGreat
open Go.RowKit

theorem bytes_take (l : List UInt8) (k : Nat) : (⟨l.toArray⟩ : ByteArray).extract 0 k = ⟨(l.take k).toArray⟩ := by
  have : ((⟨l.toArray⟩ : ByteArray).extract 0 k).data = (l.take k).toArray := by
    simp
  generalize (⟨l.toArray⟩ : ByteArray).extract 0 k = x at this
  cases x
  simp only at this
  rw [this]
set_option maxRecDepth 100000 in
theorem run_strhead (l : List UInt8) (k : Nat) (hk : k ≤ l.length) (W : World) : (Instr.sliceAt 9 (.string ⟨l.toArray⟩) none (some (.int .i64 k)) none).run Tryz.prog W = .ok (.string ⟨(l.take k).toArray⟩) W := by
  rw [run_sliceAt_string W 9 _ _ _ _ Tryz.underlying9]
  have hsz : (⟨l.toArray⟩ : ByteArray).size = l.length := ByteArray.size_mk_toArray l
  simp only [Instr.slice, Sem.run_bind, run_underlying Tryz.underlying9, Result.andThen_ok, Instr.sliceBounds, hsz, Option.isSome_none, Bool.false_eq_true, if_false, Sem.run_pure]
  rw [run_sliceBound W .i64 (k : Int) l.length _ (by omega) (by omega)]
  simp only [Result.andThen_ok, Int.toNat_natCast, bytes_take]
theorem run_strheadz {l : List UInt8} {k : Nat} (hk : k ≤ l.length) {z : Int} (hz : z = (k : Int)) (W : World) : (Instr.sliceAt 9 (.string ⟨l.toArray⟩) none (some (.int .i64 z)) none).run Tryz.prog W = .ok (.string ⟨(l.take k).toArray⟩) W := by
  subst hz
  exact run_strhead l k hk W
set_option maxRecDepth 100000 in
theorem run_strindex {l : List UInt8} {i : Nat} {b : UInt8} (h : l[i]? = some b) {z : Int} (hz : z = (i : Int)) (W : World) : (Instr.index 9 (.string ⟨l.toArray⟩) (.int .i64 z)).run Tryz.prog W = .ok (.int .u8 (b.toNat : Int)) W := by
  subst hz
  have hi := (List.getElem?_eq_some_iff.1 h).1
  have h2 := (List.getElem?_eq_some_iff.1 h).2
  have hsz : (⟨l.toArray⟩ : ByteArray).size = l.length := ByteArray.size_mk_toArray l
  rw [run_index_string W 9 _ .i64 (i : Int) Tryz.underlying9, dif_pos ⟨by omega, by rw [hsz]; omega⟩]
  have : ((⟨l.toArray⟩ : ByteArray)[(i : Int).toNat]'(by rw [hsz]; omega)) = b := by
    rw [← h2]
    simp only [Int.toNat_natCast]
    rfl
  rw [this]
set_option maxRecDepth 100000 in
theorem run_strindexk {l : List UInt8} {k : IntKind} {i : Nat} {b : UInt8} (h : l[i]? = some b) {z : Int} (hz : z = (i : Int)) (W : World) : (Instr.index 9 (.string ⟨l.toArray⟩) (.int k z)).run Tryz.prog W = .ok (.int .u8 (b.toNat : Int)) W := by
  subst hz
  have hi := (List.getElem?_eq_some_iff.1 h).1
  have h2 := (List.getElem?_eq_some_iff.1 h).2
  have hsz : (⟨l.toArray⟩ : ByteArray).size = l.length := ByteArray.size_mk_toArray l
  rw [run_index_string W 9 _ k (i : Int) Tryz.underlying9, dif_pos ⟨by omega, by rw [hsz]; omega⟩]
  have : ((⟨l.toArray⟩ : ByteArray)[(i : Int).toNat]'(by rw [hsz]; omega)) = b := by
    rw [← h2]
    simp only [Int.toNat_natCast]
    rfl
  rw [this]
theorem bytes_drop (l : List UInt8) (k : Nat) : (⟨l.toArray⟩ : ByteArray).extract k l.length = ⟨(l.drop k).toArray⟩ := by
  have : ((⟨l.toArray⟩ : ByteArray).extract k l.length).data = (l.drop k).toArray := by
    simp
    exact List.take_of_length_le (by rw [List.length_drop]; exact Nat.le_refl _)
  generalize (⟨l.toArray⟩ : ByteArray).extract k l.length = x at this
  cases x
  simp only at this
  rw [this]
set_option maxRecDepth 100000 in
theorem run_strtail (l : List UInt8) (k : Nat) (hk : k ≤ l.length) {z : Int} (hz : z = (k : Int)) (W : World) : (Instr.sliceAt 9 (.string ⟨l.toArray⟩) (some (.int .i64 z)) none none).run Tryz.prog W = .ok (.string ⟨(l.drop k).toArray⟩) W := by
  subst hz
  rw [run_sliceAt_string W 9 _ _ _ _ Tryz.underlying9]
  have hsz : (⟨l.toArray⟩ : ByteArray).size = l.length := ByteArray.size_mk_toArray l
  simp only [Instr.slice, Sem.run_bind, run_underlying Tryz.underlying9, Result.andThen_ok, Instr.sliceBounds, hsz, Option.isSome_none, Bool.false_eq_true, if_false, Sem.run_pure]
  rw [run_sliceBound W .i64 (k : Int) l.length _ (by omega) (by omega)]
  simp only [Result.andThen_ok, Int.toNat_natCast, bytes_drop]
end Go.Proofs.YtohphanbnhiodaaGreat

/- loggia/wal: Number; loggiaref15: Number. -/
namespace Go.Proofs.YtohphanbnhiodaaGreat
open Go.RowKit

/-- What a number is told to be. -/
def NumW (Z : Option Nat) (w : World) (e : Ending) (w' : World) : Prop := Ext w w' ∧ e = .returned (.tuple #[.int .i64 ((Z.getD 0 : Nat) : Int), .bool Z.isSome])
theorem NumW.no {Z : Option Nat} {w w' : World} (hE : Ext w w') (h : Z = none) : NumW Z w (.returned (.tuple #[.int .i64 0, .bool false])) w' := by
  subst h
  exact ⟨hE, rfl⟩
theorem NumW.yes {Z : Option Nat} {n : Nat} {w w' : World} (hE : Ext w w') (h : Z = some n) : NumW Z w (.returned (.tuple #[.int .i64 (n : Int), .bool true])) w' := by
  subst h
  exact ⟨hE, rfl⟩
theorem numD_cons (c : UInt8) (l : List UInt8) (n : Nat) : numD (c :: l) n = if c.toNat < 48 ∨ 57 < c.toNat then none else numD l (10 * n + (c.toNat - 48)) := rfl
theorem drop_one {l : List UInt8} {i : Nat} {x : UInt8} (h : l[i]? = some x) : l.drop i = x :: l.drop (i + 1) := by
  obtain ⟨hi, rfl⟩ := List.getElem?_eq_some_iff.1 h
  exact List.drop_eq_getElem_cons hi
set_option maxRecDepth 100000 in
set_option maxHeartbeats 4000000 in
theorem number_any (s : List UInt8) (w : World) : Calls Tryz.prog 33 #[.string ⟨s.toArray⟩] w fun e w' => NumW (numW s) w e w' := by
  obtain ⟨Z, hZ⟩ : ∃ Z, Z = numW s := ⟨_, rfl⟩
  rw [← hZ]
  have hcp := Tryz.strings_CutPrefix ⟨s.toArray⟩ ⟨preW.toArray⟩ w
  unfold Lib.trimPrefix Lib.hasPrefix at hcp
  rw [show (ByteArray.mk s.toArray).data.toList = s from rfl, show (ByteArray.mk preW.toArray).data.toList = preW from rfl] at hcp
  unfold numW at hZ
  cases hp : preW.isPrefixOf s with
  | false =>
    rw [hp, if_neg (by simp)] at hcp
    have hno : Z = none := by
      rw [hZ, if_neg]
      rintro ⟨_, h4⟩
      have hpp : preW <+: s := by rw [← h4]; exact List.take_prefix _ _
      rw [List.isPrefixOf_iff_prefix.2 hpp] at hp
      cases hp
    replace hcp := hide hcp
    replace hno := hide hno
    clear hZ hp
    go_enter Tryz.func33, Tryz.ntmps33
    go_wp2_with fail
    refine hcp.out.mono ?_
    rintro e w1 ⟨rfl, rfl⟩
    go_wp2_with fail
    go_ret2
    exact NumW.no (Ext.refl _) hno.out
  | true =>
    obtain ⟨r, rfl⟩ := List.isPrefixOf_iff_prefix.1 hp
    rw [hp, if_pos rfl, show (preW ++ r).drop preW.length = r by simp] at hcp
    have h4 : (preW ++ r).take 4 = preW := by rw [List.take_append_of_le_length (by decide)]; rfl
    have h12 : (preW ++ r).length = 4 + r.length := by rw [List.length_append]; rfl
    have hd4 : (preW ++ r).drop 4 = r := rfl
    rw [h4, h12, hd4] at hZ
    clear hp h4 h12 hd4
    by_cases hr : r.length = 8
    · rw [if_pos ⟨by omega, rfl⟩] at hZ
      obtain ⟨c1, W1, hcv, hB, hE1, hsz⟩ := run_bytes r w
      rw [hr] at hcv
      replace hcp := hide hcp
      replace hZ := hide hZ
      replace hB := hide hB
      replace hE1 := hide hE1
      have hrl := hide hr
      have hri : (r.length : Int) = 8 := by omega
      clear hr
      go_enter Tryz.func33, Tryz.ntmps33
      go_wp2_with fail
      refine hcp.out.mono ?_
      rintro e w1 ⟨rfl, rfl⟩
      go_wp2_with fail
      go_loopw [6, 8, 24] (fun s6 _ s24 wr => ∃ (i n : Nat), s24 = .int .i64 (i : Int) ∧ i ≤ 8 ∧ s6 = .int .i64 (n : Int) ∧ n < 10 ^ i ∧ Hid (numD (r.drop i) n = Z) ∧ wr = W1) (fun _ _ s24 _ => 8 - (intOf s24).toNat)
      case atStart => exact ⟨0, 0, rfl, by omega, rfl, by decide, hide hZ.out.symm, rfl⟩
      case round =>
        obtain ⟨i, n, rfl, hi, rfl, hn, hnd, rfl⟩ := hrel
        by_cases hi8 : i < 8
        · obtain ⟨x, hx⟩ : ∃ x, r[i]? = some x := ⟨_, List.getElem?_eq_getElem (by have := hrl.out; omega)⟩
          obtain ⟨g, o, hA1, hc⟩ := Cells.at_ (xs := r.map B8) hB.out (by rw [List.length_map]; have := hrl.out; omega)
          have hcell := hc i (B8 x) (by rw [List.getElem?_map, hx]; rfl)
          unfold B8 at hcell
          injection hA1 with hA1
          injection hA1 with hA1 ho
          subst hA1
          subst ho
          rw [Nat.zero_add] at hcell
          have hz := hnd.out
          rw [drop_one hx, numD_cons] at hz
          have hx8 := x.toNat_lt
          have hpw : (10 : Nat) ^ i ≤ 10 ^ 7 := Nat.pow_le_pow_right (by omega) (by omega)
          have hn7 : n < 10000000 := by omega
          obtain ⟨q, hq⟩ : ∃ q, q = x.toNat := ⟨_, rfl⟩
          rw [← hq] at hz hcell hx8
          replace hq := hide hq
          clear hx hc
          by_cases hlo : q < 48
          · rw [if_pos (.inl hlo)] at hz
            replace hz := hide hz
            go_wp2_with fail
            go_ret2
            exact NumW.no hE1.out hz.out.symm
          · by_cases hhi : 57 < q
            · rw [if_pos (.inr hhi)] at hz
              replace hz := hide hz
              go_wp2_with fail
              go_ret2
              exact NumW.no hE1.out hz.out.symm
            · rw [if_neg (by omega)] at hz
              replace hz := hide hz
              have hlo' : (48 : Int) ≤ (q : Int) := by omega
              have hnext : 10 * n + (q - 48) < 10 ^ (i + 1) := by rw [Nat.pow_succ]; omega
              replace hnext := hide hnext
              go_wp2_with fail
              refine ⟨⟨i + 1, 10 * n + (q - 48), by go_num, by omega, by rw [show 10 * (n : Int) + ((q : Int) - 48) = ((10 * n + (q - 48) : Nat) : Int) by omega], hnext.out, hide hz.out, trivial⟩, by simp [intOf]; omega⟩
        · obtain rfl : i = 8 := by omega
          have hz := hnd.out
          rw [List.drop_of_length_le (by have := hrl.out; omega)] at hz
          unfold numD at hz
          replace hz := hide hz
          go_wp2_with fail
          go_ret2
          exact NumW.yes hE1.out hz.out.symm
    · rw [if_neg (by omega)] at hZ
      have hri : ¬ (r.length : Int) = 8 := by omega
      replace hcp := hide hcp
      replace hZ := hide hZ
      go_enter Tryz.func33, Tryz.ntmps33
      go_wp2_with fail
      refine hcp.out.mono ?_
      rintro e w1 ⟨rfl, rfl⟩
      go_wp2_with fail
      go_ret2
      exact NumW.no (Ext.refl _) hZ.out
end Go.Proofs.YtohphanbnhiodaaGreat

/- loggiaref15: Number. -/
namespace Go.Proofs.YtohphanbnhiodaaGreat
open Go.RowKit

set_option maxRecDepth 100000 in
set_option maxHeartbeats 4000000 in
theorem rnumber_any (s : List UInt8) (w : World) : Calls Tryz.prog 67 #[.string ⟨s.toArray⟩] w fun e w' => NumW (numW s) w e w' := by
  obtain ⟨Z, hZ⟩ : ∃ Z, Z = numW s := ⟨_, rfl⟩
  rw [← hZ]
  unfold numW at hZ
  by_cases hl : s.length = 12
  · have hli : (s.length : Int) = 12 := by omega
    have hhd := run_strheadz (l := s) (k := 4) (by omega) (z := 4) rfl
    by_cases hp : s.take 4 = preW
    · rw [if_pos ⟨hl, hp⟩] at hZ
      rw [hp] at hhd
      unfold preW at hhd
      replace hZ := hide hZ
      replace hl := hide hl
      clear hp
      go_enter Tryz.func67, Tryz.ntmps67
      go_wp2_with fail
      go_loopw [4, 5] (fun s4 s5 wr => ∃ (i n : Nat), s5 = .int .i64 ((4 + i : Nat) : Int) ∧ i ≤ 8 ∧ s4 = .int .i64 (n : Int) ∧ n < 10 ^ i ∧ Hid (numD (s.drop (4 + i)) n = Z) ∧ wr = w) (fun _ s5 _ => 12 - (intOf s5).toNat)
      case atStart => exact ⟨0, 0, rfl, by omega, rfl, by decide, hide hZ.out.symm, rfl⟩
      case round =>
        obtain ⟨i, n, rfl, hi, rfl, hn, hnd, rfl⟩ := hrel
        by_cases hi8 : i < 8
        · obtain ⟨x, hx⟩ : ∃ x, s[4 + i]? = some x := ⟨_, List.getElem?_eq_getElem (by have := hl.out; omega)⟩
          have hix := run_strindex hx (z := 4 + (i : Int)) (by omega)
          have hz := hnd.out
          rw [drop_one hx, numD_cons] at hz
          have hx8 := x.toNat_lt
          have hpw : (10 : Nat) ^ i ≤ 10 ^ 7 := Nat.pow_le_pow_right (by omega) (by omega)
          have hn7 : n < 10000000 := by omega
          obtain ⟨q, hq⟩ : ∃ q, q = x.toNat := ⟨_, rfl⟩
          rw [← hq] at hz hix hx8
          replace hq := hide hq
          clear hx
          by_cases hlo : q < 48
          · rw [if_pos (.inl hlo)] at hz
            replace hz := hide hz
            go_wp2_with fail
            go_ret2
            exact NumW.no (Ext.refl _) hz.out.symm
          · by_cases hhi : 57 < q
            · rw [if_pos (.inr hhi)] at hz
              replace hz := hide hz
              go_wp2_with fail
              go_ret2
              exact NumW.no (Ext.refl _) hz.out.symm
            · rw [if_neg (by omega)] at hz
              replace hz := hide hz
              have hlo' : (48 : Int) ≤ (q : Int) := by omega
              have hnext : 10 * n + (q - 48) < 10 ^ (i + 1) := by rw [Nat.pow_succ]; omega
              replace hnext := hide hnext
              go_wp2_with fail
              refine ⟨⟨i + 1, 10 * n + (q - 48), by go_num, by omega, by rw [show 10 * (n : Int) + ((q : Int) - 48) = ((10 * n + (q - 48) : Nat) : Int) by omega], hnext.out, hide hz.out, trivial⟩, by simp [intOf]; omega⟩
        · obtain rfl : i = 8 := by omega
          have hz := hnd.out
          rw [List.drop_of_length_le (by have := hl.out; omega)] at hz
          unfold numD at hz
          replace hz := hide hz
          go_wp2_with fail
          go_ret2
          exact NumW.yes (Ext.refl _) hz.out.symm
    · rw [if_neg (fun h => hp h.2)] at hZ
      have hne : (List.take 4 s == [108, 111, 103, 45]) = false := by rw [beq_eq_false_iff_ne]; exact hp
      replace hZ := hide hZ
      clear hl hp
      go_enter Tryz.func67, Tryz.ntmps67
      go_wp2_with fail
      go_ret2
      exact NumW.no (Ext.refl _) hZ.out
  · rw [if_neg (fun h => hl h.1)] at hZ
    have hli : ¬ (s.length : Int) = 12 := by omega
    replace hZ := hide hZ
    go_enter Tryz.func67, Tryz.ntmps67
    go_wp2_with fail
    go_ret2
    exact NumW.no (Ext.refl _) hZ.out
end Go.Proofs.YtohphanbnhiodaaGreat

/- Maps as lists of keys and values: what a look-up, a store, a deletion come to. -/
namespace Go.Proofs.YtohphanbnhiodaaGreat
open Go.RowKit Go.Maps
open Go

/-- Block m is a map with the entries L, each key once. -/
structure MapL (P : Program) (k : TypeId) (w : World) (m : Nat) (L : List (Value × Value)) : Prop where
  ex : ∃ es clock, w.heap[m]? = some (.map es clock) ∧ es.toList.map (fun e => (e.key, e.val)) = L ∧ es.toList.Pairwise (fun a b => a.born ≠ b.born) ∧ ∀ e ∈ es.toList, e.born < clock
  keys : ∀ p ∈ L, ∃ l, keyOf P k p.1 = some l
  nodup : (L.map Prod.fst).Nodup

section
variable {P : Program} {k : TypeId} {w w1 : World} {m : Nat} {L : List (Value × Value)}
theorem MapL.keep (h : MapL P k w m L) (hb : w1.heap[m]? = w.heap[m]?) : MapL P k w1 m L := by
  obtain ⟨⟨es, cl, h1, h2⟩, h3, h4⟩ := h
  exact ⟨⟨es, cl, hb.trans h1, h2⟩, h3, h4⟩
theorem MapL.lt (h : MapL P k w m L) : m < w.heap.size := by
  obtain ⟨⟨es, cl, h1, _⟩, _⟩ := h
  exact (Array.getElem?_eq_some_iff.1 h1).1
theorem MapL.ext (h : MapL P k w m L) (he : Ext w w1) : MapL P k w1 m L := h.keep (Below.block he m h.lt)
theorem MapL.grown {row : Option Nat} (h : MapL P k w m L) (hg : w.grownBy w1 row) (hne : row ≠ some m) : MapL P k w1 m L := h.keep (hg.block m h.lt (fun e => hne e.symm))
theorem MapL.drew (h : MapL P k w m L) : MapL P k w.drew m L := h.keep rfl
theorem MapL.alloc (h : MapL P k w m L) (o : Obj) : MapL P k (w.alloc o) m L := h.keep (Below.heap_alloc w o m h.lt)
theorem MapL.set_ (h : MapL P k w m L) {a : Addr} (v : Value) (hne : m ≠ a.block) : MapL P k (w.setCell a v) m L := h.keep (Below.heap_setCell w a v m hne)
theorem MapL.made (w : World) : MapL P k (w.alloc (.map #[] 0)) w.heap.size [] :=
  ⟨⟨#[], 0, heap_alloc_new w _, rfl, List.Pairwise.nil, by simp⟩, by simp, by simp⟩
theorem MapL.unique {x u v : Value} (h : MapL P k w m L) (hu : (x, u) ∈ L) (hv : (x, v) ∈ L) : u = v := by
  have hn := h.nodup
  clear h
  induction L with
  | nil => cases hu
  | cons p L ih =>
    simp only [List.map_cons, List.nodup_cons] at hn
    rcases List.mem_cons.1 hu with h1 | h1 <;> rcases List.mem_cons.1 hv with h2 | h2
    · rw [← h1] at h2; exact (Prod.mk.inj h2).2.symm
    · exfalso; apply hn.1; rw [← h1]; exact List.mem_map.2 ⟨_, h2, rfl⟩
    · exfalso; apply hn.1; rw [← h2]; exact List.mem_map.2 ⟨_, h1, rfl⟩
    · exact ih h1 h2 hn.2

/-- Where a key lies. -/
theorem MapL.find (h : MapL P k w m L) (K : Keyed P k) {x : Value} {l : Lit} (hx : keyOf P k x = some l) {es : Array MapEntry} {cl : Nat} (hb : w.heap[m]? = some (.map es cl)) (W : World) :
    ((Instr.findKey k x es.toList).run P W = .ok none W ∧ ∀ p ∈ L, p.1 ≠ x) ∨
    ∃ j e, (Instr.findKey k x es.toList).run P W = .ok (some (j, e.val)) W ∧ es[j]? = some e ∧ e.key = x ∧ (x, e.val) ∈ L := by
  obtain ⟨⟨es', cl', h1, h2, _⟩, h3, _⟩ := h
  rw [hb] at h1
  cases h1
  have hk : ∀ e ∈ es.toList, ∃ l, keyOf P k e.key = some l := fun e he => h3 (e.key, e.val) (by rw [← h2]; exact List.mem_map.2 ⟨e, he, rfl⟩)
  rcases K.find W hx es.toList hk with ⟨hr, hno⟩ | ⟨j, e, hr, hj, he⟩
  · refine .inl ⟨hr, fun p hp => ?_⟩
    rw [← h2] at hp
    obtain ⟨e, he, rfl⟩ := List.mem_map.1 hp
    exact hno e he
  · refine .inr ⟨j, e, hr, by simpa using hj, he, ?_⟩
    rw [← h2]
    exact List.mem_map.2 ⟨e, List.mem_of_getElem? hj, by rw [he]⟩

theorem MapL.look (h : MapL P k w m L) (K : Keyed P k) {t E : TypeId} (ht : P.underlying t = some (.map k E)) {x z : Value} {l : Lit} (hx : keyOf P k x = some l) (hz : (zeroValue E).run P w = .ok z w) (ok : Bool) :
    (∃ v, (x, v) ∈ L ∧ (Instr.lookup t (.map (some m)) x ok).run P w = .ok (if ok then .tuple #[v, .bool true] else v) w) ∨
    ((∀ p ∈ L, p.1 ≠ x) ∧ (Instr.lookup t (.map (some m)) x ok).run P w = .ok (if ok then .tuple #[z, .bool false] else z) w) := by
  obtain ⟨es, cl, hb, _⟩ := h.ex
  have hg : (getObj m).run P w = .ok (.map es cl) w := by simp [getObj, Sem.run, hb]
  rcases h.find K hx hb w with ⟨hr, hno⟩ | ⟨j, e, hr, hj, he, hm⟩
  · refine .inr ⟨hno, ?_⟩
    simp only [Instr.lookup, Sem.run_bind, run_underlying ht, Result.andThen_ok, hg, Sem.run_pure, K.check w es.isEmpty hx, hr, hz]
  · refine .inl ⟨e.val, hm, ?_⟩
    simp only [Instr.lookup, Sem.run_bind, run_underlying ht, Result.andThen_ok, hg, Sem.run_pure, K.check w es.isEmpty hx, hr]

/-- L' is L with v at x. -/
structure Put (L : List (Value × Value)) (x v : Value) (L' : List (Value × Value)) : Prop where
  mem : ∀ p, p ∈ L' ↔ p = (x, v) ∨ (p ∈ L ∧ p.1 ≠ x)
  len : (∃ u, (x, u) ∈ L) ∧ L'.length = L.length ∨ (∀ p ∈ L, p.1 ≠ x) ∧ L'.length = L.length + 1

theorem setObj_run {es : Array MapEntry} {cl : Nat} (hb : w.heap[m]? = some (.map es cl)) (o : Obj) : (setObj m o).run P w = .ok () { w with heap := w.heap.setIfInBounds m o } := by
  simp [setObj, Sem.run, hb]
theorem setObj_heap {o : Obj} (hlt : m < w.heap.size) : ({ w with heap := w.heap.setIfInBounds m o } : World).heap[m]? = some o := by
  simp [hlt]
theorem setObj_grown (o : Obj) : w.grownBy { w with heap := w.heap.setIfInBounds m o } (some m) :=
  ⟨rfl, rfl, rfl, by simp, fun i _ hi => by
    have : m ≠ i := fun e => hi (by rw [e])
    simp [Array.getElem?_setIfInBounds_ne this]⟩

theorem mem_modify {es : Array MapEntry} {j : Nat} {e0 : MapEntry} (hj : es[j]? = some e0) (f : MapEntry → MapEntry) (e : MapEntry) :
    e ∈ (es.modify j f).toList ↔ e = f e0 ∨ ∃ i, i ≠ j ∧ es[i]? = some e := by
  have hlt : j < es.size := (Array.getElem?_eq_some_iff.1 hj).1
  constructor
  · intro h
    obtain ⟨i, hi⟩ := List.mem_iff_getElem?.1 h
    rw [Array.getElem?_toList, Array.getElem?_modify] at hi
    split at hi
    · rename_i he
      subst he
      rw [hj] at hi
      exact .inl (Option.some.inj hi).symm
    · rename_i he
      exact .inr ⟨i, fun h => he h.symm, hi⟩
  · rintro (rfl | ⟨i, hi, he⟩)
    · refine List.mem_iff_getElem?.2 ⟨j, ?_⟩
      rw [Array.getElem?_toList, Array.getElem?_modify, if_pos rfl, hj]
      rfl
    · refine List.mem_iff_getElem?.2 ⟨i, ?_⟩
      rw [Array.getElem?_toList, Array.getElem?_modify, if_neg (fun h => hi h.symm)]
      exact he
theorem map_modify {es : Array MapEntry} {j : Nat} {β : Type} (f : MapEntry → MapEntry) (g : MapEntry → β) (hg : ∀ e, es[j]? = some e → g (f e) = g e) : (es.modify j f).toList.map g = es.toList.map g := by
  refine List.ext_getElem? fun i => ?_
  rw [List.getElem?_map, List.getElem?_map, Array.getElem?_toList, Array.getElem?_toList, Array.getElem?_modify]
  split
  · rename_i h
    subst h
    cases he : es[j]? with
    | none => rfl
    | some e => simp [hg e he]
  · rfl
theorem nodup_at {es : Array MapEntry} (hn : (es.toList.map (·.key)).Nodup) {i j : Nat} {a b : MapEntry} (hi : es[i]? = some a) (hj : es[j]? = some b) (hk : a.key = b.key) : i = j := by
  have h1 : (es.toList.map (·.key))[i]? = some a.key := by simp [hi]
  have h2 : (es.toList.map (·.key))[j]? = some b.key := by simp [hj]
  have hlt : i < (es.toList.map (·.key)).length := (List.getElem?_eq_some_iff.1 h1).1
  exact (List.getElem?_inj hlt hn).1 (by rw [h1, h2, hk])
theorem born_at {es : Array MapEntry} (hn : es.toList.Pairwise (fun a b => a.born ≠ b.born)) {i j : Nat} {a b : MapEntry} (hi : es[i]? = some a) (hj : es[j]? = some b) (hk : a.born = b.born) : i = j := by
  have hn' : (es.toList.map (·.born)).Nodup := by rw [List.nodup_iff_pairwise_ne, List.pairwise_map]; exact hn
  have h1 : (es.toList.map (·.born))[i]? = some a.born := by simp [hi]
  have h2 : (es.toList.map (·.born))[j]? = some b.born := by simp [hj]
  have hlt : i < (es.toList.map (·.born)).length := (List.getElem?_eq_some_iff.1 h1).1
  exact (List.getElem?_inj hlt hn').1 (by rw [h1, h2, hk])

/-- Entry j, whose key is x, gets the value v: the block's new entries. -/
theorem MapL.modify (h : MapL P k w m L) {es : Array MapEntry} {cl : Nat} (hb : w.heap[m]? = some (.map es cl)) {j : Nat} {e0 : MapEntry} (hj : es[j]? = some e0) (v : Value) {f : MapEntry → MapEntry}
    (hf1 : (f e0).key = e0.key) (hf2 : (f e0).val = v) (hf3 : (f e0).born = e0.born) (hw : w1.heap[m]? = some (.map (es.modify j f) cl)) : ∃ L', MapL P k w1 m L' ∧ Put L e0.key v L' := by
  obtain ⟨⟨es', cl', h1, h2, h4, h5⟩, h3, h6⟩ := h
  rw [hb] at h1
  cases h1
  have hkeys : (es.toList.map (·.key)).Nodup := by
    rw [← h2, List.map_map] at h6
    exact h6
  refine ⟨(es.modify j f).toList.map (fun e => (e.key, e.val)), ⟨⟨es.modify j f, cl, hw, rfl, ?_, fun e he => ?_⟩, fun p hp => ?_, ?_⟩, fun p => ?_, .inl ⟨⟨e0.val, ?_⟩, ?_⟩⟩
  · have hb' : (es.modify j f).toList.map (·.born) = es.toList.map (·.born) := map_modify f (·.born) (fun e he => by rw [hj] at he; cases he; exact hf3)
    have hn : (es.toList.map (·.born)).Nodup := by rw [List.nodup_iff_pairwise_ne, List.pairwise_map]; exact h4
    rw [← hb', List.nodup_iff_pairwise_ne, List.pairwise_map] at hn
    exact hn
  · rcases (mem_modify hj f e).1 he with rfl | ⟨i, _, hi⟩
    · rw [hf3]; exact h5 e0 (by simpa using Array.mem_of_getElem? hj)
    · exact h5 e (by simpa using Array.mem_of_getElem? hi)
  · obtain ⟨e, he, rfl⟩ := List.mem_map.1 hp
    rcases (mem_modify hj f e).1 he with rfl | ⟨i, _, hi⟩
    · rw [hf1]; exact h3 (e0.key, e0.val) (by rw [← h2]; exact List.mem_map.2 ⟨e0, by simpa using Array.mem_of_getElem? hj, rfl⟩)
    · exact h3 (e.key, e.val) (by rw [← h2]; exact List.mem_map.2 ⟨e, by simpa using Array.mem_of_getElem? hi, rfl⟩)
  · rw [List.map_map]
    have : (es.modify j f).toList.map (Prod.fst ∘ fun e => (e.key, e.val)) = es.toList.map (·.key) := map_modify f _ (fun e he => by rw [hj] at he; cases he; exact hf1)
    rw [this]
    exact hkeys
  · constructor
    · intro hp
      obtain ⟨e, he, rfl⟩ := List.mem_map.1 hp
      rcases (mem_modify hj f e).1 he with rfl | ⟨i, hi, hie⟩
      · exact .inl (by rw [hf1, hf2])
      · refine .inr ⟨by rw [← h2]; exact List.mem_map.2 ⟨e, by simpa using Array.mem_of_getElem? hie, rfl⟩, fun hk => hi (nodup_at hkeys hie hj hk)⟩
    · rintro (rfl | ⟨hp, hne⟩)
      · exact List.mem_map.2 ⟨f e0, (mem_modify hj f _).2 (.inl rfl), by rw [hf1, hf2]⟩
      · rw [← h2] at hp
        obtain ⟨e, he, rfl⟩ := List.mem_map.1 hp
        obtain ⟨i, hi⟩ := List.mem_iff_getElem?.1 he
        rw [Array.getElem?_toList] at hi
        exact List.mem_map.2 ⟨e, (mem_modify hj f e).2 (.inr ⟨i, fun hij => hne (by subst hij; rw [hj] at hi; cases hi; rfl), hi⟩), rfl⟩
  · rw [← h2]; exact List.mem_map.2 ⟨e0, by simpa using Array.mem_of_getElem? hj, rfl⟩
  · rw [← h2]; simp
/-- A new entry. -/
theorem MapL.push (h : MapL P k w m L) {es : Array MapEntry} {cl : Nat} (hb : w.heap[m]? = some (.map es cl)) {x v : Value} {l : Lit} (hx : keyOf P k x = some l) (hno : ∀ p ∈ L, p.1 ≠ x)
    (hw : w1.heap[m]? = some (.map (es.push { key := x, val := v, born := cl }) (cl + 1))) : ∃ L', MapL P k w1 m L' ∧ Put L x v L' := by
  obtain ⟨⟨es', cl', h1, h2, h4, h5⟩, h3, h6⟩ := h
  rw [hb] at h1
  cases h1
  refine ⟨L ++ [(x, v)], ⟨⟨_, _, hw, by simp [h2], ?_, fun e he => ?_⟩, fun p hp => ?_, ?_⟩, fun p => ?_, .inr ⟨hno, by simp⟩⟩
  · simp only [Array.toList_push]
    rw [List.pairwise_append]
    exact ⟨h4, List.pairwise_singleton .., fun a ha b hb' => by
      obtain rfl := List.mem_singleton.1 hb'
      have := h5 a ha
      simp only
      omega⟩
  · simp only [Array.toList_push] at he
    rcases List.mem_append.1 he with he | he
    · have := h5 e he; omega
    · obtain rfl := List.mem_singleton.1 he
      simp only
      omega
  · rcases List.mem_append.1 hp with hp | hp
    · exact h3 p hp
    · obtain rfl := List.mem_singleton.1 hp
      exact ⟨l, hx⟩
  · rw [List.map_append, List.nodup_append]
    refine ⟨h6, by simp, fun a ha b hb' => ?_⟩
    simp at hb'
    obtain ⟨p, hp, rfl⟩ := List.mem_map.1 ha
    rw [hb']
    exact hno p hp
  · constructor
    · intro hp
      rcases List.mem_append.1 hp with hp | hp
      · exact .inr ⟨hp, hno p hp⟩
      · exact .inl (List.mem_singleton.1 hp)
    · rintro (rfl | ⟨hp, _⟩)
      · simp
      · exact List.mem_append_left _ hp

/-- m[x] = v -/
theorem MapL.update (h : MapL P k w m L) (K : Keyed P k) {t E : TypeId} (ht : P.underlying t = some (.map k E)) {x : Value} {l : Lit} (hx : keyOf P k x = some l) (v : Value) :
    ∃ w' L', (Instr.mapUpdate t (.map (some m)) x v).run P w = .ok () w' ∧ MapL P k w' m L' ∧ Put L x v L' ∧ w.grownBy w' (some m) ∧ w'.heap.size = w.heap.size := by
  obtain ⟨es, cl, hb, _⟩ := h.ex
  have hg : (getObj m).run P w = .ok (.map es cl) w := by simp [getObj, Sem.run, hb]
  rcases h.find K hx hb w with ⟨hr, hno⟩ | ⟨j, e, hr, hj, he, hm⟩
  · obtain ⟨L', h1, h2⟩ := h.push (w1 := { w with heap := w.heap.setIfInBounds m (.map (es.push { key := x, val := v, born := cl }) (cl + 1)) }) hb hx hno (setObj_heap h.lt)
    refine ⟨_, L', ?_, h1, h2, setObj_grown _, by simp⟩
    simp only [Instr.mapUpdate, Sem.run_bind, run_underlying ht, Result.andThen_ok, hg, K.check w false hx, hr, setObj_run hb]
  · subst he
    obtain ⟨L', h1, h2⟩ := h.modify (w1 := { w with heap := w.heap.setIfInBounds m (.map (es.modify j fun e' => { e' with key := e.key, val := v }) cl) }) hb hj v (f := fun e' => { e' with key := e.key, val := v }) rfl rfl rfl (setObj_heap h.lt)
    refine ⟨_, L', ?_, h1, h2, setObj_grown _, by simp⟩
    simp only [Instr.mapUpdate, Sem.run_bind, run_underlying ht, Result.andThen_ok, hg, K.check w false hx, hr, hj, Option.map_some, Option.getD_some, K.stays w hx, setObj_run hb]

/-- m[x] = .. m[x] ..: the entry is found, or made with its type's zero; then it is written. -/
theorem MapL.entry (h : MapL P k w m L) (K : Keyed P k) {t E : TypeId} (ht : P.underlying t = some (.map k E)) {x z : Value} {l : Lit} (hx : keyOf P k x = some l) (hz : (zeroValue E).run P w = .ok z w) :
    ∃ w' v n, (Instr.mapEntry t (.map (some m)) x).run P w = .ok (.tuple #[v, .int .i64 n]) w' ∧ ((x, v) ∈ L ∨ (∀ p ∈ L, p.1 ≠ x) ∧ v = z) ∧ w.grownBy w' (some m) ∧ w'.heap.size = w.heap.size ∧ (∃ L1, MapL P k w' m L1) ∧
      ∀ (w2 : World) (u : Value), w2.heap[m]? = w'.heap[m]? →
        ∃ w3 L', (Instr.entryStore t (.map (some m)) (.int .i64 n) u).run P w2 = .ok () w3 ∧ MapL P k w3 m L' ∧ Put L x u L' ∧ w2.grownBy w3 (some m) ∧ w3.heap.size = w2.heap.size := by
  obtain ⟨es, cl, hb, _, hborn, hcl⟩ := h.ex
  have hg : (getObj m).run P w = .ok (.map es cl) w := by simp [getObj, Sem.run, hb]
  -- the second half, at whatever entries in which one bears the stamp
  have back : ∀ (es2 : Array MapEntry) (cl2 j : Nat) (e0 : MapEntry) (w2 : World) (u : Value), w2.heap[m]? = some (.map es2 cl2) → es2[j]? = some e0 → es2.toList.Pairwise (fun a b => a.born ≠ b.born) →
      (Instr.entryStore t (.map (some m)) (.int .i64 (e0.born : Int)) u).run P w2 = .ok () { w2 with heap := w2.heap.setIfInBounds m (.map (es2.modify j fun e => { e with val := u }) cl2) } := by
    intro es2 cl2 j e0 w2 u hw2 hj2 hn2
    have hg2 : (getObj m).run P w2 = .ok (.map es2 cl2) w2 := by simp [getObj, Sem.run, hw2]
    have hlt2 : j < es2.size := (Array.getElem?_eq_some_iff.1 hj2).1
    have hfi : es2.findIdx? (fun e => (e.born : Int) == (e0.born : Int)) = some j := by
      rw [Array.findIdx?_eq_some_iff_getElem]
      refine ⟨hlt2, ?_, fun i hi => ?_⟩
      · have : es2[j] = e0 := by
          have := Array.getElem?_eq_getElem hlt2
          rw [hj2] at this
          exact (Option.some.inj this).symm
        simp [this]
      · have hne : es2[i].born ≠ e0.born := fun he => by
          have := born_at hn2 (Array.getElem?_eq_getElem (by omega : i < es2.size)) hj2 he
          omega
        simp
        omega
    simp only [Instr.entryStore, Sem.run_bind, hg2, Result.andThen_ok, asInt, asIntOf, Sem.run_pure, hfi, setObj_run hw2]
  rcases h.find K hx hb w with ⟨hr, hno⟩ | ⟨j, e, hr, hj, he, hm⟩
  · let w' : World := { w with heap := w.heap.setIfInBounds m (.map (es.push { key := x, val := z, born := cl }) (cl + 1)) }
    have hw' : w'.heap[m]? = some (.map (es.push { key := x, val := z, born := cl }) (cl + 1)) := setObj_heap h.lt
    obtain ⟨L1, h1, h2⟩ := h.push (w1 := w') hb hx hno hw'
    refine ⟨w', z, (cl : Int), ?_, .inr ⟨hno, rfl⟩, setObj_grown _, by simp [w'], ⟨L1, h1⟩, fun w2 u hw2 => ?_⟩
    · simp only [Instr.mapEntry, Sem.run_bind, run_underlying ht, Result.andThen_ok, hg, K.check w false hx, hr, hz, setObj_run hb, Sem.run_pure, goInt]
      rfl
    · have hj' : (es.push { key := x, val := z, born := cl })[es.size]? = some { key := x, val := z, born := cl } := by simp
      obtain ⟨⟨es1, cl1, hw1, _, hb1, _⟩, _⟩ := id h1
      rw [hw'] at hw1
      cases hw1
      have hr2 := back _ _ _ _ w2 u (hw2.trans hw') hj' hb1
      have hlt2 : m < w2.heap.size := (Array.getElem?_eq_some_iff.1 (hw2.trans hw')).1
      obtain ⟨L2, h3, h4⟩ := (h1.keep hw2).modify (w1 := { w2 with heap := w2.heap.setIfInBounds m (.map ((es.push { key := x, val := z, born := cl }).modify es.size fun e => { e with val := u }) (cl + 1)) }) (hw2.trans hw') hj' u (f := fun e => { e with val := u }) rfl rfl rfl (setObj_heap hlt2)
      refine ⟨_, L2, hr2, h3, ⟨fun p => ?_, ?_⟩, setObj_grown _, by simp⟩
      · rw [h4.mem p]
        constructor
        · rintro (rfl | ⟨hp, hne⟩)
          · exact .inl rfl
          · rcases (h2.mem p).1 hp with rfl | hp
            · exact absurd rfl hne
            · exact .inr hp
        · rintro (rfl | ⟨hp, hne⟩)
          · exact .inl rfl
          · exact .inr ⟨(h2.mem p).2 (.inr ⟨hp, hne⟩), hne⟩
      · refine .inr ⟨hno, ?_⟩
        rcases h2.len with ⟨⟨u', hu'⟩, _⟩ | ⟨_, hl⟩
        · exact absurd rfl (hno _ hu')
        · rcases h4.len with ⟨_, hl'⟩ | ⟨hno', _⟩
          · omega
          · exact absurd rfl (hno' (x, z) ((h2.mem _).2 (.inl rfl)))
  · subst he
    let w' : World := { w with heap := w.heap.setIfInBounds m (.map (es.modify j fun e' => { e' with key := e.key }) cl) }
    have hlt : j < es.size := (Array.getElem?_eq_some_iff.1 hj).1
    have hsame : es.modify j (fun e' => { e' with key := e.key }) = es := by
      apply Array.ext_getElem?
      intro i
      rw [Array.getElem?_modify]
      split
      · rename_i hi
        subst hi
        rw [hj]
        rfl
      · rfl
    have hw' : w'.heap[m]? = some (.map es cl) := by
      have := setObj_heap (w := w) (m := m) (o := .map (es.modify j fun e' => { e' with key := e.key }) cl) h.lt
      rw [hsame] at this
      simpa [w', hsame] using this
    refine ⟨w', e.val, (e.born : Int), ?_, .inl hm, setObj_grown _, by simp [w'], ⟨L, h.keep (hw'.trans hb.symm)⟩, fun w2 u hw2 => ?_⟩
    · simp only [Instr.mapEntry, Sem.run_bind, run_underlying ht, Result.andThen_ok, hg, K.check w false hx, hr, hj, Option.map_some, Option.getD_some, K.stays w hx, setObj_run hb, Sem.run_pure, goInt]
      rfl
    · have hr2 := back es cl j e w2 u (hw2.trans hw') hj hborn
      have hlt2 : m < w2.heap.size := (Array.getElem?_eq_some_iff.1 (hw2.trans hw')).1
      obtain ⟨L2, h3, h4⟩ := (h.keep ((hw2.trans hw').trans hb.symm)).modify (w1 := { w2 with heap := w2.heap.setIfInBounds m (.map (es.modify j fun e => { e with val := u }) cl) }) (hw2.trans hw') hj u (f := fun e => { e with val := u }) rfl rfl rfl (setObj_heap hlt2)
      exact ⟨_, L2, hr2, h3, h4, setObj_grown _, by simp⟩
end
end Go.Proofs.YtohphanbnhiodaaGreat

/- Maps as lists: a range over one, a deletion, how many there are. -/
namespace Go.Proofs.YtohphanbnhiodaaGreat
open Go.RowKit Go.Maps
open Go

/-- A range over the map m is under way (its block: r); the keys 'done' have come. -/
structure RangeL (P : Program) (k : TypeId) (w : World) (m r : Nat) (L : List (Value × Value)) (done : List Value) : Prop where
  ex : ∃ es clock since seen c0, w.heap[m]? = some (.map es clock) ∧ es.toList.map (fun e => (e.key, e.val)) = L ∧ es.toList.Pairwise (fun a b => a.born ≠ b.born) ∧ (∀ e ∈ es.toList, e.born < clock) ∧
    w.heap[r]? = some (.mapIter (some m) since seen c0) ∧ (∀ e ∈ es.toList, e.born < since) ∧ since ≤ c0 ∧ since ≤ clock ∧ ∀ e ∈ es.toList, (seen.contains e.born = true ↔ e.key ∈ done)
  keys : ∀ p ∈ L, ∃ l, keyOf P k p.1 = some l
  nodup : (L.map Prod.fst).Nodup
  dn : done.Nodup
  sub : ∀ x ∈ done, x ∈ L.map Prod.fst
section
variable {P : Program} {k : TypeId} {w w1 : World} {m r : Nat} {L : List (Value × Value)} {done : List Value}
theorem RangeL.map (h : RangeL P k w m r L done) : MapL P k w m L := by
  obtain ⟨es, cl, since, seen, c0, h1, h2, h3, h4, _⟩ := h.ex
  exact ⟨⟨es, cl, h1, h2, h3, h4⟩, h.keys, h.nodup⟩
theorem RangeL.keep (h : RangeL P k w m r L done) (hm : w1.heap[m]? = w.heap[m]?) (hr : w1.heap[r]? = w.heap[r]?) : RangeL P k w1 m r L done := by
  obtain ⟨⟨es, cl, since, seen, c0, h1, h2, h3, h4, h5, h6⟩, hk, hn, hd, hs⟩ := h
  exact ⟨⟨es, cl, since, seen, c0, hm.trans h1, h2, h3, h4, hr.trans h5, h6⟩, hk, hn, hd, hs⟩
theorem RangeL.lt (h : RangeL P k w m r L done) : r < w.heap.size := by
  obtain ⟨es, cl, since, seen, c0, _, _, _, _, h5, _⟩ := h.ex
  exact (Array.getElem?_eq_some_iff.1 h5).1
theorem RangeL.ne (h : RangeL P k w m r L done) : r ≠ m := by
  obtain ⟨es, cl, since, seen, c0, h1, _, _, _, h5, _⟩ := h.ex
  rintro rfl
  rw [h1] at h5
  cases h5
theorem RangeL.grown {row : Option Nat} (h : RangeL P k w m r L done) (hg : w.grownBy w1 row) (h1 : row ≠ some m) (h2 : row ≠ some r) : RangeL P k w1 m r L done :=
  h.keep (hg.block m h.map.lt (fun e => h1 e.symm)) (hg.block r h.lt (fun e => h2 e.symm))
theorem RangeL.drew (h : RangeL P k w m r L done) : RangeL P k w.drew m r L done := h.keep rfl rfl
theorem RangeL.alloc (h : RangeL P k w m r L done) (o : Obj) : RangeL P k (w.alloc o) m r L done := h.keep (Below.heap_alloc w o m h.map.lt) (Below.heap_alloc w o r h.lt)
theorem RangeL.set_ (h : RangeL P k w m r L done) {a : Addr} (v : Value) (h1 : m ≠ a.block) (h2 : r ≠ a.block) : RangeL P k (w.setCell a v) m r L done :=
  h.keep (Below.heap_setCell w a v m h1) (Below.heap_setCell w a v r h2)

theorem MapL.range (h : MapL P k w m L) {t E : TypeId} (ht : P.underlying t = some (.map k E)) :
    ∃ o, (Instr.range t (.map (some m))).run P w = .ok (.pointer (some ⟨w.heap.size, 0, none⟩)) (w.alloc o) ∧ RangeL P k (w.alloc o) m w.heap.size L [] := by
  obtain ⟨⟨es, cl, h1, h2, h3, h4⟩, hk, hn⟩ := h
  refine ⟨_, run_range_map w t k E m es cl ht h1, ⟨⟨es, cl, cl, #[], cl, ?_, h2, h3, h4, heap_alloc_new w _, h4, Nat.le_refl _, Nat.le_refl _, fun e _ => by simp⟩, hk, hn, List.nodup_nil, by simp⟩⟩
  exact (Below.heap_alloc w _ m (Array.getElem?_eq_some_iff.1 h1).1).trans h1
theorem setBlock_grown (w : World) (r : Nat) (o : Obj) : w.grownBy (ChangeMaps.setBlock w r o) (some r) :=
  ⟨rfl, rfl, rfl, by simp [ChangeMaps.setBlock], fun k _ hne => by
    show (w.heap.setIfInBounds r o)[k]? = _
    rw [Array.getElem?_setIfInBounds_ne (fun e => hne (by rw [e]))]⟩
/-- A step leaves fewer to come. -/
theorem left_falls {es : Array MapEntry} {seen : Array Nat} {e : MapEntry} (he : e ∈ (leftOf es seen).toList) : (leftOf es (seen.push e.born)).size < (leftOf es seen).size := by
  have h1 : leftOf es (seen.push e.born) = (leftOf es seen).filter (fun x => !(x.born == e.born)) := by
    unfold leftOf
    rw [Array.filter_filter]
    congr 1
    funext x
    rw [Array.contains_push]
    cases seen.contains x.born <;> cases (x.born == e.born) <;> rfl
  have h2 : (leftOf es (seen.push e.born)).toList = (leftOf es seen).toList.filter (fun x => !(x.born == e.born)) := by rw [h1, Array.toList_filter]
  have h3 : ((leftOf es seen).toList.filter (fun x => !(x.born == e.born))).length < (leftOf es seen).toList.length := List.length_filter_lt_length_iff_exists.2 ⟨e, he, by simp⟩
  rw [← h2] at h3
  exact h3
theorem RangeL.next (h : RangeL P k w m r L done) (ty : TypeId) :
    ((Instr.next (.pointer (some ⟨r, 0, none⟩)) false ty).run P w = .ok (.tuple #[.bool false]) w ∧ ∀ p ∈ L, p.1 ∈ done) ∨
    ∃ x v w1, (x, v) ∈ L ∧ x ∉ done ∧ (Instr.next (.pointer (some ⟨r, 0, none⟩)) false ty).run P w = .ok (.tuple #[.bool true, x, v]) w1 ∧ RangeL P k w1 m r L (done ++ [x]) ∧ w.grownBy w1 (some r) ∧ w1.heap.size = w.heap.size ∧
      (Instr.entry (.pointer (some ⟨r, 0, none⟩))).run P w1 = .ok (.tuple #[x, v]) w1 ∧ w1.rangeLeft m r < w.rangeLeft m r := by
  have hlt := h.lt
  have hne := h.ne
  obtain ⟨⟨es, cl, since, seen, c0, h1, h2, h3, h4, h5, h6, h7, h7', h8⟩, hk, hn, hd, hs⟩ := h
  rcases run_next_at (P := P) w ty r m since c0 seen es cl h5 h1 h6 h7 with ⟨h0, hrun⟩ | ⟨e, he, w0, hw0, hrun⟩
  · refine .inl ⟨hrun, fun p hp => ?_⟩
    rw [← h2] at hp
    obtain ⟨e, he, rfl⟩ := List.mem_map.1 hp
    rw [← h8 e he]
    by_cases hc : seen.contains e.born = true
    · exact hc
    · exfalso
      have : e ∈ leftOf es seen := by
        unfold leftOf
        rw [Array.mem_filter]
        exact ⟨by simpa using he, by simpa using hc⟩
      have h9 := Array.size_pos_of_mem this
      omega
  · have hel : e ∈ es.toList ∧ seen.contains e.born = false := by
      unfold leftOf at he
      have he' := Array.mem_toList_iff.1 he
      rw [Array.mem_filter] at he'
      exact ⟨by simpa using he'.1, by simpa using he'.2⟩
    have hb0 : w0.heap = w.heap := by rcases hw0 with rfl | rfl <;> rfl
    have hw0g : w.grownBy w0 (some r) := by
      rcases hw0 with rfl | rfl
      · exact ⟨rfl, rfl, rfl, Nat.le_refl _, fun _ _ _ => rfl⟩
      · exact ⟨rfl, rfl, rfl, Nat.le_refl _, fun _ _ _ => rfl⟩
    have hnd : e.key ∉ done := fun hc => by
      rw [← h8 e hel.1] at hc
      rw [hel.2] at hc
      cases hc
    have hr1 : (ChangeMaps.setBlock w0 r (.mapIter (some m) since (seen.push e.born) cl)).heap[r]? = some (.mapIter (some m) since (seen.push e.born) cl) := by
      show (w0.heap.setIfInBounds r _)[r]? = _
      rw [Array.getElem?_setIfInBounds, if_pos rfl, if_pos (by rw [hb0]; exact hlt)]
    have hm1 : (ChangeMaps.setBlock w0 r (.mapIter (some m) since (seen.push e.born) cl)).heap[m]? = some (.map es cl) := by
      show (w0.heap.setIfInBounds r _)[m]? = _
      rw [Array.getElem?_setIfInBounds_ne hne, hb0, h1]
    have hnb : (es.toList.map (fun x => x.born)).Nodup := by
      rw [List.Nodup, List.pairwise_map]
      exact h3
    refine .inr ⟨e.key, e.val, _, by rw [← h2]; exact List.mem_map.2 ⟨e, hel.1, rfl⟩, hnd, hrun, ⟨⟨es, cl, since, seen.push e.born, cl, hm1, h2, h3, h4, hr1, h6, h7', h7', ?_⟩, hk, hn, ?_, ?_⟩, hw0g.trans (setBlock_grown w0 r _), by simp [ChangeMaps.setBlock, hb0], run_entry_at _ r m since seen es cl e hr1 hm1 hel.1 hnb, by unfold World.rangeLeft; rw [hm1, hr1, h1, h5]; exact left_falls he⟩
    · intro e' he'
      have hnk : (es.toList.map (·.key)).Nodup := by rw [← h2, List.map_map] at hn; exact hn
      obtain ⟨i, hi⟩ := List.getElem?_of_mem hel.1
      obtain ⟨j, hj⟩ := List.getElem?_of_mem he'
      rw [Array.getElem?_toList] at hi hj
      have hkb : e'.born = e.born ↔ e'.key = e.key := by
        constructor
        · intro hb
          obtain rfl := born_at h3 hj hi hb
          rw [hi] at hj
          cases hj
          rfl
        · intro hb
          obtain rfl := nodup_at hnk hj hi hb
          rw [hi] at hj
          cases hj
          rfl
      rw [Array.contains_push, Bool.or_eq_true, beq_iff_eq, h8 e' he', List.mem_append, List.mem_singleton, ← hkb]
    · rw [List.nodup_append]
      refine ⟨hd, by simp, ?_⟩
      intro a ha b hb
      simp at hb
      rintro rfl
      subst hb
      exact hnd ha
    · intro x hx
      rcases List.mem_append.1 hx with hx | hx
      · exact hs x hx
      · simp at hx
        subst hx
        rw [← h2, List.map_map]
        exact List.mem_map.2 ⟨e, hel.1, rfl⟩
theorem MapL.len (h : MapL P k w m L) {t E : TypeId} (ht : P.underlying t = some (.map k E)) (ty : TypeId) : (Builtin.len_ #[t] ty #[.map (some m)]).run P w = .ok (.int .i64 L.length) w := by
  obtain ⟨⟨es, cl, h1, h2, _⟩, _, _⟩ := h
  have hg : (getObj m).run P w = .ok (.map es cl) w := by simp [getObj, Sem.run, h1]
  have hl : L.length = es.size := by rw [← h2]; simp
  simp only [Builtin.len_, List.getElem?_toArray, List.getElem?_cons_zero, Sem.run_bind, run_underlying ht, Result.andThen_ok, hg, Sem.run_pure]
  rw [hl]
  rfl
theorem MapL.delete (h : MapL P k w m L) (K : Keyed P k) {t E : TypeId} (ht : P.underlying t = some (.map k E)) {x : Value} {l : Lit} (hx : keyOf P k x = some l) (kt ty : TypeId) :
    ∃ L' w1, (Builtin.delete_ #[t, kt] ty #[.map (some m), x]).run P w = .ok (.tuple #[]) w1 ∧ MapL P k w1 m L' ∧ (∀ p, p ∈ L' ↔ p ∈ L ∧ p.1 ≠ x) ∧ w.grownBy w1 (some m) ∧ L'.Sublist L := by
  have h' := h
  obtain ⟨⟨es, cl, h1, h2, h3, h4⟩, hk, hn⟩ := h
  have hg : (getObj m).run P w = .ok (.map es cl) w := by simp [getObj, Sem.run, h1]
  have hlt := h'.lt
  rcases h'.find K hx h1 w with ⟨hr, hno⟩ | ⟨j, e, hr, hj, he, hm⟩
  · refine ⟨L, _, ?_, ⟨⟨es, cl, setObj_heap hlt, h2, h3, h4⟩, hk, hn⟩, fun p => ⟨fun hp => ⟨hp, hno p hp⟩, fun hp => hp.1⟩, setObj_grown _, List.Sublist.refl _⟩
    simp only [Builtin.delete_, List.getElem?_toArray, List.getElem?_cons_zero, List.getElem?_cons_succ, Sem.run_bind, run_underlying ht, Result.andThen_ok, hg, Sem.run_pure, K.check w es.isEmpty hx, hr, setObj_run h1]
  · have hjs : j < es.size := (Array.getElem?_eq_some_iff.1 hj).1
    have hel : (es.eraseIdxIfInBounds j).toList = es.toList.eraseIdx j := by
      unfold Array.eraseIdxIfInBounds
      rw [dif_pos hjs, Array.toList_eraseIdx]
    have hsub : ((es.eraseIdxIfInBounds j).toList.map (fun e => (e.key, e.val))).Sublist L := by
      rw [hel, ← h2]
      exact (List.eraseIdx_sublist _ _).map _
    have hnk : (es.toList.map (·.key)).Nodup := by rw [← h2, List.map_map] at hn; exact hn
    refine ⟨(es.eraseIdxIfInBounds j).toList.map (fun e => (e.key, e.val)), _, ?_, ⟨⟨_, cl, setObj_heap hlt, rfl, ?_, ?_⟩, ?_, ?_⟩, ?_, setObj_grown _, hsub⟩
    · simp only [Builtin.delete_, List.getElem?_toArray, List.getElem?_cons_zero, List.getElem?_cons_succ, Sem.run_bind, run_underlying ht, Result.andThen_ok, hg, Sem.run_pure, K.check w es.isEmpty hx, hr, setObj_run h1]
    · rw [hel]
      exact h3.sublist (List.eraseIdx_sublist _ _)
    · intro e he
      rw [hel] at he
      exact h4 e ((List.eraseIdx_sublist _ _).subset he)
    · exact fun p hp => hk p (hsub.subset hp)
    · exact hn.sublist (hsub.map _)
    · intro p
      constructor
      · intro hp
        refine ⟨hsub.subset hp, ?_⟩
        rw [hel] at hp
        obtain ⟨e', he', rfl⟩ := List.mem_map.1 hp
        intro hkx
        obtain ⟨i, hi, hie⟩ := List.mem_eraseIdx_iff_getElem?.1 he'
        have := nodup_at hnk (by rw [← Array.getElem?_toList]; exact hie) hj (by rw [he]; exact hkx)
        exact hi this
      · rintro ⟨hp, hkx⟩
        rw [← h2] at hp
        obtain ⟨e', he', rfl⟩ := List.mem_map.1 hp
        rw [hel]
        refine List.mem_map.2 ⟨e', ?_, rfl⟩
        obtain ⟨i, hi⟩ := List.getElem?_of_mem he'
        refine List.mem_eraseIdx_iff_getElem?.2 ⟨i, ?_, hi⟩
        rintro rfl
        rw [Array.getElem?_toList, hj] at hi
        cases hi
        exact hkx he
end
end Go.Proofs.YtohphanbnhiodaaGreat

/- loggia/disk: names. -/
namespace Go.Proofs.YtohphanbnhiodaaGreat
open Go.RowKit Go.Maps

set_option maxRecDepth 100000 in
theorem elemS : Elem Tryz.prog 116 9 1 16 := ⟨Tryz.underlying116, ⟨_, _, rfl, rfl, rfl, rfl, rfl⟩, by omega, by omega⟩
/-- May the letter be in a name? -/
def okb (c : UInt8) : Bool := (97 ≤ c.toNat && c.toNat ≤ 122) || (48 ≤ c.toNat && c.toNat ≤ 57) || c.toNat == 45 || c.toNat == 46
def letters : List UInt8 := [97, 98, 99, 100, 101, 102, 103, 104, 105, 106, 107, 108, 109, 110, 111, 112, 113, 114, 115, 116, 117, 118, 119, 120, 121, 122, 48, 49, 50, 51, 52, 53, 54, 55, 56, 57, 45, 46]
/-- May the name be? -/
def namedM (s : List UInt8) : Bool := 1 ≤ s.length && s.length ≤ 64 && s.all okb
theorem okb_is (c : UInt8) : decide (Lib.indexByte letters c < 0) = !okb c := by
  have h : ∀ n : Fin 256, decide (Lib.indexByte letters (UInt8.ofNat n.val) < 0) = !okb (UInt8.ofNat n.val) := by decide +kernel
  have := h ⟨c.toNat, c.toNat_lt⟩
  simpa using this
theorem letter_any (y : UInt8) (w : World) : Calls Tryz.prog 111 #[.string ⟨letters.toArray⟩, .int .u8 y.toNat] w fun e w' => ∃ v : Int, e = .returned (.int .i64 v) ∧ decide (v < 0) = !okb y ∧ w' = w := by
  refine (Tryz.strings_IndexByte ⟨letters.toArray⟩ y.toNat w).mono ?_
  rintro e w' ⟨rfl, rfl⟩
  have hcy : ((y.toNat : Int)).toNat.toUInt8 = y := by simp
  rw [hcy]
  exact ⟨_, rfl, okb_is y, rfl⟩
set_option maxRecDepth 100000 in
set_option maxHeartbeats 1000000 in
theorem named_any (s : List UInt8) (w : World) (hs : s.length ≤ 9223372036854775807) :
    Calls Tryz.prog 90 #[.string ⟨s.toArray⟩] w fun e w' => e = .returned (.bool (namedM s)) ∧ w' = w := by
  obtain ⟨n, hn⟩ : ∃ n, n = s.length := ⟨_, rfl⟩
  have hsz : (⟨s.toArray⟩ : ByteArray).size = n := by rw [hn]; exact ByteArray.size_mk_toArray s
  by_cases h1 : n < 1
  · have hm : namedM s = false := by unfold namedM; rw [← hn]; simp; omega
    rw [hm]
    replace hn := hide hn
    go_enter Tryz.func90, Tryz.ntmps90
    go_wp2_with fail
    go_ret
    exact ⟨rfl, rfl⟩
  · by_cases h2 : 64 < n
    · have hm : namedM s = false := by unfold namedM; rw [← hn]; simp; omega
      rw [hm]
      replace hn := hide hn
      go_enter Tryz.func90, Tryz.ntmps90
      go_wp2_with fail
      go_ret
      exact ⟨rfl, rfl⟩
    · have hm : namedM s = s.all okb := by unfold namedM; rw [← hn]; simp; omega
      rw [hm]
      replace hn := hide hn
      go_enter Tryz.func90, Tryz.ntmps90
      go_wp2_with fail
      go_loopw [14] (fun s14 wr => ∃ i : Nat, s14 = .int .i64 i ∧ i ≤ n ∧ Hid (s.all okb = (s.drop i).all okb) ∧ wr = w) (fun s14 _ => n - (intOf s14).toNat)
      case atStart => exact ⟨0, rfl, by omega, hide rfl, rfl⟩
      case round =>
        obtain ⟨i, rfl, hi, hall, rfl⟩ := hrel
        by_cases hin : i < n
        · go_wp2_with fail
          have hil : i < s.length := by rw [← hn.out]; exact hin
          obtain ⟨x, hx⟩ : ∃ x, x = s[i] := ⟨_, rfl⟩
          have hdr : (s.drop i).all okb = (okb x && (s.drop (i + 1)).all okb) := by rw [List.drop_eq_getElem_cons hil, List.all_cons, hx]
          generalize hgx : (⟨s.toArray⟩ : ByteArray)[i]'(by rw [hsz]; exact hin) = y
          have hyx : y = x := by rw [hx, ← hgx]; rfl
          subst hyx
          replace hdr := hide hdr
          replace hgx := hide hgx
          replace hx := hide hx
          refine (letter_any y wr).mono ?_
          rintro e w2 ⟨v, rfl, hv, rfl⟩
          cases hok : okb y with
          | true =>
            rw [hok] at hv hdr
            have hv' : decide (v < 0) = false := hv
            have hd2 : Hid (s.all okb = (s.drop (i + 1)).all okb) := by rw [hall.out, hdr.out]; exact Bool.true_and _
            replace hok := hide hok
            clear hv hdr
            go_wp2_with fail
            go_roundw
            case rel => exact ⟨i + 1, by go_num, by omega, hd2, trivial⟩
            case measure => simp [intOf]; omega
          | false =>
            rw [hok] at hv hdr
            have hv' : decide (v < 0) = true := hv
            have hd2 : Hid (s.all okb = false) := by rw [hall.out, hdr.out]; exact Bool.false_and _
            replace hok := hide hok
            clear hv hdr
            go_wp2_with fail
            go_ret
            rw [hd2.out]
            exact ⟨rfl, rfl⟩
        · have hd2 : s.all okb = true := by
            rw [hall.out, List.drop_eq_nil_of_le (by rw [← hn.out]; omega)]
            rfl
          replace hd2 := hide hd2
          go_wp2_with fail
          go_ret
          rw [hd2.out]
          exact ⟨rfl, rfl⟩
end Go.Proofs.YtohphanbnhiodaaGreat

/- loggia/disk: may a call be? -/
namespace Go.Proofs.YtohphanbnhiodaaGreat
open Go.RowKit Go.Maps

def str (s : List UInt8) : Value := .string ⟨s.toArray⟩
set_option maxRecDepth 100000 in
theorem may1_any (s : List UInt8) (w : World) (hs : s.length ≤ 9223372036854775807) :
    Calls Tryz.prog 89 #[str s] w fun e w' => e = .returned (.bool (!namedM s)) ∧ w' = w := by
  unfold str
  have h := named_any s w hs
  obtain ⟨b, hb⟩ : ∃ b, b = namedM s := ⟨_, rfl⟩
  rw [← hb] at h ⊢
  replace hb := hide hb
  replace h := hide h
  go_enter Tryz.func89, Tryz.ntmps89
  go_wp2_with fail
  refine h.out.mono ?_
  rintro e w1 ⟨rfl, rfl⟩
  go_wp2_with fail
  go_ret
  exact ⟨rfl, rfl⟩
set_option maxRecDepth 100000 in
set_option maxHeartbeats 1000000 in
theorem indexF_any (A : Option Addr) (n c : Nat) (ns : List (List UInt8)) (w : World) (hn : n = ns.length) (hA : Cells w A (ns.map str)) (hn2 : n ≤ 1000) (hs : ∀ s ∈ ns, s.length ≤ 9223372036854775807) :
    Calls Tryz.prog 110 #[.slice A n c, .func (.func 89) #[] #[]] w fun e w' => ∃ v : Int, e = .returned (.int .i64 v) ∧ decide (0 ≤ v) = !(ns.all namedM) ∧ w' = w := by
  replace hn := hide hn
  go_enter Tryz.func110, Tryz.ntmps110
  go_wp2_with fail
  go_loopw [8] (fun s8 wr => ∃ i : Nat, s8 = .int .i64 i ∧ i ≤ n ∧ Hid (ns.all namedM = (ns.drop i).all namedM) ∧ wr = w) (fun s8 _ => n - (intOf s8).toNat)
  case atStart => exact ⟨0, rfl, by omega, hide rfl, rfl⟩
  case round =>
    obtain ⟨i, rfl, hi, hall, rfl⟩ := hrel
    by_cases hin : i < n
    · have hil : i < ns.length := by rw [← hn.out]; exact hin
      obtain ⟨g, o, rfl, hc⟩ := hA.at_ (by rw [List.length_map]; omega)
      have hci := hc i (str ns[i]) (by simp [hil])
      obtain ⟨x, hx⟩ : ∃ x, x = ns[i] := ⟨_, rfl⟩
      have hxs : x.length ≤ 9223372036854775807 := by rw [hx]; exact hs _ (List.getElem_mem hil)
      have hdr : (ns.drop i).all namedM = (namedM x && (ns.drop (i + 1)).all namedM) := by rw [List.drop_eq_getElem_cons hil, List.all_cons, hx]
      rw [← hx] at hci
      clear hc
      replace hdr := hide hdr
      replace hx := hide hx
      go_wp2_with fail
      refine (may1_any x wr hxs).mono ?_
      rintro e w2 ⟨rfl, rfl⟩
      cases hok : namedM x with
      | true =>
        rw [hok] at hdr
        have hd2 : Hid (ns.all namedM = (ns.drop (i + 1)).all namedM) := by rw [hall.out, hdr.out]; exact Bool.true_and _
        replace hok := hide hok
        clear hdr
        go_wp2_with fail
        go_roundw
        case rel => exact ⟨i + 1, by go_num, by omega, hd2, trivial⟩
        case measure => simp [intOf]; omega
      | false =>
        rw [hok] at hdr
        have hd2 : Hid (ns.all namedM = false) := by rw [hall.out, hdr.out]; exact Bool.false_and _
        replace hok := hide hok
        clear hdr
        go_wp2_with fail
        go_ret
        rw [hd2.out]
        exact ⟨_, rfl, decide_eq_true (by omega), rfl⟩
    · have hd2 : ns.all namedM = true := by
        rw [hall.out, List.drop_eq_nil_of_le (by rw [← hn.out]; omega)]
        rfl
      replace hd2 := hide hd2
      go_wp2_with fail
      go_ret
      rw [hd2.out]
      exact ⟨-1, rfl, rfl, rfl⟩
end Go.Proofs.YtohphanbnhiodaaGreat

/- loggia/disk: none, may, call. -/
namespace Go.Proofs.YtohphanbnhiodaaGreat
open Go.RowKit Go.Maps

set_option maxRecDepth 100000 in
theorem containsF_any (A : Option Addr) (n c : Nat) (ns : List (List UInt8)) (w : World) (hn : n = ns.length) (hA : Cells w A (ns.map str)) (hn2 : n ≤ 1000) (hs : ∀ s ∈ ns, s.length ≤ 9223372036854775807) :
    Calls Tryz.prog 88 #[.slice A n c, .func (.func 89) #[] #[]] w fun e w' => e = .returned (.bool (!(ns.all namedM))) ∧ w' = w := by
  have h := indexF_any A n c ns w hn hA hn2 hs
  obtain ⟨b, hb⟩ : ∃ b, b = ns.all namedM := ⟨_, rfl⟩
  rw [← hb] at h ⊢
  replace h := hide h
  replace hb := hide hb
  clear hn hA
  go_enter Tryz.func88, Tryz.ntmps88
  go_wp2_with fail
  refine h.out.mono ?_
  rintro e w1 ⟨v, rfl, hv, rfl⟩
  replace hv := hide hv
  go_wp2_with fail
  go_ret
  exact ⟨ret_bool hv.out, rfl⟩
/-- The disk's own block. -/
def DRow (w : World) (d m quota armed : Nat) (stopped : Bool) : Prop := Row w d 73 #[.map (some m), .int .i64 quota, .int .i64 armed, .bool stopped]
set_option maxRecDepth 100000 in
theorem map_nil (m : Nat) (w : World) : (binOp .eql 71 (.map (some m)) (.map none)).run Tryz.prog w = .ok (.bool false) w := by kernel_rfl
set_option maxRecDepth 100000 in
theorem none_any (d m quota armed : Nat) (stopped : Bool) (w : World) (h : DRow w d m quota armed stopped) :
    Calls Tryz.prog 58 #[.pointer (some ⟨d, 0, none⟩)] w fun e w' => e = .returned (.bool false) ∧ w' = w := by
  have c0 : w.cell? ⟨d, 0, none⟩ = some (.map (some m)) := Row.cell h 0 rfl
  have hq := map_nil m w
  go_enter Tryz.func58, Tryz.ntmps58
  go_wp2_with fail
  go_ret
  exact ⟨rfl, rfl⟩
def mayM (ns : List (List UInt8)) (stopped : Bool) : Nat := if ns.all namedM then (if stopped then 63 else 0) else 60
set_option maxRecDepth 100000 in
set_option maxHeartbeats 1000000 in
theorem may_any (d m quota armed : Nat) (stopped : Bool) (A : Option Addr) (n c : Nat) (ns : List (List UInt8)) (w : World) (h : DRow w d m quota armed stopped) (hn : n = ns.length) (hA : Cells w A (ns.map str)) (hn2 : n ≤ 1000)
    (hs : ∀ s ∈ ns, s.length ≤ 9223372036854775807) :
    Calls Tryz.prog 50 #[.pointer (some ⟨d, 0, none⟩), .slice A n c] w fun e w' => e = .returned (.int .i64 (mayM ns stopped)) ∧ w' = w := by
  have hc := containsF_any A n c ns w hn hA hn2 hs
  have h0 := none_any d m quota armed stopped w h
  have c3 : w.cell? ⟨d, 3, none⟩ = some (.bool stopped) := Row.cell h 3 rfl
  obtain ⟨b, hb⟩ : ∃ b, b = ns.all namedM := ⟨_, rfl⟩
  have hm : mayM ns stopped = if b then (if stopped then 63 else 0) else 60 := by unfold mayM; rw [← hb]
  rw [hm]
  rw [← hb] at hc
  replace hc := hide hc
  replace h0 := hide h0
  replace hb := hide hb
  clear hn hA hm h
  cases b <;> cases stopped
  all_goals
    go_enter Tryz.func50, Tryz.ntmps50
    go_wp2_with fail
    refine h0.out.mono ?_
    rintro e w1 ⟨rfl, rfl⟩
    go_wp2_with fail
    refine hc.out.mono ?_
    rintro e w1 ⟨rfl, rfl⟩
    go_wp2_with fail
    go_ret
    exact ⟨rfl, rfl⟩
end Go.Proofs.YtohphanbnhiodaaGreat

/- loggia/disk: call. -/
namespace Go.Proofs.YtohphanbnhiodaaGreat
open Go.RowKit Go.Maps

/-- A writing call is counted: how many are left, does it stop? -/
def callM (armed : Nat) : Nat × Bool := (armed - 1, armed == 1)
set_option maxRecDepth 100000 in
set_option maxHeartbeats 1000000 in
theorem call_any (d m quota armed : Nat) (w : World) (hD : DRow w d m quota armed false) (ha : armed ≤ 9223372036854775807) :
    Calls Tryz.prog 52 #[.pointer (some ⟨d, 0, none⟩)] w fun e w' => e = .returned (.int .i64 (if armed = 1 then 63 else 0)) ∧ DRow w' d m quota (armed - 1) (decide (armed = 1)) ∧ Chg (fun k => k = d) w w' ∧ w'.heap.size = w.heap.size := by
  have c2 : w.cell? ⟨d, 2, none⟩ = some (.int .i64 armed) := Row.cell hD 2 rfl
  have f2 := Row.free hD 2
  have c3 : w.cell? ⟨d, 3, none⟩ = some (.bool false) := Row.cell hD 3 rfl
  have f3 := Row.free hD 3
  by_cases h0 : armed = 0
  · subst h0
    go_enter Tryz.func52, Tryz.ntmps52
    go_wp2_with fail
    go_ret
    exact ⟨rfl, hD, Chg.refl _ _, rfl⟩
  · by_cases h1 : armed = 1
    · subst h1
      have hp := (Row.put hD 2 (.int .i64 0)).put 3 (.bool true)
      go_enter Tryz.func52, Tryz.ntmps52
      go_wp2_with fail
      go_ret
      exact ⟨rfl, hp, (Chg.of_set (S := fun k => k = d) w (a := ⟨d, 2, none⟩) _ rfl).trans (Chg.of_set (S := fun k => k = d) _ (a := ⟨d, 3, none⟩) _ rfl) (fun _ _ h => h), by simp [World.setCell]⟩
    · obtain ⟨a, rfl⟩ : ∃ a, armed = a + 2 := ⟨armed - 2, by omega⟩
      have hp := Row.put hD 2 (.int .i64 ((a : Int) + 2 - 1))
      go_enter Tryz.func52, Tryz.ntmps52
      go_wp2_with fail
      go_ret
      refine ⟨rfl, ?_, Chg.of_set (S := fun k => k = d) w (a := ⟨d, 2, none⟩) _ rfl, by simp [World.setCell]⟩
      have e3 : ((a + 1 : Nat) : Int) = (a : Int) + 2 - 1 := by omega
      unfold DRow
      rw [e3]
      exact hp
end Go.Proofs.YtohphanbnhiodaaGreat

/- loggia/disk: how a disk lies in memory. -/
namespace Go.Proofs.YtohphanbnhiodaaGreat
open Go.RowKit Go.Maps

theorem keyS : Keyed Tryz.prog 9 := string_keyed Tryz.underlying9
/-- A file: its name, its block, its bytes, how many are durable, where they lie. -/
structure Ent where
  name : List UInt8
  f : Nat
  b : List UInt8
  sure : Nat
  A : Option Addr
  c : Nat
def Ent.kv (e : Ent) : Value × Value := (str e.name, .pointer (some ⟨e.f, 0, none⟩))
/-- What the document says of it. -/
def Ent.pl (e : Ent) : List UInt8 × List UInt8 × Nat := (e.name, e.b, e.sure)
structure EOk (w : World) (base : Nat) (e : Ent) : Prop where
  row : Row w e.f 107 #[.slice e.A e.b.length e.c, .int .i64 e.sure]
  buf : Buf w base 5 e.A e.b.length e.c (e.b.map B8)
  low : base ≤ e.f
  sure : e.sure ≤ e.b.length
/-- The map m has just the files E. -/
structure FS (w : World) (base m : Nat) (E : List Ent) : Prop where
  map : ∃ L, MapL Tryz.prog 9 w m L ∧ (∀ p, p ∈ L ↔ ∃ e ∈ E, p = e.kv) ∧ L.length = E.length
  ok : ∀ e ∈ E, EOk w base e
  low : base ≤ m
  names : (E.map Ent.name).Nodup
  short : ∀ e ∈ E, e.name.length ≤ 9223372036854775807
  fd : E.Pairwise (fun a b => a.f ≠ b.f)
  ad : E.Pairwise (fun a b => ∀ x y, a.A = some x → b.A = some y → x.block ≠ y.block)
end Go.Proofs.YtohphanbnhiodaaGreat

/- loggia/disk: Used. -/
namespace Go.Proofs.YtohphanbnhiodaaGreat
open Go.RowKit Go.Maps

theorem str_inj {a b : List UInt8} (h : str a = str b) : a = b := by
  unfold str at h
  injection h with h
  injection h with h
  simpa using h
theorem nodup_of_map {α β : Type} (f : α → β) : ∀ {l : List α}, (l.map f).Nodup → l.Nodup
  | [], _ => List.nodup_nil
  | a :: l, h => by
    rw [List.map_cons, List.nodup_cons] at h
    rw [List.nodup_cons]
    exact ⟨fun ha => h.1 (List.mem_map.2 ⟨a, ha, rfl⟩), nodup_of_map f h.2⟩
theorem inj_of_map {α β : Type} (f : α → β) : ∀ {l : List α}, (l.map f).Nodup → ∀ {a b : α}, a ∈ l → b ∈ l → f a = f b → a = b
  | [], _, _, _, h, _, _ => by cases h
  | x :: l, h, a, b, ha, hb, he => by
    rw [List.map_cons, List.nodup_cons] at h
    rcases List.mem_cons.1 ha with h1 | h1 <;> rcases List.mem_cons.1 hb with h2 | h2
    · rw [h1, h2]
    · exact (h.1 (List.mem_map.2 ⟨b, h2, by rw [← he, h1]⟩)).elim
    · exact (h.1 (List.mem_map.2 ⟨a, h1, by rw [he, h2]⟩)).elim
    · exact inj_of_map f h.2 h1 h2 he
def usedM (E : List Ent) : Nat := (E.map fun e => e.b.length).sum
/-- The entries that a range has brought, when it has brought all. -/
theorem all_came {E D : List Ent} (hE : (E.map Ent.name).Nodup) (hD : (D.map fun e => str e.name).Nodup) (hs : ∀ e ∈ D, e ∈ E) (ha : ∀ e ∈ E, str e.name ∈ D.map fun e => str e.name) : D.Perm E := by
  have hEn : E.Nodup := nodup_of_map _ hE
  have hDn : D.Nodup := nodup_of_map _ hD
  refine (List.perm_ext_iff_of_nodup hDn hEn).2 fun e => ⟨hs e, fun he => ?_⟩
  obtain ⟨e', he', hk⟩ := List.mem_map.1 (ha e he)
  have hn : e'.name = e.name := str_inj hk
  have : e' = e := by
    have h1 := hs e' he'
    exact inj_of_map Ent.name hE h1 he hn
  rw [← this]
  exact he'
theorem used_le : ∀ (D E : List Ent), D.Nodup → (∀ e ∈ D, e ∈ E) → usedM D ≤ usedM E
  | [], E, _, _ => Nat.zero_le _
  | a :: D, E, hn, hs => by
    rw [List.nodup_cons] at hn
    obtain ⟨E1, E2, rfl⟩ := List.append_of_mem (hs a (by simp))
    have := used_le D (E1 ++ E2) hn.2 fun e he => by
      have h1 := hs e (List.mem_cons_of_mem _ he)
      rcases List.mem_append.1 h1 with h2 | h2
      · exact List.mem_append_left _ h2
      · rcases List.mem_cons.1 h2 with h3 | h3
        · exact absurd (h3 ▸ he) hn.1
        · exact List.mem_append_right _ h3
    unfold usedM at *
    simp only [List.map_append, List.map_cons, List.sum_append, List.sum_cons] at *
    omega
end Go.Proofs.YtohphanbnhiodaaGreat

/- loggia/disk: Used, the walk. -/
namespace Go.Proofs.YtohphanbnhiodaaGreat
open Go.RowKit Go.Maps

set_option maxRecDepth 100000 in
set_option maxHeartbeats 1000000 in
theorem used_any (base d m quota armed : Nat) (stopped : Bool) (E : List Ent) (w : World) (h : DRow w d m quota armed stopped) (hF : FS w base m E) (hu : usedM E ≤ 1099511627776) :
    Calls Tryz.prog 51 #[.pointer (some ⟨d, 0, none⟩)] w fun e w' => e = .returned (.int .i64 (usedM E)) ∧ Ext w w' := by
  have h0 := none_any d m quota armed stopped w h
  replace h0 := hide h0
  have c0 : w.cell? ⟨d, 0, none⟩ = some (.map (some m)) := Row.cell h 0 rfl
  obtain ⟨L, hL, hmem, hlen⟩ := hF.map
  obtain ⟨o, hrange, hRL⟩ := hL.range Tryz.underlying71
  go_enter Tryz.func51, Tryz.ntmps51
  go_wp2_with fail
  refine h0.out.mono ?_
  rintro e w1 ⟨rfl, rfl⟩
  go_wp2_with fail
  have hE0 : Ext w1 (w1.alloc o) := (Ext.refl w1).alloc o
  go_loopw [3] (fun s3 wr => ∃ (D : List Ent) (n : Nat), s3 = .int .i64 n ∧ n ≤ 1099511627776 ∧ Hid (n = usedM D) ∧ Hid (RangeL Tryz.prog 9 wr m w1.heap.size L (D.map fun e => str e.name)) ∧ Hid (∀ e ∈ D, e ∈ E) ∧ Ext w1 wr) (fun _ wr => wr.rangeLeft m w1.heap.size)
  case atStart => exact ⟨[], 0, rfl, by omega, rfl, hRL, hide (by simp), hE0⟩
  case round =>
    obtain ⟨D, n, rfl, hn, hnD, hR, hD, hE⟩ := hrel
    rcases hR.out.next 0 with ⟨hrun, hall⟩ | ⟨x, v, w2, hxv, hxd, hrun, hR2, hg2, hs2, hent, hleft⟩
    · have hperm : D.Perm E := all_came hF.names hR.out.dn hD.out (fun e he => by
        have := hall e.kv ((hmem _).2 ⟨e, he, rfl⟩)
        exact this)
      have hfin : n = usedM E := by
        rw [hnD.out]
        unfold usedM
        exact (hperm.map _).sum_nat
      replace hfin := hide hfin
      go_wp2_with fail
      go_ret
      rw [hfin.out]
      exact ⟨rfl, hE⟩
    · obtain ⟨e0, he0, hkv⟩ := (hmem _).1 hxv
      unfold Ent.kv at hkv
      injection hkv with hx1 hv1
      subst hx1
      subst hv1
      have hok := (hF.ok e0 he0).row
      have hE2 : Ext w1 w2 := hE.grown hg2 (fun k hk => by cases hk; exact Nat.le_refl _)
      have cf : w2.cell? ⟨e0.f, 0, none⟩ = some (.slice e0.A e0.b.length e0.c) := hE2.cell (hok.cell 0 rfl)
      obtain ⟨bl, hbl⟩ : ∃ x, x = e0.b.length := ⟨_, rfl⟩
      rw [← hbl] at cf
      have hsum : usedM (D ++ [e0]) = n + bl := by
        unfold usedM
        rw [List.map_append, List.sum_append, hbl]
        simp
        exact hnD.out.symm
      have hle : n + bl ≤ 1099511627776 := by
        rw [← hsum]
        refine Nat.le_trans (used_le _ E ?_ ?_) hu
        · refine nodup_of_map (fun e => str e.name) ?_
          rw [List.map_append]
          exact hR2.dn
        · intro e he
          rcases List.mem_append.1 he with he | he
          · exact hD.out e he
          · simp at he; subst he; exact he0
      replace hsum := hide hsum.symm
      replace hbl := hide hbl
      go_wp2_with fail
      go_roundw
      case rel => exact ⟨D ++ [e0], n + bl, by go_num, by omega, hsum, hide (by rw [List.map_append]; exact hR2), hide (fun e he => by
        rcases List.mem_append.1 he with he | he
        · exact hD.out e he
        · simp at he; subst he; exact he0), hE2⟩
      case measure => exact hleft
end Go.Proofs.YtohphanbnhiodaaGreat

/- Sorting names. -/
namespace Go.Proofs.YtohphanbnhiodaaGreat
open Go.RowKit Go.Maps Go.Sort

theorem sort_any (base : Nat) (A : Option Addr) (n c : Nat) (ns : List (List UInt8)) (w : World) (hn : n = ns.length) (hb : Buf w base 9 A n c (ns.map str)) (hsz : n ≤ 1048576) :
    Calls Tryz.prog 92 #[.slice A n c] w fun e w' => e = .returned (.tuple #[]) ∧ Buf w' base 9 A n c ((ns.mergeSort fun x y => decide (x ≤ y)).map str) ∧ Chg (fun k => ∃ x, A = some x ∧ x.block = k) w w' := by
  subst hn
  obtain ⟨h1, h2, h3⟩ := hb
  rcases h3 with ⟨rfl, rfl⟩ | ⟨g, cur, rfl, hbg, hg, hs, ht⟩
  · have h0 : ns = [] := List.eq_nil_of_length_eq_zero (by omega)
    subst h0
    refine (Tryz.slices_Sort_string_none none 0 w).mono ?_
    rintro e w' ⟨rfl, rfl⟩
    exact ⟨rfl, by simpa using Buf.nil _ _ _, Chg.refl _ _⟩
  · have hH : Holds encStr w g 0 ns.toArray := by
      intro j hj
      simp at hj
      refine ⟨?_, hg.free _⟩
      rw [Nat.zero_add, cell_of_row w g j cur 9 (0, 0) hg]
      have : (cur.toList.take ns.length)[j]? = (ns.map str)[j]? := by rw [ht]
      rw [List.getElem?_take, if_pos hj] at this
      simp [hj] at this
      simpa [hj, encStr, str] using this
    refine (Tryz.slices_Sort_string g 0 c ns w hH hg.lt (by omega)).mono ?_
    rintro e w' ⟨rfl, k, os, rfl⟩
    obtain ⟨so, hso⟩ : ∃ so, so = (ns.mergeSort fun x y => decide (x ≤ y)) := ⟨_, rfl⟩
    have hsl : so.length = ns.length := by rw [hso]; exact List.length_mergeSort _
    rw [← hso]
    have hrow : Row (grow (putRow encStr (Sort.ahead w k) g 0 so.toArray) os) g 9 (putCells encStr 0 so.toArray cur) := by
      show ((w.heap.modify g (onCells (putCells encStr 0 so.toArray))) ++ os)[g]? = _
      rw [Array.getElem?_append_left (by simpa using hg.lt), Array.getElem?_modify, if_pos rfl]
      have : w.heap[g]? = some (.cells cur 9 (0, 0)) := hg
      rw [this]
      rfl
    refine ⟨rfl, ⟨by simp [hsl], h2, .inr ⟨g, _, rfl, hbg, hrow, ?_, ?_⟩⟩, ⟨rfl, rfl, rfl, ?_, ?_⟩⟩
    · simp [putCells]
      exact hs
    · apply List.ext_getElem?
      intro i
      rw [List.getElem?_take]
      split
      · rename_i hi
        have hic : i < cur.size := by
          rw [List.length_map] at h1
          omega
        have his : i < so.length := by omega
        rw [Array.getElem?_toList]
        unfold putCells
        rw [Array.getElem?_mapIdx, Array.getElem?_eq_getElem hic]
        simp [his, encStr, str]
      · rename_i hi
        rw [List.getElem?_eq_none (by rw [List.length_map]; omega)]
    · show w.heap.size ≤ ((w.heap.modify g (onCells (putCells encStr 0 so.toArray))) ++ os).size
      simp
    · intro j hj hne
      show ((w.heap.modify g (onCells (putCells encStr 0 so.toArray))) ++ os)[j]? = _
      rw [Array.getElem?_append_left (by simpa using hj), Array.getElem?_modify, if_neg (fun e => hne ⟨_, rfl, e⟩)]
end Go.Proofs.YtohphanbnhiodaaGreat

/- loggia/disk: names. -/
namespace Go.Proofs.YtohphanbnhiodaaGreat
open Go.RowKit Go.Maps

def sortN (ns : List (List UInt8)) : List (List UInt8) := ns.mergeSort fun x y => decide (x ≤ y)
theorem sortN_perm (ns : List (List UInt8)) : (sortN ns).Perm ns := List.mergeSort_perm _ _
theorem bytes_le_trans {a b c : List UInt8} (h : decide (a ≤ b) = true) (k : decide (b ≤ c) = true) : decide (a ≤ c) = true := decide_eq_true (List.le_trans (of_decide_eq_true h) (of_decide_eq_true k))
theorem bytes_le_total (a b : List UInt8) : (decide (a ≤ b) || decide (b ≤ a)) = true := by
  rcases List.le_total a b with h | h
  · simp [h]
  · simp [h]
theorem sortN_pw (ns : List (List UInt8)) : (sortN ns).Pairwise (fun a b => a ≤ b) := by
  have := List.pairwise_mergeSort (le := fun (x y : List UInt8) => decide (x ≤ y)) (fun a b c => bytes_le_trans) (fun a b => bytes_le_total a b) ns
  exact this.imp fun h => of_decide_eq_true h
/-- Rows of alike members that both rise are alike. -/
theorem sorted_eq : ∀ {a b : List (List UInt8)}, a.Perm b → a.Pairwise (fun x y => x ≤ y) → b.Pairwise (fun x y => x ≤ y) → a = b
  | a, b, hp, ha, hb => List.Perm.eq_of_pairwise (fun x y _ _ h k => List.le_antisymm h k) ha hb hp
theorem sortN_eq {ns : List (List UInt8)} (h : ns.Pairwise (fun x y => x ≤ y)) : sortN ns = ns := sorted_eq (sortN_perm ns) (sortN_pw ns) h
theorem sortN_of {ns ks : List (List UInt8)} (h : ns.Perm ks) : sortN ns = sortN ks := sorted_eq ((sortN_perm ns).trans (h.trans (sortN_perm ks).symm)) (sortN_pw ns) (sortN_pw ks)
theorem sub_len {α : Type} : ∀ (D E : List α), D.Nodup → (∀ e ∈ D, e ∈ E) → D.length ≤ E.length
  | [], E, _, _ => Nat.zero_le _
  | a :: D, E, hn, hs => by
    rw [List.nodup_cons] at hn
    obtain ⟨E1, E2, rfl⟩ := List.append_of_mem (hs a (by simp))
    have := sub_len D (E1 ++ E2) hn.2 fun e he => by
      have h1 := hs e (List.mem_cons_of_mem _ he)
      rcases List.mem_append.1 h1 with h2 | h2
      · exact List.mem_append_left _ h2
      · rcases List.mem_cons.1 h2 with h3 | h3
        · exact absurd (h3 ▸ he) hn.1
        · exact List.mem_append_right _ h3
    simp only [List.length_append, List.length_cons] at *
    omega
set_option maxRecDepth 100000 in
set_option maxHeartbeats 1000000 in
theorem names_any (base d m quota armed : Nat) (stopped : Bool) (E : List Ent) (w : World) (h : DRow w d m quota armed stopped) (hF : FS w base m E) (hu : E.length ≤ 1024) :
    Calls Tryz.prog 59 #[.pointer (some ⟨d, 0, none⟩)] w fun e w' => ∃ A n c, e = .returned (.slice A n c) ∧ n = E.length ∧ Buf w' w.heap.size 9 A n c ((sortN (E.map Ent.name)).map str) ∧ Ext w w' := by
  have c0 : w.cell? ⟨d, 0, none⟩ = some (.map (some m)) := Row.cell h 0 rfl
  obtain ⟨L, hL, hmem, hlen⟩ := hF.map
  have hml := hL.lt
  obtain ⟨o, hrange, hRL⟩ := hL.range Tryz.underlying71
  go_enter Tryz.func59, Tryz.ntmps59
  go_wp2_with fail
  have hE0 : Ext w (w.alloc o) := (Ext.refl w).alloc o
  have hsz0 : w.heap.size + 1 ≤ (w.alloc o).heap.size := by simp
  go_loopw [3] (fun s3 wr => ∃ (D : List Ent) (n : Nat) (A : Option Addr) (c : Nat), s3 = .slice A n c ∧ Hid (n = D.length) ∧ Hid (wr.ownsRow (w.heap.size + 1) 9 1 (.slice A n c) n (D.map fun e => str e.name)) ∧ Hid (RangeL Tryz.prog 9 wr m w.heap.size L (D.map fun e => str e.name)) ∧ Hid (∀ e ∈ D, e ∈ E) ∧ w.heap.size + 1 ≤ wr.heap.size ∧ Ext w wr) (fun _ wr => wr.rangeLeft m w.heap.size)
  case atStart => exact ⟨[], 0, none, 0, rfl, hide rfl, hide (World.ownsRow_nil _ _ _ _), hRL, hide (by simp), hsz0, hE0⟩
  case round =>
    obtain ⟨D, n, A, c, rfl, hnD, hO, hR, hD, hsz, hE⟩ := hrel
    have hDn : D.Nodup := nodup_of_map (fun e => str e.name) hR.out.dn
    have hDle : D.length ≤ E.length := by
      exact sub_len D E hDn hD.out
    replace hDle := hide hDle
    rcases hR.out.next 0 with ⟨hrun, hall⟩ | ⟨x, v, w2, hxv, hxd, hrun, hR2, hg2, hs2, hent, hleft⟩
    · have hperm : D.Perm E := all_came hF.names hR.out.dn hD.out (fun e he => by
        have := hall e.kv ((hmem _).2 ⟨e, he, rfl⟩)
        exact this)
      have hbuf : Buf wr (w.heap.size + 1) 9 A n c ((D.map Ent.name).map str) := by
        rw [List.map_map]
        exact Buf.of_own hO.out
      have hn : n = E.length := hnD.out.trans hperm.length_eq
      replace hn := hide hn
      have hn2 : n ≤ 1048576 := by rw [hn.out]; omega
      have hss : sortN (D.map Ent.name) = sortN (E.map Ent.name) := sortN_of (hperm.map _)
      replace hss := hide hss
      have hs := sort_any (w.heap.size + 1) A n c (D.map Ent.name) wr (by rw [List.length_map]; exact hnD.out) hbuf hn2
      go_wp2_with fail
      refine hs.mono ?_
      rintro e w3 ⟨rfl, hb3, hc3⟩
      have hE3 : Ext w w3 := hE.chg hc3 (by
        rintro i hi ⟨a, ha, hk⟩
        have := hbuf.base_le a ha
        omega)
      go_wp2_with fail
      go_ret
      refine ⟨A, n, c, rfl, hn.out, ?_, hE3⟩
      rw [← hss.out]
      obtain ⟨b1, b2, b3⟩ := hb3
      refine ⟨b1, b2, ?_⟩
      rcases b3 with b3 | ⟨g, cur, r1, r2, r3⟩
      · exact .inl b3
      · exact .inr ⟨g, cur, r1, by omega, r3⟩
    · obtain ⟨e0, he0, hkv⟩ := (hmem _).1 hxv
      unfold Ent.kv at hkv
      injection hkv with hx1 hv1
      subst hx1
      subst hv1
      have hE2 : Ext w w2 := hE.grown hg2 (fun k hk => by cases hk; exact Nat.le_refl _)
      have hsz2 : w.heap.size + 1 ≤ w2.heap.size := by rw [hs2]; exact hsz
      have hb0 := (Buf.of_own hO.out).base_le
      have hO2 : w2.ownsRow (w.heap.size + 1) 9 1 (.slice A n c) n (D.map fun e => str e.name) := by
        refine (Chg.of_grown (S := fun k => k = w.heap.size) hg2 (fun k _ hk => by cases hk; rfl)).owns hO.out ?_
        rintro g hg hgk
        obtain ⟨cur, _, h9⟩ := owns_row hO.out hg
        omega
      have hnl : n + 1 ≤ 1025 := by rw [hnD.out]; have := hDle.out; omega
      have hgb : (Value.slice A n c).ownBlock ≠ some m ∧ (Value.slice A n c).ownBlock ≠ some w.heap.size := by
        constructor
        · intro hg
          obtain ⟨cur, _, h9⟩ := owns_row hO.out hg
          omega
        · intro hg
          obtain ⟨cur, _, h9⟩ := owns_row hO.out hg
          omega
      have hgo : ∀ k, (Value.slice A n c).ownBlock = some k → w.heap.size ≤ k := by
        intro k hg
        obtain ⟨cur, _, h9⟩ := owns_row hO.out hg
        omega
      replace hgb := hide hgb
      replace hgo := hide hgo
      replace hs2 := hide hs2
      replace hb0 := hide hb0
      clear hml
      obtain ⟨s0, hs0⟩ : ∃ s0, str e0.name = .string s0 := ⟨_, rfl⟩
      rw [hs0] at hrun hent hR2
      replace hs0 := hide hs0
      go_wp2_with (at_builtin; refine wpList_appN (us := [.string s0]) elemS hO2 (.tmp 14) (.tmp 16) rfl rfl rfl rfl (one_of rfl) (by simp; omega) (by omega) (fun A3 c3 w3 ho3 hg3 hl3 => ?_))
      have hE3 : Ext w w3 := hE2.grown hg3 hgo.out
      have hR3 : RangeL Tryz.prog 9 w3 m w.heap.size L ((D ++ [e0]).map fun e => str e.name) := by
        rw [List.map_append, List.map_cons, List.map_nil, hs0.out]
        exact hR2.grown hg3 hgb.out.1 hgb.out.2
      have ho3' : w3.ownsRow (w.heap.size + 1) 9 1 (.slice A3 (n + 1) c3) (n + 1) ((D ++ [e0]).map fun e => str e.name) := by
        rw [List.map_append, List.map_cons, List.map_nil, hs0.out]
        exact ho3
      have hsz3 : w.heap.size + 1 ≤ w3.heap.size := Nat.le_trans hsz2 hg3.size
      have hl3' : w3.rangeLeft m w.heap.size < wr.rangeLeft m w.heap.size := by
        have h1 : w3.heap[m]? = w2.heap[m]? := hg3.block m hR2.map.lt (fun e => hgb.out.1 e.symm)
        have h2 : w3.heap[w.heap.size]? = w2.heap[w.heap.size]? := hg3.block _ hR2.lt (fun e => hgb.out.2 e.symm)
        have h3 : w3.rangeLeft m w.heap.size = w2.rangeLeft m w.heap.size := by unfold World.rangeLeft; rw [h1, h2]
        rw [h3]
        exact hleft
      go_roundw
      case rel => exact ⟨D ++ [e0], n + 1, A3, c3, rfl, hide (by rw [List.length_append]; simp; exact hnD.out), ho3', hR3, hide (fun e he => by
        rcases List.mem_append.1 he with he | he
        · exact hD.out e he
        · simp at he; subst he; exact he0), hsz3, hE3⟩
      case measure => exact hl3'
end Go.Proofs.YtohphanbnhiodaaGreat

