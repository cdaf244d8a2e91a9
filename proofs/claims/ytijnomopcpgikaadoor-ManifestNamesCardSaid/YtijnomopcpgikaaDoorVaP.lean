/- Numbers in bytes, plainly: seven bits a byte, the lowest first. -/
import Derived.Test.YtijnomopcpgikaaDoorLib
namespace Go.Proofs.YtijnomopcpgikaaDoor

/-- A number's bytes. -/
def vb (n : Nat) : List UInt8 := if _h : n < 128 then [UInt8.ofNat n] else UInt8.ofNat (n % 128 + 128) :: vb (n / 128)
termination_by n
decreasing_by omega
theorem vb_lt {n : Nat} (h : n < 128) : vb n = [UInt8.ofNat n] := by rw [vb, dif_pos h]
theorem vb_ge {n : Nat} (h : ¬ n < 128) : vb n = UInt8.ofNat (n % 128 + 128) :: vb (n / 128) := by rw [vb, dif_neg h]
theorem vb_len : ∀ (k n : Nat), n < 128 ^ k → (vb n).length ≤ max k 1
  | 0, n, h => by
    have : n = 0 := by simpa using h
    subst this
    rw [vb_lt (by omega)]
    simp
  | k + 1, n, h => by
    by_cases hn : n < 128
    · rw [vb_lt hn]; simp
    · rw [vb_ge hn, List.length_cons]
      have ih := vb_len k (n / 128) (by rw [Nat.pow_succ] at h; omega)
      have : 1 ≤ k := by
        rcases Nat.eq_zero_or_pos k with rfl | hk
        · simp at h; omega
        · exact hk
      omega
theorem vb_len10 {n : Nat} (h : n < 18446744073709551616) : (vb n).length ≤ 10 := vb_len 10 n (by omega)
theorem vb_pos (n : Nat) : 1 ≤ (vb n).length := by
  by_cases hn : n < 128
  · rw [vb_lt hn]; simp
  · rw [vb_ge hn]; simp
/-- The number that bytes begin with, and what is left; or the error. i bytes have been read. -/
def getV (i : Nat) : List UInt8 → Except Nat (Nat × List UInt8)
  | [] => .error 6
  | x :: l => if 10 ≤ i then .error 6 else if (i = 9 ∧ 1 < x.toNat) ∨ (0 < i ∧ x.toNat = 0) then .error 20 else
    if x.toNat < 128 then .ok (x.toNat, l) else match getV (i + 1) l with
      | .ok (n, r) => .ok (x.toNat - 128 + 128 * n, r)
      | .error e => .error e
theorem getV_lt : ∀ (l : List UInt8) (i n : Nat) (r : List UInt8), getV i l = .ok (n, r) → i ≤ 9 ∧ n < 2 * 128 ^ (9 - i) ∧ ∃ p, l = p ++ r ∧ p ≠ []
  | [], i, n, r, h => by simp [getV] at h
  | x :: l, i, n, r, h => by
    unfold getV at h
    by_cases h10 : 10 ≤ i
    · rw [if_pos h10] at h; cases h
    rw [if_neg h10] at h
    by_cases hb : (i = 9 ∧ 1 < x.toNat) ∨ (0 < i ∧ x.toNat = 0)
    · rw [if_pos hb] at h; cases h
    rw [if_neg hb] at h
    have hx := x.toNat_lt
    by_cases h128 : x.toNat < 128
    · rw [if_pos h128] at h
      injection h with h
      injection h with h1 h2
      subst h1 h2
      refine ⟨by omega, ?_, [x], rfl, by simp⟩
      by_cases h9 : i = 9
      · subst h9
        simp only [Nat.sub_self, Nat.pow_zero]
        omega
      · have : 128 ^ 1 ≤ 128 ^ (9 - i) := Nat.pow_le_pow_right (by omega) (by omega)
        omega
    · rw [if_neg h128] at h
      split at h
      · rename_i m r' hg
        injection h with h
        injection h with h1 h2
        subst h1 h2
        obtain ⟨h3, h4, p, hp, _⟩ := getV_lt l (i + 1) m r' hg
        refine ⟨by omega, ?_, x :: p, by rw [hp]; rfl, by simp⟩
        have : 9 - i = (9 - (i + 1)) + 1 := by omega
        rw [this, Nat.pow_succ]
        omega
      · cases h
theorem getV_lt64 {l : List UInt8} {n : Nat} {r : List UInt8} (h : getV 0 l = .ok (n, r)) : n < 18446744073709551616 := by
  have := (getV_lt l 0 n r h).2.1
  omega
/-- What was put is got. -/
theorem getV_vb : ∀ (k i n : Nat) (r : List UInt8), k + i = 9 → n < 2 * 128 ^ k → (0 < i → 0 < n) → getV i (vb n ++ r) = .ok (n, r)
  | k, i, n, r, hk, hn, h0 => by
    by_cases h128 : n < 128
    · rw [vb_lt h128]
      have hx : (UInt8.ofNat n).toNat = n := by rw [UInt8.toNat_ofNat']; omega
      show getV i (UInt8.ofNat n :: r) = _
      unfold getV
      rw [if_neg (by omega), hx, if_neg, if_pos h128]
      rintro (⟨rfl, h1⟩ | ⟨h1, h2⟩)
      · obtain rfl : k = 0 := by omega
        simp at hn
        omega
      · have := h0 h1; omega
    · rw [vb_ge h128]
      have hx : (UInt8.ofNat (n % 128 + 128)).toNat = n % 128 + 128 := by rw [UInt8.toNat_ofNat']; omega
      show getV i (UInt8.ofNat (n % 128 + 128) :: (vb (n / 128) ++ r)) = _
      have hk0 : 1 ≤ k := by
        rcases Nat.eq_zero_or_pos k with rfl | h
        · simp at hn; omega
        · exact h
      obtain ⟨k, rfl⟩ : ∃ j, k = j + 1 := ⟨k - 1, by omega⟩
      have ih := getV_vb k (i + 1) (n / 128) r (by omega) (by rw [Nat.pow_succ] at hn; omega) (fun _ => by omega)
      unfold getV
      rw [if_neg (by omega), hx, if_neg (by omega), if_neg (by omega), ih]
      simp only
      rw [show n % 128 + 128 - 128 + 128 * (n / 128) = n by omega]
theorem getV_put {n : Nat} (h : n < 18446744073709551616) (r : List UInt8) : getV 0 (vb n ++ r) = .ok (n, r) := getV_vb 9 0 n r rfl (by omega) (by omega)
/-- Whole numbers, zigzag. -/
def zig (n : Int) : Nat := if 0 ≤ n then 2 * n.toNat else 2 * (-1 - n).toNat + 1
def unzig (u : Nat) : Int := if u % 2 = 0 then ((u / 2 : Nat) : Int) else -1 - ((u / 2 : Nat) : Int)
theorem unzig_zig (n : Int) : unzig (zig n) = n := by
  unfold unzig zig
  split <;> split <;> omega
theorem zig_lt {n : Int} (h1 : -9223372036854775808 ≤ n) (h2 : n ≤ 9223372036854775807) : zig n < 18446744073709551616 := by
  unfold zig
  split <;> omega
theorem unzig_ok {u : Nat} (h : u < 18446744073709551616) : -9223372036854775808 ≤ unzig u ∧ unzig u ≤ 9223372036854775807 := by
  unfold unzig
  split <;> omega
def vall (l : List Int) : List UInt8 := l.flatMap fun n => vb (zig n)
/-- So many whole numbers, and what is left. -/
def getAll : Nat → List UInt8 → Except Nat (List Int × List UInt8)
  | 0, l => .ok ([], l)
  | k + 1, l => match getV 0 l with
    | .error e => .error e
    | .ok (u, r) => match getAll k r with
      | .error e => .error e
      | .ok (ns, r') => .ok (unzig u :: ns, r')
theorem getAll_put : ∀ (ns : List Int) (r : List UInt8), (∀ n ∈ ns, -9223372036854775808 ≤ n ∧ n ≤ 9223372036854775807) → getAll ns.length (vall ns ++ r) = .ok (ns, r)
  | [], r, _ => rfl
  | n :: ns, r, h => by
    have hn := h n (List.mem_cons_self ..)
    have ih := getAll_put ns r fun m hm => h m (List.mem_cons_of_mem _ hm)
    show getAll (ns.length + 1) ((vb (zig n) ++ vall ns) ++ r) = _
    unfold getAll
    have e := getV_put (zig_lt hn.1 hn.2) (vall ns ++ r)
    rw [List.append_assoc, e]
    simp only [ih, unzig_zig]
theorem getAll_len : ∀ (k : Nat) (l : List UInt8) (ns : List Int) (r : List UInt8), getAll k l = .ok (ns, r) → ns.length = k ∧ (∀ n ∈ ns, -9223372036854775808 ≤ n ∧ n ≤ 9223372036854775807) ∧ ∃ p, l = p ++ r
  | 0, l, ns, r, h => by
    unfold getAll at h
    injection h with h
    injection h with h1 h2
    subst h1 h2
    exact ⟨rfl, nofun, [], rfl⟩
  | k + 1, l, ns, r, h => by
    unfold getAll at h
    split at h
    · cases h
    · rename_i u r1 hu
      split at h
      · cases h
      · rename_i ns1 r2 hr
        injection h with h
        injection h with h1 h2
        subst h1 h2
        obtain ⟨h3, h4, p2, h5⟩ := getAll_len k r1 ns1 r2 hr
        obtain ⟨_, _, p1, h6, _⟩ := getV_lt l 0 u r1 hu
        refine ⟨by rw [List.length_cons, h3], fun n hn => ?_, p1 ++ p2, by rw [h6, h5, List.append_assoc]⟩
        rcases List.mem_cons.1 hn with rfl | hn
        · exact unzig_ok (getV_lt64 hu)
        · exact h4 n hn
end Go.Proofs.YtijnomopcpgikaaDoor
