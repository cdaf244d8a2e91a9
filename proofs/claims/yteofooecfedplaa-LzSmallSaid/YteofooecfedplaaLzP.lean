/- loggia/lz: what is packed, as a plain function. -/
import Derived.Test.YteofooecfedplaaLib
namespace Go.Proofs.Yteofooecfedplaa

/-- How many bytes are alike from i and from k on, n of them seen, at most f more. -/
def alk (l : List UInt8) (i k : Nat) : Nat → Nat → Nat
  | 0, n => n
  | f + 1, n => if h : k + n < l.length ∧ i + n < l.length then if l[i + n] = l[k + n] then alk l i k f (n + 1) else n else n
theorem alk_hit {l : List UInt8} {i k f n : Nat} (hik : i < k) (h : k + n < l.length) (he : l[i + n]'(by omega) = l[k + n]) : alk l i k (f + 1) n = alk l i k f (n + 1) := by
  show (if h : k + n < l.length ∧ i + n < l.length then if l[i + n] = l[k + n] then alk l i k f (n + 1) else n else n) = _
  rw [dif_pos ⟨h, by omega⟩, if_pos he]
theorem alk_miss {l : List UInt8} {i k f n : Nat} (hik : i < k) (h : k + n < l.length) (he : l[i + n]'(by omega) ≠ l[k + n]) : alk l i k (f + 1) n = n := by
  show (if h : k + n < l.length ∧ i + n < l.length then if l[i + n] = l[k + n] then alk l i k f (n + 1) else n else n) = _
  rw [dif_pos ⟨h, by omega⟩, if_neg he]
theorem alk_end {l : List UInt8} {i k f n : Nat} (h : ¬ k + n < l.length) : alk l i k f n = n := by
  cases f with
  | zero => rfl
  | succ f =>
    show (if h : k + n < l.length ∧ i + n < l.length then if l[i + n] = l[k + n] then alk l i k f (n + 1) else n else n) = _
    rw [dif_neg (by omega)]

/-- bytes that stand for themselves: runs of at most 128 -/
def runsF : Nat → List UInt8 → List UInt8
  | 0, _ => []
  | f + 1, x => if x = [] then [] else UInt8.ofNat (min 128 x.length - 1) :: (x.take 128 ++ runsF f (x.drop 128))
theorem runsF_fuel : ∀ (f g : Nat) (x : List UInt8), x.length ≤ f → x.length ≤ g → runsF f x = runsF g x
  | 0, 0, _, _, _ => rfl
  | 0, g + 1, x, h, _ => by
    have : x = [] := List.eq_nil_of_length_eq_zero (by omega)
    subst this
    rfl
  | f + 1, 0, x, _, h => by
    have : x = [] := List.eq_nil_of_length_eq_zero (by omega)
    subst this
    rfl
  | f + 1, g + 1, x, h1, h2 => by
    unfold runsF
    by_cases hx : x = []
    · rw [if_pos hx, if_pos hx]
    · have hl : 0 < x.length := List.length_pos_iff.2 hx
      rw [if_neg hx, if_neg hx, runsF_fuel f g (x.drop 128) (by simp; omega) (by simp; omega)]
def runs (x : List UInt8) : List UInt8 := runsF x.length x
theorem runs_nil : runs [] = [] := rfl
theorem runs_cons {x : List UInt8} (h : x ≠ []) : runs x = UInt8.ofNat (min 128 x.length - 1) :: (x.take 128 ++ runs (x.drop 128)) := by
  have hl : 0 < x.length := List.length_pos_iff.2 h
  unfold runs
  obtain ⟨n, hn⟩ : ∃ n, x.length = n + 1 := ⟨x.length - 1, by omega⟩
  rw [hn]
  show (if x = [] then [] else UInt8.ofNat (min 128 x.length - 1) :: (x.take 128 ++ runsF n (x.drop 128))) = _
  rw [if_neg h, hn, runsF_fuel n (x.drop 128).length (x.drop 128) (by simp; omega) (Nat.le_refl _)]
/-- the bytes from a to b -/
def seg (l : List UInt8) (a b : Nat) : List UInt8 := (l.drop a).take (b - a)
theorem seg_length {l : List UInt8} {a b : Nat} (hb : b ≤ l.length) : (seg l a b).length = b - a := by
  unfold seg
  rw [List.length_take, List.length_drop]
  omega
theorem seg_take {l : List UInt8} {a b k : Nat} (hk : a + k ≤ b) : (seg l a b).take k = seg l a (a + k) := by
  unfold seg
  rw [List.take_take]
  congr 1
  omega
theorem seg_drop {l : List UInt8} {a b k : Nat} : (seg l a b).drop k = seg l (a + k) b := by
  unfold seg
  rw [List.drop_take, List.drop_drop]
  congr 1
  omega
theorem runs_seg {l : List UInt8} {a b k : Nat} (hab : a < b) (hb : b ≤ l.length) (hk : k = min 128 (b - a)) :
    runs (seg l a b) = UInt8.ofNat (k - 1) :: (seg l a (a + k) ++ runs (seg l (a + k) b)) := by
  have hl := seg_length (a := a) hb
  rw [runs_cons (fun h => by rw [h] at hl; simp at hl; omega), hl, ← hk]
  congr 2
  · by_cases h : b - a ≤ 128
    · rw [List.take_of_length_le (by omega), hk, Nat.min_eq_right h]
      congr 1
      omega
    · rw [hk, Nat.min_eq_left (by omega), seg_take (by omega)]
  · by_cases h : b - a ≤ 128
    · rw [List.drop_eq_nil_of_le (by omega), hk, Nat.min_eq_right h]
      congr 1
      have := seg_length (a := a + (b - a)) hb
      exact (List.eq_nil_of_length_eq_zero (by omega)).symm
    · rw [hk, Nat.min_eq_left (by omega), seg_drop]
theorem runsF_le : ∀ (f : Nat) (x : List UInt8), (runsF f x).length ≤ 2 * x.length
  | 0, x => by simp [runsF]
  | f + 1, x => by
    unfold runsF
    split
    · simp
    · rename_i h
      have hl : 0 < x.length := List.length_pos_iff.2 h
      have := runsF_le f (x.drop 128)
      simp only [List.length_cons, List.length_append, List.length_take, List.length_drop] at this ⊢
      omega
theorem runs_le (x : List UInt8) : (runs x).length ≤ 2 * x.length := runsF_le _ _
/-- how many bytes there are, in four bytes -/
def head4 (n : Nat) : List UInt8 := [UInt8.ofNat (n / 16777216), UInt8.ofNat (n / 65536), UInt8.ofNat (n / 256), UInt8.ofNat n]
end Go.Proofs.Yteofooecfedplaa
