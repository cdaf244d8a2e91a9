/- Numbers in eight digits, plainly; a log's number out of its name. -/
import Derived.Test.YtijnomopcpgikaaDoorMfK
import Derived.Lib.Atoi
namespace Go.Proofs.YtijnomopcpgikaaDoor

/-- The last k digits of u. -/
def padk : Nat → Nat → List UInt8
  | 0, _ => []
  | k + 1, u => padk k (u / 10) ++ [UInt8.ofNat (48 + u % 10)]
theorem padk_len : ∀ k u, (padk k u).length = k
  | 0, _ => rfl
  | k + 1, u => by unfold padk; rw [List.length_append, padk_len k]; rfl
theorem padk_zero : ∀ k, padk k 0 = Lib.repeatL [48] k
  | 0 => rfl
  | k + 1 => by
    unfold padk
    rw [Nat.zero_div, padk_zero k]
    have h := Lib.repeatL_add [48] k 1
    rw [Lib.repeatL_one] at h
    exact h.symm
theorem padk_dec : ∀ (k u : Nat), Lib.nDigits u ≤ k → padk k u = Lib.repeatL [48] (k - Lib.nDigits u) ++ Lib.decDigits u
  | 0, u, h => by have := Lib.nDigits_pos u; omega
  | k + 1, u, h => by
    unfold padk
    by_cases h10 : u < 10
    · rw [Lib.decDigits_one h10, Lib.nDigits_small h10, Nat.mod_eq_of_lt h10, show u / 10 = 0 by omega, padk_zero]
      rfl
    · rw [Lib.decDigits, dif_neg h10, Lib.nDigits_big h10]
      rw [Lib.nDigits_big h10] at h
      rw [padk_dec k (u / 10) (by omega), show k + 1 - (Lib.nDigits (u / 10) + 1) = k - Lib.nDigits (u / 10) by omega, List.append_assoc]
theorem dig8_pad {n : Nat} (h1 : 1 ≤ n) (h2 : n ≤ 99999999) : dig8 n = padk 8 n := by
  have h := dd8 h1 h2
  unfold dig8
  rw [Lib.decDigits_length] at h ⊢
  rw [padk_dec 8 n h]
theorem padk8 (n : Nat) : padk 8 n = [UInt8.ofNat (48 + n / 10 / 10 / 10 / 10 / 10 / 10 / 10 % 10), UInt8.ofNat (48 + n / 10 / 10 / 10 / 10 / 10 / 10 % 10), UInt8.ofNat (48 + n / 10 / 10 / 10 / 10 / 10 % 10), UInt8.ofNat (48 + n / 10 / 10 / 10 / 10 % 10), UInt8.ofNat (48 + n / 10 / 10 / 10 % 10), UInt8.ofNat (48 + n / 10 / 10 % 10), UInt8.ofNat (48 + n / 10 % 10), UInt8.ofNat (48 + n % 10)] := by
  simp [padk]
theorem digitVal_of {b : UInt8} {d : Nat} (h : Lib.digitVal b = some d) : d ≤ 9 ∧ b = UInt8.ofNat (48 + d) := by
  unfold Lib.digitVal at h
  split at h
  · rename_i hb
    injection h with h
    subst h
    refine ⟨by omega, ?_⟩
    rw [show 48 + (b.toNat - 48) = b.toNat by omega, UInt8.ofNat_toNat]
  · cases h
theorem digitVal_mk {d : Nat} (h : d ≤ 9) : Lib.digitVal (UInt8.ofNat (48 + d)) = some d := by
  have hn : (UInt8.ofNat (48 + d)).toNat = 48 + d := by rw [UInt8.toNat_ofNat']; omega
  unfold Lib.digitVal
  rw [hn, if_pos (by omega)]
  congr 1
  omega
theorem dec8_pad {n : Nat} (h : n ≤ 99999999) : Lib.decFrom 0 (padk 8 n) = some n := by
  rw [padk8]
  simp only [Lib.decFrom]
  rw [digitVal_mk (by omega)]
  simp only
  rw [digitVal_mk (by omega)]
  simp only
  rw [digitVal_mk (by omega)]
  simp only
  rw [digitVal_mk (by omega)]
  simp only
  rw [digitVal_mk (by omega)]
  simp only
  rw [digitVal_mk (by omega)]
  simp only
  rw [digitVal_mk (by omega)]
  simp only
  rw [digitVal_mk (by omega)]
  simp only
  congr 1
  omega
theorem dec8_of {l : List UInt8} {n : Nat} (hl : l.length = 8) (h : Lib.decFrom 0 l = some n) : n ≤ 99999999 ∧ padk 8 n = l := by
  match l, hl with
  | [b0, b1, b2, b3, b4, b5, b6, b7], _ =>
    simp only [Lib.decFrom] at h
    cases h0 : Lib.digitVal b0 with
    | none => simp [h0] at h
    | some d0 =>
    cases h1 : Lib.digitVal b1 with
    | none => simp [h0, h1] at h
    | some d1 =>
    cases h2 : Lib.digitVal b2 with
    | none => simp [h0, h1, h2] at h
    | some d2 =>
    cases h3 : Lib.digitVal b3 with
    | none => simp [h0, h1, h2, h3] at h
    | some d3 =>
    cases h4 : Lib.digitVal b4 with
    | none => simp [h0, h1, h2, h3, h4] at h
    | some d4 =>
    cases h5 : Lib.digitVal b5 with
    | none => simp [h0, h1, h2, h3, h4, h5] at h
    | some d5 =>
    cases h6 : Lib.digitVal b6 with
    | none => simp [h0, h1, h2, h3, h4, h5, h6] at h
    | some d6 =>
    cases h7 : Lib.digitVal b7 with
    | none => simp [h0, h1, h2, h3, h4, h5, h6, h7] at h
    | some d7 =>
    simp only [h0, h1, h2, h3, h4, h5, h6, h7, Option.some.injEq] at h
    obtain ⟨g0, rfl⟩ := digitVal_of h0
    obtain ⟨g1, rfl⟩ := digitVal_of h1
    obtain ⟨g2, rfl⟩ := digitVal_of h2
    obtain ⟨g3, rfl⟩ := digitVal_of h3
    obtain ⟨g4, rfl⟩ := digitVal_of h4
    obtain ⟨g5, rfl⟩ := digitVal_of h5
    obtain ⟨g6, rfl⟩ := digitVal_of h6
    obtain ⟨g7, rfl⟩ := digitVal_of h7
    clear h0 h1 h2 h3 h4 h5 h6 h7
    refine ⟨by omega, ?_⟩
    have e7 : n % 10 = d7 := by omega
    have f7 : n / 10 = (((((((0 * 10 + d0) * 10 + d1) * 10 + d2) * 10 + d3) * 10 + d4) * 10 + d5) * 10 + d6) := by omega
    have e6 : n / 10 % 10 = d6 := by omega
    have f6 : n / 10 / 10 = ((((((0 * 10 + d0) * 10 + d1) * 10 + d2) * 10 + d3) * 10 + d4) * 10 + d5) := by omega
    have e5 : n / 10 / 10 % 10 = d5 := by omega
    have f5 : n / 10 / 10 / 10 = (((((0 * 10 + d0) * 10 + d1) * 10 + d2) * 10 + d3) * 10 + d4) := by omega
    have e4 : n / 10 / 10 / 10 % 10 = d4 := by omega
    have f4 : n / 10 / 10 / 10 / 10 = ((((0 * 10 + d0) * 10 + d1) * 10 + d2) * 10 + d3) := by omega
    have e3 : n / 10 / 10 / 10 / 10 % 10 = d3 := by omega
    have f3 : n / 10 / 10 / 10 / 10 / 10 = (((0 * 10 + d0) * 10 + d1) * 10 + d2) := by omega
    have e2 : n / 10 / 10 / 10 / 10 / 10 % 10 = d2 := by omega
    have f2 : n / 10 / 10 / 10 / 10 / 10 / 10 = ((0 * 10 + d0) * 10 + d1) := by omega
    have e1 : n / 10 / 10 / 10 / 10 / 10 / 10 % 10 = d1 := by omega
    have e0 : n / 10 / 10 / 10 / 10 / 10 / 10 / 10 % 10 = d0 := by omega
    rw [padk8, e0, e1, e2, e3, e4, e5, e6, e7]
/-- A log's number out of its name; 0: it is none. -/
def logV (s : List UInt8) : Nat := if s.length = 12 ∧ s.take 4 = [108, 111, 103, 45] then (Lib.decFrom 0 (s.drop 4)).getD 0 else 0
theorem logV_of {n : Nat} (h1 : 1 ≤ n) (h2 : n ≤ 99999999) : logV ([108, 111, 103, 45] ++ dig8 n) = n := by
  unfold logV
  rw [dig8_pad h1 h2, if_pos ⟨by rw [List.length_append, padk_len]; rfl, by simp⟩]
  rw [List.drop_append_of_le_length (by simp), List.drop_of_length_le (by simp), List.nil_append, dec8_pad h2]
  rfl
theorem logV_is {s : List UInt8} (h : logV s ≠ 0) : 1 ≤ logV s ∧ logV s ≤ 99999999 ∧ s = [108, 111, 103, 45] ++ dig8 (logV s) := by
  unfold logV at h ⊢
  by_cases hc : s.length = 12 ∧ s.take 4 = [108, 111, 103, 45]
  · rw [if_pos hc] at h ⊢
    cases hd : Lib.decFrom 0 (s.drop 4) with
    | none => rw [hd] at h; exact absurd rfl h
    | some n =>
      rw [hd] at h
      have hn : (some n).getD 0 = n := rfl
      rw [hn] at h ⊢
      obtain ⟨h1, h2⟩ := dec8_of (by rw [List.length_drop]; omega) hd
      refine ⟨by omega, h1, ?_⟩
      rw [dig8_pad (by omega) h1, h2, ← hc.2, List.take_append_drop]
  · rw [if_neg hc] at h
    exact absurd rfl h
end Go.Proofs.YtijnomopcpgikaaDoor
