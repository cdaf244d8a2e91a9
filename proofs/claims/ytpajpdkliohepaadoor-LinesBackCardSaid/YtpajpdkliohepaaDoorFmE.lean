/- Numbers at the head of a line, plainly. -/
import Derived.Test.YtpajpdkliohepaaDoorFmD
namespace Go.Proofs.YtpajpdkliohepaaDoor
open Go.RowKit

theorem isDig_of {k : Nat} (h : k < 10) : isDig (UInt8.ofNat (48 + k)) = true := by
  unfold isDig
  rw [UInt8.toNat_ofNat', Nat.mod_eq_of_lt (by omega)]
  exact decide_eq_true (by omega)
theorem dec_dig (u : Nat) : ∀ c ∈ Lib.decDigits u, isDig c = true := by
  induction u using Nat.strongRecOn with
  | ind u ih =>
    intro c hc
    by_cases h : u < 10
    · rw [Lib.decDigits, dif_pos h] at hc
      obtain rfl : c = UInt8.ofNat (48 + u) := by simpa using hc
      exact isDig_of h
    · rw [Lib.decDigits, dif_neg h] at hc
      rcases List.mem_append.1 hc with hc | hc
      · exact ih (u / 10) (by omega) c hc
      · obtain rfl : c = UInt8.ofNat (48 + u % 10) := by simpa using hc
        exact isDig_of (by omega)
theorem digV_dec (u : Nat) : digV (Lib.decDigits u) = u := by
  induction u using Nat.strongRecOn with
  | ind u ih =>
    by_cases h : u < 10
    · rw [Lib.decDigits, dif_pos h]
      have : digV [UInt8.ofNat (48 + u)] = (UInt8.ofNat (48 + u)).toNat - 48 := by simp [digV]
      rw [this, UInt8.toNat_ofNat', Nat.mod_eq_of_lt (by omega)]
      omega
    · rw [Lib.decDigits, dif_neg h, digV_snoc, ih (u / 10) (by omega), UInt8.toNat_ofNat', Nat.mod_eq_of_lt (by omega)]
      omega
theorem dec_ne (u : Nat) : Lib.decDigits u ≠ [] := by
  rw [Lib.decDigits]
  split <;> simp
theorem dig_run {D rest : List UInt8} {i b : Nat} (hD : ∀ c ∈ D, isDig c = true) (hr : rest = [] ∨ ∃ t, rest = 32 :: t) (ht : ∀ c ∈ (D ++ rest).take i, isDig c = true) (hi : i ≤ (D ++ rest).length) (hs : ∀ d, (D ++ rest)[i]? = some d → i < b → isDig d = false) (hb : D.length ≤ b) : i = D.length := by
  rcases Nat.lt_trichotomy i D.length with h | h | h
  · have h1 : (D ++ rest)[i]? = some D[i] := by rw [List.getElem?_append_left h, List.getElem?_eq_getElem h]
    have := hs _ h1 (by omega)
    rw [hD _ (List.getElem_mem h)] at this
    cases this
  · exact h
  · rcases hr with rfl | ⟨t, rfl⟩
    · rw [List.append_nil] at hi
      omega
    · have h1 : ((D ++ 32 :: t).take i)[D.length]? = some 32 := by
        rw [List.getElem?_take, if_pos h, List.getElem?_append_right (Nat.le_refl _)]
        simp
      exact absurd (ht _ (List.mem_of_getElem? h1)) (by decide)
/-- What number answers where a number's own text stands first. -/
theorem num_itoa {at_ n : Int} {a0 i : Nat} {rest s : List UInt8} (h0 : -9223372036854775808 ≤ at_) (h1 : at_ ≤ 9223372036854775807) (hs : s = Lib.itoa at_ ++ rest) (hr : rest = [] ∨ ∃ t, rest = 32 :: t) (hi : a0 + i ≤ s.length)
    (hc : a0 = 1 ∧ s.head? = some 45 ∧ n = wrap64 (-(wrap64 (digV ((s.drop a0).take i)))) ∨ a0 = 0 ∧ s.head? ≠ some 45 ∧ n = wrap64 (digV ((s.drop a0).take i))) (hd : ∀ c ∈ (s.drop a0).take i, isDig c = true) (hst : ∀ d, s[a0 + i]? = some d → a0 + i < 20 → isDig d = false) :
    n = at_ ∧ a0 + i = (Lib.itoa at_).length := by
  by_cases hn : at_ < 0
  · have hit : Lib.itoa at_ = 45 :: Lib.decDigits at_.natAbs := by unfold Lib.itoa; rw [if_pos hn]
    rw [hit] at hs ⊢
    have hl : (Lib.decDigits at_.natAbs).length ≤ 19 := by rw [Lib.decDigits_length]; exact nDigits_le 18 _ (by omega)
    rcases hc with ⟨rfl, _, hn2⟩ | ⟨_, hh, _⟩
    · have hdr : s.drop 1 = Lib.decDigits at_.natAbs ++ rest := by rw [hs]; rfl
      rw [hdr] at hn2 hd
      have hii : i = (Lib.decDigits at_.natAbs).length := dig_run (b := 19) (dec_dig _) hr hd (by rw [hs] at hi; simp at hi ⊢; omega) (fun d h hlt => hst d (by rw [hs, List.cons_append, Nat.add_comm, List.getElem?_cons_succ]; exact h) (by omega)) hl
      subst hii
      rw [List.take_left' rfl, digV_dec] at hn2
      refine ⟨?_, by rw [List.length_cons]; omega⟩
      rw [hn2]
      unfold wrap64
      omega
    · rw [hs] at hh
      exact absurd rfl hh
  · have hit : Lib.itoa at_ = Lib.decDigits at_.toNat := by unfold Lib.itoa; rw [if_neg hn]
    rw [hit] at hs ⊢
    have hl : (Lib.decDigits at_.toNat).length ≤ 19 := by rw [Lib.decDigits_length]; exact nDigits_le 18 _ (by omega)
    rcases hc with ⟨_, hh, _⟩ | ⟨rfl, _, hn2⟩
    · exfalso
      cases hD : Lib.decDigits at_.toNat with
      | nil => exact dec_ne _ hD
      | cons c r =>
        rw [hs, hD] at hh
        have hc45 : c = 45 := by simpa using hh
        have := dec_dig at_.toNat c (by rw [hD]; simp)
        rw [hc45] at this
        exact absurd this (by decide)
    · rw [List.drop_zero] at hn2 hd
      rw [Nat.zero_add] at hi hst ⊢
      rw [hs] at hn2 hd hi hst
      have hii : i = (Lib.decDigits at_.toNat).length := dig_run (b := 19) (dec_dig _) hr hd hi (fun d h hlt => hst d h (by omega)) hl
      subst hii
      rw [List.take_left' rfl, digV_dec] at hn2
      refine ⟨?_, rfl⟩
      rw [hn2]
      unfold wrap64
      omega
end Go.Proofs.YtpajpdkliohepaaDoor
