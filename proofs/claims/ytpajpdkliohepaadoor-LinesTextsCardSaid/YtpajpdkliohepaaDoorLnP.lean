/- Quoted texts, plainly: what is written, what is read, and that the one undoes the other. -/
import Derived.ProofKit
namespace Go.Proofs.YtpajpdkliohepaaDoor

/-- A hexadecimal digit. -/
def hexN (n : Nat) : UInt8 := UInt8.ofNat (if n < 10 then 48 + n else 87 + n)
/-- What a byte of a text is written as. -/
def escL (c : UInt8) : List UInt8 :=
  if c.toNat = 34 ∨ c.toNat = 92 then [92, c] else if c.toNat = 10 then [92, 110] else if c.toNat = 9 then [92, 116] else if c.toNat < 32 ∨ 126 < c.toNat then [92, 120, hexN (c.toNat / 16), hexN (c.toNat % 16)] else [c]
def quoteL (s : List UInt8) : List UInt8 := 34 :: (s.flatMap escL ++ [34])
/-- A digit's number; 0 for what is none. -/
def hexV (c : UInt8) : Nat := if 48 ≤ c.toNat ∧ c.toNat ≤ 57 then c.toNat - 48 else if 97 ≤ c.toNat ∧ c.toNat ≤ 102 then c.toNat - 87 else 0
def isHex (c : UInt8) : Bool := decide (48 ≤ c.toNat ∧ c.toNat ≤ 57 ∨ 97 ≤ c.toNat ∧ c.toNat ≤ 102)
theorem hexV_lt (c : UInt8) : hexV c < 16 := by unfold hexV; split <;> (try split) <;> omega
theorem hexN_toNat {n : Nat} (h : n < 16) : (hexN n).toNat = if n < 10 then 48 + n else 87 + n := by
  unfold hexN
  rw [UInt8.toNat_ofNat']
  split <;> omega
theorem hexV_hexN {n : Nat} (h : n < 16) : hexV (hexN n) = n := by
  unfold hexV
  rw [hexN_toNat h]
  split <;> split <;> (try split) <;> omega
theorem isHex_hexN {n : Nat} (h : n < 16) : isHex (hexN n) = true := by
  unfold isHex
  rw [hexN_toNat h]
  split <;> simp <;> omega
/-- The byte that stands first, and how the rest begins then: read leniently. -/
def byteL : List UInt8 → UInt8 × List UInt8
  | [] => (0, [])
  | c :: r => if c.toNat ≠ 92 then (c, r) else match r with
    | [] => (0, [])
    | d :: r2 => if d.toNat = 110 then (10, r2) else if d.toNat = 116 then (9, r2) else if d.toNat = 120 then (UInt8.ofNat (16 * hexV (r2.headD 0) + hexV ((r2.drop 1).headD 0)), r2.drop 2) else (d, r2)
/-- The byte that stands first, and how many bytes it takes: read strictly; 0: it does not stand so. -/
def oneL : List UInt8 → UInt8 × Nat
  | [] => (0, 0)
  | c :: r => if c.toNat ≠ 92 then (c, 1) else match r with
    | [] => (0, 0)
    | d :: r2 => if d.toNat = 34 ∨ d.toNat = 92 then (d, 2) else if d.toNat = 110 then (10, 2) else if d.toNat = 116 then (9, 2) else if d.toNat = 120 then
        (match r2 with
        | a :: b :: _ => if isHex a = true ∧ isHex b = true then (UInt8.ofNat (16 * hexV a + hexV b), 4) else (0, 0)
        | _ => (0, 0)) else (0, 0)
theorem byteL_less {l : List UInt8} (h : l ≠ []) : (byteL l).2.length < l.length := by
  match l, h with
  | [c], _ =>
    simp only [byteL]
    repeat' split
    all_goals simp
  | c :: d :: r2, _ =>
    simp only [byteL]
    repeat' split
    all_goals simp
    all_goals omega
theorem u8_of {n : Nat} {c : UInt8} (h : n = c.toNat) : UInt8.ofNat n = c := by
  apply UInt8.toNat_inj.1
  rw [UInt8.toNat_ofNat', h]
  have := c.toNat_lt
  omega
theorem byteL_esc (c : UInt8) (X : List UInt8) : byteL (escL c ++ X) = (c, X) := by
  have hc := c.toNat_lt
  unfold escL
  by_cases h1 : c.toNat = 34 ∨ c.toNat = 92
  · rw [if_pos h1]
    simp only [List.cons_append, List.nil_append, byteL]
    rw [if_neg (show ¬ ((92 : UInt8).toNat ≠ 92) by decide), if_neg (by omega), if_neg (by omega), if_neg (by omega)]
  · rw [if_neg h1]
    by_cases h2 : c.toNat = 10
    · rw [if_pos h2]
      simp only [List.cons_append, List.nil_append, byteL]
      rw [if_neg (show ¬ ((92 : UInt8).toNat ≠ 92) by decide), if_pos (by decide), ← u8_of (n := 10) (c := c) h2.symm]
      rfl
    · rw [if_neg h2]
      by_cases h3 : c.toNat = 9
      · rw [if_pos h3]
        simp only [List.cons_append, List.nil_append, byteL]
        rw [if_neg (show ¬ ((92 : UInt8).toNat ≠ 92) by decide), if_neg (by decide), if_pos (by decide), ← u8_of (n := 9) (c := c) h3.symm]
        rfl
      · rw [if_neg h3]
        by_cases h4 : c.toNat < 32 ∨ 126 < c.toNat
        · rw [if_pos h4]
          simp only [List.cons_append, List.nil_append, byteL, List.headD_cons, List.drop_succ_cons, List.drop_zero]
          rw [if_neg (show ¬ ((92 : UInt8).toNat ≠ 92) by decide), if_neg (by decide), if_neg (by decide), if_pos (by decide), hexV_hexN (by omega), hexV_hexN (by omega), u8_of (c := c) (by omega)]
        · rw [if_neg h4]
          simp only [List.cons_append, List.nil_append, byteL]
          rw [if_pos (by omega)]
theorem oneL_esc (c : UInt8) (X : List UInt8) : oneL (escL c ++ X) = (c, (escL c).length) := by
  have hc := c.toNat_lt
  unfold escL
  by_cases h1 : c.toNat = 34 ∨ c.toNat = 92
  · rw [if_pos h1]
    simp only [List.cons_append, List.nil_append, oneL]
    rw [if_neg (show ¬ ((92 : UInt8).toNat ≠ 92) by decide), if_pos h1]
    rfl
  · rw [if_neg h1]
    by_cases h2 : c.toNat = 10
    · rw [if_pos h2]
      simp only [List.cons_append, List.nil_append, oneL]
      rw [if_neg (show ¬ ((92 : UInt8).toNat ≠ 92) by decide), if_neg (by decide), if_pos (by decide), ← u8_of (n := 10) (c := c) h2.symm]
      rfl
    · rw [if_neg h2]
      by_cases h3 : c.toNat = 9
      · rw [if_pos h3]
        simp only [List.cons_append, List.nil_append, oneL]
        rw [if_neg (show ¬ ((92 : UInt8).toNat ≠ 92) by decide), if_neg (by decide), if_neg (by decide), if_pos (by decide), ← u8_of (n := 9) (c := c) h3.symm]
        rfl
      · rw [if_neg h3]
        by_cases h4 : c.toNat < 32 ∨ 126 < c.toNat
        · rw [if_pos h4]
          simp only [List.cons_append, List.nil_append, oneL]
          rw [if_neg (show ¬ ((92 : UInt8).toNat ≠ 92) by decide), if_neg (by decide), if_neg (by decide), if_neg (by decide), if_pos (by decide), if_pos ⟨isHex_hexN (by omega), isHex_hexN (by omega)⟩, hexV_hexN (by omega), hexV_hexN (by omega), u8_of (c := c) (by omega)]
          rfl
        · rw [if_neg h4]
          simp only [List.cons_append, List.nil_append, oneL]
          rw [if_pos (by omega)]
          rfl
theorem esc_head (c : UInt8) (X r : List UInt8) : escL c ++ X ≠ 34 :: r := by
  intro h
  have hb := byteL_esc c X
  rw [h] at hb
  simp only [byteL] at hb
  rw [if_pos (by decide)] at hb
  have hc : c = 34 := by injection hb with h1 _; exact h1.symm
  subst hc
  have : escL 34 = [92, 34] := by decide
  rw [this] at h
  cases h
theorem esc_ne (c : UInt8) (X : List UInt8) : escL c ++ X ≠ [] := by
  intro h
  have hb := oneL_esc c X
  rw [h] at hb
  simp only [oneL] at hb
  injection hb with _ h2
  have : escL c = [] := List.eq_nil_of_length_eq_zero h2.symm
  unfold escL at this
  repeat' split at this
  all_goals cases this
theorem esc_drop (c : UInt8) (X : List UInt8) : (escL c ++ X).drop (escL c).length = X := List.drop_left' rfl
/-- What has been read of s1 (b) and what is left (rem) fit every way in which s1 is a quoted text. -/
def Fits (s1 b rem : List UInt8) : Prop := ∀ t r, s1 = t.flatMap escL ++ 34 :: r → ∃ t', t = b ++ t' ∧ rem = t'.flatMap escL ++ 34 :: r
theorem Fits.start (s1 : List UInt8) : Fits s1 [] s1 := fun t _ h => ⟨t, rfl, h⟩
theorem Fits.step {s1 b rem : List UInt8} (h : Fits s1 b rem) (hh : ∀ r, rem ≠ 34 :: r) : Fits s1 (b ++ [(byteL rem).1]) (byteL rem).2 := fun t r he => by
  obtain ⟨t', h1, h2⟩ := h t r he
  match t' with
  | [] => exact absurd h2 (hh r)
  | c :: t'' =>
    rw [List.flatMap_cons, List.append_assoc] at h2
    rw [h2, byteL_esc]
    exact ⟨t'', by rw [h1]; simp, rfl⟩
theorem Fits.one {s1 b rem : List UInt8} (h : Fits s1 b rem) (hh : ∀ r, rem ≠ 34 :: r) : Fits s1 (b ++ [(oneL rem).1]) (rem.drop (oneL rem).2) := fun t r he => by
  obtain ⟨t', h1, h2⟩ := h t r he
  match t' with
  | [] => exact absurd h2 (hh r)
  | c :: t'' =>
    rw [List.flatMap_cons, List.append_assoc] at h2
    rw [h2, oneL_esc, esc_drop]
    exact ⟨t'', by rw [h1]; simp, rfl⟩
theorem Fits.bad {s1 b rem : List UInt8} (h : Fits s1 b rem) (hh : ∀ r, rem ≠ 34 :: r) (h0 : (oneL rem).2 = 0) (t r : List UInt8) : s1 ≠ t.flatMap escL ++ 34 :: r := fun he => by
  obtain ⟨t', _, h2⟩ := h t r he
  match t' with
  | [] => exact absurd h2 (hh r)
  | c :: t'' =>
    rw [List.flatMap_cons, List.append_assoc] at h2
    rw [h2, oneL_esc] at h0
    have : escL c = [] := List.eq_nil_of_length_eq_zero h0
    unfold escL at this
    repeat' split at this
    all_goals cases this
theorem Fits.none {s1 b : List UInt8} (h : Fits s1 b []) (t r : List UInt8) : s1 ≠ t.flatMap escL ++ 34 :: r := fun he => by
  obtain ⟨t', _, h2⟩ := h t r he
  simp at h2
theorem Fits.done {s1 b r' : List UInt8} (h : Fits s1 b (34 :: r')) (t r : List UInt8) (he : s1 = t.flatMap escL ++ 34 :: r) : t = b ∧ r = r' := by
  obtain ⟨t', h1, h2⟩ := h t r he
  match t' with
  | [] =>
    rw [List.flatMap_nil, List.nil_append] at h2
    injection h2 with _ h2
    exact ⟨by rw [h1, List.append_nil], h2.symm⟩
  | c :: t'' =>
    rw [List.flatMap_cons, List.append_assoc] at h2
    exact absurd h2.symm (esc_head c _ r')
theorem quote_app (t r : List UInt8) : quoteL t ++ r = 34 :: (t.flatMap escL ++ 34 :: r) := by unfold quoteL; simp
/-- What a quoted text that stands first is answered as. -/
def UQ (s t : List UInt8) (k : Nat) (ok : Bool) : Prop := (ok = true ∧ k = (quoteL t).length ∧ ∃ r, s = quoteL t ++ r) ∨ (ok = false ∧ t = [] ∧ k = 0 ∧ ∀ t' r, s ≠ quoteL t' ++ r)
theorem flat_inj : ∀ (t t' r r' : List UInt8), t.flatMap escL ++ 34 :: r = t'.flatMap escL ++ 34 :: r' → t = t' ∧ r = r'
  | [], [], r, r', h => by simp at h; exact ⟨rfl, h⟩
  | [], c :: t', r, r', h => by
    rw [List.flatMap_cons, List.append_assoc] at h
    exact absurd h.symm (esc_head c _ r)
  | c :: t, [], r, r', h => by
    rw [List.flatMap_cons, List.append_assoc] at h
    exact absurd h (esc_head c _ r')
  | c :: t, c' :: t', r, r', h => by
    rw [List.flatMap_cons, List.append_assoc, List.flatMap_cons, List.append_assoc] at h
    have hb := byteL_esc c (t.flatMap escL ++ 34 :: r)
    rw [h, byteL_esc] at hb
    injection hb with h1 h2
    obtain ⟨h3, h4⟩ := flat_inj t t' r r' h2.symm
    exact ⟨by rw [h1, h3], h4⟩
theorem quote_inj {t t' r r' : List UInt8} (h : quoteL t ++ r = quoteL t' ++ r') : t = t' ∧ r = r' := by
  rw [quote_app, quote_app] at h
  injection h with _ h
  exact flat_inj t t' r r' h
theorem UQ.unique {s t t' : List UInt8} {k k' : Nat} {ok ok' : Bool} (h : UQ s t k ok) (h' : UQ s t' k' ok') : t = t' ∧ k = k' ∧ ok = ok' := by
  rcases h with ⟨rfl, rfl, r, hr⟩ | ⟨rfl, rfl, rfl, hn⟩ <;> rcases h' with ⟨rfl, rfl, r', hr'⟩ | ⟨rfl, rfl, rfl, hn'⟩
  · obtain ⟨rfl, _⟩ := quote_inj (hr.symm.trans hr')
    exact ⟨rfl, rfl, rfl⟩
  · exact absurd hr (hn' _ _)
  · exact absurd hr' (hn _ _)
  · exact ⟨rfl, rfl, rfl⟩
theorem UQ.quote (t r : List UInt8) : UQ (quoteL t ++ r) t (quoteL t).length true := .inl ⟨rfl, rfl, r, rfl⟩
theorem hexN_range {n : Nat} (h : n < 16) : 32 ≤ (hexN n).toNat ∧ (hexN n).toNat ≤ 126 := by
  rw [hexN_toNat h]
  split <;> omega
theorem esc_range {c x : UInt8} (h : x ∈ escL c) : 32 ≤ x.toNat ∧ x.toNat ≤ 126 := by
  have hc := c.toNat_lt
  have h92 : (92 : UInt8).toNat = 92 := rfl
  have h110 : (110 : UInt8).toNat = 110 := rfl
  have h116 : (116 : UInt8).toNat = 116 := rfl
  have h120 : (120 : UInt8).toNat = 120 := rfl
  have g1 := @hexN_range (c.toNat / 16) (by omega)
  have g2 := @hexN_range (c.toNat % 16) (by omega)
  unfold escL at h
  repeat' split at h
  all_goals simp only [List.mem_cons, List.not_mem_nil, or_false] at h
  · rcases h with rfl | rfl <;> omega
  · rcases h with rfl | rfl <;> omega
  · rcases h with rfl | rfl <;> omega
  · rcases h with rfl | rfl | rfl | rfl <;> omega
  · subst h; omega
theorem quote_range {s : List UInt8} {x : UInt8} (h : x ∈ quoteL s) : 32 ≤ x.toNat ∧ x.toNat ≤ 126 := by
  unfold quoteL at h
  rcases List.mem_cons.1 h with rfl | h
  · decide
  · rcases List.mem_append.1 h with h | h
    · obtain ⟨c, _, hx⟩ := List.mem_flatMap.1 h
      exact esc_range hx
    · simp at h
      subst h
      decide
theorem esc_len (c : UInt8) : (escL c).length ≤ 4 := by
  unfold escL
  by_cases h1 : c.toNat = 34 ∨ c.toNat = 92
  · rw [if_pos h1]; simp
  · rw [if_neg h1]
    by_cases h2 : c.toNat = 10
    · rw [if_pos h2]; simp
    · rw [if_neg h2]
      by_cases h3 : c.toNat = 9
      · rw [if_pos h3]; simp
      · rw [if_neg h3]
        by_cases h4 : c.toNat < 32 ∨ 126 < c.toNat
        · rw [if_pos h4]; simp
        · rw [if_neg h4]; simp
theorem flat_len : ∀ s : List UInt8, (s.flatMap escL).length ≤ 4 * s.length
  | [] => by simp
  | c :: s => by
    rw [List.flatMap_cons, List.length_append, List.length_cons]
    have := flat_len s
    have := esc_len c
    omega
theorem quote_len (s : List UInt8) : (quoteL s).length ≤ 4 * s.length + 2 := by
  unfold quoteL
  rw [List.length_cons, List.length_append]
  have := flat_len s
  rw [List.length_singleton]
  omega
end Go.Proofs.YtpajpdkliohepaaDoor
