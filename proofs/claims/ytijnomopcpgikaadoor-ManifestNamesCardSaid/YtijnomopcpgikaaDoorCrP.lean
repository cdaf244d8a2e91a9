/- The sum of bytes (CRC-32, reflected), plainly. -/
import Derived.Test.YtijnomopcpgikaaDoorLib
namespace Go.Proofs.YtijnomopcpgikaaDoor

def cstep (y : Nat) : Nat := if y % 2 = 1 then (y / 2) ^^^ 3988292384 else y / 2
def c8 (y : Nat) : Nat := cstep (cstep (cstep (cstep (cstep (cstep (cstep (cstep y)))))))
/-- One byte more. -/
def con (x : Nat) (c : UInt8) : Nat := c8 (x ^^^ c.toNat)
def cnot (x : Nat) : Nat := 4294967295 - x
def cnext (s : Nat) (l : List UInt8) : Nat := cnot (l.foldl con (cnot s))
theorem half_xor (a b : Nat) : (a ^^^ b) / 2 = (a / 2) ^^^ (b / 2) := by
  have := Nat.shiftRight_xor_distrib (a := a) (b := b) (i := 1)
  simpa [Nat.shiftRight_eq_div_pow] using this
theorem odd_xor (a b : Nat) : (a ^^^ b) % 2 = (a % 2) ^^^ (b % 2) := by
  have := Nat.xor_mod_two_pow (a := a) (b := b) (n := 1)
  simpa using this
theorem cstep_xor (a b : Nat) : cstep (a ^^^ b) = cstep a ^^^ cstep b := by
  unfold cstep
  rw [half_xor, odd_xor]
  rcases Nat.mod_two_eq_zero_or_one a with ha | ha <;> rcases Nat.mod_two_eq_zero_or_one b with hb | hb <;> rw [ha, hb]
  · rfl
  · show (a / 2 ^^^ b / 2) ^^^ 3988292384 = (a / 2) ^^^ (b / 2 ^^^ 3988292384)
    rw [Nat.xor_assoc]
  · show (a / 2 ^^^ b / 2) ^^^ 3988292384 = (a / 2 ^^^ 3988292384) ^^^ (b / 2)
    rw [Nat.xor_assoc, Nat.xor_assoc, Nat.xor_comm (b / 2)]
  · show (a / 2 ^^^ b / 2) = (a / 2 ^^^ 3988292384) ^^^ (b / 2 ^^^ 3988292384)
    rw [Nat.xor_assoc, ← Nat.xor_assoc 3988292384, Nat.xor_comm 3988292384 (b / 2), Nat.xor_assoc (b / 2), Nat.xor_self, Nat.xor_zero]
theorem c8_xor (a b : Nat) : c8 (a ^^^ b) = c8 a ^^^ c8 b := by
  unfold c8
  simp only [cstep_xor]
theorem cstep_two (z : Nat) : cstep (z * 2) = z := by
  unfold cstep
  rw [if_neg (by omega)]
  omega
theorem c8_high (z : Nat) : c8 (z * 256) = z := by
  unfold c8
  rw [show z * 256 = z * 2 * 2 * 2 * 2 * 2 * 2 * 2 * 2 by omega]
  simp only [cstep_two]
theorem split_low (y : Nat) : y = (y % 256) ^^^ (y / 256 * 256) := by
  have h : y / 256 * 256 ||| y % 256 = y / 256 * 256 + y % 256 := by
    have := Nat.shiftLeft_add_eq_or_of_lt (b := y % 256) (i := 8) (Nat.mod_lt _ (by decide)) (y / 256)
    rw [Nat.shiftLeft_eq] at this
    exact this.symm
  apply Nat.eq_of_testBit_eq
  intro i
  rw [Nat.testBit_xor]
  have h1 : (y % 256).testBit i = (decide (i < 8) && y.testBit i) := Nat.testBit_mod_two_pow y 8 i
  have h2 : (y / 256 * 256).testBit i = (decide (8 ≤ i) && y.testBit i) := by
    have e : y / 256 * 256 = (y >>> 8) <<< 8 := by rw [Nat.shiftRight_eq_div_pow, Nat.shiftLeft_eq]
    rw [e, Nat.testBit_shiftLeft, Nat.testBit_shiftRight]
    by_cases h8 : 8 ≤ i
    · rw [show 8 + (i - 8) = i by omega]
    · simp [h8]
  rw [h1, h2]
  by_cases h8 : i < 8
  · simp [h8, show ¬ 8 ≤ i by omega]
  · simp [h8, show 8 ≤ i by omega]
/-- By the table. -/
theorem con_table (x : Nat) (c : UInt8) : con x c = c8 ((x ^^^ c.toNat) % 256) ^^^ (x / 256) := by
  unfold con
  have hc : c.toNat / 256 = 0 := by have := c.toNat_lt; omega
  have h := Nat.shiftRight_xor_distrib (a := x) (b := c.toNat) (i := 8)
  rw [Nat.shiftRight_eq_div_pow, Nat.shiftRight_eq_div_pow, Nat.shiftRight_eq_div_pow] at h
  have h2 : (x ^^^ c.toNat) / 256 = x / 256 := by
    have : (2 : Nat) ^ 8 = 256 := rfl
    rw [this, hc, Nat.xor_zero] at h
    exact h
  conv => lhs; rw [split_low (x ^^^ c.toNat)]
  rw [c8_xor, c8_high, h2]
theorem cstep_lt {y : Nat} (h : y < 4294967296) : cstep y < 4294967296 := by
  unfold cstep
  split
  · exact Nat.xor_lt_two_pow (n := 32) (by omega) (by omega)
  · omega
theorem c8_lt {y : Nat} (h : y < 4294967296) : c8 y < 4294967296 := by
  unfold c8
  exact cstep_lt (cstep_lt (cstep_lt (cstep_lt (cstep_lt (cstep_lt (cstep_lt (cstep_lt h)))))))
theorem con_lt {x : Nat} (c : UInt8) (h : x < 4294967296) : con x c < 4294967296 := by
  unfold con
  have := c.toNat_lt
  exact c8_lt (Nat.xor_lt_two_pow (n := 32) (by omega) (by omega))
theorem fold_lt : ∀ (l : List UInt8) {x : Nat}, x < 4294967296 → l.foldl con x < 4294967296
  | [], _, h => h
  | c :: l, _, h => fold_lt l (con_lt c h)
theorem cnext_lt (s : Nat) (l : List UInt8) : cnext s l < 4294967296 := by
  unfold cnext cnot
  omega
theorem cstep_inj {a b : Nat} (ha : a < 4294967296) (hb : b < 4294967296) (h : cstep a = cstep b) : a = b := by
  have top : ∀ z, z < 2147483648 → 2147483648 ≤ z ^^^ 3988292384 := fun z hz => by
    apply Nat.le_of_not_lt
    intro hlt
    have h1 : (z ^^^ 3988292384).testBit 31 = false := Nat.testBit_lt_two_pow hlt
    rw [Nat.testBit_xor, Nat.testBit_lt_two_pow (show z < 2 ^ 31 from hz)] at h1
    revert h1
    decide
  unfold cstep at h
  rcases Nat.mod_two_eq_zero_or_one a with pa | pa <;> rcases Nat.mod_two_eq_zero_or_one b with pb | pb <;> simp only [pa, pb] at h
  · simp at h; omega
  · simp at h; have := top (b / 2) (by omega); omega
  · simp at h; have := top (a / 2) (by omega); omega
  · simp at h
    have h2 := congrArg (· ^^^ 3988292384) h
    simp [Nat.xor_assoc] at h2
    omega
theorem c8_inj {a b : Nat} (ha : a < 4294967296) (hb : b < 4294967296) (h : c8 a = c8 b) : a = b := by
  unfold c8 at h
  have q := @cstep_lt
  refine cstep_inj ha hb (cstep_inj (q ha) (q hb) (cstep_inj (q (q ha)) (q (q hb)) (cstep_inj (q (q (q ha))) (q (q (q hb))) (cstep_inj (q (q (q (q ha)))) (q (q (q (q hb)))) (cstep_inj (q (q (q (q (q ha))))) (q (q (q (q (q hb))))) (cstep_inj (q (q (q (q (q (q ha)))))) (q (q (q (q (q (q hb)))))) (cstep_inj (q (q (q (q (q (q (q ha))))))) (q (q (q (q (q (q (q hb))))))) h)))))))
theorem con_inj_left {a b : Nat} (c : UInt8) (ha : a < 4294967296) (hb : b < 4294967296) (h : con a c = con b c) : a = b := by
  have := c.toNat_lt
  have h1 := c8_inj (Nat.xor_lt_two_pow (n := 32) (by omega) (by omega)) (Nat.xor_lt_two_pow (n := 32) (by omega) (by omega)) h
  have h2 := congrArg (· ^^^ c.toNat) h1
  simpa [Nat.xor_assoc] using h2
theorem con_inj_right {a : Nat} {c d : UInt8} (ha : a < 4294967296) (h : con a c = con a d) : c = d := by
  have := c.toNat_lt
  have := d.toNat_lt
  have h1 := c8_inj (Nat.xor_lt_two_pow (n := 32) (by omega) (by omega)) (Nat.xor_lt_two_pow (n := 32) (by omega) (by omega)) h
  have h2 := congrArg (a ^^^ ·) h1
  simp only [← Nat.xor_assoc, Nat.xor_self, Nat.zero_xor] at h2
  exact UInt8.toNat_inj.1 h2
theorem fold_inj : ∀ (l : List UInt8) {a b : Nat}, a < 4294967296 → b < 4294967296 → l.foldl con a = l.foldl con b → a = b
  | [], _, _, _, _, h => h
  | c :: l, _, _, ha, hb, h => con_inj_left c ha hb (fold_inj l (con_lt c ha) (con_lt c hb) h)
/-- One byte that is another one turns the sum. -/
theorem cnext_one {s : Nat} (p q : List UInt8) {c d : UInt8} (h : cnext s (p ++ c :: q) = cnext s (p ++ d :: q)) : c = d := by
  unfold cnext at h
  have hs : cnot s < 4294967296 := by unfold cnot; omega
  have hp := fold_lt p hs
  rw [List.foldl_append, List.foldl_append, List.foldl_cons, List.foldl_cons] at h
  have h1 := fold_lt q (con_lt c hp)
  have h2 := fold_lt q (con_lt d hp)
  unfold cnot at h h1 h2 hs hp
  have h3 := fold_inj q (con_lt c hp) (con_lt d hp) (by omega)
  exact con_inj_right hp h3
end Go.Proofs.YtijnomopcpgikaaDoor
