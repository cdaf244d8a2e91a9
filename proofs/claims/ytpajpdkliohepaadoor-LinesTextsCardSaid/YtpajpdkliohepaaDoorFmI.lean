/- strconv.Atoi reads what strconv.Itoa has written, plainly. -/
import Derived.Test.YtpajpdkliohepaaDoorFmH
import Derived.Lib.AtoiTie
namespace Go.Proofs.YtpajpdkliohepaaDoor
open Go.RowKit

theorem F_ge : ∀ (l : List UInt8) (acc : Nat), acc ≤ l.foldl (fun v c => 10 * v + (c.toNat - 48)) acc
  | [], acc => Nat.le_refl _
  | c :: r, acc => by
    rw [List.foldl_cons]
    have := F_ge r (10 * acc + (c.toNat - 48))
    omega
theorem parse_F : ∀ (l : List UInt8) (acc : Nat), (∀ c ∈ l, isDig c = true) → l.foldl (fun v c => 10 * v + (c.toNat - 48)) acc < 18446744073709551616 → Lib.parseUint10 acc l = .ok (l.foldl (fun v c => 10 * v + (c.toNat - 48)) acc)
  | [], acc, _, _ => rfl
  | c :: r, acc, hd, hlt => by
    rw [List.foldl_cons] at hlt ⊢
    have hc : 48 ≤ c.toNat ∧ c.toNat ≤ 57 := of_decide_eq_true (hd c (by simp))
    have hge := F_ge r (10 * acc + (c.toNat - 48))
    unfold Lib.parseUint10
    rw [if_pos hc, if_neg (by omega), if_neg (by omega), show acc * 10 + (c.toNat - 48) = 10 * acc + (c.toNat - 48) by omega]
    exact parse_F r _ (fun x hx => hd x (by simp [hx])) hlt
theorem parseMag_dec {u : Nat} (h : u < 18446744073709551616) : Lib.parseMag (Lib.decDigits u) = .ok u := by
  have hv : (Lib.decDigits u).foldl (fun v c => 10 * v + (c.toNat - 48)) 0 = u := digV_dec u
  unfold Lib.parseMag
  rw [if_neg (dec_ne u), parse_F _ _ (dec_dig u) (by rw [hv]; exact h), hv]
theorem atoi_itoa {n : Int} (h0 : -9223372036854775808 ≤ n) (h1 : n ≤ 9223372036854775807) : Lib.atoiAll (Lib.itoa n) = .ok n := by
  unfold Lib.itoa
  by_cases hn : n < 0
  · rw [if_pos hn, Lib.atoiAll_minus, parseMag_dec (by omega)]
    unfold Lib.signed
    simp only
    rw [if_neg (by omega)]
    congr 1
    omega
  · rw [if_neg hn]
    cases hD : Lib.decDigits n.toNat with
    | nil => exact absurd hD (dec_ne _)
    | cons c r =>
      have hc : 48 ≤ c.toNat ∧ c.toNat ≤ 57 := of_decide_eq_true (dec_dig n.toNat c (by rw [hD]; simp))
      rw [Lib.atoiAll_plain c r (by omega) (by omega), ← hD, parseMag_dec (by omega)]
      unfold Lib.signless
      simp only
      rw [if_neg (by omega)]
      congr 1
      omega
end Go.Proofs.YtpajpdkliohepaaDoor
