/- Texts of one proof, joined. -/
import Derived.Test.YtkdcnhnaiknaaaaGreatFD03
import Derived.Test.YtkdcnhnaiknaaaaGreatFD06
import Derived.Test.YtkdcnhnaiknaaaaGreatFD05
import Derived.Test.YtkdcnhnaiknaaaaGreatFD02
import Derived.Test.YtkdcnhnaiknaaaaGreatFD04
set_option linter.unusedSimpArgs false
set_option linter.unusedVariables false
namespace Go.Proofs.YtkdcnhnaiknaaaaGreat
section
open Go.RowKit
set_option maxRecDepth 100000 in
set_option maxHeartbeats 1000000 in
theorem rmore_any (l : List UInt8) (at_ r : Nat) (w : World) (hl : l.length ≤ 1073741824) (hr : r ≤ 16777216) (ha : at_ ≤ 1073741840) : Calls Tryz.prog 213 #[.string ⟨l.toArray⟩, .int .i64 (at_ : Int), .int .i64 (r : Int)] w fun e w' => (match l[at_]? with
    | some b => if contB b = true then e = .returned (.tuple #[.int .i64 ((r * 64 + b.toNat % 64 : Nat) : Int), .bool true]) else e = .returned (.tuple #[.int .i64 0, .bool false])
    | none => e = .returned (.tuple #[.int .i64 0, .bool false])) ∧ Ext w w' := by
  cases hb : l[at_]? with
  | none =>
    have hge := List.getElem?_eq_none_iff.1 hb
    have hgi : (l.length : Int) ≤ (at_ : Int) := by omega
    replace hb := hide hb
    go_enter Tryz.func213, Tryz.ntmps213
    go_wp2_with fail
    go_ret2
    exact ⟨rfl, Ext.refl w⟩
  | some b =>
    have hix := fun W => run_strindex hb (z := (at_ : Int)) rfl W
    have hlt := (List.getElem?_eq_some_iff.1 hb).1
    have hgi : ¬ (l.length : Int) ≤ (at_ : Int) := by omega
    have hcb : contB b = true ↔ b.toNat / 64 = 2 := by unfold contB; exact beq_iff_eq
    have hb8 := b.toNat_lt
    obtain ⟨x, hx⟩ : ∃ x, x = b.toNat := ⟨_, rfl⟩
    rw [← hx] at hix hcb hb8
    simp only
    rw [← hx]
    replace hb := hide hb
    replace hx := hide hx
    by_cases h2 : x / 64 = 2
    · simp only [if_pos (hcb.2 h2)]
      have h2i : (x : Int) / 64 = 2 := by omega
      replace hcb := hide hcb
      replace h2 := hide h2
      go_enter Tryz.func213, Tryz.ntmps213
      go_wp2_with fail
      go_ret2
      refine ⟨?_, Ext.refl w⟩
      simp
    · simp only [if_neg (fun h => h2 (hcb.1 h))]
      have h2i : ¬ (x : Int) / 64 = 2 := by omega
      replace hcb := hide hcb
      replace h2 := hide h2
      go_enter Tryz.func213, Tryz.ntmps213
      go_wp2_with fail
      go_ret2
      exact ⟨rfl, Ext.refl w⟩
end
section
open Go.RowKit
def rowOk (t : List UInt8) (kk : Nat) : Bool := decide (kk ≤ t.length) && (t.take kk).all contB
set_option maxRecDepth 100000 in
set_option maxHeartbeats 1000000 in
theorem rrow_any (l : List UInt8) (at_ n0 kk : Nat) (w : World) (hl : l.length ≤ 1073741824) (hn32 : n0 < 32) (hk3 : kk ≤ 3) (ha : at_ < l.length) :
    Calls Tryz.prog 186 #[.string ⟨l.toArray⟩, .int .i64 (at_ : Int), .int .i64 (n0 : Int), .int .i64 ((kk : Int) + 1)] w fun e w' => e = .returned (.tuple #[.int .i64 ((if rowOk (l.drop (at_ + 1)) kk = true then foldR n0 ((l.drop (at_ + 1)).take kk) else 0 : Nat) : Int), .bool (rowOk (l.drop (at_ + 1)) kk)]) ∧ Ext w w' := by
  have hmo := hide (fun a r W ha hr => rmore_any l a r W hl hr ha)
  obtain ⟨t, ht⟩ : ∃ t, t = l.drop (at_ + 1) := ⟨_, rfl⟩
  rw [← ht]
  have hat : ∀ j, l[at_ + (j + 1)]? = t[j]? := fun j => by rw [ht, List.getElem?_drop]; congr 1; omega
  obtain ⟨Z, hZ⟩ : ∃ Z, Z = (if rowOk t kk = true then foldR n0 (t.take kk) else 0 : Nat) := ⟨_, rfl⟩
  obtain ⟨B, hB⟩ : ∃ B, B = rowOk t kk := ⟨_, rfl⟩
  rw [← hZ, ← hB]
  replace hat := hide hat
  replace hZ := hide hZ
  replace hB := hide hB
  replace ht := hide ht
  go_enter Tryz.func186, Tryz.ntmps186
  go_wp2_with fail
  go_loopw [2, 10] (fun s2 s10 wr => ∃ j X : Nat, s2 = .int .i64 (X : Int) ∧ s10 = .int .i64 ((j : Int) + 1) ∧ j ≤ kk ∧ Hid (X = foldR n0 (t.take j)) ∧ Hid (rowOk t j = true) ∧ Hid (Ext w wr)) (fun _ s10 _ => 10 - (intOf s10).toNat)
  case atStart => exact ⟨0, n0, rfl, rfl, by omega, hide rfl, hide (by simp [rowOk]), hide (Ext.refl w)⟩
  case round =>
    obtain ⟨j, X, rfl, rfl, hj, hX, hok, hE⟩ := hrel
    by_cases h : j < kk
    · have hok1 := hok.out
      unfold rowOk at hok1
      simp only [Bool.and_eq_true, decide_eq_true_eq] at hok1
      have hX8 : X < 8388608 := by rw [hX.out]; exact foldR_small hn32 (by rw [List.length_take]; omega)
      have hc := fun W => hmo.out (at_ + (j + 1)) X W (by omega) (by omega)
      rw [hat.out j] at hc
      have ha1 : ((at_ + (j + 1) : Nat) : Int) = (at_ : Int) + ((j : Int) + 1) := by omega
      rw [ha1] at hc
      replace ha1 := hide ha1
      cases hb : t[j]? with
      | none =>
        rw [hb] at hc
        have hge := List.getElem?_eq_none_iff.1 hb
        have hBf : B = false := by
          rw [hB.out]
          unfold rowOk
          rw [decide_eq_false (by omega), Bool.false_and]
        have hZf : Z = 0 := by rw [hZ.out, ← hB.out, hBf, if_neg (by simp)]
        subst hBf
        subst hZf
        simp only at hc
        replace hc := hide hc
        replace hok1 := hide hok1
        replace hb := hide hb
        go_wp2_with fail
        refine (hc.out _).mono ?_
        rintro e w2 ⟨rfl, hE2⟩
        go_wp2_with fail
        go_ret2
        exact ⟨rfl, hE.out.trans hE2⟩
      | some b =>
        rw [hb] at hc
        have hlt := (List.getElem?_eq_some_iff.1 hb).1
        have hts : t.take (j + 1) = t.take j ++ [b] := by rw [List.take_add_one, hb]; rfl
        cases hcb : contB b with
        | true =>
          simp only [hcb, if_true] at hc
          have hok2 : rowOk t (j + 1) = true := by
            unfold rowOk
            rw [hts, List.all_append, hok1.2]
            simp [hcb]; omega
          have hX2 : X * 64 + b.toNat % 64 = foldR n0 (t.take (j + 1)) := by rw [hts, foldR_snoc, ← hX.out]
          obtain ⟨X2, hX2e⟩ : ∃ X2, X2 = X * 64 + b.toNat % 64 := ⟨_, rfl⟩
          rw [← hX2e] at hc hX2
          replace hX2e := hide hX2e
          replace hc := hide hc
          replace hok1 := hide hok1
          replace hb := hide hb
          replace hts := hide hts
          replace hX2 := hide hX2
          replace hok2 := hide hok2
          replace hcb := hide hcb
          go_wp2_with fail
          refine (hc.out _).mono ?_
          rintro e w2 ⟨rfl, hE2⟩
          go_wp2_with fail
          exact ⟨⟨j + 1, X2, rfl, by go_num, by omega, hX2, hok2, hide (hE.out.trans hE2)⟩, by simp only [intOf]; omega⟩
        | false =>
          have hBf : B = false := by
            rw [hB.out]
            unfold rowOk
            have : (t.take kk).all contB = false := by
              rw [List.all_eq_false]
              exact ⟨b, List.mem_of_getElem? (i := j) (by rw [List.getElem?_take, if_pos h]; exact hb), by simp [hcb]⟩
            rw [this, Bool.and_false]
          have hZf : Z = 0 := by rw [hZ.out, ← hB.out, hBf, if_neg (by simp)]
          subst hBf
          subst hZf
          simp only [hcb, Bool.false_eq_true, if_false] at hc
          replace hc := hide hc
          replace hok1 := hide hok1
          replace hb := hide hb
          replace hts := hide hts
          replace hcb := hide hcb
          go_wp2_with fail
          refine (hc.out _).mono ?_
          rintro e w2 ⟨rfl, hE2⟩
          go_wp2_with fail
          go_ret2
          exact ⟨rfl, hE.out.trans hE2⟩
    · obtain rfl : j = kk := by omega
      have hBt : B = true := by rw [hB.out]; exact hok.out
      have hZt : Z = X := by rw [hZ.out, hok.out, if_pos rfl]; exact hX.out.symm
      subst hBt
      subst hZt
      go_wp2_with fail
      go_ret2
      exact ⟨rfl, hE.out⟩
end
section
open Go.RowKit
theorem okR_row (lo hi n k : Nat) (t : List UInt8) : okR lo hi n k t = (rowOk t k && decide (lo ≤ foldR n (t.take k)) && decide (foldR n (t.take k) ≤ hi) && !(decide (55296 ≤ foldR n (t.take k)) && decide (foldR n (t.take k) ≤ 57343))) := rfl
theorem dec1 {b : UInt8} {t : List UInt8} (h : b.toNat / 32 = 6) : decR (b :: t) = if rowOk t 1 = true ∧ 128 ≤ foldR (b.toNat % 32) (t.take 1) then (foldR (b.toNat % 32) (t.take 1), 2) else (65533, 1) := by
  have hF := foldR_lt (b.toNat % 32) (t.take 1)
  have hp : 64 ^ (t.take 1).length ≤ 64 ^ 1 := Nat.pow_le_pow_right (by omega) (by rw [List.length_take]; omega)
  have hF2 : foldR (b.toNat % 32) (t.take 1) < 32 * 64 ^ 1 := Nat.lt_of_lt_of_le hF (Nat.mul_le_mul (by omega) hp)
  have h2 : (b.toNat / 16 == 14) = false := by rw [beq_eq_false_iff_ne]; omega
  have h3 : (b.toNat / 8 == 30) = false := by rw [beq_eq_false_iff_ne]; omega
  have h1 : (b.toNat / 32 == 6) = true := beq_iff_eq.2 h
  rw [decR, if_neg (by omega), h1, h2, h3, okR_row]
  simp only [Bool.true_and, Bool.false_and, Bool.false_eq_true, if_false]
  congr 1
  simp only [Bool.and_eq_true, Bool.not_eq_true', Bool.and_eq_false_iff, decide_eq_true_eq, decide_eq_false_iff_not, eq_iff_iff]
  constructor
  · rintro ⟨⟨⟨h, h4⟩, h5⟩, h6⟩; exact ⟨h, h4⟩
  · rintro ⟨h, h4⟩; exact ⟨⟨⟨h, h4⟩, by omega⟩, by omega⟩
theorem dec2 {b : UInt8} {t : List UInt8} (h : b.toNat / 16 = 14) : decR (b :: t) = if rowOk t 2 = true ∧ 2048 ≤ foldR (b.toNat % 16) (t.take 2) ∧ (foldR (b.toNat % 16) (t.take 2) < 55296 ∨ 57343 < foldR (b.toNat % 16) (t.take 2)) then (foldR (b.toNat % 16) (t.take 2), 3) else (65533, 1) := by
  have hF := foldR_lt (b.toNat % 16) (t.take 2)
  have hp : 64 ^ (t.take 2).length ≤ 64 ^ 2 := Nat.pow_le_pow_right (by omega) (by rw [List.length_take]; omega)
  have hF2 : foldR (b.toNat % 16) (t.take 2) < 16 * 64 ^ 2 := Nat.lt_of_lt_of_le hF (Nat.mul_le_mul (by omega) hp)
  have h2 : (b.toNat / 32 == 6) = false := by rw [beq_eq_false_iff_ne]; omega
  have h3 : (b.toNat / 8 == 30) = false := by rw [beq_eq_false_iff_ne]; omega
  have h1 : (b.toNat / 16 == 14) = true := beq_iff_eq.2 h
  rw [decR, if_neg (by omega), h1, h2, h3, okR_row 2048]
  simp only [Bool.true_and, Bool.false_and, Bool.false_eq_true, if_false]
  congr 1
  simp only [Bool.and_eq_true, Bool.not_eq_true', Bool.and_eq_false_iff, decide_eq_true_eq, decide_eq_false_iff_not, eq_iff_iff]
  constructor
  · rintro ⟨⟨⟨h, h4⟩, h5⟩, h6⟩; exact ⟨h, h4, by omega⟩
  · rintro ⟨h, h4, h5⟩; exact ⟨⟨⟨h, h4⟩, by omega⟩, by omega⟩
theorem dec3 {b : UInt8} {t : List UInt8} (h : b.toNat / 8 = 30) : decR (b :: t) = if rowOk t 3 = true ∧ 65536 ≤ foldR (b.toNat % 8) (t.take 3) ∧ foldR (b.toNat % 8) (t.take 3) ≤ 1114111 then (foldR (b.toNat % 8) (t.take 3), 4) else (65533, 1) := by
  have h2 : (b.toNat / 32 == 6) = false := by rw [beq_eq_false_iff_ne]; omega
  have h3 : (b.toNat / 16 == 14) = false := by rw [beq_eq_false_iff_ne]; omega
  have h1 : (b.toNat / 8 == 30) = true := beq_iff_eq.2 h
  rw [decR, if_neg (by omega), h1, h2, h3, okR_row 65536]
  simp only [Bool.true_and, Bool.false_and, Bool.false_eq_true, if_false]
  congr 1
  simp only [Bool.and_eq_true, Bool.not_eq_true', Bool.and_eq_false_iff, decide_eq_true_eq, decide_eq_false_iff_not, eq_iff_iff]
  constructor
  · rintro ⟨⟨⟨h, h4⟩, h5⟩, h6⟩; exact ⟨h, h4, h5⟩
  · rintro ⟨h, h4, h5⟩; exact ⟨⟨⟨h, h4⟩, h5⟩, by omega⟩
theorem dec0 {b : UInt8} {t : List UInt8} (h : ¬ b.toNat < 128) (h1 : ¬ b.toNat / 32 = 6) (h2 : ¬ b.toNat / 16 = 14) (h3 : ¬ b.toNat / 8 = 30) : decR (b :: t) = (65533, 1) := by
  rw [decR, if_neg h, beq_eq_false_iff_ne.2 h1, beq_eq_false_iff_ne.2 h2, beq_eq_false_iff_ne.2 h3]
  simp
end
section
open Go.RowKit
set_option maxRecDepth 100000 in
set_option maxHeartbeats 1000000 in
theorem rdec1_any (l : List UInt8) (at_ : Nat) (b : UInt8) (w : World) (hb : l[at_]? = some b) (hl : l.length ≤ 1073741824) (hq : b.toNat / 32 = 6) :
    Calls Tryz.prog 156 #[.string ⟨l.toArray⟩, .int .i64 (at_ : Int)] w fun e w' => e = .returned (.tuple #[.int .i64 (decR (l.drop at_)).1, .int .i64 (decR (l.drop at_)).2]) ∧ Ext w w' := by
  have hat := (List.getElem?_eq_some_iff.1 hb).1
  have hix := fun W => run_strindex hb (z := (at_ : Int)) rfl W
  have hrow := fun W => rrow_any l at_ (b.toNat % 32) 1 W hl (by omega) (by omega) hat
  simp only [show (((1 : Nat) : Int) + 1) = 2 from rfl] at hrow
  have hbt : l.drop at_ = b :: l.drop (at_ + 1) := by
    rw [List.drop_eq_getElem_cons hat]
    congr 1
    exact (List.getElem?_eq_some_iff.1 hb).2
  rw [hbt]
  obtain ⟨t, ht⟩ : ∃ t, t = l.drop (at_ + 1) := ⟨_, rfl⟩
  rw [← ht] at hrow ⊢
  have hdec := dec1 (t := t) hq
  obtain ⟨n0, hn0⟩ : ∃ n0, n0 = b.toNat % 32 := ⟨_, rfl⟩
  obtain ⟨F, hF⟩ : ∃ F, F = foldR (b.toNat % 32) (t.take 1) := ⟨_, rfl⟩
  rw [← hF] at hdec hrow
  rw [← hn0] at hrow
  obtain ⟨x, hx⟩ : ∃ x, x = b.toNat := ⟨_, rfl⟩
  have hb8 := b.toNat_lt
  rw [← hx] at hix hn0 hq hb8
  obtain ⟨B, hB⟩ : ∃ B, B = rowOk t 1 := ⟨_, rfl⟩
  rw [← hB] at hrow hdec
  have hF8 : F < 8388608 := by rw [hF]; exact foldR_small (by omega) (by rw [List.length_take]; omega)
  obtain ⟨R, hR⟩ : ∃ R, R = decR (b :: t) := ⟨_, rfl⟩
  rw [← hR] at hdec ⊢
  have g1 : ¬ (x : Int) < 128 := by omega
  have g2 : (x : Int) / 32 = 6 := by omega
  have g3 : ¬ (x : Int) / 16 = 14 := by omega
  have g4 : ¬ (x : Int) / 8 = 30 := by omega
  have g5 : (x : Int) % 32 = (n0 : Int) := by omega
  replace hn0 := hide hn0
  replace hF := hide hF
  replace hx := hide hx
  replace hb := hide hb
  replace hB := hide hB
  replace hR := hide hR
  replace ht := hide ht
  replace hbt := hide hbt
  replace hq := hide hq
  cases B with
  | false =>
    rw [if_neg (by simp)] at hdec
    simp only [Bool.false_eq_true, if_false] at hrow
    replace hrow := hide hrow
    subst hdec
    go_enter Tryz.func156, Tryz.ntmps156
    go_wp2_with fail
    refine (hrow.out _).mono ?_
    rintro e w2 ⟨rfl, hE2⟩
    go_wp2_with fail
    go_ret2
    exact ⟨rfl, hE2⟩
  | true =>
    simp only [if_true] at hrow
    obtain ⟨z, hz⟩ : ∃ z : Int, z = (F : Int) := ⟨_, rfl⟩
    rw [← hz] at hrow
    have gz : 0 ≤ z := by omega
    have gz8 : z < 8388608 := by omega
    replace hrow := hide hrow
    simp only [true_and] at hdec
    by_cases hc : 128 ≤ F
    · have k0 : 128 ≤ z := by omega
      rw [if_pos (by omega)] at hdec
      subst hdec
      replace hF8 := hide hF8
      simp only
      rw [← hz]
      replace hz := hide hz
      go_enter Tryz.func156, Tryz.ntmps156
      go_wp2_with fail
      refine (hrow.out _).mono ?_
      rintro e w2 ⟨rfl, hE2⟩
      go_wp2_with fail
      go_ret2
      exact ⟨rfl, hE2⟩
    · have k0 : ¬ 128 ≤ z := by omega
      rw [if_neg (by omega)] at hdec
      subst hdec
      replace hF8 := hide hF8
      replace hz := hide hz
      go_enter Tryz.func156, Tryz.ntmps156
      go_wp2_with fail
      refine (hrow.out _).mono ?_
      rintro e w2 ⟨rfl, hE2⟩
      go_wp2_with fail
      go_ret2
      exact ⟨rfl, hE2⟩
set_option maxRecDepth 100000 in
set_option maxHeartbeats 1000000 in
theorem rdec2_any (l : List UInt8) (at_ : Nat) (b : UInt8) (w : World) (hb : l[at_]? = some b) (hl : l.length ≤ 1073741824) (hq : b.toNat / 16 = 14) :
    Calls Tryz.prog 156 #[.string ⟨l.toArray⟩, .int .i64 (at_ : Int)] w fun e w' => e = .returned (.tuple #[.int .i64 (decR (l.drop at_)).1, .int .i64 (decR (l.drop at_)).2]) ∧ Ext w w' := by
  have hat := (List.getElem?_eq_some_iff.1 hb).1
  have hix := fun W => run_strindex hb (z := (at_ : Int)) rfl W
  have hrow := fun W => rrow_any l at_ (b.toNat % 16) 2 W hl (by omega) (by omega) hat
  simp only [show (((2 : Nat) : Int) + 1) = 3 from rfl] at hrow
  have hbt : l.drop at_ = b :: l.drop (at_ + 1) := by
    rw [List.drop_eq_getElem_cons hat]
    congr 1
    exact (List.getElem?_eq_some_iff.1 hb).2
  rw [hbt]
  obtain ⟨t, ht⟩ : ∃ t, t = l.drop (at_ + 1) := ⟨_, rfl⟩
  rw [← ht] at hrow ⊢
  have hdec := dec2 (t := t) hq
  obtain ⟨n0, hn0⟩ : ∃ n0, n0 = b.toNat % 16 := ⟨_, rfl⟩
  obtain ⟨F, hF⟩ : ∃ F, F = foldR (b.toNat % 16) (t.take 2) := ⟨_, rfl⟩
  rw [← hF] at hdec hrow
  rw [← hn0] at hrow
  obtain ⟨x, hx⟩ : ∃ x, x = b.toNat := ⟨_, rfl⟩
  have hb8 := b.toNat_lt
  rw [← hx] at hix hn0 hq hb8
  obtain ⟨B, hB⟩ : ∃ B, B = rowOk t 2 := ⟨_, rfl⟩
  rw [← hB] at hrow hdec
  have hF8 : F < 8388608 := by rw [hF]; exact foldR_small (by omega) (by rw [List.length_take]; omega)
  obtain ⟨R, hR⟩ : ∃ R, R = decR (b :: t) := ⟨_, rfl⟩
  rw [← hR] at hdec ⊢
  have g1 : ¬ (x : Int) < 128 := by omega
  have g2 : (x : Int) / 16 = 14 := by omega
  have g3 : ¬ (x : Int) / 32 = 6 := by omega
  have g4 : ¬ (x : Int) / 8 = 30 := by omega
  have g5 : (x : Int) % 16 = (n0 : Int) := by omega
  replace hn0 := hide hn0
  replace hF := hide hF
  replace hx := hide hx
  replace hb := hide hb
  replace hB := hide hB
  replace hR := hide hR
  replace ht := hide ht
  replace hbt := hide hbt
  replace hq := hide hq
  cases B with
  | false =>
    rw [if_neg (by simp)] at hdec
    simp only [Bool.false_eq_true, if_false] at hrow
    replace hrow := hide hrow
    subst hdec
    go_enter Tryz.func156, Tryz.ntmps156
    go_wp2_with fail
    refine (hrow.out _).mono ?_
    rintro e w2 ⟨rfl, hE2⟩
    go_wp2_with fail
    go_ret2
    exact ⟨rfl, hE2⟩
  | true =>
    simp only [if_true] at hrow
    obtain ⟨z, hz⟩ : ∃ z : Int, z = (F : Int) := ⟨_, rfl⟩
    rw [← hz] at hrow
    have gz : 0 ≤ z := by omega
    have gz8 : z < 8388608 := by omega
    replace hrow := hide hrow
    simp only [true_and] at hdec
    by_cases hc : 2048 ≤ F
    · by_cases hs : F < 55296
      · have k0 : 2048 ≤ z := by omega
        have k1 : z < 55296 := by omega
        rw [if_pos (by omega)] at hdec
        subst hdec
        replace hF8 := hide hF8
        simp only
        rw [← hz]
        replace hz := hide hz
        go_enter Tryz.func156, Tryz.ntmps156
        go_wp2_with fail
        refine (hrow.out _).mono ?_
        rintro e w2 ⟨rfl, hE2⟩
        go_wp2_with fail
        go_ret2
        exact ⟨rfl, hE2⟩
      · by_cases hs2 : 57343 < F
        · have k0 : 2048 ≤ z := by omega
          have k1 : ¬ z < 55296 := by omega
          have k2 : 57343 < z := by omega
          rw [if_pos (by omega)] at hdec
          subst hdec
          replace hF8 := hide hF8
          simp only
          rw [← hz]
          replace hz := hide hz
          go_enter Tryz.func156, Tryz.ntmps156
          go_wp2_with fail
          refine (hrow.out _).mono ?_
          rintro e w2 ⟨rfl, hE2⟩
          go_wp2_with fail
          go_ret2
          exact ⟨rfl, hE2⟩
        · have k0 : 2048 ≤ z := by omega
          have k1 : ¬ z < 55296 := by omega
          have k2 : ¬ 57343 < z := by omega
          rw [if_neg (by omega)] at hdec
          subst hdec
          replace hF8 := hide hF8
          replace hz := hide hz
          go_enter Tryz.func156, Tryz.ntmps156
          go_wp2_with fail
          refine (hrow.out _).mono ?_
          rintro e w2 ⟨rfl, hE2⟩
          go_wp2_with fail
          go_ret2
          exact ⟨rfl, hE2⟩
    · have k0 : ¬ 2048 ≤ z := by omega
      rw [if_neg (by omega)] at hdec
      subst hdec
      replace hF8 := hide hF8
      replace hz := hide hz
      go_enter Tryz.func156, Tryz.ntmps156
      go_wp2_with fail
      refine (hrow.out _).mono ?_
      rintro e w2 ⟨rfl, hE2⟩
      go_wp2_with fail
      go_ret2
      exact ⟨rfl, hE2⟩
set_option maxRecDepth 100000 in
set_option maxHeartbeats 1000000 in
theorem rdec3_any (l : List UInt8) (at_ : Nat) (b : UInt8) (w : World) (hb : l[at_]? = some b) (hl : l.length ≤ 1073741824) (hq : b.toNat / 8 = 30) :
    Calls Tryz.prog 156 #[.string ⟨l.toArray⟩, .int .i64 (at_ : Int)] w fun e w' => e = .returned (.tuple #[.int .i64 (decR (l.drop at_)).1, .int .i64 (decR (l.drop at_)).2]) ∧ Ext w w' := by
  have hat := (List.getElem?_eq_some_iff.1 hb).1
  have hix := fun W => run_strindex hb (z := (at_ : Int)) rfl W
  have hrow := fun W => rrow_any l at_ (b.toNat % 8) 3 W hl (by omega) (by omega) hat
  simp only [show (((3 : Nat) : Int) + 1) = 4 from rfl] at hrow
  have hbt : l.drop at_ = b :: l.drop (at_ + 1) := by
    rw [List.drop_eq_getElem_cons hat]
    congr 1
    exact (List.getElem?_eq_some_iff.1 hb).2
  rw [hbt]
  obtain ⟨t, ht⟩ : ∃ t, t = l.drop (at_ + 1) := ⟨_, rfl⟩
  rw [← ht] at hrow ⊢
  have hdec := dec3 (t := t) hq
  obtain ⟨n0, hn0⟩ : ∃ n0, n0 = b.toNat % 8 := ⟨_, rfl⟩
  obtain ⟨F, hF⟩ : ∃ F, F = foldR (b.toNat % 8) (t.take 3) := ⟨_, rfl⟩
  rw [← hF] at hdec hrow
  rw [← hn0] at hrow
  obtain ⟨x, hx⟩ : ∃ x, x = b.toNat := ⟨_, rfl⟩
  have hb8 := b.toNat_lt
  rw [← hx] at hix hn0 hq hb8
  obtain ⟨B, hB⟩ : ∃ B, B = rowOk t 3 := ⟨_, rfl⟩
  rw [← hB] at hrow hdec
  have hF8 : F < 8388608 := by rw [hF]; exact foldR_small (by omega) (by rw [List.length_take]; omega)
  obtain ⟨R, hR⟩ : ∃ R, R = decR (b :: t) := ⟨_, rfl⟩
  rw [← hR] at hdec ⊢
  have g1 : ¬ (x : Int) < 128 := by omega
  have g2 : (x : Int) / 8 = 30 := by omega
  have g3 : ¬ (x : Int) / 32 = 6 := by omega
  have g4 : ¬ (x : Int) / 16 = 14 := by omega
  have g5 : (x : Int) % 8 = (n0 : Int) := by omega
  replace hn0 := hide hn0
  replace hF := hide hF
  replace hx := hide hx
  replace hb := hide hb
  replace hB := hide hB
  replace hR := hide hR
  replace ht := hide ht
  replace hbt := hide hbt
  replace hq := hide hq
  cases B with
  | false =>
    rw [if_neg (by simp)] at hdec
    simp only [Bool.false_eq_true, if_false] at hrow
    replace hrow := hide hrow
    subst hdec
    go_enter Tryz.func156, Tryz.ntmps156
    go_wp2_with fail
    refine (hrow.out _).mono ?_
    rintro e w2 ⟨rfl, hE2⟩
    go_wp2_with fail
    go_ret2
    exact ⟨rfl, hE2⟩
  | true =>
    simp only [if_true] at hrow
    obtain ⟨z, hz⟩ : ∃ z : Int, z = (F : Int) := ⟨_, rfl⟩
    rw [← hz] at hrow
    have gz : 0 ≤ z := by omega
    have gz8 : z < 8388608 := by omega
    replace hrow := hide hrow
    simp only [true_and] at hdec
    by_cases hc : 65536 ≤ F
    · by_cases hs : F ≤ 1114111
      · have k0 : 65536 ≤ z := by omega
        have k1 : z ≤ 1114111 := by omega
        rw [if_pos (by omega)] at hdec
        subst hdec
        replace hF8 := hide hF8
        simp only
        rw [← hz]
        replace hz := hide hz
        go_enter Tryz.func156, Tryz.ntmps156
        go_wp2_with fail
        refine (hrow.out _).mono ?_
        rintro e w2 ⟨rfl, hE2⟩
        go_wp2_with fail
        go_ret2
        exact ⟨rfl, hE2⟩
      · have k0 : 65536 ≤ z := by omega
        have k1 : ¬ z ≤ 1114111 := by omega
        rw [if_neg (by omega)] at hdec
        subst hdec
        replace hF8 := hide hF8
        replace hz := hide hz
        go_enter Tryz.func156, Tryz.ntmps156
        go_wp2_with fail
        refine (hrow.out _).mono ?_
        rintro e w2 ⟨rfl, hE2⟩
        go_wp2_with fail
        go_ret2
        exact ⟨rfl, hE2⟩
    · have k0 : ¬ 65536 ≤ z := by omega
      rw [if_neg (by omega)] at hdec
      subst hdec
      replace hF8 := hide hF8
      replace hz := hide hz
      go_enter Tryz.func156, Tryz.ntmps156
      go_wp2_with fail
      refine (hrow.out _).mono ?_
      rintro e w2 ⟨rfl, hE2⟩
      go_wp2_with fail
      go_ret2
      exact ⟨rfl, hE2⟩
end
section
open Go.RowKit
set_option maxRecDepth 100000 in
theorem rdecode_any (l : List UInt8) (at_ : Nat) (w : World) (hat : at_ < l.length) (hl : l.length ≤ 1073741824) :
    Calls Tryz.prog 156 #[.string ⟨l.toArray⟩, .int .i64 (at_ : Int)] w fun e w' => e = .returned (.tuple #[.int .i64 (decR (l.drop at_)).1, .int .i64 (decR (l.drop at_)).2]) ∧ Ext w w' := by
  obtain ⟨b, hb⟩ : ∃ b, l[at_]? = some b := ⟨_, List.getElem?_eq_getElem hat⟩
  have hbl : l.drop at_ = b :: l.drop (at_ + 1) := by
    rw [List.drop_eq_getElem_cons hat, (List.getElem?_eq_some_iff.1 hb).2]
  by_cases hb8 : b.toNat < 128
  · have hbt : decR (l.drop at_) = (b.toNat, 1) := by
      rw [hbl, decR, if_pos hb8]
    rw [hbt]
    have hix := fun W => run_strindex hb (z := (at_ : Int)) rfl W
    have hb8i : (b.toNat : Int) < 128 := by omega
    replace hb := hide hb
    replace hbt := hide hbt
    replace hbl := hide hbl
    go_enter Tryz.func156, Tryz.ntmps156
    go_wp2_with fail
    all_goals
      go_ret2
      exact ⟨rfl, Ext.refl w⟩
  · by_cases h1 : b.toNat / 32 = 6
    · exact rdec1_any l at_ b w hb hl h1
    · by_cases h2 : b.toNat / 16 = 14
      · exact rdec2_any l at_ b w hb hl h2
      · by_cases h3 : b.toNat / 8 = 30
        · exact rdec3_any l at_ b w hb hl h3
        · have hbt : decR (l.drop at_) = (65533, 1) := by
            rw [hbl, dec0 hb8 h1 h2 h3]
          rw [hbt]
          have hix := fun W => run_strindex hb (z := (at_ : Int)) rfl W
          obtain ⟨x, hx⟩ : ∃ x, x = b.toNat := ⟨_, rfl⟩
          have hx8 := b.toNat_lt
          rw [← hx] at hix h1 h2 h3 hb8 hx8
          have g0 : ¬ (x : Int) < 128 := by omega
          have g1 : ¬ (x : Int) / 32 = 6 := by omega
          have g2 : ¬ (x : Int) / 16 = 14 := by omega
          have g3 : ¬ (x : Int) / 8 = 30 := by omega
          replace h1 := hide h1
          replace h2 := hide h2
          replace h3 := hide h3
          replace hb8 := hide hb8
          replace hx := hide hx
          replace hb := hide hb
          replace hbt := hide hbt
          replace hbl := hide hbl
          go_enter Tryz.func156, Tryz.ntmps156
          go_wp2_with fail
          all_goals
            go_ret2
            exact ⟨rfl, Ext.refl w⟩
set_option maxRecDepth 100000 in
set_option maxHeartbeats 1000000 in
theorem rrunes_any (l : List UInt8) (w : World) (hl : l.length ≤ 1073741824) :
    Calls Tryz.prog 100 #[.string ⟨l.toArray⟩] w (NewN w (runesL l)) := by
  have hdec := hide (fun at_ W (h : at_ < l.length) => rdecode_any l at_ W h hl)
  obtain ⟨n, hn⟩ : ∃ n, n = l.length := ⟨_, rfl⟩
  have hlen : (⟨l.toArray⟩ : ByteArray).size = n := by rw [hn]; exact ByteArray.size_mk_toArray l
  rw [← hn] at hl hdec
  replace hn := hide hn
  go_enter Tryz.func100, Tryz.ntmps100
  go_wp2_with fail
  go_loopw [3, 4] (fun s3 s4 wr => ∃ (at_ c : Nat) (A : Option Addr) (D : List Nat), s3 = .slice A D.length c ∧ s4 = .int .i64 (at_ : Int) ∧ at_ ≤ n ∧ D.length ≤ at_ ∧ Hid (runesL l = D ++ runesL (l.drop at_)) ∧ Hid (Buf wr w.heap.size 3 A D.length c (D.map NV)) ∧ Hid (Ext w wr)) (fun _ s4 _ => n - (intOf s4).toNat)
  case atStart => exact ⟨0, 0, none, [], rfl, rfl, by omega, by simp, hide rfl, hide (Buf.nil _ _ _), hide (Ext.refl w)⟩
  case round =>
    obtain ⟨at_, c, A, D, rfl, rfl, hat, hD, hdn, hb, hE⟩ := hrel
    by_cases h : at_ < n
    · have hst := runesL_at (s := l) (at_ := at_) (by rw [← hn.out]; exact h)
      obtain ⟨r, hr⟩ : ∃ r, r = (decR (l.drop at_)).1 := ⟨_, rfl⟩
      obtain ⟨k, hk⟩ : ∃ k, k = (decR (l.drop at_)).2 := ⟨_, rfl⟩
      rw [← hr, ← hk, ← hn.out] at hst
      have hst1 := hide hst.1
      have hst2 := hst.2.1
      have hst3 := hst.2.2
      clear hst
      have hd := hide (fun W => hdec.out at_ W h)
      rw [← hr, ← hk] at hd
      replace hr := hide hr
      replace hk := hide hk
      go_wp2_with fail
      refine (hd.out _).mono ?_
      rintro e w2 ⟨rfl, hE2⟩
      have hb2 := hide (hb.out.ext hE2)
      have hE3 := hE.out.trans hE2
      have hsz := hE3.size
      replace hE3 := hide hE3
      go_wp2_with (at_builtin; refine wpList_bufN elemZ hb2.out (.tmp 17) (.tmp 19) rfl rfl rfl rfl (one_of rfl) (by simp; omega) hsz (fun A3 c3 w4 hb4 hE4 => ?_))
      go_roundw
      case rel => exact ⟨at_ + k, c3, A3, D ++ [r], by simp, by simp, by omega, by simp; omega, hide (by rw [hdn.out, hst1.out]; simp), hide (by simpa [NV] using hb4), hide (hE4 w hE3.out (Nat.le_refl _))⟩
      case measure => simp [intOf]; omega
    · obtain rfl : at_ = n := by omega
      have hDl : D = runesL l := by
        rw [hdn.out, List.drop_eq_nil_of_le (by rw [← hn.out]; exact Nat.le_refl _), runesL_nil, List.append_nil]
      subst hDl
      go_wp2_with fail
      go_ret
      exact ⟨A, c, rfl, hb.out, hE.out⟩
end
section
open Go.RowKit
theorem runsW_stop {cur rs : List Nat} (hc : cur ≠ []) (h : ∀ r t, rs = r :: t → wordR r = false) : runsW cur rs = cur :: runsW [] rs := by
  cases rs with
  | nil => rw [runsW, if_neg hc, runsW, if_pos rfl]
  | cons r t => rw [runsW_cut (h r t rfl) hc, runsW_gap (h r t rfl)]
set_option maxRecDepth 100000 in
set_option maxHeartbeats 1000000 in
theorem rtokens_any (l : List UInt8) (w : World) (hl : l.length ≤ 1000000000) : Calls Tryz.prog 55 #[.string ⟨l.toArray⟩] w (NewTk w (tokL l)) := by
  have hrn := hide (fun W => rrunes_any l W (by omega))
  have hLl := runesL_len l
  have hRm := runesL_le l
  have htok : tokL l = (runsW [] (runesL l)).map (cutW []) := rfl
  obtain ⟨R, hR⟩ : ∃ R, R = runesL l := ⟨_, rfl⟩
  rw [← hR] at hrn hLl hRm htok
  obtain ⟨Z, hZ⟩ : ∃ Z, Z = tokL l := ⟨_, rfl⟩
  rw [← hZ] at htok ⊢
  obtain ⟨m, hm⟩ : ∃ m, m = R.length := ⟨_, rfl⟩
  have hm9 : m ≤ 1000000001 := by omega
  have hwd := hide (fun r W h => risword_any r W h)
  have hwo := hide (fun rs A n c W h1 h2 h3 h4 => rcut_any rs A n c W h1 h2 h3 h4)
  replace hZ := hide hZ
  replace hR := hide hR
  replace htok := hide htok
  replace hRm := hide hRm
  rw [← hm] at hLl
  replace hm := hide hm
  go_enter Tryz.func55, Tryz.ntmps55
  go_wp2_with fail
  refine (hrn.out _).mono ?_
  rintro e w2 ⟨A2, c2, rfl, hb2, hE02⟩
  rw [← hm.out] at hb2 ⊢
  have hmc := hb2.2.1
  have hcR := hide (Buf.cells hb2)
  replace hE02 := hide hE02
  replace hb2 := hide hb2
  go_wp2_with fail
  go_loopw [3, 5] (fun s3 s5 wr => ∃ (i k c3 : Nat) (A3 : Option Addr) (D : List (List Nat)), s3 = .slice A3 k c3 ∧ s5 = .int .i64 (i : Int) ∧ i ≤ m ∧ k ≤ i ∧ Hid (k = D.length) ∧ Hid (runsW [] R = D ++ runsW [] (R.drop i)) ∧ Hid (wr.ownsRow w2.heap.size 123 2 (.slice A3 k c3) k (tkV (D.map (cutW [])))) ∧ Hid (Ext w2 wr)) (fun _ s5 _ => m - (intOf s5).toNat)
  case atStart => exact ⟨0, 0, 0, none, [], rfl, rfl, by omega, by omega, hide rfl, hide (by simp), hide (World.ownsRow_nil _ _ _ _), hide (Ext.refl w2)⟩
  case round =>
    obtain ⟨i, k, c3, A3, D, rfl, rfl, him, hki, hk, hinv, hown, hE⟩ := hrel
    by_cases h : i < m
    · obtain ⟨gR, oR, hA, hcl⟩ := hcR.out.at_ (by rw [List.length_map, ← hm.out]; omega)
      obtain ⟨g2, hA2⟩ : ∃ g, A2 = some ⟨g, 0, none⟩ := by
        rcases hb2.out.2.2 with ⟨h, _⟩ | ⟨g, _, h, _⟩
        · rw [hA] at h; cases h
        · exact ⟨g, h⟩
      subst hA2
      cases hA
      replace hcl := hide hcl
      go_wp2_with fail
      go_loopw [6] (fun s6 wr2 => ∃ j : Nat, s6 = .int .i64 (j : Int) ∧ i ≤ j ∧ j ≤ m ∧ Hid (runsW [] (R.drop i) = runsW ((R.take j).drop i) (R.drop j)) ∧ Hid (Ext wr wr2)) (fun s6 _ => m - (intOf s6).toNat)
      case atStart => exact ⟨i, rfl, by omega, by omega, hide (by rw [take_none]), hide (Ext.refl wr)⟩
      case round =>
        obtain ⟨j, rfl, hij, hjm, hin, hE2⟩ := hrel
        by_cases hj : j < m
        · obtain ⟨r, hrj⟩ : ∃ r, R[j]? = some r := ⟨_, List.getElem?_eq_getElem (by rw [← hm.out]; exact hj)⟩
          have hld := hcl.out j (NV r) (by rw [List.getElem?_map, hrj]; rfl)
          rw [Nat.zero_add] at hld
          replace hld := (hE.out.trans hE2.out).cell hld
          unfold NV at hld
          have hrr := hRm.out r (List.mem_of_getElem? hrj)
          have hcall := hide (fun W => hwd.out r W (by omega))
          obtain ⟨b, hb⟩ : ∃ b, b = wordR r := ⟨_, rfl⟩
          rw [← hb] at hcall
          replace hrr := hide hrr
          replace hb := hide hb
          replace hrj := hide hrj
          cases b with
          | true =>
            go_wp2_with fail
            refine (hcall.out _).mono ?_
            rintro e w4 ⟨rfl, hE4⟩
            go_wp2_with fail
            refine ⟨⟨j + 1, rfl, by omega, by omega, hide ?_, hide (hE2.out.trans hE4)⟩, by simp only [intOf]; omega⟩
            rw [hin.out, drop_at hrj.out, runsW_word hb.out.symm, take_more hrj.out hij]
          | false =>
            have hstop : ∀ x t, R.drop j = x :: t → wordR x = false := by
              intro x t hx
              rw [drop_at hrj.out] at hx
              injection hx with h1 _
              rw [← h1]
              exact hb.out.symm
            by_cases hij2 : i < j
            · have hinv2 : runsW [] R = (D ++ [(R.take j).drop i]) ++ runsW [] (R.drop j) := by
                rw [hinv.out, hin.out, runsW_stop (take_some hij2 (by rw [← hm.out]; omega)) hstop, List.append_assoc]
                rfl
              replace hinv2 := hide hinv2
              have hrm2 : ∀ x ∈ (R.take j).drop i, x ≤ 1114111 := fun x hx => hRm.out x (List.mem_of_mem_take (List.mem_of_mem_drop hx))
              have hlen2 : j - i = ((R.take j).drop i).length := by rw [List.length_drop, List.length_take, ← hm.out]; omega
              have hcw := hide (fun c W (hh : Cells W (some ⟨gR, i, none⟩) (((R.take j).drop i).map NV)) => hwo.out ((R.take j).drop i) (some ⟨gR, i, none⟩) (j - i) c W hlen2 hh hrm2 (by omega))
              have hcc := cells_cut hcR.out i j
              rw [← List.map_take, ← List.map_drop] at hcc
              obtain ⟨t, ht⟩ : ∃ t, t = cutW [] ((R.take j).drop i) := ⟨_, rfl⟩
              rw [← ht] at hcw
              have hDt : (D ++ [(R.take j).drop i]).map (cutW []) = D.map (cutW []) ++ [t] := by rw [List.map_append, ht]; rfl
              obtain ⟨cu, hcu⟩ : ∃ cu, cu = (R.take j).drop i := ⟨_, rfl⟩
              rw [← hcu] at hcw hcc hinv2 hDt
              replace hstop := hide hstop
              replace hrm2 := hide hrm2
              replace hlen2 := hide hlen2
              replace hcc := hide hcc
              replace ht := hide ht
              replace hDt := hide hDt
              replace hcu := hide hcu
              go_wp2_with fail
              refine (hcall.out _).mono ?_
              rintro e w4 ⟨rfl, hE4⟩
              go_wp2_with fail
              have hE24 := hide ((hE.out.trans hE2.out).trans hE4)
              have hcc4 := hide (hcc.out.ext hE24.out)
              refine (hcw.out _ _ hcc4.out).mono ?_
              rintro e w5 ⟨rfl, hE5⟩
              have hE25 := hide (hE24.out.trans hE5)
              have hown5 := hide (hE5.owns (hE4.owns (hE2.out.owns hown.out)))
              have hsz5 := hE25.out.size
              replace hE5 := hide hE5
              go_wp2_with (at_builtin; refine wpList_appS (m := 1) elemTk hown5.out (.tmp 32) (.tmp 41) rfl rfl rfl rfl rfl (one_of rfl) (by omega) hsz5 (fun A6 c6 w6 ho6 hg6 hl6 => ?_))
              have hE26 := hE25.out.grown hg6 (fun q hq => (hown5.out.lt q hq).1)
              refine ⟨⟨j, k + 1, c6, A6, D ++ [cu], rfl, rfl, by omega, by omega, hide (by rw [List.length_append, ← hk.out]; rfl), hinv2, hide ?_, hide hE26⟩, by simp only [intOf]; omega⟩
              rw [hDt.out, tkV_snoc, List.length_map, ← hk.out]
              exact ho6
            · obtain rfl : i = j := by omega
              have hstop2 := hide hstop
              clear hstop
              go_wp2_with fail
              refine (hcall.out _).mono ?_
              rintro e w4 ⟨rfl, hE4⟩
              go_wp2_with fail
              refine ⟨⟨i + 1, k, c3, A3, D, rfl, rfl, by omega, by omega, hk, hide ?_, hide (hE4.owns (hE2.out.owns hown.out)), hide ((hE.out.trans hE2.out).trans hE4)⟩, by simp only [intOf]; omega⟩
              rw [hinv.out, drop_at hrj.out, runsW_gap hb.out.symm]
        · obtain rfl : j = m := by omega
          have hij2 : i < j := h
          have hstop : ∀ x t, R.drop j = x :: t → wordR x = false := by
            intro x t hx
            rw [List.drop_eq_nil_of_le (by rw [← hm.out]; exact Nat.le_refl _)] at hx
            cases hx
          have hinv2 : runsW [] R = (D ++ [(R.take j).drop i]) ++ runsW [] (R.drop j) := by
            rw [hinv.out, hin.out, runsW_stop (take_some hij2 (by rw [← hm.out]; omega)) hstop, List.append_assoc]
            rfl
          replace hinv2 := hide hinv2
          have hrm2 : ∀ x ∈ (R.take j).drop i, x ≤ 1114111 := fun x hx => hRm.out x (List.mem_of_mem_take (List.mem_of_mem_drop hx))
          have hlen2 : j - i = ((R.take j).drop i).length := by rw [List.length_drop, List.length_take, ← hm.out]; omega
          have hcw := hide (fun c W (hh : Cells W (some ⟨gR, i, none⟩) (((R.take j).drop i).map NV)) => hwo.out ((R.take j).drop i) (some ⟨gR, i, none⟩) (j - i) c W hlen2 hh hrm2 (by omega))
          have hcc := cells_cut hcR.out i j
          rw [← List.map_take, ← List.map_drop] at hcc
          obtain ⟨t, ht⟩ : ∃ t, t = cutW [] ((R.take j).drop i) := ⟨_, rfl⟩
          rw [← ht] at hcw
          have hDt : (D ++ [(R.take j).drop i]).map (cutW []) = D.map (cutW []) ++ [t] := by rw [List.map_append, ht]; rfl
          obtain ⟨cu, hcu⟩ : ∃ cu, cu = (R.take j).drop i := ⟨_, rfl⟩
          rw [← hcu] at hcw hcc hinv2 hDt
          replace hstop := hide hstop
          replace hrm2 := hide hrm2
          replace hlen2 := hide hlen2
          replace hcc := hide hcc
          replace ht := hide ht
          replace hDt := hide hDt
          replace hcu := hide hcu
          go_wp2_with fail
          have hE24 := hide (hE.out.trans hE2.out)
          have hcc4 := hide (hcc.out.ext hE24.out)
          refine (hcw.out _ _ hcc4.out).mono ?_
          rintro e w5 ⟨rfl, hE5⟩
          have hE25 := hide (hE24.out.trans hE5)
          have hown5 := hide (hE5.owns (hE2.out.owns hown.out))
          have hsz5 := hE25.out.size
          replace hE5 := hide hE5
          go_wp2_with (at_builtin; refine wpList_appS (m := 1) elemTk hown5.out (.tmp 32) (.tmp 41) rfl rfl rfl rfl rfl (one_of rfl) (by omega) hsz5 (fun A6 c6 w6 ho6 hg6 hl6 => ?_))
          have hE26 := hE25.out.grown hg6 (fun q hq => (hown5.out.lt q hq).1)
          refine ⟨⟨j, k + 1, c6, A6, D ++ [cu], rfl, rfl, by omega, by omega, hide (by rw [List.length_append, ← hk.out]; rfl), hinv2, hide ?_, hide hE26⟩, by simp only [intOf]; omega⟩
          rw [hDt.out, tkV_snoc, List.length_map, ← hk.out]
          exact ho6
    · obtain rfl : i = m := by omega
      have hDe : runsW [] R = D := by
        rw [hinv.out, List.drop_eq_nil_of_le (by rw [← hm.out]; exact Nat.le_refl _), runsW, if_pos rfl, List.append_nil]
      have hZe : Z = D.map (cutW []) := by rw [htok.out, hDe]
      have hkl : k = Z.length := by rw [hZe, List.length_map]; exact hk.out
      rw [← hZe] at hown
      replace hDe := hide hDe
      replace hZe := hide hZe
      subst hkl
      go_wp2_with fail
      go_ret
      exact ⟨A3, c3, rfl, World.ownsRow.mono hown.out hE02.out.size, hE02.out.trans hE.out⟩
end
section
open Go.RowKit
def okPo (p : Po) : Bool := decide (0 < p.2.length) && risB 1048576 (-1) p.2
theorem okPs_eq (l : List Po) : okPs l = (risB 65536 (-1) (l.map (·.1)) && l.all okPo) := rfl
theorem all_take_snoc {α : Type} {l : List α} {f : α → Bool} {i : Nat} {x : α} (h : l[i]? = some x) : (l.take (i + 1)).all f = ((l.take i).all f && f x) := by
  obtain ⟨hi, rfl⟩ := List.getElem?_eq_some_iff.1 h
  rw [List.take_succ_eq_append_getElem hi, List.all_append]
  simp
set_option maxRecDepth 100000 in
set_option maxHeartbeats 1000000 in
theorem poCheck_any (ps : List PoC) (A : Option Addr) (m c : Nat) (w : World) (hm : m = ps.length) (h : PosOk w A ps) (hm9 : m ≤ 1000000000) :
    Calls Tryz.prog 82 #[.slice A m c] w fun e w' => e = .returned (.int .i64 (if okPs (ps.map PoC.po) then 0 else 80)) ∧ Ext w w' := by
  have hrp := hide (fun W hE => risingP_any ps A m c 65536 W hm (Cells.ext h.cells hE) hm9)
  have hri := hide (fun xs A k c W h1 h2 h3 => risingI_any xs A k c 1048576 W h1 h2 h3)
  obtain ⟨R, hR⟩ : ∃ R, R = risB 65536 (-1) (ps.map (·.doc)) := ⟨_, rfl⟩
  obtain ⟨Z, hZ⟩ : ∃ Z : Int, Z = if okPs (ps.map PoC.po) then 0 else 80 := ⟨_, rfl⟩
  have hZR : okPs (ps.map PoC.po) = (R && ps.all fun x => okPo x.po) := by
    rw [okPs_eq, List.map_map, hR, List.all_map]; rfl
  rw [hZR] at hZ
  rw [hZR, ← hZ]
  rw [← hR] at hrp
  unfold docV at hrp
  unfold idV at hri
  replace hZ := hide hZ
  replace hR := hide hR
  replace hm := hide hm
  replace h := hide h
  clear hZR
  go_enter Tryz.func82, Tryz.ntmps82
  go_wp2_with fail
  refine (hrp.out _ (Ext.refl w)).mono ?_
  rintro e w1 ⟨rfl, hE1⟩
  go_wp2_with fail
  go_loopw [3, 10] (fun s3 s10 wr => ∃ (i : Nat) (b : Bool), s3 = .bool b ∧ s10 = .int .i64 (i : Int) ∧ i ≤ m ∧ Hid (b = (R && (ps.take i).all fun x => okPo x.po)) ∧ Hid (Ext w wr)) (fun _ s10 _ => m - (intOf s10).toNat)
  case atStart => exact ⟨0, R, rfl, rfl, by omega, hide (by simp), hide hE1⟩
  case round =>
    obtain ⟨i, b, rfl, rfl, hi, hb, hE⟩ := hrel
    by_cases hlt : i < m
    · obtain ⟨x, hxi⟩ : ∃ x, ps[i]? = some x := ⟨_, List.getElem?_eq_getElem (by rw [← hm.out]; exact hlt)⟩
      obtain ⟨g, o, hA, hc0, hc1⟩ := pcells_at (h.out.cells.ext hE.out) hxi
      subst hA
      have hx := h.out.each x (List.mem_of_getElem? hxi)
      have hst := all_take_snoc (f := fun x : PoC => okPo x.po) hxi
      obtain ⟨W2, hW2⟩ : ∃ W2, W2 = wr.alloc (.cells #[.int .i64 x.doc, .slice x.A x.pos.length x.c] 107) := ⟨_, rfl⟩
      have hE2 : Ext w W2 := by rw [hW2]; exact hE.out.alloc _
      have hca := hide (fun W hE => hri.out x.pos x.A x.pos.length x.c W rfl (Cells.ext hx.1 (Ext.trans hE2 hE)) hx.2)
      have hr2 : Row W2 wr.heap.size 107 #[.int .i64 x.doc, .slice x.A x.pos.length x.c] := by rw [hW2]; exact Row.new wr _ _
      have hst2 : Hid (∀ v : Bool, v = (b && okPo x.po) → v = (R && (ps.take (i + 1)).all fun x => okPo x.po)) := hide (by
        intro v hv; rw [hv, hb.out, hst, Bool.and_assoc])
      have hokx : okPo x.po = (decide (0 < x.pos.length) && risB 1048576 (-1) x.pos) := rfl
      rw [hokx] at hst2
      have hl9 := hx.2
      replace hst := hide hst
      replace hb := hide hb
      replace hxi := hide hxi
      replace hx := hide hx
      clear hokx
      obtain ⟨d, pos, B, cB⟩ := x
      simp only at hc0 hc1 hca hst2 hr2 hl9 hW2
      obtain ⟨pl, hpl⟩ : ∃ pl, pl = pos.length := ⟨_, rfl⟩
      rw [← hpl] at hc1 hca hst2 hr2 hl9 hW2
      replace hpl := hide hpl
      obtain ⟨g2, hg2⟩ : ∃ g2, g2 = wr.heap.size := ⟨_, rfl⟩
      rw [← hg2] at hr2
      have r0 := hr2.cell 0 rfl
      have r1 := hr2.cell 1 rfl
      replace hr2 := hide hr2
      replace hg2 := hide hg2
      replace hE2 := hide hE2
      replace hW2 := hide hW2
      cases b with
      | false =>
        have hv := hide (hst2.out false rfl)
        clear hst2
        go_upto_region 5 with fail
        rw [← hW2.out, ← hg2.out]
        go_wp2_with fail
        exact ⟨⟨i + 1, false, rfl, rfl, by omega, hv, hE2⟩, by simp only [intOf]; omega⟩
      | true =>
        by_cases h0 : 0 < pl
        · obtain ⟨v, hvr⟩ : ∃ v, v = risB 1048576 (-1) pos := ⟨_, rfl⟩
          rw [← hvr] at hca hst2
          have hv := hide (hst2.out v (by rw [decide_eq_true h0, Bool.true_and, Bool.true_and]))
          clear hst2
          replace hvr := hide hvr
          go_upto_region 5 with fail
          rw [← hW2.out, ← hg2.out]
          go_wp2_with fail
          refine (hca.out _ (Ext.refl W2)).mono ?_
          rintro e w3 ⟨rfl, hE3⟩
          go_wp2_with fail
          exact ⟨⟨i + 1, v, rfl, rfl, by omega, hv, hide (hE2.out.trans hE3)⟩, by simp only [intOf]; omega⟩
        · have hv := hide (hst2.out false (by rw [decide_eq_false h0]; rfl))
          clear hst2
          go_upto_region 5 with fail
          rw [← hW2.out, ← hg2.out]
          go_wp2_with fail
          exact ⟨⟨i + 1, false, rfl, rfl, by omega, hv, hE2⟩, by simp only [intOf]; omega⟩
    · obtain rfl : i = m := by omega
      have hbe := hb.out
      rw [List.take_of_length_le (by rw [← hm.out]; exact Nat.le_refl _)] at hbe
      rw [← hbe] at hZ
      cases b with
      | true =>
        obtain rfl : Z = 0 := hZ.out
        clear hbe hb
        go_wp2_with fail
        go_ret
        exact ⟨rfl, hE.out⟩
      | false =>
        obtain rfl : Z = 80 := hZ.out
        clear hbe hb
        go_wp2_with fail
        go_ret
        exact ⟨rfl, hE.out⟩
end
section
theorem risB_take {n : Int} : ∀ {l : List Int} {lo : Int} (k : Nat), risB n lo l = true → risB n lo (l.take k) = true
  | [], lo, k, h => by rw [List.take_nil]; exact h
  | x :: t, lo, 0, h => rfl
  | x :: t, lo, k + 1, h => by
    unfold risB at h
    rw [Bool.and_eq_true, Bool.and_eq_true] at h
    rw [List.take_succ_cons, risB, h.1.1, h.1.2, risB_take k h.2]
    rfl
theorem risB_drop {n : Int} : ∀ {l : List Po} {lo : Int} (k : Nat), risB n lo (l.map (·.1)) = true → risB n (lastPo lo (l.take k)) ((l.drop k).map (·.1)) = true
  | [], lo, k, h => by rw [List.drop_nil, List.take_nil]; exact h
  | x :: t, lo, 0, h => h
  | x :: t, lo, k + 1, h => by
    rw [List.map_cons, risB, Bool.and_eq_true, Bool.and_eq_true] at h
    exact risB_drop k h.2
theorem lastPo_bd {n : Int} : ∀ {l : List Po} {lo : Int}, risB n lo (l.map (·.1)) = true → lo < n → lo ≤ lastPo lo l ∧ lastPo lo l < n
  | [], lo, _, h => ⟨Int.le_refl _, h⟩
  | x :: t, lo, h, _ => by
    rw [List.map_cons, risB, Bool.and_eq_true, Bool.and_eq_true] at h
    have h1 := of_decide_eq_true h.1.1
    have h2 := of_decide_eq_true h.1.2
    have := lastPo_bd h.2 h2
    exact ⟨by show lo ≤ lastPo x.1 t; omega, this.2⟩
theorem headPo_len : ∀ (bs : List (List Po)) (lo : Int), (∀ k : Nat, lastPo lo ((bs.take k).flatMap id) < 9223372036854775808 ∧ (blockPo lo ((bs.take k).flatMap id)).length < 9223372036854775808) → (headPo lo bs).length ≤ 20 * bs.length
  | [], lo, _ => by simp [headPo]
  | b :: bs, lo, h => by
    have h1 := h 1
    rw [List.take_succ_cons, List.take_zero, List.flatMap_cons, List.flatMap_nil, List.append_nil] at h1
    have hv := vb_len10 (n := (lastPo lo b).toNat) (by have := h1.1; simp only [id] at this; omega)
    have hv2 := vb_len10 (n := (blockPo lo b).length) (by have := h1.2; simp only [id] at this; omega)
    have ih := headPo_len bs (lastPo lo b) fun k => by
      have := h (k + 1)
      rw [List.take_succ_cons, List.flatMap_cons, lastPo_app, blockPo_app, List.length_append] at this
      exact ⟨this.1, by simp only [id] at this ⊢; omega⟩
    show (vb _ ++ vb _ ++ headPo _ bs).length ≤ _
    rw [List.length_append, List.length_append, List.length_cons]
    omega
theorem stepsL_ge : ∀ (l : List Int) (lo : Int), l.length ≤ (stepsL lo l).length
  | [], lo => by simp
  | x :: t, lo => by
    show _ ≤ (vb _ ++ stepsL x t).length
    have := stepsL_ge t x
    have := vb_pos (x - lo - 1).toNat
    rw [List.length_append, List.length_cons]
    omega
structure PoRound (P : List Po) (r : Nat) (bP : List Po) (lst : Int) : Prop where
  part : bP = (P.drop (r * 32)).take 32
  lo : -1 ≤ lst
  hi : lst < 65536
  ris : risB 65536 lst (bP.map (·.1)) = true
  pos : ∀ p ∈ bP, okPo p = true
  hi2 : -1 ≤ lastPo lst bP ∧ lastPo lst bP < 65536
  ne : 0 ≤ lastPo lst bP
  head : headPo (-1) ((chunkL 32 P).take (r + 1)) = headPo (-1) ((chunkL 32 P).take r) ++ (vb (lastPo lst bP).toNat ++ vb (blockPo lst bP).length)
  body : blockPo (-1) (P.take ((r + 1) * 32)) = blockPo (-1) (P.take (r * 32)) ++ blockPo lst bP
  last : lastPo (-1) (P.take (r * 32)) = lst
  last2 : lastPo (-1) (P.take ((r + 1) * 32)) = lastPo lst bP
  len : (blockPo (-1) (P.take (r * 32))).length + (blockPo lst bP).length ≤ (blockPo (-1) P).length
  hlen : (headPo (-1) ((chunkL 32 P).take r)).length ≤ 20 * r
theorem po_take_len (P : List Po) (k : Nat) : (blockPo (-1) (P.take k)).length ≤ (blockPo (-1) P).length := by
  conv => rhs; rw [← List.take_append_drop k P, blockPo_app, List.length_append]
  omega
theorem po_hlen {P : List Po} (hok : okPs P = true) (hsz : (blockPo (-1) P).length ≤ 50000000) (r : Nat) : (headPo (-1) ((chunkL 32 P).take r)).length ≤ 20 * r := by
  rw [okPs_eq, Bool.and_eq_true] at hok
  refine Nat.le_trans (headPo_len _ _ fun k => ?_) (Nat.mul_le_mul_left _ (List.length_take_le _ _))
  rw [List.take_take, chunkL_take (by omega)]
  have h1 := (lastPo_bd (l := P.take (min k r * 32)) (lo := -1) (n := 65536) (by rw [List.map_take]; exact risB_take _ hok.1) (by omega)).2
  have h2 := po_take_len P (min k r * 32)
  omega
theorem po_round {P : List Po} (hok : okPs P = true) (hsz : (blockPo (-1) P).length ≤ 50000000) {r : Nat} (hr : r * 32 < P.length) : PoRound P r ((P.drop (r * 32)).take 32) (lastPo (-1) (P.take (r * 32))) := by
  have hok' := hok
  rw [okPs_eq, Bool.and_eq_true] at hok
  obtain ⟨h1, h2⟩ := hok
  have hb1 := lastPo_bd (l := P.take (r * 32)) (lo := -1) (n := 65536) (by rw [List.map_take]; exact risB_take _ h1) (by omega)
  have hrs := risB_drop (r * 32) h1
  have hrb : risB 65536 (lastPo (-1) (P.take (r * 32))) (((P.drop (r * 32)).take 32).map (·.1)) = true := by rw [List.map_take]; exact risB_take _ hrs
  have hb2 := lastPo_bd hrb (by omega)
  have htk : P.take ((r + 1) * 32) = P.take (r * 32) ++ (P.drop (r * 32)).take 32 := by rw [Nat.succ_mul, List.take_add]
  have hne : 0 ≤ lastPo (lastPo (-1) (P.take (r * 32))) ((P.drop (r * 32)).take 32) := by
    cases hd : (P.drop (r * 32)).take 32 with
    | nil =>
      have := congrArg List.length hd
      rw [List.length_take, List.length_drop, List.length_nil] at this
      omega
    | cons x t =>
      rw [hd, List.map_cons] at hrb
      rw [risB, Bool.and_eq_true, Bool.and_eq_true] at hrb
      have h3 := of_decide_eq_true hrb.1.1
      have h4 := of_decide_eq_true hrb.1.2
      have h5 := lastPo_bd hrb.2 h4
      show 0 ≤ lastPo x.1 t
      omega
  refine ⟨rfl, hb1.1, hb1.2, hrb, fun p hp => List.all_eq_true.1 h2 p (List.mem_of_mem_drop (List.mem_of_mem_take hp)), ⟨by omega, hb2.2⟩, hne, ?_, ?_, rfl, ?_, ?_, po_hlen hok' hsz r⟩
  · rw [List.take_add_one, chunkL_get (by omega) r P hr, headPo_app, chunkL_take (by omega)]
    show _ ++ (vb _ ++ vb _ ++ headPo _ []) = _
    rw [show ∀ lo, headPo lo [] = [] from fun _ => rfl, List.append_nil]
  · rw [htk, blockPo_app]
  · rw [htk, lastPo_app]
  · have := po_take_len P ((r + 1) * 32)
    rw [htk, blockPo_app, List.length_append] at this
    exact this
theorem encPs_all (P : List Po) (r : Nat) (h : P.length ≤ r * 32) : encPs P = vb P.length ++ headPo (-1) ((chunkL 32 P).take r) ++ blockPo (-1) (P.take (r * 32)) := by
  have := chunkL_none (by omega) r P h
  rw [List.take_of_length_le this, List.take_of_length_le h]
  rfl
end
section
abbrev Dc := Int × Ev
def okD (p : Dc) : Bool := decide (checkE p.2.fs = 0)
def okDs (l : List Dc) : Bool := decide (l.length ≤ 65536) && (risB 1099511627777 0 (l.map (·.1)) && l.all okD)
def oneD (last : Int) (p : Dc) : List UInt8 := vb (p.1 - last - 1).toNat ++ putE p.2
def blockD : Int → List Dc → List UInt8
  | _, [] => []
  | last, p :: t => oneD last p ++ blockD p.1 t
def lastD : Int → List Dc → Int
  | last, [] => last
  | _, p :: t => lastD p.1 t
def headD : Int → List (List Dc) → List UInt8
  | _, [] => []
  | last, b :: bs => vb (lastD last b).toNat ++ vb (blockD last b).length ++ headD (lastD last b) bs
def encDs (l : List Dc) : List UInt8 := vb l.length ++ headD 0 (chunkL 16 l) ++ blockD 0 l
theorem blockD_app : ∀ (a b : List Dc) (last : Int), blockD last (a ++ b) = blockD last a ++ blockD (lastD last a) b
  | [], b, last => rfl
  | p :: t, b, last => by
    show oneD last p ++ blockD p.1 (t ++ b) = _
    rw [blockD_app t b]
    show _ = (oneD last p ++ blockD p.1 t) ++ blockD (lastD p.1 t) b
    rw [List.append_assoc]
theorem lastD_app : ∀ (a b : List Dc) (last : Int), lastD last (a ++ b) = lastD (lastD last a) b
  | [], b, last => rfl
  | p :: t, b, last => lastD_app t b p.1
theorem headD_app : ∀ (a b : List (List Dc)) (last : Int), headD last (a ++ b) = headD last a ++ headD (lastD last (a.flatMap id)) b
  | [], b, last => rfl
  | p :: t, b, last => by
    show vb (lastD last p).toNat ++ vb (blockD last p).length ++ headD (lastD last p) (t ++ b) = _
    rw [headD_app t b, List.flatMap_cons]
    show _ = (vb (lastD last p).toNat ++ vb (blockD last p).length ++ headD (lastD last p) t) ++ headD (lastD last (p ++ t.flatMap id)) b
    rw [lastD_app, List.append_assoc _ _ (headD _ b)]
theorem risD_drop {n : Int} : ∀ {l : List Dc} {lo : Int} (k : Nat), risB n lo (l.map (·.1)) = true → risB n (lastD lo (l.take k)) ((l.drop k).map (·.1)) = true
  | [], lo, k, h => by rw [List.drop_nil, List.take_nil]; exact h
  | x :: t, lo, 0, h => h
  | x :: t, lo, k + 1, h => by
    rw [List.map_cons, risB, Bool.and_eq_true, Bool.and_eq_true] at h
    exact risD_drop k h.2
theorem lastD_bd {n : Int} : ∀ {l : List Dc} {lo : Int}, risB n lo (l.map (·.1)) = true → lo < n → lo ≤ lastD lo l ∧ lastD lo l < n
  | [], lo, _, h => ⟨Int.le_refl _, h⟩
  | x :: t, lo, h, _ => by
    rw [List.map_cons, risB, Bool.and_eq_true, Bool.and_eq_true] at h
    have h1 := of_decide_eq_true h.1.1
    have h2 := of_decide_eq_true h.1.2
    have := lastD_bd h.2 h2
    exact ⟨by show lo ≤ lastD x.1 t; omega, this.2⟩
theorem headD_len : ∀ (bs : List (List Dc)) (lo : Int), (∀ k : Nat, lastD lo ((bs.take k).flatMap id) < 9223372036854775808 ∧ (blockD lo ((bs.take k).flatMap id)).length < 9223372036854775808) → (headD lo bs).length ≤ 20 * bs.length
  | [], lo, _ => by simp [headD]
  | b :: bs, lo, h => by
    have h1 := h 1
    rw [List.take_succ_cons, List.take_zero, List.flatMap_cons, List.flatMap_nil, List.append_nil] at h1
    have hv := vb_len10 (n := (lastD lo b).toNat) (by have := h1.1; simp only [id] at this; omega)
    have hv2 := vb_len10 (n := (blockD lo b).length) (by have := h1.2; simp only [id] at this; omega)
    have ih := headD_len bs (lastD lo b) fun k => by
      have := h (k + 1)
      rw [List.take_succ_cons, List.flatMap_cons, lastD_app, blockD_app, List.length_append] at this
      exact ⟨this.1, by simp only [id] at this ⊢; omega⟩
    show (vb _ ++ vb _ ++ headD _ bs).length ≤ _
    rw [List.length_append, List.length_append, List.length_cons]
    omega
structure SdRound (P : List Dc) (r : Nat) (bP : List Dc) (lst : Int) : Prop where
  part : bP = (P.drop (r * 16)).take 16
  lo : 0 ≤ lst
  hi : lst < 1099511627777
  ris : risB 1099511627777 lst (bP.map (·.1)) = true
  pos : ∀ p ∈ bP, okD p = true
  hi2 : 0 ≤ lastD lst bP ∧ lastD lst bP < 1099511627777
  ne : 0 ≤ lastD lst bP
  head : headD 0 ((chunkL 16 P).take (r + 1)) = headD 0 ((chunkL 16 P).take r) ++ (vb (lastD lst bP).toNat ++ vb (blockD lst bP).length)
  body : blockD 0 (P.take ((r + 1) * 16)) = blockD 0 (P.take (r * 16)) ++ blockD lst bP
  last : lastD 0 (P.take (r * 16)) = lst
  last2 : lastD 0 (P.take ((r + 1) * 16)) = lastD lst bP
  len : (blockD 0 (P.take (r * 16))).length + (blockD lst bP).length ≤ (blockD 0 P).length
  hlen : (headD 0 ((chunkL 16 P).take r)).length ≤ 20 * r
theorem sd_take_len (P : List Dc) (k : Nat) : (blockD 0 (P.take k)).length ≤ (blockD 0 P).length := by
  conv => rhs; rw [← List.take_append_drop k P, blockD_app, List.length_append]
  omega
theorem sd_hlen {P : List Dc} (hok : okDs P = true) (hsz : (blockD 0 P).length ≤ 50000000) (r : Nat) : (headD 0 ((chunkL 16 P).take r)).length ≤ 20 * r := by
  unfold okDs at hok; rw [Bool.and_eq_true, Bool.and_eq_true] at hok; replace hok := hok.2
  refine Nat.le_trans (headD_len _ _ fun k => ?_) (Nat.mul_le_mul_left _ (List.length_take_le _ _))
  rw [List.take_take, chunkL_take (by omega)]
  have h1 := (lastD_bd (l := P.take (min k r * 16)) (lo := 0) (n := 1099511627777) (by rw [List.map_take]; exact risB_take _ hok.1) (by omega)).2
  have h2 := sd_take_len P (min k r * 16)
  omega
theorem sd_round {P : List Dc} (hok : okDs P = true) (hsz : (blockD 0 P).length ≤ 50000000) {r : Nat} (hr : r * 16 < P.length) : SdRound P r ((P.drop (r * 16)).take 16) (lastD 0 (P.take (r * 16))) := by
  have hok' := hok
  unfold okDs at hok; rw [Bool.and_eq_true, Bool.and_eq_true] at hok; replace hok := hok.2
  obtain ⟨h1, h2⟩ := hok
  have hb1 := lastD_bd (l := P.take (r * 16)) (lo := 0) (n := 1099511627777) (by rw [List.map_take]; exact risB_take _ h1) (by omega)
  have hrs := risD_drop (r * 16) h1
  have hrb : risB 1099511627777 (lastD 0 (P.take (r * 16))) (((P.drop (r * 16)).take 16).map (·.1)) = true := by rw [List.map_take]; exact risB_take _ hrs
  have hb2 := lastD_bd hrb (by omega)
  have htk : P.take ((r + 1) * 16) = P.take (r * 16) ++ (P.drop (r * 16)).take 16 := by rw [Nat.succ_mul, List.take_add]
  have hne : 0 ≤ lastD (lastD 0 (P.take (r * 16))) ((P.drop (r * 16)).take 16) := by
    cases hd : (P.drop (r * 16)).take 16 with
    | nil =>
      have := congrArg List.length hd
      rw [List.length_take, List.length_drop, List.length_nil] at this
      omega
    | cons x t =>
      rw [hd, List.map_cons] at hrb
      rw [risB, Bool.and_eq_true, Bool.and_eq_true] at hrb
      have h3 := of_decide_eq_true hrb.1.1
      have h4 := of_decide_eq_true hrb.1.2
      have h5 := lastD_bd hrb.2 h4
      show 0 ≤ lastD x.1 t
      omega
  refine ⟨rfl, hb1.1, hb1.2, hrb, fun p hp => List.all_eq_true.1 h2 p (List.mem_of_mem_drop (List.mem_of_mem_take hp)), ⟨by omega, hb2.2⟩, hne, ?_, ?_, rfl, ?_, ?_, sd_hlen hok' hsz r⟩
  · rw [List.take_add_one, chunkL_get (by omega) r P hr, headD_app, chunkL_take (by omega)]
    show _ ++ (vb _ ++ vb _ ++ headD _ []) = _
    rw [show ∀ lo, headD lo [] = [] from fun _ => rfl, List.append_nil]
  · rw [htk, blockD_app]
  · rw [htk, lastD_app]
  · have := sd_take_len P ((r + 1) * 16)
    rw [htk, blockD_app, List.length_append] at this
    exact this
theorem encDs_all (P : List Dc) (r : Nat) (h : P.length ≤ r * 16) : encDs P = vb P.length ++ headD 0 ((chunkL 16 P).take r) ++ blockD 0 (P.take (r * 16)) := by
  have := chunkL_none (by omega) r P h
  rw [List.take_of_length_le this, List.take_of_length_le h]
  rfl
end
section
structure En where
  t : List UInt8
  off : Nat
  len : Nat
  n : Nat
def cpl : List UInt8 → List UInt8 → Nat
  | x :: a, y :: b => if x = y then cpl a b + 1 else 0
  | _, _ => 0
theorem cpl_le : ∀ (a b : List UInt8), cpl a b ≤ a.length ∧ cpl a b ≤ b.length
  | [], b => by unfold cpl; simp
  | x :: a, [] => by unfold cpl; simp
  | x :: a, y :: b => by
    unfold cpl
    have := cpl_le a b
    split
    · simp only [List.length_cons]; omega
    · simp
theorem cpl_take : ∀ (a b : List UInt8), a.take (cpl a b) = b.take (cpl a b)
  | [], b => by unfold cpl; simp
  | x :: a, [] => by unfold cpl; simp
  | x :: a, y :: b => by
    unfold cpl
    split
    · rename_i h
      rw [List.take_succ_cons, List.take_succ_cons, cpl_take a b, h]
    · simp
theorem cpl_drop : ∀ (i : Nat) (a b : List UInt8), a.take i = b.take i → i ≤ a.length → i ≤ b.length → cpl a b = i + cpl (a.drop i) (b.drop i)
  | 0, a, b, _, _, _ => by simp
  | i + 1, [], b, _, h, _ => by simp at h
  | i + 1, x :: a, [], _, _, h => by simp at h
  | i + 1, x :: a, y :: b, h, h1, h2 => by
    rw [List.take_succ_cons, List.take_succ_cons] at h
    injection h with h3 h4
    rw [cpl, if_pos h3, cpl_drop i a b h4 (by simpa using h1) (by simpa using h2), List.drop_succ_cons, List.drop_succ_cons]
    omega
def okEn (e : En) : Prop := e.t.length ≤ 65 ∧ e.off ≤ 67108864 ∧ e.len ≤ 67108864 ∧ e.n ≤ 67108864
structure OkEs (l : List En) : Prop where
  few : l.length ≤ 262144
  each : ∀ e ∈ l, okEn e ∧ e.t ≠ []
  up : l.Pairwise fun a b => a.t < b.t
def enB (last : List UInt8) (e : En) : List UInt8 := vb (cpl last e.t) ++ txL (e.t.drop (cpl last e.t)) ++ (vb e.off ++ vb e.len ++ vb e.n)
def blockE : List UInt8 → List En → List UInt8
  | _, [] => []
  | last, e :: t => enB last e ++ blockE e.t t
def partsE : List (List En) → List UInt8
  | [] => []
  | c :: cs => vb (blockE [] c).length ++ blockE [] c ++ partsE cs
def encEs (l : List En) : List UInt8 := vb l.length ++ partsE (chunkL 16 l)
theorem partsE_app : ∀ (a b : List (List En)), partsE (a ++ b) = partsE a ++ partsE b
  | [], b => rfl
  | c :: cs, b => by
    show vb _ ++ blockE [] c ++ partsE (cs ++ b) = _
    rw [partsE_app cs b, ← List.append_assoc]
    rfl
theorem enB_len {last : List UInt8} {e : En} (h : okEn e) : (enB last e).length ≤ 200 := by
  obtain ⟨h1, h2, h3, h4⟩ := h
  have hc := cpl_le last e.t
  have v1 := vb_len10 (n := cpl last e.t) (by omega)
  have v2 := vb_len10 (n := e.off) (by omega)
  have v3 := vb_len10 (n := e.len) (by omega)
  have v4 := vb_len10 (n := e.n) (by omega)
  have v5 := txL_len (s := e.t.drop (cpl last e.t)) (by rw [List.length_drop]; omega)
  have v6 : (e.t.drop (cpl last e.t)).length ≤ e.t.length := by rw [List.length_drop]; omega
  unfold enB
  simp only [List.length_append]
  omega
theorem blockE_len : ∀ {l : List En} {last : List UInt8}, (∀ e ∈ l, okEn e) → (blockE last l).length ≤ 200 * l.length
  | [], _, _ => by simp [blockE]
  | e :: t, last, h => by
    have h1 := enB_len (last := last) (h e (List.mem_cons_self ..))
    have h2 := blockE_len (l := t) (last := e.t) fun x hx => h x (List.mem_cons_of_mem _ hx)
    show (enB last e ++ blockE e.t t).length ≤ _
    rw [List.length_append, List.length_cons]
    omega
theorem partsE_len : ∀ {cs : List (List En)}, (∀ c ∈ cs, (∀ e ∈ c, okEn e) ∧ c.length ≤ 16) → (partsE cs).length ≤ 3300 * cs.length
  | [], _ => by simp [partsE]
  | c :: cs, h => by
    obtain ⟨h1, h2⟩ := h c (List.mem_cons_self ..)
    have h3 := blockE_len (last := []) h1
    have h4 := partsE_len (cs := cs) fun x hx => h x (List.mem_cons_of_mem _ hx)
    have h5 := vb_len10 (n := (blockE [] c).length) (by omega)
    show (vb _ ++ blockE [] c ++ partsE cs).length ≤ _
    rw [List.length_append, List.length_append, List.length_cons]
    omega
theorem partsE_take {l : List En} (h : ∀ e ∈ l, okEn e) (hl : l.length ≤ 262144) (r : Nat) : (partsE ((chunkL 16 l).take r)).length ≤ 60000000 := by
  have h1 := partsE_len (cs := (chunkL 16 l).take r) fun c hc => ⟨fun e he => h e (chunkL_mem (by omega) (List.mem_of_mem_take hc) e he), (chunkL_ne (by omega) (List.mem_of_mem_take hc)).2⟩
  have h2 : ((chunkL 16 l).take r).length ≤ (chunkL 16 l).length := List.length_take_le' ..
  rw [chunkL_len (by omega)] at h2
  omega
theorem encEs_all (l : List En) (r : Nat) (h : l.length ≤ r * 16) : encEs l = vb l.length ++ partsE ((chunkL 16 l).take r) := by
  have := chunkL_none (by omega) r l h
  rw [List.take_of_length_le this]
  rfl
theorem partsE_next {l : List En} {r : Nat} (h : r * 16 < l.length) : partsE ((chunkL 16 l).take (r + 1)) = partsE ((chunkL 16 l).take r) ++ (vb (blockE [] ((l.drop (r * 16)).take 16)).length ++ blockE [] ((l.drop (r * 16)).take 16)) := by
  rw [List.take_add_one, chunkL_get (by omega) r l h, partsE_app]
  show _ ++ (vb _ ++ blockE [] _ ++ partsE []) = _
  rw [show partsE [] = [] from rfl, List.append_nil]
end
section
def fnvS (h : Nat) (c : UInt8) : Nat := (h ^^^ c.toNat) * 1099511628211 % 18446744073709551616
def fnv (s : List UInt8) : Nat := s.foldl fnvS 14695981039346656037
theorem fnv_snoc (s : List UInt8) (c : UInt8) : fnv (s ++ [c]) = fnvS (fnv s) c := by unfold fnv; rw [List.foldl_append, List.foldl_cons, List.foldl_nil]
theorem fnvS_lt (h : Nat) (c : UInt8) : fnvS h c < 18446744073709551616 := by unfold fnvS; exact Nat.mod_lt _ (by omega)
def fpl (s : List UInt8) (m i : Nat) : Nat := (fnv s % 4294967296 + i * (fnv s / 4294967296 ||| 1)) % m
def hasB (f : List UInt8) (k : Nat) : Bool := decide ((f.getD (k / 8) 0).toNat / 2 ^ (k % 8) % 2 = 1)
def setB (f : List UInt8) (k : Nat) : List UInt8 := f.set (k / 8) (UInt8.ofNat ((f.getD (k / 8) 0).toNat ||| 2 ^ (k % 8)))
def addB (f : List UInt8) (s : List UInt8) : List UInt8 := setB (setB (setB (setB f (fpl s (8 * f.length) 0)) (fpl s (8 * f.length) 1)) (fpl s (8 * f.length) 2)) (fpl s (8 * f.length) 3)
def filL (n : Nat) : Nat := (min (max (10 * n) 64) 1048576 + 7) / 8
def ofB (ts : List (List UInt8)) : List UInt8 := ts.foldl addB (List.replicate (filL (min ts.length 262144)) 0)
def mayB (f : List UInt8) (s : List UInt8) : Bool := hasB f (fpl s (8 * f.length) 0) && hasB f (fpl s (8 * f.length) 1) && hasB f (fpl s (8 * f.length) 2) && hasB f (fpl s (8 * f.length) 3)
theorem setB_len (f : List UInt8) (k : Nat) : (setB f k).length = f.length := List.length_set ..
theorem addB_len (f : List UInt8) (s : List UInt8) : (addB f s).length = f.length := by unfold addB; rw [setB_len, setB_len, setB_len, setB_len]
theorem filL_bd (n : Nat) : 8 ≤ filL n ∧ filL n ≤ 131072 := by unfold filL; omega
theorem ofB_len (ts : List (List UInt8)) : (ofB ts).length = filL (min ts.length 262144) := by
  have key : ∀ (l : List (List UInt8)) (f : List UInt8), (l.foldl addB f).length = f.length := by
    intro l
    induction l with
    | nil => exact fun f => rfl
    | cons c l ih => exact fun f => by rw [List.foldl_cons, ih, addB_len]
  unfold ofB
  rw [key, List.length_replicate]
theorem or_lt {x k : Nat} (hx : x < 256) (hk : k < 8) : x ||| 2 ^ k < 256 := by
  have : 2 ^ k < 2 ^ 8 := Nat.pow_lt_pow_right (by omega) hk
  exact Nat.or_lt_two_pow (n := 8) hx this
theorem hasB_set {f : List UInt8} {k : Nat} (hk : k < 8 * f.length) (j : Nat) : hasB (setB f k) j = (decide (j = k) || hasB f j) := by
  have hkl : k / 8 < f.length := by omega
  have hx := (f.getD (k / 8) 0).toNat_lt
  have ho := or_lt hx (Nat.mod_lt k (show 0 < 8 by omega))
  have hn : (UInt8.ofNat ((f.getD (k / 8) 0).toNat ||| 2 ^ (k % 8))).toNat = (f.getD (k / 8) 0).toNat ||| 2 ^ (k % 8) := by rw [UInt8.toNat_ofNat']; exact Nat.mod_eq_of_lt ho
  have htb : ∀ (x i : Nat), decide (x / 2 ^ i % 2 = 1) = x.testBit i := fun x i => by rw [Nat.testBit_eq_decide_div_mod_eq]
  unfold hasB setB
  by_cases hj : j / 8 = k / 8
  · have hg : (f.set (k / 8) (UInt8.ofNat ((f.getD (k / 8) 0).toNat ||| 2 ^ (k % 8)))).getD (j / 8) 0 = UInt8.ofNat ((f.getD (k / 8) 0).toNat ||| 2 ^ (k % 8)) := by
      rw [hj, List.getD_eq_getElem?_getD, List.getElem?_set, if_pos rfl, if_pos hkl]; rfl
    rw [hg, hn, htb, htb, Nat.testBit_or, Nat.testBit_two_pow, hj, Bool.or_comm]
    congr 1
    by_cases e : j = k
    · rw [e, decide_eq_true rfl, decide_eq_true rfl]
    · rw [decide_eq_false e, decide_eq_false (by omega)]
  · have hg : (f.set (k / 8) (UInt8.ofNat ((f.getD (k / 8) 0).toNat ||| 2 ^ (k % 8)))).getD (j / 8) 0 = f.getD (j / 8) 0 := by
      rw [List.getD_eq_getElem?_getD, List.getElem?_set, if_neg (fun e => hj e.symm), ← List.getD_eq_getElem?_getD]
    rw [hg, decide_eq_false (show ¬ j = k by rintro rfl; exact hj rfl), Bool.false_or]
theorem fpl_lt (s : List UInt8) {m : Nat} (i : Nat) (hm : 0 < m) : fpl s m i < m := Nat.mod_lt _ hm
theorem hasB_add {f : List UInt8} (hf : 0 < f.length) (s : List UInt8) (j : Nat) : hasB (addB f s) j = ((decide (j = fpl s (8 * f.length) 3) || (decide (j = fpl s (8 * f.length) 2) || (decide (j = fpl s (8 * f.length) 1) || (decide (j = fpl s (8 * f.length) 0) || hasB f j))))) := by
  unfold addB
  rw [hasB_set (by rw [setB_len, setB_len, setB_len]; exact fpl_lt s _ (by omega)), hasB_set (by rw [setB_len, setB_len]; exact fpl_lt s _ (by omega)), hasB_set (by rw [setB_len]; exact fpl_lt s _ (by omega)), hasB_set (fpl_lt s _ (by omega))]
theorem mayB_of {ts : List (List UInt8)} {t : List UInt8} (h : t ∈ ts) : mayB (ofB ts) t = true := by
  have grow : ∀ (l : List (List UInt8)) (f : List UInt8), 0 < f.length → ∀ j, hasB f j = true → hasB (l.foldl addB f) j = true := by
    intro l
    induction l with
    | nil => exact fun f _ j h => h
    | cons c l ih => exact fun f hf j h => ih _ (by rw [addB_len]; exact hf) j (by rw [hasB_add hf, h]; simp)
  have key : ∀ (l : List (List UInt8)) (f : List UInt8), 0 < f.length → t ∈ l → ∀ i, i < 4 → hasB (l.foldl addB f) (fpl t (8 * f.length) i) = true := by
    intro l
    induction l with
    | nil => exact fun f _ h => absurd h List.not_mem_nil
    | cons c l ih =>
      intro f hf hm i hi
      rw [List.foldl_cons]
      rcases List.mem_cons.1 hm with rfl | hm
      · refine grow l _ (by rw [addB_len]; exact hf) _ ?_
        rw [hasB_add hf]
        rcases (show i = 0 ∨ i = 1 ∨ i = 2 ∨ i = 3 by omega) with rfl | rfl | rfl | rfl <;> simp
      · have := ih (addB f c) (by rw [addB_len]; exact hf) hm i hi
        rw [addB_len] at this
        exact this
  have hl : 0 < (List.replicate (filL (min ts.length 262144)) (0 : UInt8)).length := by rw [List.length_replicate]; have := filL_bd (min ts.length 262144); omega
  have hk := key ts _ hl h
  have hlen : 8 * (List.replicate (filL (min ts.length 262144)) (0 : UInt8)).length = 8 * (ofB ts).length := by rw [List.length_replicate, ofB_len]
  rw [hlen] at hk
  have hk2 : ∀ i, i < 4 → hasB (ofB ts) (fpl t (8 * (ofB ts).length) i) = true := hk
  unfold mayB
  have h0 := hk2 0 (by omega)
  have h1 := hk2 1 (by omega)
  have h2 := hk2 2 (by omega)
  have h3 := hk2 3 (by omega)
  rw [h0, h1, h2, h3]
  rfl
end
section
def cstep (y : Nat) : Nat := if y % 2 = 1 then (y / 2) ^^^ 3988292384 else y / 2
def c8 (y : Nat) : Nat := cstep (cstep (cstep (cstep (cstep (cstep (cstep (cstep y)))))))
def con (x : Nat) (c : UInt8) : Nat := c8 (x ^^^ c.toNat)
def cnot (x : Nat) : Nat := 4294967295 - x
def cnext (s : Nat) (l : List UInt8) : Nat := cnot (l.foldl con (cnot s))
theorem half_xor (a b : Nat) : (a ^^^ b) / 2 = (a / 2) ^^^ (b / 2) := by
  have := Nat.shiftRight_xor_distrib (a := a) (b := b) (i := 1)
  simpa [Nat.shiftRight_eq_div_pow] using this
theorem odd_xor (a b : Nat) : (a ^^^ b) % 2 = (a % 2) ^^^ (b % 2) := by
  have := Nat.xor_mod_two_pow (a := a) (b := b) (n := 1)
  simpa using this
theorem cstep_xor (a b : Nat) : cstep (a ^^^ b) = cstep a ^^^ cstep b := by
  unfold cstep
  rw [half_xor, odd_xor]
  rcases Nat.mod_two_eq_zero_or_one a with ha | ha <;> rcases Nat.mod_two_eq_zero_or_one b with hb | hb <;> rw [ha, hb]
  · rfl
  · show (a / 2 ^^^ b / 2) ^^^ 3988292384 = (a / 2) ^^^ (b / 2 ^^^ 3988292384)
    rw [Nat.xor_assoc]
  · show (a / 2 ^^^ b / 2) ^^^ 3988292384 = (a / 2 ^^^ 3988292384) ^^^ (b / 2)
    rw [Nat.xor_assoc, Nat.xor_assoc, Nat.xor_comm (b / 2)]
  · show (a / 2 ^^^ b / 2) = (a / 2 ^^^ 3988292384) ^^^ (b / 2 ^^^ 3988292384)
    rw [Nat.xor_assoc, ← Nat.xor_assoc 3988292384, Nat.xor_comm 3988292384 (b / 2), Nat.xor_assoc (b / 2), Nat.xor_self, Nat.xor_zero]
theorem c8_xor (a b : Nat) : c8 (a ^^^ b) = c8 a ^^^ c8 b := by
  unfold c8
  simp only [cstep_xor]
theorem cstep_two (z : Nat) : cstep (z * 2) = z := by
  unfold cstep
  rw [if_neg (by omega)]
  omega
theorem c8_high (z : Nat) : c8 (z * 256) = z := by
  unfold c8
  rw [show z * 256 = z * 2 * 2 * 2 * 2 * 2 * 2 * 2 * 2 by omega]
  simp only [cstep_two]
theorem split_low (y : Nat) : y = (y % 256) ^^^ (y / 256 * 256) := by
  have h : y / 256 * 256 ||| y % 256 = y / 256 * 256 + y % 256 := by
    have := Nat.shiftLeft_add_eq_or_of_lt (b := y % 256) (i := 8) (Nat.mod_lt _ (by decide)) (y / 256)
    rw [Nat.shiftLeft_eq] at this
    exact this.symm
  apply Nat.eq_of_testBit_eq
  intro i
  rw [Nat.testBit_xor]
  have h1 : (y % 256).testBit i = (decide (i < 8) && y.testBit i) := Nat.testBit_mod_two_pow y 8 i
  have h2 : (y / 256 * 256).testBit i = (decide (8 ≤ i) && y.testBit i) := by
    have e : y / 256 * 256 = (y >>> 8) <<< 8 := by rw [Nat.shiftRight_eq_div_pow, Nat.shiftLeft_eq]
    rw [e, Nat.testBit_shiftLeft, Nat.testBit_shiftRight]
    by_cases h8 : 8 ≤ i
    · rw [show 8 + (i - 8) = i by omega]
    · simp [h8]
  rw [h1, h2]
  by_cases h8 : i < 8
  · simp [h8, show ¬ 8 ≤ i by omega]
  · simp [h8, show 8 ≤ i by omega]
theorem con_table (x : Nat) (c : UInt8) : con x c = c8 ((x ^^^ c.toNat) % 256) ^^^ (x / 256) := by
  unfold con
  have hc : c.toNat / 256 = 0 := by have := c.toNat_lt; omega
  have h := Nat.shiftRight_xor_distrib (a := x) (b := c.toNat) (i := 8)
  rw [Nat.shiftRight_eq_div_pow, Nat.shiftRight_eq_div_pow, Nat.shiftRight_eq_div_pow] at h
  have h2 : (x ^^^ c.toNat) / 256 = x / 256 := by
    have : (2 : Nat) ^ 8 = 256 := rfl
    rw [this, hc, Nat.xor_zero] at h
    exact h
  conv => lhs; rw [split_low (x ^^^ c.toNat)]
  rw [c8_xor, c8_high, h2]
theorem cstep_lt {y : Nat} (h : y < 4294967296) : cstep y < 4294967296 := by
  unfold cstep
  split
  · exact Nat.xor_lt_two_pow (n := 32) (by omega) (by omega)
  · omega
theorem c8_lt {y : Nat} (h : y < 4294967296) : c8 y < 4294967296 := by
  unfold c8
  exact cstep_lt (cstep_lt (cstep_lt (cstep_lt (cstep_lt (cstep_lt (cstep_lt (cstep_lt h)))))))
theorem con_lt {x : Nat} (c : UInt8) (h : x < 4294967296) : con x c < 4294967296 := by
  unfold con
  have := c.toNat_lt
  exact c8_lt (Nat.xor_lt_two_pow (n := 32) (by omega) (by omega))
theorem fold_lt : ∀ (l : List UInt8) {x : Nat}, x < 4294967296 → l.foldl con x < 4294967296
  | [], _, h => h
  | c :: l, _, h => fold_lt l (con_lt c h)
theorem cnext_lt (s : Nat) (l : List UInt8) : cnext s l < 4294967296 := by
  unfold cnext cnot
  omega
end
section
open Go.RowKit
def citer : Nat → Nat → Nat
  | 0, y => y
  | k + 1, y => citer k (cstep y)
theorem citer8 (y : Nat) : c8 y = citer 8 y := rfl
theorem citer_step {z v j : Nat} (h : z = citer (8 - j) v) (hj : j < 8) : z = citer (8 - (j + 1)) (cstep v) := by
  rw [h, show 8 - j = (8 - (j + 1)) + 1 by omega]
  rfl
theorem citer_end {z v j : Nat} (h : z = citer (8 - j) v) (hj : 8 ≤ j) : z = v := by
  rw [h, show 8 - j = 0 by omega]
  rfl
theorem cstep_odd {v : Nat} (h : v % 2 = 1) : cstep v = (v / 2) ^^^ 3988292384 := by unfold cstep; rw [if_pos h]
theorem cstep_even {v : Nat} (h : v % 2 = 0) : cstep v = v / 2 := by unfold cstep; rw [if_neg (by omega)]
theorem xor_poly {d : Nat} (h : d < 4294967296) : bits .xor .u32 (d : Int) 3988292384 = ((d ^^^ 3988292384 : Nat) : Int) := by
  rw [show (3988292384 : Int) = ((3988292384 : Nat) : Int) from rfl, u32_xor_nat _ _ h (by omega)]
end
end Go.Proofs.YtkdcnhnaiknaaaaGreat
