/- loggiaref02: Get. -/
import Derived.Test.YtijnomopcpgikaaDoorVaC
namespace Go.Proofs.YtijnomopcpgikaaDoor
open Go.RowKit

theorem add_bits {i acc y : Nat} (hi : i ≤ 9) (ha : acc < 128 ^ i) (hy : y < 128) (h9 : i = 9 → y ≤ 1) : IntKind.u64.wrap ((acc : Int) + IntKind.u64.wrap ((y : Int) * 2 ^ (7 * i))) = ((acc + 128 ^ i * y : Nat) : Int) := by
  have e : ∀ y : Int, IntKind.u64.wrap y = y % 18446744073709551616 := fun y => by simp [IntKind.wrap, IntKind.bits, IntKind.signed]
  have hlt : acc + 128 ^ i * y < 18446744073709551616 := by
    rcases Nat.lt_or_ge i 9 with h | h
    · have h1 := acc_lt ha hy
      have h2 : 128 ^ (i + 1) ≤ 128 ^ 9 := Nat.pow_le_pow_right (by omega) (by omega)
      omega
    · obtain rfl : i = 9 := by omega
      have := h9 rfl
      omega
  have hp : (128 : Nat) ^ i = 2 ^ (7 * i) := by rw [show (128 : Nat) = 2 ^ 7 from rfl, ← Nat.pow_mul]
  rw [hp] at hlt ⊢
  have : (y : Int) * 2 ^ (7 * i) = ((2 ^ (7 * i) * y : Nat) : Int) := by simp [Int.mul_comm]
  rw [e, e, this]
  omega
set_option maxRecDepth 100000 in
set_option maxHeartbeats 2000000 in
theorem rget_any (A : Option Addr) (n c : Nat) (l : List UInt8) (w0 w : World) (h : In8 w0 A n c l) (hw : Ext w0 w) (hle : n ≤ 1000000000) :
    Calls Tryd.prog 35 #[.slice A n c] w fun e w' => Got w0 w (getV 0 l) e w' := by
  have hcap := h.cap
  replace h := hide h
  go_enter Tryd.func35, Tryd.ntmps35
  go_wp2_with fail
  go_loopw [5, 6] (fun s5 s6 wr => ∃ (i acc : Nat), s6 = .int .i64 i ∧ s5 = .int .u64 acc ∧ i ≤ n ∧ i ≤ 10 ∧ acc < 128 ^ i ∧ Hid (getV 0 l = comb i acc (getV i (l.drop i))) ∧ Hid (Ext w wr)) (fun _ s6 _ => n - (intOf s6).toNat)
  case atStart => exact ⟨0, 0, rfl, rfl, by omega, by omega, by simp, hide (by rw [comb_zero]; rfl), hide (Ext.refl w)⟩
  case round =>
    obtain ⟨i, acc, rfl, rfl, hi, hi10, hacc, hg, hE⟩ := hrel
    by_cases hik : i < n ∧ i < 10
    · obtain ⟨hik, hi9⟩ := hik
      have hil : i < l.length := by rw [← h.out.len]; omega
      obtain ⟨g, o, rfl, hc⟩ := h.out.bytes.at_ (by omega)
      have hcell := (hw.trans hE.out).cell (hc i hil)
      have hgg := getV_get (List.getElem?_eq_getElem hil) (by omega) acc
      rw [← hg.out] at hgg
      obtain ⟨x, hx⟩ : ∃ x, x = l[i].toNat := ⟨_, rfl⟩
      have hx256 : x < 256 := by rw [hx]; exact l[i].toNat_lt
      rw [← hx] at hcell hgg
      replace hx := hide hx
      replace hgg := hide hgg
      obtain ⟨y, hy⟩ : ∃ y, y = x % 128 := ⟨_, rfl⟩
      have hmod : (x : Int) % 128 = (y : Int) := by omega
      have hyy : y < 128 := by omega
      replace hy := hide hy
      obtain ⟨A', c', hrun, hin⟩ := h.out.from_ (fr := i + 1) (by omega) (z := (i : Int) + 1) (by omega)
      have hin' := hide hin
      clear hc hg hin
      have hor := fun h9 : i = 9 → y ≤ 1 => add_bits (i := i) (acc := acc) (y := y) (by omega) hacc hyy h9
      replace hor := hide hor
      have hnx := fun (h1 : ¬((i = 9 ∧ 1 < x) ∨ (0 < i ∧ x = 0))) (h2 : 128 ≤ x) => hgg.out.trans ((if_neg h1).trans (if_neg (by omega)))
      have hok := fun (h1 : ¬((i = 9 ∧ 1 < x) ∨ (0 < i ∧ x = 0))) (h2 : x < 128) => hgg.out.trans ((if_neg h1).trans (if_pos h2))
      have hbad := fun (h1 : (i = 9 ∧ 1 < x) ∨ (0 < i ∧ x = 0)) => hgg.out.trans (if_pos h1)
      have hyx : x < 128 → y = x := fun h => by have := hy.out; omega
      have hyx2 : 128 ≤ x → y = x - 128 := fun h => by have := hy.out; omega
      have hz : ((x : Int) == 0) = true → x = 0 := fun h => by simp at h; omega
      have hz2 : ((x : Int) == 0) = false → x ≠ 0 := fun h => by simp at h; omega
      replace hnx := hide hnx
      replace hok := hide hok
      replace hbad := hide hbad
      replace hyx := hide hyx
      replace hyx2 := hide hyx2
      replace hz := hide hz
      replace hz2 := hide hz2
      by_cases h9 : i = 9
      · subst h9
        have hor9 : y ≤ 1 → IntKind.u64.wrap ((acc : Int) + IntKind.u64.wrap ((y : Int) * 9223372036854775808)) = ((acc + 128 ^ 9 * y : Nat) : Int) := fun hy1 => by
          have e : (2 : Int) ^ (7 * 9) = 9223372036854775808 := by simp
          have := hor.out fun _ => hy1
          rw [e] at this
          exact this
        replace hor9 := hide hor9
        obtain ⟨A9, c9, hrun9, hin9⟩ := h.out.from_ (fr := 10) (by omega) (z := 10) rfl
        replace hin9 := hide hin9
        clear hrun hin'
        go_wp2_with fail
        · go_ret3
          have h0 : (1 < (x : Int) ∨ ((x : Int) == 0) = true) := by assumption
          exact got_err (hbad.out (by rcases h0 with h0 | h0; exact .inl ⟨by trivial, by omega⟩; exact .inr ⟨by omega, hz.out h0⟩)) hE.out
        · refine wp_region_text follows (by kernel_rfl) (by kernel_rfl) (fun K hK => ?_)
          go_wp2_with fail
          refine ⟨by kernel_rfl, ?_⟩
          go_wp2_with fail
          go_ret3
          have hx1 : x ≤ 1 := by omega
          have h0 : ((x : Int) ≤ 1 ∧ ((x : Int) == 0) = false) := by assumption
          have h0' := hz2.out h0.2
          exact got_ok (hok.out (by omega) (by omega)) hE.out.drew hin9.out (by have h5 := hyx.out (by omega); have h6 : (128 : Nat) ^ 9 = 9223372036854775808 := rfl; omega)
        · go_ret3
          exact got_err (hbad.out (.inl ⟨by trivial, by omega⟩)) hE.out
      · go_wp2_with fail
        · go_ret3
          exact got_err (hbad.out (.inr ⟨by omega, hz.out (by assumption)⟩)) hE.out
        · refine wp_region_text follows (by kernel_rfl) (by kernel_rfl) (fun K hK => ?_)
          go_wp2_with fail
          refine ⟨by kernel_rfl, ?_⟩
          go_wp2_with fail
          go_ret3
          exact got_ok (hok.out (by have := hz2.out (by assumption); omega) (by omega)) hE.out.drew hin'.out (by rw [hor.out (by omega), hyx.out (by omega)])
        · go_roundw
          case rel => exact ⟨i + 1, acc + 128 ^ i * y, by go_num, by rw [hor.out (by omega)], by omega, by omega, acc_lt hacc hyy, hide (by rw [hnx.out (by omega) (by omega), hyx2.out (by omega)]), hE⟩
          case measure => simp [intOf]; omega
        · refine wp_region_text follows (by kernel_rfl) (by kernel_rfl) (fun K hK => ?_)
          go_wp2_with fail
          refine ⟨by kernel_rfl, ?_⟩
          go_wp2_with fail
          go_ret3
          exact got_ok (hok.out (by omega) (by omega)) hE.out.drew hin'.out (by rw [hor.out (by omega), hyx.out (by omega)])
        · go_roundw
          case rel => exact ⟨i + 1, acc + 128 ^ i * y, by go_num, by rw [hor.out (by omega)], by omega, by omega, acc_lt hacc hyy, hide (by rw [hnx.out (by omega) (by omega), hyx2.out (by omega)]), hE⟩
          case measure => simp [intOf]; omega
    · have hge := getV_end (l := l) (i := i) (by rw [← h.out.len]; omega) acc
      rw [← hg.out] at hge
      replace hge := hide hge
      clear hg
      go_wp2_with fail
      all_goals go_ret3
      all_goals exact got_err hge.out hE.out
end Go.Proofs.YtijnomopcpgikaaDoor
