/- loggia/crc: table, Next; loggiaref03: on, Next, Of. -/
import Derived.Test.YtijnomopcpgikaaDoorVaC
import Derived.Test.YtijnomopcpgikaaDoorCrP
namespace Go.Proofs.YtijnomopcpgikaaDoor
open Go.RowKit

def citer : Nat → Nat → Nat
  | 0, y => y
  | k + 1, y => citer k (cstep y)
theorem citer8 (y : Nat) : c8 y = citer 8 y := rfl
theorem citer_step {z v j : Nat} (h : z = citer (8 - j) v) (hj : j < 8) : z = citer (8 - (j + 1)) (cstep v) := by
  rw [h, show 8 - j = (8 - (j + 1)) + 1 by omega]
  rfl
theorem citer_end {z v j : Nat} (h : z = citer (8 - j) v) (hj : 8 ≤ j) : z = v := by
  rw [h, show 8 - j = 0 by omega]
  rfl
theorem cstep_odd {v : Nat} (h : v % 2 = 1) : cstep v = (v / 2) ^^^ 3988292384 := by unfold cstep; rw [if_pos h]
theorem cstep_even {v : Nat} (h : v % 2 = 0) : cstep v = v / 2 := by unfold cstep; rw [if_neg (by omega)]
theorem xor_poly {d : Nat} (h : d < 4294967296) : bits .xor .u32 (d : Int) 3988292384 = ((d ^^^ 3988292384 : Nat) : Int) := by
  rw [show (3988292384 : Int) = ((3988292384 : Nat) : Int) from rfl, u32_xor_nat _ _ h (by omega)]
set_option maxRecDepth 100000 in
set_option maxHeartbeats 1000000 in
theorem on_any (x c : Nat) (w : World) (hx : x < 4294967296) (hc : c < 256) : Calls Tryd.prog 69 #[.int .u32 x, .int .u8 c] w fun e w' => e = .returned (.int .u32 (c8 (x ^^^ c) : Nat)) ∧ w' = w := by
  have hxor : bits .xor .u32 (x : Int) (c : Int) = ((x ^^^ c : Nat) : Int) := u32_xor_nat _ _ hx (by omega)
  have hlt : x ^^^ c < 4294967296 := Nat.xor_lt_two_pow (n := 32) hx (by omega)
  obtain ⟨y, hy⟩ : ∃ y, y = x ^^^ c := ⟨_, rfl⟩
  rw [← hy] at hxor hlt ⊢
  obtain ⟨z, hz⟩ : ∃ z, z = c8 y := ⟨_, rfl⟩
  rw [← hz]
  rw [citer8] at hz
  replace hz := hide hz
  clear hy
  go_enter Tryd.func69, Tryd.ntmps69
  go_wp2_with fail
  go_loop [0, 5] (fun s0 s5 => ∃ (j v : Nat), s5 = .int .i64 j ∧ j ≤ 8 ∧ s0 = .int .u32 v ∧ v < 4294967296 ∧ Hid (z = citer (8 - j) v)) (fun _ s5 => 8 - (intOf s5).toNat)
  case atStart => exact ⟨0, y, rfl, by omega, rfl, hlt, hz⟩
  case round =>
    obtain ⟨j, v, rfl, hj, rfl, hv, hzv⟩ := hrel
    by_cases hj8 : j < 8
    · have hn := citer_step hzv.out hj8
      have hcl := cstep_lt hv
      replace hn := hide hn
      rcases Nat.mod_two_eq_zero_or_one v with hm | hm
      · have hs := cstep_even hm
        have hm2 : (v : Int) % 2 = 0 := by omega
        rw [hs] at hn hcl
        clear hm hs hzv
        go_wp2_with fail
        go_round
        case rel => exact ⟨j + 1, v / 2, by go_num, by omega, by go_num, hcl, hn⟩
        case measure => simp [intOf]; omega
      · have hs := cstep_odd hm
        have hm2 : (v : Int) % 2 = 1 := by omega
        obtain ⟨d, hd⟩ : ∃ d, d = v / 2 := ⟨_, rfl⟩
        have hdv : (v : Int) / 2 = (d : Int) := by omega
        have hxp := xor_poly (d := d) (by omega)
        rw [hs, ← hd] at hn hcl
        obtain ⟨q, hq⟩ : ∃ q, q = d ^^^ 3988292384 := ⟨_, rfl⟩
        rw [← hq] at hn hcl hxp
        clear hm hs hzv hd hq
        go_wp2_with fail
        go_round
        case rel => exact ⟨j + 1, q, by go_num, by omega, rfl, hcl, hn⟩
        case measure => simp [intOf]; omega
    · have hn := citer_end hzv.out (by omega)
      replace hn := hide hn
      clear hzv
      go_wp2_with fail
      go_ret
      exact ⟨by rw [hn.out]; rfl, rfl⟩
set_option maxRecDepth 100000 in
set_option maxHeartbeats 1000000 in
theorem rnext_any (A : Option Addr) (s n c : Nat) (l : List UInt8) (w0 w : World) (hb : In8 w0 A n c l) (hw : Ext w0 w) (hs : s < 4294967296) (hle : n ≤ 1000000000) :
    Calls Tryd.prog 55 #[.int .u32 s, .slice A n c] w fun e w' => e = .returned (.int .u32 (cnext s l : Nat)) ∧ w' = w := by
  have hnot := bits_not32 s hs
  have hcl : cnot s < 4294967296 := by unfold cnot; omega
  rw [show 4294967295 - s = cnot s from rfl] at hnot
  obtain ⟨y, hy⟩ : ∃ y, y = cnot s := ⟨_, rfl⟩
  rw [← hy] at hnot hcl
  have hr : cnext s l = 4294967295 - l.foldl con y := by unfold cnext; rw [← hy]; rfl
  replace hr := hide hr
  clear hy
  replace hb := hide hb
  go_enter Tryd.func55, Tryd.ntmps55
  go_wp2_with fail
  go_loop [0, 5] (fun s0 s5 => ∃ (i v : Nat), s5 = .int .i64 i ∧ i ≤ n ∧ s0 = .int .u32 v ∧ v < 4294967296 ∧ Hid (l.foldl con y = (l.drop i).foldl con v)) (fun _ s5 => n - (intOf s5).toNat)
  case atStart => exact ⟨0, y, rfl, by omega, rfl, hcl, rfl⟩
  case round =>
    obtain ⟨i, v, rfl, hi, rfl, hv, hf⟩ := hrel
    by_cases hin : i < n
    · have hil : i < l.length := by rw [← hb.out.len]; omega
      obtain ⟨g, o, rfl, hc⟩ := hb.out.bytes.at_ (by omega)
      have hcell := hw.cell (hc i hil)
      have hon := hide (fun w => on_any v l[i].toNat w hv l[i].toNat_lt)
      have hn : l.foldl con y = (l.drop (i + 1)).foldl con (con v l[i]) := by rw [hf.out, List.drop_eq_getElem_cons hil]; rfl
      have hcl2 := con_lt l[i] hv
      unfold con at hn hcl2
      replace hn := hide hn
      clear hc hf
      go_wp2_with fail
      refine (hon.out _).mono ?_
      rintro e w1 ⟨rfl, rfl⟩
      go_wp2_with fail
      go_round
      case rel => exact ⟨i + 1, _, by go_num, by omega, rfl, hcl2, hn⟩
      case measure => simp [intOf]; omega
    · have hf2 : l.foldl con y = v := by rw [hf.out, List.drop_of_length_le (by rw [← hb.out.len]; omega)]; rfl
      have hnv := bits_not32 v hv
      replace hf2 := hide hf2
      clear hf
      go_wp2_with fail
      go_ret
      exact ⟨ret_int (by rw [hr.out, hf2.out]), rfl⟩
set_option maxRecDepth 100000 in
theorem of_any (A : Option Addr) (n c : Nat) (l : List UInt8) (w0 w : World) (h : In8 w0 A n c l) (hw : Ext w0 w) (hle : n ≤ 1000000000) :
    Calls Tryd.prog 30 #[.slice A n c] w fun e w' => e = .returned (.int .u32 (cnext 0 l : Nat)) ∧ w' = w := by
  have hn := hide (rnext_any A 0 n c l w0 w h hw (show 0 < 4294967296 by decide) hle)
  clear h
  go_enter Tryd.func30, Tryd.ntmps30
  go_wp2_with fail
  refine hn.out.mono ?_
  rintro e w1 ⟨rfl, rfl⟩
  go_wp2_with fail
  go_ret
  exact ⟨rfl, rfl⟩
end Go.Proofs.YtijnomopcpgikaaDoor
