/- loggia/lines: Unquote. loggiaref31: digit, one. -/
import Derived.Test.YtpajpdkliohepaaDoorLnE
import Derived.OwnWalk
namespace Go.Proofs.YtpajpdkliohepaaDoor
open Go.RowKit

/-- What Unquote answers. -/
def UnP (w : World) (s : List UInt8) (e : Ending) (w' : World) : Prop := ∃ t k ok, e = .returned (.tuple #[.string ⟨t.toArray⟩, .int .i64 ((k : Nat) : Int), .bool ok]) ∧ UQ s t k ok ∧ Ext w w'
set_option maxRecDepth 100000 in
set_option maxHeartbeats 1000000 in
theorem unquote_any (s : List UInt8) (w : World) (hs : s.length ≤ 1000000) : Calls Tryd.prog 16 #[.string ⟨s.toArray⟩] w fun e w' => UnP w s e w' := by
  obtain ⟨W, hW⟩ : ∃ W, W = w.alloc (.cells #[.string ⟨s.toArray⟩] 70) := ⟨_, rfl⟩
  have hEW : Ext w W := by rw [hW]; exact (Ext.refl w).alloc _
  have hR : Rd W w.heap.size s := by rw [hW]; exact Row.new w _ _
  have hq := hide (quoted_any w.heap.size s W hR hs)
  replace hEW := hide hEW
  clear hR
  go_enter Tryd.func16, Tryd.ntmps16
  go_wp2_with fail
  rw [← hW]
  clear hW
  refine hq.out.mono ?_
  rintro e w1 ⟨t, ok, s', rfl, hR1, hle, hc⟩
  have k0 : w1.cell? ⟨w.heap.size, 0, none⟩ = some (.string ⟨s'.toArray⟩) := Row.cell hR1.1 0 rfl
  have hE := hide (hEW.out.chg hR1.2 fun i hi he => by omega)
  cases ok with
  | false =>
    obtain ⟨rfl, hno⟩ : t = [] ∧ ∀ t' r, s ≠ quoteL t' ++ r := by simpa using hc
    replace hno := hide hno
    clear hc
    go_wp2_with fail
    go_ret3
    exact ⟨[], 0, false, rfl, .inr ⟨rfl, rfl, rfl, hno.out⟩, hE.out⟩
  | true =>
    have hsq : s = quoteL t ++ s' := by simpa using hc
    have hd : ((s.length : Int) - (s'.length : Int)) = (((quoteL t).length : Nat) : Int) := by
      have := congrArg List.length hsq
      rw [List.length_append] at this
      omega
    have hQl : (quoteL t).length ≤ 1000000 := by omega
    obtain ⟨Q, hQ⟩ : ∃ Q, Q = (quoteL t).length := ⟨_, rfl⟩
    rw [← hQ] at hd hQl
    replace hsq := hide hsq
    replace hQ := hide hQ
    clear hc hle
    go_wp2_with fail
    refine wp_region_text follows (by kernel_rfl) (by kernel_rfl) (fun K hK => ?_)
    go_wp2_with fail
    refine ⟨by kernel_rfl, ?_⟩
    go_wp2_with fail
    go_ret3
    exact ⟨t, Q, true, rfl, .inl ⟨rfl, hQ.out, s', hsq.out⟩, hE.out.drew⟩
set_option maxRecDepth 100000 in
set_option maxHeartbeats 1000000 in
theorem rdigit_any (x : UInt8) (w : World) : Calls Tryd.prog 52 #[.int .u8 (x.toNat : Int)] w fun e w' => ∃ z : Int, e = .returned (.int .i64 z) ∧ w' = w ∧ (isHex x = true → z = (hexV x : Int)) ∧ (isHex x = false → z = -1) := by
  have hx := x.toNat_lt
  have hh : ∀ i : Nat, i < 16 → (hexN i = x → isHex x = true ∧ hexV x = i) := fun i hi he => by rw [← he]; exact ⟨isHex_hexN hi, hexV_hexN hi⟩
  have hno : (∀ i : Nat, i < 16 → hexN i ≠ x) → isHex x = false := fun h => by
    rw [← Bool.not_eq_true]
    intro ht
    refine h (hexV x) (hexV_lt x) ?_
    apply UInt8.toNat_inj.1
    rw [hexN_toNat (hexV_lt x)]
    unfold isHex at ht
    simp at ht
    unfold hexV
    split <;> (try split) <;> (try split) <;> omega
  replace hh := hide hh
  replace hno := hide hno
  go_enter Tryd.func52, Tryd.ntmps52
  go_wp2_with fail
  go_loopw [3] (fun s3 wr => ∃ i : Nat, s3 = .int .i64 i ∧ i ≤ 16 ∧ Hid (∀ j : Nat, j < i → hexN j ≠ x) ∧ wr = w) (fun s3 _ => 16 - (intOf s3).toNat)
  case atStart => exact ⟨0, rfl, by omega, hide (fun j hj => by omega), rfl⟩
  case round =>
    obtain ⟨i, rfl, hi, hj, rfl⟩ := hrel
    by_cases h16 : i < 16
    · have hrun := fun W => run_strindex (l := hexS) (hexS_at i h16) (z := (i : Int)) rfl W
      unfold hexS at hrun
      by_cases he : hexN i = x
      · obtain ⟨h1, h2⟩ := hh.out i h16 he
        rw [he] at hrun
        replace h1 := hide h1
        replace h2 := hide h2
        clear he
        go_wp2_with fail
        go_ret
        exact ⟨_, rfl, rfl, fun _ => by rw [h2.out], fun h => by rw [h1.out] at h; cases h⟩
      · have hne : ((hexN i).toNat : Int) ≠ (x.toNat : Int) := fun h => he (UInt8.toNat_inj.1 (by omega))
        have hq : (((hexN i).toNat : Int) == (x.toNat : Int)) = false := beq_eq_false_iff_ne.2 hne
        have hj2 : Hid (∀ j : Nat, j < i + 1 → hexN j ≠ x) := hide fun j hj1 => by
          rcases Nat.lt_or_ge j i with h | h
          · exact hj.out j h
          · obtain rfl : j = i := by omega
            exact he
        obtain ⟨d, hd⟩ : ∃ d, d = hexN i := ⟨_, rfl⟩
        rw [← hd] at hrun hq
        clear hd hne he
        go_wp2_with fail
        go_roundw
        case rel => exact ⟨i + 1, by go_num, by omega, hj2, trivial⟩
        case measure => simp [intOf]; omega
    · obtain rfl : i = 16 := by omega
      have hf := hide (hno.out hj.out)
      go_wp2_with fail
      go_ret
      exact ⟨-1, rfl, rfl, ⟨fun h => absurd (hf.out.symm.trans h) (by simp), fun _ => rfl⟩⟩
end Go.Proofs.YtpajpdkliohepaaDoor
