/- loggialaw05: LzSmall, the walk. -/
import Derived.Test.YteofooecfedplaaLzAw
import Derived.Test.YteofooecfedplaaPlB
namespace Go.Proofs.Yteofooecfedplaa
open Go.RowKit

theorem byte_val {c : Nat} (h : c < 256) : Value.int .u8 (c : Int) = B8 (UInt8.ofNat c) := by
  unfold B8
  rw [UInt8.toNat_ofNat', Nat.mod_eq_of_lt h]
set_option maxRecDepth 100000 in
set_option maxHeartbeats 1000000 in
theorem lzsmall_any (c n : Nat) (w : World) (hc : c < 256) (hn : n < 65536) :
    Calls Try.prog 6 #[.int .u8 c, .int .u16 n] w fun e w' => e = .returned (.bool true) ∧ Ext w w' := by
  obtain ⟨k, hk⟩ : ∃ k, k = n % 3000 := ⟨_, rfl⟩
  have hki : (n : Int) % 3000 = (k : Int) := by omega
  have hk3 : k < 3000 := by omega
  replace hk := hide hk
  obtain ⟨b, hb⟩ : ∃ b, b = w.heap.size := ⟨_, rfl⟩
  obtain ⟨W, hmk, hRW, hEW⟩ : ∃ W, (Instr.makeSlice 22 (.int .i64 k) (.int .i64 k)).run Try.prog w = .ok (.slice (some ⟨b, 0, none⟩) k k) W ∧ (∃ cs : Array Value, cs.size = k ∧ Row W b 5 cs) ∧ Ext w W := by
    obtain ⟨w', h1, h2, h3⟩ := run_makeSlice_full (P := Try.prog) w w.heap.size 22 5 _ _ 1 Try.underlying22 rfl rfl rfl .i64 .i64 k (by omega) (by show 1 * k ≤ _; omega) (by unfold maxLen; omega) (Nat.le_refl _)
    refine ⟨w', by rw [hb]; exact h1, ?_, Below.grown (Below.refl _ _) h3 (Nat.le_refl _) (fun k hk => by cases hk)⟩
    rcases h2.2 with ⟨hv, _⟩ | ⟨g, cap, cur, hv, hg, hh, hnc, hsz, _⟩
    · cases hv
    · cases hv
      exact ⟨cur, by omega, by rw [hb]; exact hh⟩
  replace hmk := hide hmk
  replace hb := hide hb
  obtain ⟨cs0, hcs0, hRW⟩ := hRW
  replace hcs0 := hide hcs0
  go_enter Try.func6, Try.ntmps6
  have hmk2 := hmk.out
  go_wp2_with fail
  rw [hki]
  go_loopw [7] (fun s7 wr => ∃ (i : Nat) (cs : Array Value), s7 = .int .i64 i ∧ i ≤ k ∧ Row wr b 5 cs ∧ Hid (cs.size = k) ∧ Hid (∀ j, j < i → cs[j]? = some (.int .u8 c)) ∧ Ext w wr) (fun s7 _ => k - (intOf s7).toNat)
  case atStart => exact ⟨0, cs0, rfl, by omega, hRW, hcs0, hide (fun j hj => by omega), hEW⟩
  case round =>
    obtain ⟨i, cs, rfl, hi, hR, hsz, hcs, hE⟩ := hrel
    by_cases hik : i < k
    · obtain ⟨v, hv⟩ : ∃ v, cs[i]? = some v := ⟨_, Array.getElem?_eq_getElem (by rw [hsz.out]; exact hik)⟩
      have hcell := hR.cell i hv
      have hfr := hR.free i
      have hR2 := hR.put i (.int .u8 c)
      have hsz2 : Hid ((cs.setIfInBounds i (.int .u8 c)).size = k) := hide (by rw [Array.size_setIfInBounds]; exact hsz.out)
      have hcs2 : Hid (∀ j, j < i + 1 → (cs.setIfInBounds i (.int .u8 c))[j]? = some (.int .u8 c)) := hide (by
        intro j hj
        rw [Array.getElem?_setIfInBounds]
        split
        · rename_i h
          subst h
          rw [if_pos (by rw [hsz.out]; exact hik)]
        · exact hcs.out j (by omega))
      have hE2 : Ext w (wr.setCell ⟨b, i, none⟩ (.int .u8 c)) := hE.setCell (by rw [hb.out]; exact Nat.le_refl _) _
      replace hv := hide hv
      go_wp2_with fail
      go_roundw
      case rel => exact ⟨i + 1, _, by go_num, by omega, hR2, hsz2, hcs2, hE2⟩
      case measure => simp [intOf]; omega
    · obtain rfl : i = k := by omega
      have hbs : Bs wr (some ⟨b, 0, none⟩) (List.replicate i (UInt8.ofNat c)) := .inr ⟨b, 0, rfl, fun j v hv => by
        rw [Nat.zero_add]
        rw [List.map_replicate, ← byte_val hc] at hv
        rw [List.getElem?_replicate] at hv
        split at hv
        · rename_i hj
          rw [hR.cell j (hcs.out j hj)]
          exact hv
        · cases hv⟩
      have hlt : ∀ a, some (⟨b, 0, none⟩ : Addr) = some a → a.block < wr.heap.size := by
        rintro a h
        cases h
        exact hR.lt
      have hsp := small_pack (UInt8.ofNat c) i
      obtain ⟨U, hU⟩ : ∃ U, U = packM (List.replicate i (UInt8.ofNat c)) := ⟨_, rfl⟩
      rw [← hU] at hsp
      replace hU := hide hU
      go_wp2_with fail
      refine (pack_len (some ⟨b, 0, none⟩) i i _ wr (by rw [List.length_replicate]) hbs hlt (by omega) (Nat.le_refl _)).mono ?_
      rintro e w1 ⟨A1, n1, c1, rfl, hn1, hc1, hb1, hlt1, hE1⟩
      rw [← hU.out] at hn1
      have hle : n1 ≤ 9 + 3 * ((i + 130) / 131) := by rw [hn1]; exact hsp
      replace hn1 := hide hn1
      have haw := awake_any w1
      replace haw := hide haw
      have hd : decide ((n1 : Int) ≤ 9 + 3 * (((i : Int) + 130) / 131)) = true := decide_eq_true (by omega)
      go_wp2_with fail
      refine haw.out.mono ?_
      rintro e w5 ⟨rfl, hE5⟩
      go_wp2_with fail
      go_ret
      exact ⟨rfl, hE.trans (hE1.trans hE5)⟩
end Go.Proofs.Yteofooecfedplaa
