/- loggiaref02: Bytes, Zigzag, Int, All. -/
import Derived.Test.YtijnomopcpgikaaDoorVaA
namespace Go.Proofs.YtijnomopcpgikaaDoor
open Go.RowKit

theorem buf_new (w : World) (us : List Value) (t : TypeId) (h : us.length ≤ 9223372036854775807) : Buf (w.alloc (.cells us.toArray t)) w.heap.size t (some ⟨w.heap.size, 0, none⟩) us.length us.length us :=
  ⟨rfl, Nat.le_refl _, .inr ⟨w.heap.size, us.toArray, rfl, Nat.le_refl _, heap_alloc_new w _, by simp, by simp⟩⟩
theorem newB_one (w : World) {k : Nat} (hk : k < 256) : NewB w [UInt8.ofNat k] (.returned (.slice (some ⟨w.heap.size, 0, none⟩) 1 1)) (w.alloc (.cells #[.int .u8 (k : Int)] 5)) := by
  have h := snoc_B8 [] hk
  rw [List.nil_append] at h
  refine ⟨_, _, rfl, ?_, (Ext.refl w).alloc _⟩
  rw [h]
  exact buf_new w [.int .u8 (k : Int)] 5 (by simp)
set_option maxRecDepth 100000 in
set_option maxHeartbeats 1000000 in
theorem rbytes_any (k : Nat) : ∀ (n : Nat) (w : World), n < 128 ^ (k + 1) → n < 18446744073709551616 → Calls Tryd.prog 29 #[.int .u64 n] w fun e w' => NewB w (vb n) e w' := by
  induction k with
  | zero =>
    intro n w h1 h2
    have h3 : n < 128 := by simpa using h1
    rw [vb_lt h3]
    clear h1
    go_enter Tryd.func29, Tryd.ntmps29
    go_wp2_with fail
    go_ret
    exact newB_one w (by omega)
  | succ k ih =>
    intro n w h1 h2
    by_cases h3 : n < 128
    · rw [vb_lt h3]
      clear h1 ih
      go_enter Tryd.func29, Tryd.ntmps29
      go_wp2_with fail
      go_ret
      exact newB_one w (by omega)
    · obtain ⟨q, hq⟩ : ∃ q, q = n % 128 + 128 := ⟨_, rfl⟩
      obtain ⟨m, hm⟩ : ∃ m, m = n / 128 := ⟨_, rfl⟩
      have hih := ih m (w.alloc (.cells #[.int .u8 (q : Int)] 5)) (by rw [Nat.pow_succ] at h1; omega) (by omega)
      have hb0 := buf_new w [.int .u8 (q : Int)] 5 (by simp)
      have h10 := vb_len10 (n := m) (by omega)
      have hE0 : Ext w (w.alloc (.cells #[.int .u8 (q : Int)] 5)) := (Ext.refl w).alloc _
      have hsn : B8 (UInt8.ofNat q) = .int .u8 (q : Int) := by unfold B8; rw [UInt8.toNat_ofNat', Nat.mod_eq_of_lt (by omega)]
      have hvb := vb_ge h3
      rw [← hq, ← hm] at hvb
      have hv1 : ((n : Int) % 128 + 128) = (q : Int) := by omega
      have hv2 : (n : Int) / 128 = (m : Int) := by omega
      have hq2 : q < 256 := by omega
      clear h1 ih hq hm
      replace hih := hide hih
      replace hb0 := hide hb0
      replace hE0 := hide hE0
      replace hsn := hide hsn
      replace hvb := hide hvb
      go_enter Tryd.func29, Tryd.ntmps29
      go_wp2_with fail
      refine hih.out.mono ?_
      rintro e w1 ⟨A1, c1, rfl, hb1, hE1⟩
      have hb2 := hb0.out.ext hE1
      have hE2 := hE0.out.trans hE1
      have hsz := hE2.size
      go_wp2_with (at_builtin; refine wpList_buf elemB hb2 hb1.cells (.tmp 12) (.tmp 15) rfl rfl rfl rfl rfl (by rw [List.length_map]) (bytes_one _) (by simp; omega) hsz (fun A3 c3 w3 hb3 _ hE3 _ => ?_))
      go_ret
      rw [hvb.out]
      refine ⟨A3, c3, ret_slice (by rw [List.length_cons, Nat.add_comm]), ?_, hE3 w hE2 (Nat.le_refl _)⟩
      have : (UInt8.ofNat q :: vb m).map B8 = [.int .u8 (q : Int)] ++ (vb m).map B8 := by rw [List.map_cons, hsn.out]; rfl
      rw [this, List.length_cons, Nat.add_comm]
      exact hb3
theorem rbytes (n : Nat) (w : World) (h : n < 18446744073709551616) : Calls Tryd.prog 29 #[.int .u64 n] w fun e w' => NewB w (vb n) e w' := rbytes_any 9 n w (by omega) h
set_option maxRecDepth 100000 in
set_option maxHeartbeats 1000000 in
theorem zigzag_any (x : Int) (w : World) (hx : -9223372036854775808 ≤ x) (hx2 : x ≤ 9223372036854775807) : Calls Tryd.prog 68 #[.int .i64 x] w fun e w' => e = .returned (.int .u64 (zig x)) ∧ w' = w := by
  go_enter Tryd.func68, Tryd.ntmps68
  go_wp2_with fail
  all_goals go_ret
  all_goals exact ⟨ret_int (by unfold zig; first | (rw [if_pos (by omega)]; omega) | (rw [if_neg (by omega)]; omega)), rfl⟩
set_option maxRecDepth 100000 in
set_option maxHeartbeats 1000000 in
theorem rint_any (x : Int) (w : World) (hx : -9223372036854775808 ≤ x) (hx2 : x ≤ 9223372036854775807) : Calls Tryd.prog 54 #[.int .i64 x] w fun e w' => NewB w (vb (zig x)) e w' := by
  have hz := hide (fun w => zigzag_any x w hx hx2)
  have hb := hide (fun w => rbytes (zig x) w (zig_lt hx hx2))
  go_enter Tryd.func54, Tryd.ntmps54
  go_wp2_with fail
  refine (hz.out _).mono ?_
  rintro e w1 ⟨rfl, rfl⟩
  go_wp2_with fail
  refine (hb.out _).mono ?_
  rintro e w2 ⟨A, c, rfl, hb2, hE⟩
  go_wp2_with fail
  go_ret
  exact ⟨A, c, rfl, hb2, hE⟩
set_option maxRecDepth 100000 in
set_option maxHeartbeats 1000000 in
theorem rall_any (B : Option Addr) (k c2 : Nat) (xs : List Int) (w : World) (hk : k = xs.length) (hxs : Cells w B (xs.map (Value.int .i64))) (hle : k ≤ 100000000) (hx : ∀ x ∈ xs, -9223372036854775808 ≤ x ∧ x ≤ 9223372036854775807) :
    Calls Tryd.prog 28 #[.slice B k c2] w fun e w' => NewB w (vall xs) e w' := by
  have hlen : ∀ i, (vall (xs.take i)).length ≤ 10 * i := vall_take xs hx
  replace hk := hide hk
  replace hx := hide hx
  replace hlen := hide hlen
  go_enter Tryd.func28, Tryd.ntmps28
  go_wp2_with fail
  go_loopw [3, 4] (fun s3 s4 wr => ∃ (i : Nat) (A2 : Option Addr) (m2 c2 : Nat), s4 = .int .i64 i ∧ i ≤ k ∧ s3 = .slice A2 m2 c2 ∧ Hid (m2 = (vall (xs.take i)).length) ∧ Hid (Buf wr w.heap.size 5 A2 m2 c2 ((vall (xs.take i)).map B8)) ∧ Hid (Ext w wr)) (fun _ s4 _ => k - (intOf s4).toNat)
  case atStart => exact ⟨0, none, 0, 0, rfl, by omega, rfl, hide rfl, hide (Buf.nil _ _ _), hide (Ext.refl w)⟩
  case round =>
    obtain ⟨i, A2, m2, c3, rfl, hi, rfl, hm2, hb, hE⟩ := hrel
    by_cases hik : i < k
    · have hik' : i < xs.length := by rw [← hk.out]; exact hik
      obtain ⟨g, o, rfl, hc⟩ := hxs.at_ (by rw [List.length_map]; omega)
      have hxi := hx.out xs[i] (List.getElem_mem hik')
      have hcell := hE.out.cell (hc i (.int .i64 xs[i]) (by rw [List.getElem?_map, List.getElem?_eq_getElem hik']; rfl))
      have hl10 := hlen.out i
      have hpi := fun w => rint_any xs[i] w hxi.1 hxi.2
      have hnx : vall (xs.take i) ++ vb (zig xs[i]) = vall (xs.take (i + 1)) := by
        rw [List.take_succ_eq_append_getElem hik']
        unfold vall
        rw [List.flatMap_append]
        simp
      have hvz := vb_len10 (zig_lt hxi.1 hxi.2)
      have hm3 : m2 ≤ 10 * i := by rw [hm2.out]; exact hl10
      obtain ⟨X, hX⟩ : ∃ X, X = xs[i] := ⟨_, rfl⟩
      rw [← hX] at hcell hpi hxi hvz hnx
      replace hpi := hide hpi
      replace hnx := hide hnx
      clear hX hc hl10
      go_wp2_with fail
      refine (hpi.out _).mono ?_
      rintro e w3 ⟨A3, c4, rfl, hb3, hE3⟩
      have hb2 := hb.out.ext hE3
      have hE4 := hE.out.trans hE3
      have hsz := hE4.size
      go_wp2_with (at_builtin; refine wpList_buf elemB hb2 hb3.cells (.tmp 11) (.tmp 16) rfl rfl rfl rfl rfl (by rw [List.length_map]) (bytes_one _) (by omega) hsz (fun A5 c5 w5 hb5 _ hE5 _ => ?_))
      go_roundw
      case rel => exact ⟨i + 1, A5, _, c5, by go_num, by omega, rfl, hide (by rw [← hnx.out, List.length_append, hm2.out]), hide (by rw [← hnx.out, List.map_append]; exact hb5), hide (hE5 w hE4 (Nat.le_refl _))⟩
      case measure => simp [intOf]; omega
    · have hik2 : i = k := by omega
      have htk : xs.take i = xs := List.take_of_length_le (by rw [hik2, hk.out]; exact Nat.le_refl _)
      rw [htk] at hb hm2
      clear htk hik2
      go_wp2_with fail
      go_ret
      exact ⟨A2, c3, by rw [← hm2.out]; rfl, by rw [← hm2.out]; exact hb.out, hE.out⟩
end Go.Proofs.YtijnomopcpgikaaDoor
