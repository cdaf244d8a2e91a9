/- loggia/frame: Put. -/
import Derived.Test.YtkdcnhnaiknaaaaGreatNB06
import Derived.Test.YtkdcnhnaiknaaaaGreatNB05
import Derived.Laws.DeepNot64
import Derived.Test.YtkdcnhnaiknaaaaGreatNB02
import Derived.Lib.AppendStr
import Derived.Test.YtkdcnhnaiknaaaaGreatNB04
import Derived.Laws.StructEq
import Derived.Deep.QuietTactic
import Derived.BigQuiet
import Derived.Deep.RegionHeld3
set_option linter.unusedSimpArgs false
set_option linter.unusedVariables false
namespace Go.Proofs.YtkdcnhnaiknaaaaGreat
open Go.RowKit

theorem u8_mod (k : Nat) : B8 (UInt8.ofNat (k % 256)) = .int .u8 ((k % 256 : Nat) : Int) := by
  unfold B8
  rw [UInt8.toNat_ofNat']
  congr 2
  omega
theorem be4_B8 {s : Nat} (h : s < 4294967296) : [.int .u8 ((s : Int) / 16777216), .int .u8 ((s : Int) / 65536 % 256), .int .u8 ((s : Int) / 256 % 256), .int .u8 ((s : Int) % 256)] = (be4 s).map B8 := by
  unfold be4
  rw [List.map_cons, List.map_cons, List.map_cons, List.map_cons, List.map_nil, u8_mod, u8_mod, u8_mod, u8_mod]
  congr 2
  · omega
theorem wrap_u64' {m : Nat} (h : m < 18446744073709551616) : IntKind.u64.wrap (m : Int) = (m : Int) := by
  simp [IntKind.wrap, IntKind.bits, IntKind.signed]
  omega
/-- What Put answers. -/
def PutP (w : World) (l : List UInt8) (e : Ending) (w' : World) : Prop := ∃ A c, e = .returned (.tuple #[.slice A l.length c, .int .i64 0]) ∧ Buf w' w.heap.size 5 A l.length c (l.map B8) ∧ Ext w w'
set_option maxRecDepth 100000 in
set_option maxHeartbeats 2000000 in
theorem fput_any (A : Option Addr) (n c : Nat) (l : List UInt8) (B : Option Addr) (m d : Nat) (p : List UInt8) (w : World) (hl : In8 w A n c l) (hp : In8 w B m d p) (hn : n ≤ 900000000) (hm : m ≤ 16777216) :
    Calls Tryz.prog 87 #[.slice A n c, .slice B m d] w fun e w' => PutP w (l ++ frameL p) e w' := by
  have hpt := hide (put_any none 0 0 m [] w rfl (.inl rfl) (fun _ => rfl) (by omega) (by omega))
  have hml := hp.len
  have hnl := hl.len
  have h10 := vb_len10 (n := m) (by omega)
  have hwm := wrap_u64' (m := m) (by omega)
  have hm' : ¬ (16777216 : Int) < m := by omega
  obtain ⟨V, hV⟩ : ∃ V, V = vb m := ⟨_, rfl⟩
  rw [List.nil_append, ← hV] at hpt
  rw [← hV] at h10
  have hfr : l ++ frameL p = l ++ (V ++ (be4 (cnext 0 (V ++ p)) ++ p)) := by unfold frameL; rw [← hml, ← hV, List.append_assoc]
  have hlt := cnext_lt 0 (V ++ p)
  have hcs : csum 0 [V, p] = cnext 0 (V ++ p) := cnext_app V p
  obtain ⟨s, hs⟩ : ∃ s, s = cnext 0 (V ++ p) := ⟨_, rfl⟩
  rw [← hs] at hfr hlt hcs
  rw [hfr]
  obtain ⟨R, hR⟩ : ∃ R, R = l ++ (V ++ (be4 s ++ p)) := ⟨_, rfl⟩
  rw [← hR]
  replace hR := hide hR
  have hb4 := be4_B8 hlt
  replace hml := hide hml
  replace hnl := hide hnl
  replace hV := hide hV
  clear hs hfr
  go_enter Tryz.func87, Tryz.ntmps87
  go_wp2_with fail
  refine hpt.out.mono ?_
  rintro e w1 ⟨A1, c1, rfl, hb1, hE1⟩
  have hin1 := hb1.in8
  obtain ⟨w2, hw2⟩ : ∃ w2, w2 = w1.alloc (.cells #[.slice A1 V.length c1, .slice B m d] 25) := ⟨_, rfl⟩
  have hE2 : Ext w1 w2 := by rw [hw2]; exact (Ext.refl w1).alloc _
  have hr2 : Row w2 w1.heap.size 25 #[.slice A1 V.length c1, .slice B m d] := by rw [hw2]; exact Row.new w1 _ _
  have hsm := sum_any (some ⟨w1.heap.size, 0, none⟩) 2 2 [(A1, c1, V), (B, d, p)] w2 rfl (.inr ⟨w1.heap.size, 0, rfl, fun i v hv => by
      rw [Nat.zero_add]
      exact hr2.cell i (by rw [hml.out]; simpa using hv)⟩) (fun q hq => by
      rcases List.mem_cons.1 hq with rfl | hq
      · exact hin1.ext hE2
      · rw [List.mem_singleton.1 hq]
        have := (hp.ext hE1).ext hE2
        rw [hml.out] at this
        exact this) (fun q hq => by
      rcases List.mem_cons.1 hq with rfl | hq
      · simp only; omega
      · rw [List.mem_singleton.1 hq]; simp only; have := hml.out; omega) (by omega)
  rw [show ([(A1, c1, V), (B, d, p)].map fun p : Option Addr × Nat × List UInt8 => p.2.2) = [V, p] from rfl, hcs] at hsm
  replace hsm := hide hsm
  replace hw2 := hide hw2
  replace hb4 := hide hb4
  replace hin1 := hide hin1
  clear hb1 hcs hr2
  go_wp2_with fail
  rw [← hw2.out]
  refine hsm.out.mono ?_
  rintro e w3 ⟨rfl, hE3⟩
  go_wp2_with fail
  obtain ⟨g, hg⟩ : ∃ g, g = w3.heap.size := ⟨_, rfl⟩
  obtain ⟨w4, hw4⟩ : ∃ w4, w4 = w3.alloc (.cells #[.int .u8 ((s : Int) / 16777216), .int .u8 ((s : Int) / 65536 % 256), .int .u8 ((s : Int) / 256 % 256), .int .u8 ((s : Int) % 256)] 5) := ⟨_, rfl⟩
  have hE4 : Ext w3 w4 := by rw [hw4]; exact (Ext.refl w3).alloc _
  have hb : Buf w4 g 5 (some ⟨g, 0, none⟩) 4 4 ((be4 s).map B8) := by
    have h := buf_new w3 [.int .u8 ((s : Int) / 16777216), .int .u8 ((s : Int) / 65536 % 256), .int .u8 ((s : Int) / 256 % 256), .int .u8 ((s : Int) % 256)] 5 (by simp)
    rw [hw4, hg, ← hb4.out]
    exact h
  have hs4 : w4.heap.size = g + 1 := by rw [hw4, hg]; simp
  obtain ⟨w5, hw5⟩ : ∃ w5, w5 = w4.alloc (.cells #[.slice A n c, .slice A1 V.length c1, .slice (some ⟨g, 0, none⟩) 4 4, .slice B m d] 25) := ⟨_, rfl⟩
  have hE5 : Ext w4 w5 := by rw [hw5]; exact (Ext.refl w4).alloc _
  have hr5 : Row w5 (g + 1) 25 #[.slice A n c, .slice A1 V.length c1, .slice (some ⟨g, 0, none⟩) 4 4, .slice B m d] := by rw [hw5, ← hs4]; exact Row.new w4 _ _
  have hEw3 := ((hE1.trans hE2).trans hE3)
  have hcc := concat_any (some ⟨g + 1, 0, none⟩) 4 4 [(A, c, l), (A1, c1, V), (some ⟨g, 0, none⟩, 4, be4 s), (B, d, p)] w5 rfl (.inr ⟨g + 1, 0, rfl, fun i v hv => by
      rw [Nat.zero_add]
      refine hr5.cell i ?_
      have e4 : (be4 s).length = 4 := rfl
      rw [hml.out, hnl.out]
      simpa [e4] using hv⟩) (fun q hq => by
      have e4 : (be4 s).length = 4 := rfl
      simp only [List.mem_cons, List.not_mem_nil, or_false] at hq
      rcases hq with rfl | rfl | rfl | rfl
      · have := (hl.ext hEw3).ext (hE4.trans hE5)
        rw [hnl.out] at this
        exact this
      · exact hin1.out.ext ((hE2.trans hE3).trans (hE4.trans hE5))
      · exact hb.in8.ext hE5
      · have := (hp.ext hEw3).ext (hE4.trans hE5)
        rw [hml.out] at this
        exact this) (by
      have e4 : (be4 s).length = 4 := rfl
      unfold catL
      simp only [List.flatMap_cons, List.flatMap_nil, List.length_append, List.length_nil, e4]
      have := hml.out
      have := hnl.out
      omega) (by omega)
  have hcat : catL [(A, c, l), (A1, c1, V), (some ⟨g, 0, none⟩, 4, be4 s), (B, d, p)] = l ++ (V ++ (be4 s ++ p)) := by unfold catL; simp
  rw [hcat] at hcc
  rw [← hR.out] at hcc
  have hE05 := hEw3.trans (hE4.trans hE5)
  rw [hw5, hw4, hg] at hcc hE05
  replace hE05 := hide hE05
  refine hcc.mono ?_
  rintro e w6 ⟨A6, c6, rfl, hb6, hE6⟩
  replace hb6 := hide (hb6.lower hE05.out.size)
  have hE06 := hide (hE05.out.trans hE6)
  clear hE6 hcc hcat hw4 hw5 hs4 hg hr5 hb
  go_wp2_with fail
  go_ret2
  exact ⟨A6, c6, rfl, hb6.out, hE06.out⟩
end Go.Proofs.YtkdcnhnaiknaaaaGreat

/- loggiaref02: Get. -/
namespace Go.Proofs.YtkdcnhnaiknaaaaGreat
open Go.RowKit

theorem add_bits {i acc y : Nat} (hi : i ≤ 9) (ha : acc < 128 ^ i) (hy : y < 128) (h9 : i = 9 → y ≤ 1) : IntKind.u64.wrap ((acc : Int) + IntKind.u64.wrap ((y : Int) * 2 ^ (7 * i))) = ((acc + 128 ^ i * y : Nat) : Int) := by
  have e : ∀ y : Int, IntKind.u64.wrap y = y % 18446744073709551616 := fun y => by simp [IntKind.wrap, IntKind.bits, IntKind.signed]
  have hlt : acc + 128 ^ i * y < 18446744073709551616 := by
    rcases Nat.lt_or_ge i 9 with h | h
    · have h1 := acc_lt ha hy
      have h2 : 128 ^ (i + 1) ≤ 128 ^ 9 := Nat.pow_le_pow_right (by omega) (by omega)
      omega
    · obtain rfl : i = 9 := by omega
      have := h9 rfl
      omega
  have hp : (128 : Nat) ^ i = 2 ^ (7 * i) := by rw [show (128 : Nat) = 2 ^ 7 from rfl, ← Nat.pow_mul]
  rw [hp] at hlt ⊢
  have : (y : Int) * 2 ^ (7 * i) = ((2 ^ (7 * i) * y : Nat) : Int) := by simp [Int.mul_comm]
  rw [e, e, this]
  omega
set_option maxRecDepth 100000 in
set_option maxHeartbeats 2000000 in
theorem rget_any (A : Option Addr) (n c : Nat) (l : List UInt8) (w0 w : World) (h : In8 w0 A n c l) (hw : Ext w0 w) (hle : n ≤ 1000000000) :
    Calls Tryz.prog 123 #[.slice A n c] w fun e w' => Got w0 w (getV 0 l) e w' := by
  have hcap := h.cap
  replace h := hide h
  go_enter Tryz.func123, Tryz.ntmps123
  go_wp2_with fail
  go_loopw [5, 6] (fun s5 s6 wr => ∃ (i acc : Nat), s6 = .int .i64 i ∧ s5 = .int .u64 acc ∧ i ≤ n ∧ i ≤ 10 ∧ acc < 128 ^ i ∧ Hid (getV 0 l = comb i acc (getV i (l.drop i))) ∧ Hid (Ext w wr)) (fun _ s6 _ => n - (intOf s6).toNat)
  case atStart => exact ⟨0, 0, rfl, rfl, by omega, by omega, by simp, hide (by rw [comb_zero]; rfl), hide (Ext.refl w)⟩
  case round =>
    obtain ⟨i, acc, rfl, rfl, hi, hi10, hacc, hg, hE⟩ := hrel
    by_cases hik : i < n ∧ i < 10
    · obtain ⟨hik, hi9⟩ := hik
      have hil : i < l.length := by rw [← h.out.len]; omega
      obtain ⟨g, o, rfl, hc⟩ := h.out.bytes.at_ (by omega)
      have hcell := (hw.trans hE.out).cell (hc i hil)
      have hgg := getV_get (List.getElem?_eq_getElem hil) (by omega) acc
      rw [← hg.out] at hgg
      obtain ⟨x, hx⟩ : ∃ x, x = l[i].toNat := ⟨_, rfl⟩
      have hx256 : x < 256 := by rw [hx]; exact l[i].toNat_lt
      rw [← hx] at hcell hgg
      replace hx := hide hx
      replace hgg := hide hgg
      obtain ⟨y, hy⟩ : ∃ y, y = x % 128 := ⟨_, rfl⟩
      have hmod : (x : Int) % 128 = (y : Int) := by omega
      have hyy : y < 128 := by omega
      replace hy := hide hy
      obtain ⟨A', c', hrun, hin⟩ := h.out.from_ (fr := i + 1) (by omega) (z := (i : Int) + 1) (by omega)
      have hin' := hide hin
      clear hc hg hin
      have hor := fun h9 : i = 9 → y ≤ 1 => add_bits (i := i) (acc := acc) (y := y) (by omega) hacc hyy h9
      replace hor := hide hor
      have hnx := fun (h1 : ¬((i = 9 ∧ 1 < x) ∨ (0 < i ∧ x = 0))) (h2 : 128 ≤ x) => hgg.out.trans ((if_neg h1).trans (if_neg (by omega)))
      have hok := fun (h1 : ¬((i = 9 ∧ 1 < x) ∨ (0 < i ∧ x = 0))) (h2 : x < 128) => hgg.out.trans ((if_neg h1).trans (if_pos h2))
      have hbad := fun (h1 : (i = 9 ∧ 1 < x) ∨ (0 < i ∧ x = 0)) => hgg.out.trans (if_pos h1)
      have hyx : x < 128 → y = x := fun h => by have := hy.out; omega
      have hyx2 : 128 ≤ x → y = x - 128 := fun h => by have := hy.out; omega
      have hz : ((x : Int) == 0) = true → x = 0 := fun h => by simp at h; omega
      have hz2 : ((x : Int) == 0) = false → x ≠ 0 := fun h => by simp at h; omega
      replace hnx := hide hnx
      replace hok := hide hok
      replace hbad := hide hbad
      replace hyx := hide hyx
      replace hyx2 := hide hyx2
      replace hz := hide hz
      replace hz2 := hide hz2
      by_cases h9 : i = 9
      · subst h9
        have hor9 : y ≤ 1 → IntKind.u64.wrap ((acc : Int) + IntKind.u64.wrap ((y : Int) * 9223372036854775808)) = ((acc + 128 ^ 9 * y : Nat) : Int) := fun hy1 => by
          have e : (2 : Int) ^ (7 * 9) = 9223372036854775808 := by simp
          have := hor.out fun _ => hy1
          rw [e] at this
          exact this
        replace hor9 := hide hor9
        obtain ⟨A9, c9, hrun9, hin9⟩ := h.out.from_ (fr := 10) (by omega) (z := 10) rfl
        replace hin9 := hide hin9
        clear hrun hin'
        go_wp2_with fail
        · go_ret3
          have h0 : (1 < (x : Int) ∨ ((x : Int) == 0) = true) := by assumption
          exact got_err (hbad.out (by rcases h0 with h0 | h0; exact .inl ⟨by trivial, by omega⟩; exact .inr ⟨by omega, hz.out h0⟩)) hE.out
        · refine wp_region_text follows (by kernel_rfl) (by kernel_rfl) (fun K hK => ?_)
          go_wp2_with fail
          refine ⟨by kernel_rfl, ?_⟩
          go_wp2_with fail
          go_ret3
          have hx1 : x ≤ 1 := by omega
          have h0 : ((x : Int) ≤ 1 ∧ ((x : Int) == 0) = false) := by assumption
          have h0' := hz2.out h0.2
          exact got_ok (hok.out (by omega) (by omega)) hE.out.drew hin9.out (by have h5 := hyx.out (by omega); have h6 : (128 : Nat) ^ 9 = 9223372036854775808 := rfl; omega)
        · go_ret3
          exact got_err (hbad.out (.inl ⟨by trivial, by omega⟩)) hE.out
      · go_wp2_with fail
        · go_ret3
          exact got_err (hbad.out (.inr ⟨by omega, hz.out (by assumption)⟩)) hE.out
        · refine wp_region_text follows (by kernel_rfl) (by kernel_rfl) (fun K hK => ?_)
          go_wp2_with fail
          refine ⟨by kernel_rfl, ?_⟩
          go_wp2_with fail
          go_ret3
          exact got_ok (hok.out (by have := hz2.out (by assumption); omega) (by omega)) hE.out.drew hin'.out (by rw [hor.out (by omega), hyx.out (by omega)])
        · go_roundw
          case rel => exact ⟨i + 1, acc + 128 ^ i * y, by go_num, by rw [hor.out (by omega)], by omega, by omega, acc_lt hacc hyy, hide (by rw [hnx.out (by omega) (by omega), hyx2.out (by omega)]), hE⟩
          case measure => simp [intOf]; omega
        · refine wp_region_text follows (by kernel_rfl) (by kernel_rfl) (fun K hK => ?_)
          go_wp2_with fail
          refine ⟨by kernel_rfl, ?_⟩
          go_wp2_with fail
          go_ret3
          exact got_ok (hok.out (by omega) (by omega)) hE.out.drew hin'.out (by rw [hor.out (by omega), hyx.out (by omega)])
        · go_roundw
          case rel => exact ⟨i + 1, acc + 128 ^ i * y, by go_num, by rw [hor.out (by omega)], by omega, by omega, acc_lt hacc hyy, hide (by rw [hnx.out (by omega) (by omega), hyx2.out (by omega)]), hE⟩
          case measure => simp [intOf]; omega
    · have hge := getV_end (l := l) (i := i) (by rw [← h.out.len]; omega) acc
      rw [← hg.out] at hge
      replace hge := hide hge
      clear hg
      go_wp2_with fail
      all_goals go_ret3
      all_goals exact got_err hge.out hE.out
end Go.Proofs.YtkdcnhnaiknaaaaGreat

/- loggia/varint, loggiaref02: GetInt, GetAll. -/
namespace Go.Proofs.YtkdcnhnaiknaaaaGreat
open Go.RowKit

set_option maxRecDepth 100000 in
theorem elemI : Elem Tryz.prog 40 3 1 8 := ⟨Tryz.underlying40, ⟨_, _, rfl, rfl, rfl, rfl, rfl⟩, by omega, by omega⟩
theorem getV_err : ∀ (l : List UInt8) (i k : Nat), getV i l = .error k → 0 < k
  | [], i, k, h => by unfold getV at h; cases h; omega
  | x :: l, i, k, h => by
    unfold getV at h
    split at h
    · cases h; omega
    · split at h
      · cases h; omega
      · split at h
        · cases h
        · split at h
          · cases h
          · rename_i e hg
            cases h
            exact getV_err l (i + 1) k hg
def GotI (w0 w : World) (res : Except Nat (Nat × List UInt8)) (e : Ending) (w' : World) : Prop := Ext w w' ∧ match res with
  | .ok (v, r) => ∃ A c, e = .returned (.tuple #[.int .i64 (unzig v), .slice A r.length c, .int .i64 0]) ∧ In8 w0 A r.length c r
  | .error k => e = .returned (.tuple #[.int .i64 0, .slice none 0 0, .int .i64 k])
/-- What so many whole numbers are told to be. -/
def GotA (w0 w : World) (k : Nat) (res : Except Nat (List Int × List UInt8)) (e : Ending) (w' : World) : Prop := Ext w w' ∧ match res with
  | .ok (ns, r) => ∃ A c B c2, e = .returned (.tuple #[.slice B k c2, .slice A r.length c, .int .i64 0]) ∧ Buf w' w.heap.size 3 B k c2 (ns.map (Value.int .i64)) ∧ In8 w0 A r.length c r
  | .error x => e = .returned (.tuple #[.slice none 0 0, .slice none 0 0, .int .i64 x]) ∧ 0 < x
def combA (ns : List Int) : Except Nat (List Int × List UInt8) → Except Nat (List Int × List UInt8)
  | .ok (ms, r) => .ok (ns ++ ms, r)
  | .error e => .error e
theorem combA_nil (x : Except Nat (List Int × List UInt8)) : combA [] x = x := by
  unfold combA
  split <;> simp
theorem getAll_step {k i : Nat} {ns : List Int} {l r : List UInt8} (h : getAll k l = combA ns (getAll (k - i) r)) (hi : i < k) : match getV 0 r with
    | .ok (v, r1) => getAll k l = combA (ns ++ [unzig v]) (getAll (k - (i + 1)) r1)
    | .error x => getAll k l = .error x ∧ 0 < x := by
  obtain ⟨j, hj⟩ : ∃ j, k - i = j + 1 := ⟨k - i - 1, by omega⟩
  have hj2 : k - (i + 1) = j := by omega
  rw [hj] at h
  rw [h, hj2]
  cases hr : getV 0 r with
  | error x =>
    refine ⟨?_, getV_err r 0 x hr⟩
    unfold getAll
    rw [hr]
    rfl
  | ok p =>
    obtain ⟨v, r1⟩ := p
    simp only
    conv => lhs; unfold getAll
    rw [hr]
    simp only
    cases getAll j r1 with
    | error e => rfl
    | ok q => obtain ⟨ms, r2⟩ := q; simp [combA]
theorem getAll_fin {k i : Nat} {ns : List Int} {l r : List UInt8} (h : getAll k l = combA ns (getAll (k - i) r)) (hi : k ≤ i) : getAll k l = .ok (ns, r) := by
  rw [h, show k - i = 0 by omega]
  simp [getAll, combA]
theorem gotA_err {w0 w w' : World} {k : Nat} {res : Except Nat (List Int × List UInt8)} {x : Nat} (h : res = .error x ∧ 0 < x) (hE : Ext w w') : GotA w0 w k res (.returned (.tuple #[.slice none 0 0, .slice none 0 0, .int .i64 x])) w' := by
  rw [h.1]
  exact ⟨hE, rfl, h.2⟩
theorem gotA_ok {w0 w w' : World} {k : Nat} {res : Except Nat (List Int × List UInt8)} {ns : List Int} {r : List UInt8} {A B : Option Addr} {c c2 : Nat} (h : res = .ok (ns, r)) (hE : Ext w w') (hb : Buf w' w.heap.size 3 B k c2 (ns.map (Value.int .i64))) (hi : In8 w0 A r.length c r) : GotA w0 w k res (.returned (.tuple #[.slice B k c2, .slice A r.length c, .int .i64 0])) w' := by
  rw [h]
  exact ⟨hE, A, c, B, c2, rfl, hb, hi⟩
set_option maxRecDepth 100000 in
set_option maxHeartbeats 1000000 in
theorem getInt_any (A : Option Addr) (n c : Nat) (l : List UInt8) (w0 w : World) (h : In8 w0 A n c l) (hw : Ext w0 w) (hle : n ≤ 1000000000) :
    Calls Tryz.prog 153 #[.slice A n c] w fun e w' => GotI w0 w (getV 0 l) e w' := by
  have hg := get_any A n c l w0 w h hw hle
  cases hr : getV 0 l with
  | error k =>
    rw [hr] at hg
    have hk := getV_err l 0 k hr
    have hk0 : ((k : Int) != 0) = true := by simp; omega
    replace hg := hide hg
    clear h hr hk
    go_enter Tryz.func153, Tryz.ntmps153
    go_wp2_with fail
    refine hg.out.mono ?_
    rintro e w1 ⟨hE1, rfl⟩
    go_wp2_with fail
    go_ret3
    exact ⟨hE1, rfl⟩
  | ok p =>
    obtain ⟨v, r⟩ := p
    have hv := getV_lt64 hr
    rw [hr] at hg
    replace hg := hide hg
    have hand : bits .and .u64 (v : Int) 1 = ((v % 2 : Nat) : Int) := by
      rw [show (1 : Int) = ((1 : Nat) : Int) from rfl, u64_and_nat _ _ hv (by omega), Nat.and_one_is_mod]
    obtain ⟨q, hq⟩ : ∃ q, q = v % 2 := ⟨_, rfl⟩
    obtain ⟨d, hd⟩ : ∃ d, d = v / 2 := ⟨_, rfl⟩
    have hnot := i64_not d (by omega)
    have hdv : (v : Int) / 2 = (d : Int) := by omega
    rw [← hq] at hand
    have hu : unzig v = if q = 0 then (d : Int) else -1 - (d : Int) := by unfold unzig; rw [← hq, ← hd]
    have hq2 : q ≤ 1 := by omega
    have hd2 : d < 9223372036854775808 := by omega
    replace hu := hide hu
    clear hq hd h hr
    rcases (show q = 0 ∨ q = 1 by omega) with rfl | rfl
    · have hu2 : unzig v = d := hu.out
      replace hu2 := hide hu2
      clear hu
      go_enter Tryz.func153, Tryz.ntmps153
      go_wp2_with fail
      refine hg.out.mono ?_
      rintro e w1 ⟨hE1, A1, c1, rfl, hin⟩
      go_wp2_with fail
      go_ret3
      exact ⟨hE1, A1, c1, by rw [hu2.out]; rfl, hin⟩
    · have hu2 : unzig v = -1 - (d : Int) := hu.out
      replace hu2 := hide hu2
      clear hu
      go_enter Tryz.func153, Tryz.ntmps153
      go_wp2_with fail
      refine hg.out.mono ?_
      rintro e w1 ⟨hE1, A1, c1, rfl, hin⟩
      go_wp2_with fail
      go_ret3
      exact ⟨hE1, A1, c1, by rw [hu2.out]; rfl, hin⟩
set_option maxRecDepth 100000 in
set_option maxHeartbeats 1000000 in
theorem back_any (v : Nat) (w : World) (hv : v < 18446744073709551616) : Calls Tryz.prog 189 #[.int .u64 v] w fun e w' => e = .returned (.int .i64 (unzig v)) ∧ w' = w := by
  go_enter Tryz.func189, Tryz.ntmps189
  go_wp2_with fail
  all_goals go_ret
  all_goals exact ⟨ret_int (by unfold unzig; simp only [beq_iff_eq, beq_eq_false_iff_ne, ne_eq] at *; split <;> omega), rfl⟩
set_option maxRecDepth 100000 in
set_option maxHeartbeats 1000000 in
theorem rgetInt_any (A : Option Addr) (n c : Nat) (l : List UInt8) (w0 w : World) (h : In8 w0 A n c l) (hw : Ext w0 w) (hle : n ≤ 1000000000) :
    Calls Tryz.prog 170 #[.slice A n c] w fun e w' => GotI w0 w (getV 0 l) e w' := by
  have hg := rget_any A n c l w0 w h hw hle
  cases hr : getV 0 l with
  | error k =>
    rw [hr] at hg
    have hk := getV_err l 0 k hr
    have hk0 : ((k : Int) != 0) = true := by simp; omega
    replace hg := hide hg
    clear h hr hk
    go_enter Tryz.func170, Tryz.ntmps170
    go_wp2_with fail
    refine hg.out.mono ?_
    rintro e w1 ⟨hE1, rfl⟩
    go_wp2_with fail
    go_ret3
    exact ⟨hE1, rfl⟩
  | ok p =>
    obtain ⟨v, r⟩ := p
    have hv := getV_lt64 hr
    rw [hr] at hg
    replace hg := hide hg
    have hb := hide (fun w => back_any v w hv)
    clear h hr
    go_enter Tryz.func170, Tryz.ntmps170
    go_wp2_with fail
    refine hg.out.mono ?_
    rintro e w1 ⟨hE1, A1, c1, rfl, hin⟩
    go_wp2_with fail
    refine (hb.out _).mono ?_
    rintro e w2 ⟨rfl, rfl⟩
    go_wp2_with fail
    go_ret3
    exact ⟨hE1, A1, c1, rfl, hin⟩
end Go.Proofs.YtkdcnhnaiknaaaaGreat

/- 'append' of a string's bytes onto a row of the call's own. -/
namespace Go.Proofs.YtkdcnhnaiknaaaaGreat
open Go.RowKit

theorem strCells_B8 (l : List UInt8) : Lib.strCells ⟨l.toArray⟩ = l.map B8 := rfl
set_option maxRecDepth 100000 in
theorem run_buf_str (w : World) (ty : TypeId) {base : Nat} {A : Option Addr} {n c : Nat} {xs : List Value} (hb : Buf w base 5 A n c xs) (s : List UInt8) (hsz : n + s.length ≤ 4294967296) (hbase : base ≤ w.heap.size) :
    ∃ A1 c1 w', (Builtin.append_ #[25, 9] ty #[.slice A n c, .string ⟨s.toArray⟩]).run Tryz.prog w = .ok (.slice A1 (n + s.length) c1) w' ∧ Buf w' base 5 A1 (n + s.length) c1 (xs ++ s.map B8) ∧ w.grownBy w' (Value.slice A n c).ownBlock ∧
      (A1 = A ∨ A1 = some ⟨w.heap.size, 0, none⟩) := by
  obtain ⟨i, z, hi, hz, h3, h4, h5⟩ := elemB.hi
  have hz8 : i.zero = some (.int .u8 0) := by
    obtain ⟨j, hj, hj2⟩ : ∃ j, Tryz.prog.info? 5 = some j ∧ j.zero = some (.int .u8 0) := ⟨_, rfl, rfl⟩
    rw [hi] at hj
    injection hj with hj
    rw [hj]
    exact hj2
  have ht := Tryz.underlying25
  have hu := Tryz.underlying9
  have hss : (⟨s.toArray⟩ : ByteArray).size = s.length := ByteArray.size_mk_toArray s
  obtain ⟨hx, hnc, hA⟩ := hb
  rcases hA with ⟨rfl, rfl⟩ | ⟨g, cur, rfl, hbg, hg, hs, htk⟩
  · obtain rfl : n = 0 := by omega
    obtain rfl : xs = [] := List.eq_nil_of_length_eq_zero hx
    by_cases hs0 : s = []
    · subst hs0
      refine ⟨none, 0, w, ?_, ⟨rfl, Nat.le_refl _, .inl ⟨rfl, rfl⟩⟩, World.grownBy.refl w _, .inl rfl⟩
      have hf := Lib.run_firstCells_string (P := Tryz.prog) (w := w) 1 ⟨#[]⟩
      rw [show (ByteArray.mk #[]).size = 0 from rfl] at hf
      have e0 : (ByteArray.mk #[]).size = 0 := rfl
      simp [Builtin.append_, run_underlying ht, run_underlying hu, sizeOf, typeInfo, hi, h3, Builtin.lenOf, e0, hf]
    · have hl : 0 < s.length := List.length_pos_iff.2 hs0
      have hr := run_append_nil_string (P := Tryz.prog) w 25 9 ty 5 i (.int .u8 0) ht hu hi hz8 ⟨s.toArray⟩ (by omega) (by omega) (by rw [h4, hss]; omega)
      have hge := grownCap_ge w s.length 0 5
      rw [hss] at hr
      refine ⟨_, _, _, by rw [hr, Nat.zero_add], ⟨by simp, by rw [Nat.zero_add]; exact hge, .inr ⟨w.heap.size, _, rfl, hbase, heap_alloc_new w.drew _, ?_, ?_⟩⟩, ?_, .inr rfl⟩
      · simp only [Array.size_append, size_zeroCells]
        simp [Value.cells]
        omega
      · simp only [Array.toList_append]
        rw [Nat.zero_add, List.take_append_of_le_length (by simp), List.take_of_length_le (by simp)]
        simp
        exact fun b _ => rfl
      · exact (Ext.refl w |>.drew.alloc _) |> fun h => ⟨Below.os h, Below.tape h, Below.output h, Below.size h, fun k hk _ => Below.block h k hk⟩
  · by_cases hroom : n + s.length ≤ c
    · have hr := Lib.run_append_room_string (P := Tryz.prog) (w := w) 25 9 ty 5 i ht hu hi h3 g n c cur hg ⟨s.toArray⟩ (by rw [hss]; exact hroom) (by rw [hss]; omega)
      rw [hss, strCells_B8] at hr
      refine ⟨some ⟨g, 0, none⟩, c, _, hr, ⟨by rw [List.length_append, List.length_map]; omega, hroom, .inr ⟨g, _, rfl, hbg, setRow_heap w g cur _ 5 (0, 0) hg, ?_, ?_⟩⟩, grown_setRow w g _, .inl rfl⟩
      · simp
        omega
      · simp only
        rw [htk]
        rw [List.take_append_of_le_length (by rw [List.length_append, List.length_map]; omega), List.take_of_length_le (by rw [List.length_append, List.length_map]; omega)]
    · have hge := grownCap_ge w (n + s.length) c 5
      have hb2 := nextslicecap_le (need := n + s.length) (old := c) (by omega)
      have holds : ∀ (j : Nat) (v : Value), xs[j]? = some v → w.cell? (Addr.add ⟨g, 0, none⟩ j) = some v := by
        intro j v hv
        rw [Addr.add_lit, Nat.zero_add, cell_of_row w g j cur 5 (0, 0) hg]
        rw [← htk, List.getElem?_take] at hv
        split at hv
        · simpa using hv
        · cases hv
      have hr := Lib.run_append_grow_string (P := Tryz.prog) (w := w) 25 9 ty 5 i (.int .u8 0) ht hu hi hz8 ⟨g, 0, none⟩ n c xs (by rw [h3]; omega) holds ⟨s.toArray⟩ (by rw [hss]; omega) (by rw [hss]; omega) (by rw [hss, h4]; omega)
      rw [hss, strCells_B8] at hr
      refine ⟨some ⟨w.heap.size, 0, none⟩, grownCap w (n + s.length) c 5, _, hr, ⟨by rw [List.length_append, List.length_map]; omega, hge, .inr ⟨w.heap.size, _, rfl, hbase, heap_alloc_new w.drew _, ?_, ?_⟩⟩, ?_, .inr rfl⟩
      · simp only [Array.size_append, List.size_toArray, size_zeroCells, List.length_map]
        simp [Value.cells]
        omega
      · simp only [Array.toList_append]
        rw [List.take_append_of_le_length (by simp; omega), List.take_of_length_le (by simp; omega)]
      · exact (Ext.refl w |>.drew.alloc _) |> fun h => ⟨Below.os h, Below.tape h, Below.output h, Below.size h, fun k hk _ => Below.block h k hk⟩
/-- It, at the operation. -/
theorem wpList_buf_str {ops : Array Oper} {rest : List Oper} {o : Oper} {a : Act} {Q : Exit → Act → World → Prop} {w : World} {base : Nat} {A : Option Addr} {n c : Nat} {xs : List Value} {s : List UInt8} (hb : Buf w base 5 A n c xs) (x y : Operand)
    (ho : o.op = .call { callee := .builtin .append, args := #[x, y], argTypes := #[25, 9] }) (hgd : o.guard = none) (hx : a.eval x = .slice A n c) (hy : a.eval y = .string ⟨s.toArray⟩) (hsz : n + s.length ≤ 4294967296) (hbase : base ≤ w.heap.size)
    (h : ∀ A1 c1 w', Buf w' base 5 A1 (n + s.length) c1 (xs ++ s.map B8) → w.grownBy w' (Value.slice A n c).ownBlock → (∀ w0, Ext w0 w → w0.heap.size ≤ base → Ext w0 w') → wpList Tryz.prog ops Q rest (a.put o.dst (.slice A1 (n + s.length) c1)) w') : wpList Tryz.prog ops Q (o :: rest) a w :=
  wpList_plain hgd fun K hK => by
    obtain ⟨A1, c1, w', hrun, h2, h3, _⟩ := run_buf_str w o.type hb s hsz hbase
    unfold Oper.wp execOp
    simp only [ho, resolve, invoke, builtin, Sem.run_bind, Sem.run_pure, Result.andThen_ok, List.map_toArray, List.map_cons, List.map_nil, hx, hy, hrun]
    refine hK _ _ (h A1 c1 w' h2 h3 (fun w0 hE hw => hE.grown h3 fun k hk => ?_))
    have hbl := hb.base_le
    cases A with
    | none => simp [Value.ownBlock] at hk
    | some b =>
      have := hbl b rfl
      simp [Value.ownBlock] at hk
      omega
end Go.Proofs.YtkdcnhnaiknaaaaGreat

/- loggia/varint: PutText, GetText; loggiaref02: GetText. -/
namespace Go.Proofs.YtkdcnhnaiknaaaaGreat
open Go.RowKit

theorem run_max2e {P : Program} (ts : Array TypeId) (ty : TypeId) {x y m : Int} (hm : m = max x y) (W : World) : (Builtin.max_ ts ty #[.int .i64 x, .int .i64 y]).run P W = .ok (.int .i64 m) W := by
  simp only [Builtin.max_, List.foldlM, Builtin.max2, Sem.run_bind, Sem.run_pure, Result.andThen_ok]
  subst hm
  congr 2
  split <;> omega
/-- What a text is told to be. -/
def GotT (w0 w : World) (res : Except Nat (List UInt8 × List UInt8)) (e : Ending) (w' : World) : Prop := Ext w w' ∧ match res with
  | .ok (s, r) => ∃ A c, e = .returned (.tuple #[.string ⟨s.toArray⟩, .slice A r.length c, .int .i64 0]) ∧ In8 w0 A r.length c r
  | .error k => e = .returned (.tuple #[.string ⟨#[]⟩, .slice none 0 0, .int .i64 k])
set_option maxRecDepth 100000 in
theorem putText_any (A : Option Addr) (n c : Nat) (l s : List UInt8) (w : World) (hn : n = l.length) (hl : Bs w A l) (hz : A = none → c = 0) (hle : n ≤ 1000000000) (hs : s.length ≤ 1000000000) :
    Calls Tryz.prog 147 #[.slice A n c, .string ⟨s.toArray⟩] w fun e w' => NewB w (l ++ txL s) e w' := by
  have hp := hide (put_any A n c s.length l w hn hl hz hle (by omega))
  have h10 := vb_le10 (n := s.length) (by omega)
  have htx : l ++ txL s = (l ++ vb s.length) ++ s := by unfold txL; simp
  rw [htx]
  obtain ⟨L, hL⟩ : ∃ L, L = l ++ vb s.length := ⟨_, rfl⟩
  have hLl : L.length ≤ 1000000010 := by rw [hL, List.length_append]; omega
  rw [← hL] at hp ⊢
  clear hL htx hl hz hn h10
  go_enter Tryz.func147, Tryz.ntmps147
  go_wp2_with fail
  refine hp.out.mono ?_
  rintro e w1 ⟨A1, c1, rfl, hb1, hE1⟩
  have hsz := hE1.size
  go_wp2_with (at_builtin; refine wpList_buf_str hb1 (.tmp 9) (.tmp 10) rfl rfl rfl rfl (by omega) hsz (fun A2 c2 w2 hb2 hg2 hE2 => ?_))
  go_ret
  exact ⟨A2, c2, ret_slice (by rw [List.length_append]), by rw [List.length_append, List.map_append]; exact hb2, hE2 _ hE1 (Nat.le_refl _)⟩
set_option maxRecDepth 100000 in
set_option maxHeartbeats 1000000 in
theorem getText_any (A : Option Addr) (n c most : Nat) (l : List UInt8) (w0 w : World) (h : In8 w0 A n c l) (hw : Ext w0 w) (hle : n ≤ 1000000000) (hm : most ≤ 1000000000) :
    Calls Tryz.prog 154 #[.slice A n c, .int .i64 most] w fun e w' => GotT w0 w (getT most l) e w' := by
  have hg := get_any A n c l w0 w h hw hle
  have hmax := run_max2e (P := Tryz.prog) #[3, 3] 3 (x := 0) (y := (most : Int)) (m := (most : Int)) (by omega)
  unfold getT
  cases hr : getV 0 l with
  | error k =>
    rw [hr] at hg
    have hk := getV_err l 0 k hr
    have hk0 : ((k : Int) != 0) = true := by simp; omega
    replace hg := hide hg
    clear h hr hk
    go_enter Tryz.func154, Tryz.ntmps154
    go_wp2_with fail
    refine hg.out.mono ?_
    rintro e w1 ⟨hE1, rfl⟩
    go_wp2_with fail
    go_ret3
    exact ⟨hE1, rfl⟩
  | ok p =>
    obtain ⟨v, r⟩ := p
    have hv := getV_lt64 hr
    have hrl : r.length ≤ 1000000000 := by
      obtain ⟨_, _, q, hq, _⟩ := getV_lt l 0 v r hr
      have := h.len
      rw [hq, List.length_append] at this
      omega
    rw [hr] at hg
    replace hg := hide hg
    simp only
    by_cases h1 : most < v
    · rw [if_pos h1]
      have h1' : (most : Int) < v := by omega
      clear h hr
      go_enter Tryz.func154, Tryz.ntmps154
      go_wp2_with fail
      refine hg.out.mono ?_
      rintro e w1 ⟨hE1, A1, c1, rfl, hi1⟩
      go_wp2_with fail
      go_ret3
      exact ⟨hE1, rfl⟩
    · rw [if_neg h1]
      have h1' : ¬ (most : Int) < v := by omega
      by_cases h2 : r.length < v
      · rw [if_pos h2]
        have h2' : (r.length : Int) < v := by omega
        clear h hr
        go_enter Tryz.func154, Tryz.ntmps154
        go_wp2_with fail
        refine hg.out.mono ?_
        rintro e w1 ⟨hE1, A1, c1, rfl, hi1⟩
        go_wp2_with fail
        go_ret3
        exact ⟨hE1, rfl⟩
      · rw [if_neg h2]
        have h2' : ¬ (r.length : Int) < v := by omega
        clear h hr
        go_enter Tryz.func154, Tryz.ntmps154
        go_wp2_with fail
        refine hg.out.mono ?_
        rintro e w1 ⟨hE1, A1, c1, rfl, hi1⟩
        obtain ⟨hh1, hh2⟩ := hi1.headk .u64 (k := v) (by omega) (z := (v : Int)) rfl
        obtain ⟨A2, c2, ht1, ht2⟩ := hi1.fromk .u64 (fr := v) (by omega) (z := (v : Int)) rfl
        have hst : ∀ W, Ext w0 W → (convert 25 9 (.slice A1 v c1)).run Tryz.prog W = .ok (.string ⟨(r.take v).toArray⟩) W := fun W hW => run_str (hh2.bytes.ext hW) v c1 hh2.len
        have hst1 := hst _ (hw.trans hE1).drew
        have hlen : (r.drop v).length = r.length - v := List.length_drop
        obtain ⟨R, hR⟩ : ∃ R, R = r.length - v := ⟨_, rfl⟩
        rw [← hR] at ht1 ht2 hlen
        replace hlen := hide hlen
        replace hR := hide hR
        clear hh2
        go_wp2_with fail
        refine wp_region_text follows (by kernel_rfl) (by kernel_rfl) (fun K hK => ?_)
        go_wp2_with fail
        refine ⟨by kernel_rfl, ?_⟩
        go_wp2_with fail
        go_ret3
        exact ⟨hE1.drew, A2, c2, by rw [hlen.out]; rfl, by rw [hlen.out]; exact ht2⟩
set_option maxRecDepth 100000 in
set_option maxHeartbeats 1000000 in
theorem rgetText_any (A : Option Addr) (n c most : Nat) (l : List UInt8) (w0 w : World) (h : In8 w0 A n c l) (hw : Ext w0 w) (hle : n ≤ 1000000000) (hm : most ≤ 1000000000) :
    Calls Tryz.prog 171 #[.slice A n c, .int .i64 most] w fun e w' => GotT w0 w (getT most l) e w' := by
  have hg := rget_any A n c l w0 w h hw hle
  have hmax := run_max2e (P := Tryz.prog) #[3, 3] 3 (x := 0) (y := (most : Int)) (m := (most : Int)) (by omega)
  unfold getT
  cases hr : getV 0 l with
  | error k =>
    rw [hr] at hg
    have hk := getV_err l 0 k hr
    have hk0 : ((k : Int) != 0) = true := by simp; omega
    replace hg := hide hg
    clear h hr hk
    go_enter Tryz.func171, Tryz.ntmps171
    go_wp2_with fail
    refine hg.out.mono ?_
    rintro e w1 ⟨hE1, rfl⟩
    go_wp2_with fail
    go_ret3
    exact ⟨hE1, rfl⟩
  | ok p =>
    obtain ⟨v, r⟩ := p
    have hv := getV_lt64 hr
    have hrl : r.length ≤ 1000000000 := by
      obtain ⟨_, _, q, hq, _⟩ := getV_lt l 0 v r hr
      have := h.len
      rw [hq, List.length_append] at this
      omega
    rw [hr] at hg
    replace hg := hide hg
    simp only
    by_cases h1 : most < v
    · rw [if_pos h1]
      have h1' : (most : Int) < v := by omega
      clear h hr
      go_enter Tryz.func171, Tryz.ntmps171
      go_wp2_with fail
      refine hg.out.mono ?_
      rintro e w1 ⟨hE1, A1, c1, rfl, hi1⟩
      go_wp2_with fail
      go_ret3
      exact ⟨hE1, rfl⟩
    · rw [if_neg h1]
      have h1' : ¬ (most : Int) < v := by omega
      by_cases h2 : r.length < v
      · rw [if_pos h2]
        have h2' : (r.length : Int) < v := by omega
        clear h hr
        go_enter Tryz.func171, Tryz.ntmps171
        go_wp2_with fail
        refine hg.out.mono ?_
        rintro e w1 ⟨hE1, A1, c1, rfl, hi1⟩
        go_wp2_with fail
        go_ret3
        exact ⟨hE1, rfl⟩
      · rw [if_neg h2]
        have h2' : ¬ (r.length : Int) < v := by omega
        clear h hr
        go_enter Tryz.func171, Tryz.ntmps171
        go_wp2_with fail
        refine hg.out.mono ?_
        rintro e w1 ⟨hE1, A1, c1, rfl, hi1⟩
        obtain ⟨hh1, hh2⟩ := hi1.headk .u64 (k := v) (by omega) (z := (v : Int)) rfl
        obtain ⟨A2, c2, ht1, ht2⟩ := hi1.fromk .u64 (fr := v) (by omega) (z := (v : Int)) rfl
        have hst : ∀ W, Ext w0 W → (convert 25 9 (.slice A1 v c1)).run Tryz.prog W = .ok (.string ⟨(r.take v).toArray⟩) W := fun W hW => run_str (hh2.bytes.ext hW) v c1 hh2.len
        have hst1 := hst _ (hw.trans hE1).drew
        have hlen : (r.drop v).length = r.length - v := List.length_drop
        obtain ⟨R, hR⟩ : ∃ R, R = r.length - v := ⟨_, rfl⟩
        rw [← hR] at ht1 ht2 hlen
        replace hlen := hide hlen
        replace hR := hide hR
        clear hh2
        go_wp2_with fail
        refine wp_region_text follows (by kernel_rfl) (by kernel_rfl) (fun K hK => ?_)
        go_wp2_with fail
        refine ⟨by kernel_rfl, ?_⟩
        go_wp2_with fail
        go_ret3
        exact ⟨hE1.drew, A2, c2, by rw [hlen.out]; rfl, by rw [hlen.out]; exact ht2⟩
end Go.Proofs.YtkdcnhnaiknaaaaGreat

/- Events: loggiaref10.Check, Same. -/
namespace Go.Proofs.YtkdcnhnaiknaaaaGreat
open Go.RowKit

set_option maxRecDepth 100000 in
set_option maxHeartbeats 2000000 in
theorem recheck_any (e : Ev) (A : Option Addr) (c : Nat) (w : World) (h : e.Ok w A) : Calls Tryz.prog 54 #[e.val A c] w fun en w' => en = .returned (.int .i64 (checkE e.fs : Int)) ∧ Ext w w' := by
  obtain ⟨at_, fs⟩ := e
  obtain ⟨hc, hm, hl⟩ := h
  unfold Ev.val
  simp only at hc hm hl ⊢
  obtain ⟨n, hn⟩ : ∃ n, n = fs.length := ⟨_, rfl⟩
  obtain ⟨z, hz⟩ : ∃ z, z = checkE fs := ⟨_, rfl⟩
  have hmany : 16 < n → z = 3 := fun h => by rw [hz]; unfold checkE; rw [if_pos (by omega)]
  have hgo : n ≤ 16 → z = checkF (fs.drop 0) := fun h => by rw [hz]; unfold checkE; rw [if_neg (by omega)]; rfl
  have hnm := fun s W (hs : s.length ≤ 9223372036854775807) => risname_any s W hs
  rw [← hz, ← hn]
  rw [← hn] at hm
  have hEW : Ext w (w.alloc (.cells #[.int .i64 at_, .slice A n c] 37)) := (Ext.refl w).alloc _
  have hrow : Row (w.alloc (.cells #[.int .i64 at_, .slice A n c] 37)) w.heap.size 37 #[.int .i64 at_, .slice A n c] := Row.new w _ _
  replace hn := hide hn
  replace hl := hide hl
  replace hnm := hide hnm
  replace hgo := hide hgo
  clear hz
  by_cases h16 : 16 < n
  · have hz3 := hmany h16
    subst hz3
    clear hmany hrow
    go_enter Tryz.func54, Tryz.ntmps54
    go_wp2_with fail
    go_ret
    exact ⟨rfl, hEW⟩
  · clear hmany
    have hz0 := hgo.out (by omega)
    replace hz0 := hide hz0
    go_enter Tryz.func54, Tryz.ntmps54
    go_wp2_with fail
    obtain ⟨W0, hW0⟩ : ∃ W0, W0 = w.alloc (.cells #[.int .i64 at_, .slice A n c] 37) := ⟨_, rfl⟩
    rw [← hW0] at hEW hrow ⊢
    clear hW0
    go_loopw [3] (fun s3 wr => ∃ i : Nat, s3 = .int .i64 i ∧ i ≤ n ∧ Hid (z = checkF (fs.drop i)) ∧ Hid (Ext W0 wr)) (fun s3 _ => n - (intOf s3).toNat)
    case atStart => exact ⟨0, rfl, by omega, hz0, hide (Ext.refl _)⟩
    case round =>
      obtain ⟨i, rfl, hi, hz, hE⟩ := hrel
      have y1 := (hrow.ext hE.out).cell 1 rfl
      by_cases hin : i < n
      · have hil : i < fs.length := by rw [← hn.out]; exact hin
        obtain ⟨f, hf⟩ : ∃ f, fs[i]? = some f := ⟨_, List.getElem?_eq_getElem hil⟩
        obtain ⟨g, o, rfl, k0, k1⟩ := fcells_at (hc.ext (hEW.trans hE.out)) hf
        obtain ⟨hl1, hl2⟩ := hl.out f (List.mem_of_getElem? hf)
        have hz2 := hz.out
        rw [checkF_drop hf] at hz2
        unfold strV at k0 k1
        obtain ⟨nm, tx⟩ := f
        simp only at k0 k1 hl1 hl2 hz2
        have hnm1 := fun W => hnm.out nm W hl1
        obtain ⟨q, hq⟩ : ∃ q, q = nameL nm := ⟨_, rfl⟩
        rw [← hq] at hnm1 hz2
        have hi0 : (0 : Int) ≤ i := by omega
        have hi1 : (i : Int) < n := by omega
        replace hnm1 := hide hnm1
        replace hz2 := hide hz2
        clear hf hq
        go_wp2_with fail
        refine (hnm1.out _).mono ?_
        rintro e w3 ⟨rfl, rfl⟩
        cases q with
        | false =>
          obtain rfl : z = 100 := by rw [hz2.out]; rfl
          go_wp2_with fail
          go_ret
          exact ⟨rfl, hEW.trans hE.out⟩
        | true =>
          by_cases hlt : 4096 < tx.length
          · obtain rfl : z = 2 := by rw [hz2.out, if_neg (by simp), if_pos hlt]
            go_wp2_with fail
            go_ret
            exact ⟨rfl, hEW.trans hE.out⟩
          · have hz3 := hide (show z = checkF (fs.drop (i + 1)) by rw [hz2.out, if_neg (by simp), if_neg hlt])
            go_wp2_with fail
            go_roundw
            case rel => exact ⟨i + 1, by go_num, by omega, hz3, hE⟩
            case measure => simp [intOf]; omega
      · obtain rfl : z = 0 := by
          have h := hz.out
          rw [List.drop_of_length_le (by rw [← hn.out]; omega)] at h
          exact h
        go_wp2_with fail
        go_ret
        exact ⟨rfl, hEW.trans hE.out⟩
theorem take_one2 {α : Type} {xs : List α} {i : Nat} {x : α} (h : xs[i]? = some x) : xs.take (i + 1) = xs.take i ++ [x] := by
  obtain ⟨hi, rfl⟩ := List.getElem?_eq_some_iff.1 h
  exact List.take_succ_eq_append_getElem hi
set_option maxRecDepth 100000 in
theorem fd_neq (f g : Fd) (W : World) : (binOp .neq 105 (.agg #[.string ⟨f.1.toArray⟩, .string ⟨f.2.toArray⟩]) (.agg #[.string ⟨g.1.toArray⟩, .string ⟨g.2.toArray⟩])).run Tryz.prog W = .ok (.bool (!decide (f = g))) W := by
  rw [run_neq_struct, run_equalIn_agg _ _ _ _ _ (by kernel_rfl) (by kernel_rfl)]
  simp only [Program.fieldsOf, Tryz.underlying105]
  have e1 : ∀ (a b : List UInt8) (W : World), (Op.equalIn 9999 9 (.string ⟨a.toArray⟩) (.string ⟨b.toArray⟩)).run Tryz.prog W = .ok (a == b) W := fun a b W => by
    have h := run_equalIn_string (P := Tryz.prog) (w := W) 9998 9 ⟨a.toArray⟩ ⟨b.toArray⟩ Tryz.underlying9
    rw [h]
    congr 1
    rw [Bool.eq_iff_iff]
    simp
  simp [Op.eqFields, part, e1, go_sem]
  by_cases h1 : f.1 = g.1 <;> by_cases h2 : f.2 = g.2
  all_goals simp [h1, h2, Prod.ext_iff]
def sameE (a b : Ev) : Bool := decide (a.at_ = b.at_ ∧ a.fs = b.fs)
set_option maxRecDepth 100000 in
set_option maxHeartbeats 4000000 in
theorem resame_any (a b : Ev) (A B : Option Addr) (c c2 : Nat) (w : World) (ha : a.Ok w A) (hb : b.Ok w B) : Calls Tryz.prog 70 #[a.val A c, b.val B c2] w fun en w' => en = .returned (.bool (sameE a b)) ∧ Ext w w' := by
  obtain ⟨at1, fs⟩ := a
  obtain ⟨at2, gs⟩ := b
  obtain ⟨hc, hm, _⟩ := ha
  obtain ⟨hd, hm2, _⟩ := hb
  unfold Ev.val sameE
  simp only at hc hm hd hm2 ⊢
  obtain ⟨n, hn⟩ : ∃ n, n = fs.length := ⟨_, rfl⟩
  obtain ⟨m, hmn⟩ : ∃ m, m = gs.length := ⟨_, rfl⟩
  obtain ⟨z, hz⟩ : ∃ z, z = decide (at1 = at2 ∧ fs = gs) := ⟨_, rfl⟩
  have hno1 : at1 ≠ at2 → z = false := fun h => by rw [hz]; exact decide_eq_false fun hh => h hh.1
  have hno2 : n ≠ m → z = false := fun h => by rw [hz]; exact decide_eq_false fun hh => h (by rw [hn, hmn, hh.2])
  have hno3 : fs ≠ gs → z = false := fun h => by rw [hz]; exact decide_eq_false fun hh => h hh.2
  have hyes : at1 = at2 → fs = gs → z = true := fun h1 h2 => by rw [hz]; exact decide_eq_true ⟨h1, h2⟩
  rw [← hz, ← hn, ← hmn]
  rw [← hn] at hm
  rw [← hmn] at hm2
  have hEW : Ext w ((w.alloc (.cells #[.int .i64 at1, .slice A n c] 37)).alloc (.cells #[.int .i64 at2, .slice B m c2] 37)) := ((Ext.refl w).alloc _).alloc _
  have hrow : Row ((w.alloc (.cells #[.int .i64 at1, .slice A n c] 37)).alloc (.cells #[.int .i64 at2, .slice B m c2] 37)) w.heap.size 37 #[.int .i64 at1, .slice A n c] := (Row.new w _ _).alloc _
  have hrow2 : Row ((w.alloc (.cells #[.int .i64 at1, .slice A n c] 37)).alloc (.cells #[.int .i64 at2, .slice B m c2] 37)) (w.heap.size + 1) 37 #[.int .i64 at2, .slice B m c2] := by
    have h := Row.new (w.alloc (.cells #[.int .i64 at1, .slice A n c] 37)) 37 #[.int .i64 at2, .slice B m c2]
    simpa using h
  by_cases hat : at1 = at2
  case neg =>
    obtain rfl := hno1 hat
    have hq : (at1 != at2) = true := bne_iff_ne.2 hat
    clear hno1 hno2 hno3 hyes hz hn hmn hrow hrow2 hc hd hat
    go_enter Tryz.func70, Tryz.ntmps70
    go_wp2_with fail
    go_ret
    exact ⟨rfl, hEW⟩
  case pos =>
    by_cases hnm : n = m
    case neg =>
      obtain rfl := hno2 hnm
      have hq : ((n : Int) != (m : Int)) = true := bne_iff_ne.2 (by omega)
      clear hno1 hno2 hno3 hyes hz hn hmn hrow hrow2 hc hd
      subst hat
      go_enter Tryz.func70, Tryz.ntmps70
      go_wp2_with fail
      go_ret
      exact ⟨rfl, hEW⟩
    case pos =>
      subst hat
      subst hnm
      replace hno3 := hide hno3
      replace hyes := hide (hyes rfl)
      replace hn := hide hn
      replace hmn := hide hmn
      clear hz hno1 hno2
      go_enter Tryz.func70, Tryz.ntmps70
      go_wp2_with fail
      obtain ⟨W0, hW0⟩ : ∃ W0, W0 = (w.alloc (.cells #[.int .i64 at1, .slice A n c] 37)).alloc (.cells #[.int .i64 at1, .slice B n c2] 37) := ⟨_, rfl⟩
      rw [← hW0] at hEW hrow hrow2 ⊢
      clear hW0
      go_loopw [5] (fun s5 wr => ∃ i : Nat, s5 = .int .i64 i ∧ i ≤ n ∧ Hid (fs.take i = gs.take i) ∧ Hid (Ext W0 wr)) (fun s5 _ => n - (intOf s5).toNat)
      case atStart => exact ⟨0, rfl, by omega, hide rfl, hide (Ext.refl _)⟩
      case round =>
        obtain ⟨i, rfl, hi, htk, hE⟩ := hrel
        have y1 : wr.cell? ⟨w.heap.size, 1, none⟩ = some (.slice A n c) := (hrow.ext hE.out).cell 1 rfl
        have y2 : wr.cell? ⟨w.heap.size + 1, 1, none⟩ = some (.slice B n c2) := (hrow2.ext hE.out).cell 1 rfl
        by_cases hin : i < n
        · obtain ⟨f, hf⟩ : ∃ f, fs[i]? = some f := ⟨_, List.getElem?_eq_getElem (by rw [← hn.out]; exact hin)⟩
          obtain ⟨g, hg⟩ : ∃ g, gs[i]? = some g := ⟨_, List.getElem?_eq_getElem (by rw [← hmn.out]; exact hin)⟩
          obtain ⟨b1, o1, rfl, k0, k1⟩ := fcells_at (hc.ext (hEW.trans hE.out)) hf
          obtain ⟨b2, o2, rfl, k2, k3⟩ := fcells_at (hd.ext (hEW.trans hE.out)) hg
          have hne := fd_neq f g
          have hi0 : (0 : Int) ≤ i := by omega
          have hi1 : (i : Int) < n := by omega
          unfold strV at k0 k1 k2 k3
          by_cases hfg : f = g
          · have htk2 := hide (show fs.take (i + 1) = gs.take (i + 1) by rw [take_one2 hf, take_one2 hg, htk.out, hfg])
            rw [decide_eq_true hfg] at hne
            obtain ⟨f1, f2⟩ := f
            obtain ⟨g1, g2⟩ := g
            simp only at k0 k1 k2 k3 hne
            clear hf hg hfg
            go_wp2_with fail
            go_quiet (fail)
            go_wp2_with fail
            go_roundw
            case rel => exact ⟨i + 1, by go_num, by omega, htk2, hide (by first | exact hE.out.drew | exact hE.out.drewN _)⟩
            case measure => simp [intOf]; omega
          · obtain rfl : z = false := hno3.out (fun h => hfg (by rw [h, hg] at hf; exact (Option.some.inj hf).symm))
            rw [decide_eq_false hfg] at hne
            obtain ⟨f1, f2⟩ := f
            obtain ⟨g1, g2⟩ := g
            simp only at k0 k1 k2 k3 hne
            clear hf hg hfg
            go_wp2_with fail
            go_quiet (fail)
            go_wp2_with fail
            go_ret
            exact ⟨rfl, by first | exact hEW.trans hE.out.drew | exact hEW.trans (hE.out.drewN _)⟩
        · obtain rfl : z = true := hyes.out (by
            have h := htk.out
            rw [List.take_of_length_le (by rw [← hn.out]; omega), List.take_of_length_le (by rw [← hmn.out]; omega)] at h
            exact h)
          go_wp2_with fail
          go_ret
          exact ⟨rfl, hEW.trans hE.out⟩
end Go.Proofs.YtkdcnhnaiknaaaaGreat

/- loggia/event and loggiaref10: Size, CheckBatch. -/
namespace Go.Proofs.YtkdcnhnaiknaaaaGreat
open Go.RowKit

theorem sizeFs_take {fs : List Fd} {i : Nat} {f : Fd} (h : fs[i]? = some f) : sizeFs (fs.take (i + 1)) = sizeFs (fs.take i) + (f.1.length + f.2.length) := by
  unfold sizeFs
  rw [take_one2 h, List.map_append, List.sum_append]
  simp [sizeF]
theorem sizeFs_le : ∀ {fs : List Fd}, (∀ f ∈ fs, f.1.length ≤ 32 ∧ f.2.length ≤ 4096) → sizeFs fs ≤ 5000 * fs.length
  | [], _ => by simp [sizeFs]
  | f :: fs, h => by
    have h1 := sizeFs_le (fs := fs) fun x hx => h x (by simp [hx])
    have hf := h f (by simp)
    have h5 : sizeFs (f :: fs) = f.1.length + f.2.length + sizeFs fs := by unfold sizeFs; rw [List.map_cons, List.sum_cons]; rfl
    rw [h5, List.length_cons]
    omega
end Go.Proofs.YtkdcnhnaiknaaaaGreat

/- loggia/event and loggiaref10: CheckBatch. -/
namespace Go.Proofs.YtkdcnhnaiknaaaaGreat
open Go.RowKit

/-- A batch where it lies: its events' slice. -/
structure BtC where
  seq : Int
  l : List EvC
  A : Option Addr
  c : Nat
def BtC.val (b : BtC) : Value := .agg #[.int .i64 b.seq, .slice b.A b.l.length b.c]
def BtC.cells (b : BtC) : List Value := [.int .i64 b.seq, .slice b.A b.l.length b.c]
def BtC.bt (b : BtC) : Bt := ⟨b.seq, b.l.map (·.e)⟩
structure BtC.Ok (b : BtC) (w : World) : Prop where
  evs : EvsOk w b.A b.l
  many : b.l.length ≤ 9223372036854775807
  seq : I64ok' b.seq
theorem BtC.Ok.ext {b : BtC} {w w1 : World} (h : b.Ok w) (hE : Ext w w1) : b.Ok w1 := ⟨h.evs.ext hE, h.many, h.seq⟩
theorem sizeEs_take {es : List Ev} {i : Nat} {e : Ev} (h : es[i]? = some e) : sizeEs (es.take (i + 1)) = sizeEs (es.take i) + sizeE e := by
  unfold sizeEs
  rw [take_one2 h, List.map_append, List.sum_append]
  simp
theorem sizeE_le {e : Ev} (h : checkE e.fs = 0) : sizeE e ≤ 90000 := by
  obtain ⟨h16, hfl⟩ := checkE_fs h
  have := sizeFs_le hfl
  unfold sizeE
  omega
theorem mem_take_snoc {es : List Ev} {i : Nat} {e : Ev} (h : es[i]? = some e) (hck : ∀ x ∈ es.take i, checkE x.fs = 0) (he : checkE e.fs = 0) : ∀ x ∈ es.take (i + 1), checkE x.fs = 0 := fun x hx => by
  rw [take_one2 h] at hx
  rcases List.mem_append.1 hx with hx | hx
  · exact hck x hx
  · rw [List.mem_singleton.1 hx]; exact he
end Go.Proofs.YtkdcnhnaiknaaaaGreat

/- loggia/event: put, Encode. -/
namespace Go.Proofs.YtkdcnhnaiknaaaaGreat
open Go.RowKit

/-- A row of bytes of the call's own, as a slice. -/
def Own8 (w : World) (base : Nat) (A : Option Addr) (n c : Nat) (l : List UInt8) : Prop := n = l.length ∧ Buf w base 5 A n c (l.map B8)
theorem Own8.nil_ {w : World} {base : Nat} {A : Option Addr} {n c : Nat} {l : List UInt8} (h : Own8 w base A n c l) : A = none → c = 0 := fun hA => by
  obtain ⟨_, _, _, h3⟩ := h
  rcases h3 with ⟨_, h3⟩ | ⟨g, cur, hB, _⟩
  · exact h3
  · rw [hA] at hB; cases hB
theorem NewB.own {w w0 w' : World} {l : List UInt8} {e : Ending} (h : NewB w l e w') (hb : w0.heap.size ≤ w.heap.size) : ∃ A c, e = .returned (.slice A l.length c) ∧ Own8 w' w0.heap.size A l.length c l ∧ Ext w w' := by
  obtain ⟨A, c, he, hb', hE⟩ := h
  exact ⟨A, c, he, ⟨rfl, hb'.lower hb⟩, hE⟩
theorem wrap_u64 {m : Nat} (h : m < 18446744073709551616) : IntKind.u64.wrap (m : Int) = (m : Int) := by
  simp [IntKind.wrap, IntKind.bits, IntKind.signed]
  omega
theorem putFs_take {fs : List Fd} {i : Nat} {f : Fd} (h : fs[i]? = some f) : putFs (fs.take (i + 1)) = putFs (fs.take i) ++ txL f.1 ++ txL f.2 := by
  unfold putFs
  rw [take_one2 h, List.flatMap_append]
  simp [putF]
theorem putFs_take_len {fs : List Fd} (h : ∀ f ∈ fs, f.1.length ≤ 32 ∧ f.2.length ≤ 4096) (i : Nat) : (putFs (fs.take i)).length ≤ 5000 * fs.length := by
  have h1 := putFs_len (fs := fs.take i) fun f hf => h f (List.mem_of_mem_take hf)
  have h2 := sizeFs_le (fs := fs.take i) fun f hf => h f (List.mem_of_mem_take hf)
  have h3 := List.length_take_le i fs
  have h4 : ∀ {gs : List Fd}, (∀ f ∈ gs, f.1.length ≤ 32 ∧ f.2.length ≤ 4096) → sizeFs gs ≤ 4128 * gs.length := by
    intro gs
    induction gs with
    | nil => intro _; simp [sizeFs]
    | cons f gs ih =>
      intro h
      have h1 := ih fun x hx => h x (by simp [hx])
      have hf := h f (by simp)
      have h5 : sizeFs (f :: gs) = f.1.length + f.2.length + sizeFs gs := by unfold sizeFs; rw [List.map_cons, List.sum_cons]; rfl
      rw [h5, List.length_cons]
      omega
  have h5 := h4 (gs := fs.take i) fun f hf => h f (List.mem_of_mem_take hf)
  have h6 : (fs.take i).length ≤ fs.length := by rw [List.length_take]; omega
  omega
set_option maxRecDepth 100000 in
set_option maxHeartbeats 4000000 in
theorem evput_any (A : Option Addr) (n c : Nat) (l : List UInt8) (e : Ev) (B : Option Addr) (d : Nat) (w : World) (hn : n = l.length) (hl : Bs w A l) (hz : A = none → c = 0) (hle : n ≤ 100000000) (h : e.Ok w B) (hk : checkE e.fs = 0) (ha : I64ok' e.at_) :
    Calls Tryz.prog 174 #[.slice A n c, e.val B d] w fun en w' => NewB w (l ++ putE e) en w' := by
  obtain ⟨h16, hfl⟩ := checkE_fs hk
  have hput : l ++ putE e = (l ++ vb (zig e.at_) ++ vb e.fs.length) ++ putFs (e.fs.take e.fs.length) := by unfold putE; rw [List.take_length]; simp
  rw [hput]
  obtain ⟨at_, fs⟩ := e
  obtain ⟨hc, _, _⟩ := h
  unfold Ev.val
  simp only at hc h16 hfl ha ⊢
  have htl := putFs_take_len hfl
  obtain ⟨m, hm⟩ : ∃ m, m = fs.length := ⟨_, rfl⟩
  rw [← hm] at h16 htl ⊢
  obtain ⟨W, hW⟩ : ∃ W, W = w.alloc (.cells #[.int .i64 at_, .slice B m d] 37) := ⟨_, rfl⟩
  have hEW : Ext w W := by rw [hW]; exact (Ext.refl w).alloc _
  have hr : Row W w.heap.size 37 #[.int .i64 at_, .slice B m d] := by rw [hW]; exact Row.new w _ _
  obtain ⟨b, hb⟩ : ∃ b, b = w.heap.size := ⟨_, rfl⟩
  rw [← hb] at hr
  have h10 := vb_le10 (zig_lt ha.1 ha.2)
  have h10b := vb_le10 (n := m) (by omega)
  obtain ⟨L1, hL1⟩ : ∃ L1, L1 = l ++ vb (zig at_) := ⟨_, rfl⟩
  obtain ⟨L2, hL2⟩ : ∃ L2, L2 = L1 ++ vb m := ⟨_, rfl⟩
  have hl1 : L1.length ≤ 100000010 := by rw [hL1, List.length_append]; omega
  have hl2 : L2.length ≤ 100000020 := by rw [hL2, List.length_append]; omega
  rw [← hL1, ← hL2]
  have hS0 : W.cell? ⟨b, 0, none⟩ = some (.int .i64 at_) ∧ W.cell? ⟨b, 1, none⟩ = some (.slice B m d) ∧ Ext W W := ⟨hr.cell 0 rfl, hr.cell 1 rfl, Ext.refl W⟩
  have hS1 : W.drew.cell? ⟨b, 0, none⟩ = some (.int .i64 at_) ∧ W.drew.cell? ⟨b, 1, none⟩ = some (.slice B m d) ∧ Ext W W.drew := ⟨hr.cell 0 rfl, hr.cell 1 rfl, (Ext.refl W).drew⟩
  have hpi : ∀ x, (x.cell? ⟨b, 0, none⟩ = some (.int .i64 at_) ∧ x.cell? ⟨b, 1, none⟩ = some (.slice B m d) ∧ Ext W x) → Calls Tryz.prog 88 #[.slice A n c, .int .i64 at_] x fun e y => ∃ A1 c1, e = .returned (.slice A1 L1.length c1) ∧ Own8 y w.heap.size A1 L1.length c1 L1 ∧ (y.cell? ⟨b, 0, none⟩ = some (.int .i64 at_) ∧ y.cell? ⟨b, 1, none⟩ = some (.slice B m d) ∧ Ext W y) := fun x ⟨h0, h1, hE⟩ =>
    (putInt_any A n c at_ l x hn (hl.ext (hEW.trans hE)) hz (by omega) ha.1 ha.2).mono fun e y hy => by
      obtain ⟨A1, c1, he, hb1, hEy⟩ := NewB.own hy (hEW.trans hE).size
      rw [← hL1] at he hb1
      exact ⟨A1, c1, he, hb1, hEy.cell h0, hEy.cell h1, hE.trans hEy⟩
  have hpu : ∀ x A1 c1, Own8 x w.heap.size A1 L1.length c1 L1 → (x.cell? ⟨b, 0, none⟩ = some (.int .i64 at_) ∧ x.cell? ⟨b, 1, none⟩ = some (.slice B m d) ∧ Ext W x) → Calls Tryz.prog 78 #[.slice A1 L1.length c1, .int .u64 (m : Int)] x fun e y => ∃ A2 c2, e = .returned (.slice A2 L2.length c2) ∧ Own8 y w.heap.size A2 L2.length c2 L2 ∧ (y.cell? ⟨b, 0, none⟩ = some (.int .i64 at_) ∧ y.cell? ⟨b, 1, none⟩ = some (.slice B m d) ∧ Ext W y) := fun x A1 c1 hb1 ⟨h0, h1, hE⟩ =>
    (put_any A1 L1.length c1 m L1 x rfl hb1.2.cells hb1.nil_ (by omega) (by omega)).mono fun e y hy => by
      obtain ⟨A2, c2, he, hb2, hEy⟩ := NewB.own hy (hEW.trans hE).size
      rw [← hL2] at he hb2
      exact ⟨A2, c2, he, hb2, hEy.cell h0, hEy.cell h1, hE.trans hEy⟩
  replace hpi := hide hpi
  replace hpu := hide hpu
  replace hS0 := hide hS0
  replace hS1 := hide hS1
  have hwm := wrap_u64 (m := m) (by omega)
  replace hW := hide hW
  replace hm := hide hm
  replace hfl := hide hfl
  replace htl := hide htl
  replace hb := hide hb
  clear hL1 hL2 hput h10 h10b hl hz hn
  go_enter Tryz.func174, Tryz.ntmps174
  go_wp2_with fail
  rw [← hW.out, ← hb.out]
  refine wp_region_held_drew (S := fun x => x.cell? ⟨b, 0, none⟩ = some (.int .i64 at_) ∧ x.cell? ⟨b, 1, none⟩ = some (.slice B m d) ∧ Ext W x) (by kernel_rfl) hS1.out (fun hHeld => ?_)
  refine wpAnyH_take (i := 0) (v := .slice A n c) rfl (by kernel_rfl) (by kernel_rfl) (by kernel_rfl) (fun _ _ _ h => h) (Or.inl ⟨by rfl, ?_⟩) (by assumption) ?_
  · intro w' hSw
    (try dsimp only at hSw)
    obtain ⟨z1, z2, z3⟩ := hSw
    go_simp
    try with_reducible rfl
    all_goals omega
  (try simp only [Act.put, List.setIfInBounds_toArray, List.set_cons_zero, List.set_cons_succ, List.getElem_toArray, List.getElem_cons_zero, List.getElem_cons_succ])
  refine wpAnyH_take (i := 1) (v := .pointer (some ⟨b, 0, none⟩)) rfl (by kernel_rfl) (by kernel_rfl) (by kernel_rfl) (fun _ _ _ h => h) (Or.inl ⟨by rfl, ?_⟩) (by assumption) ?_
  · intro w' hSw
    (try dsimp only at hSw)
    obtain ⟨z1, z2, z3⟩ := hSw
    go_simp
    try with_reducible rfl
    all_goals omega
  (try simp only [Act.put, List.setIfInBounds_toArray, List.set_cons_zero, List.set_cons_succ, List.getElem_toArray, List.getElem_cons_zero, List.getElem_cons_succ])
  refine wpAnyH_take (i := 2) (v := .int .i64 at_) rfl (by kernel_rfl) (by kernel_rfl) (by kernel_rfl) (fun _ _ _ h => h) (Or.inl ⟨by rfl, ?_⟩) (by assumption) ?_
  · intro w' hSw
    (try dsimp only at hSw)
    obtain ⟨z1, z2, z3⟩ := hSw
    go_simp
    try with_reducible rfl
    all_goals omega
  (try simp only [Act.put, List.setIfInBounds_toArray, List.set_cons_zero, List.set_cons_succ, List.getElem_toArray, List.getElem_cons_zero, List.getElem_cons_succ])
  refine wpAnyH_take (i := 4) (v := .pointer (some ⟨b, 1, none⟩)) rfl (by kernel_rfl) (by kernel_rfl) (by kernel_rfl) (fun _ _ _ h => h) (Or.inl ⟨by rfl, ?_⟩) (by assumption) ?_
  · intro w' hSw
    (try dsimp only at hSw)
    obtain ⟨z1, z2, z3⟩ := hSw
    go_simp
    try with_reducible rfl
    all_goals omega
  (try simp only [Act.put, List.setIfInBounds_toArray, List.set_cons_zero, List.set_cons_succ, List.getElem_toArray, List.getElem_cons_zero, List.getElem_cons_succ])
  refine wpAnyH_take (i := 5) (v := .slice B m d) rfl (by kernel_rfl) (by kernel_rfl) (by kernel_rfl) (fun _ _ _ h => h) (Or.inl ⟨by rfl, ?_⟩) (by assumption) ?_
  · intro w' hSw
    (try dsimp only at hSw)
    obtain ⟨z1, z2, z3⟩ := hSw
    go_simp
    try with_reducible rfl
    all_goals omega
  (try simp only [Act.put, List.setIfInBounds_toArray, List.set_cons_zero, List.set_cons_succ, List.getElem_toArray, List.getElem_cons_zero, List.getElem_cons_succ])
  refine wpAnyH_take (i := 6) (v := .int .i64 (m : Int)) rfl (by kernel_rfl) (by kernel_rfl) (by kernel_rfl) (fun _ _ _ h => h) (Or.inl ⟨by rfl, ?_⟩) (by assumption) ?_
  · intro w' hSw
    (try dsimp only at hSw)
    obtain ⟨z1, z2, z3⟩ := hSw
    go_simp
    try with_reducible rfl
    all_goals omega
  (try simp only [Act.put, List.setIfInBounds_toArray, List.set_cons_zero, List.set_cons_succ, List.getElem_toArray, List.getElem_cons_zero, List.getElem_cons_succ])
  refine wpAnyH_take (i := 7) (v := .int .u64 (m : Int)) rfl (by kernel_rfl) (by kernel_rfl) (by kernel_rfl) (fun _ _ _ h => h) (Or.inl ⟨by rfl, ?_⟩) (by assumption) ?_
  · intro w' hSw
    (try dsimp only at hSw)
    obtain ⟨z1, z2, z3⟩ := hSw
    go_simp
    try with_reducible rfl
    all_goals omega
  (try simp only [Act.put, List.setIfInBounds_toArray, List.set_cons_zero, List.set_cons_succ, List.getElem_toArray, List.getElem_cons_zero, List.getElem_cons_succ])
  refine wpAnyH_ready (rs := [3]) (by kernel_rfl) (by simp) ?_
  refine AllReadyH.cons rfl (fun K hK => ?_) AllReadyH.nil
  (first | go_at_call 88 | (go_simp; go_at_call 88)); (refine (hpi.out _ ‹_›).mono ?_; rintro en w3 ⟨A1, c1, rfl, hb1, hSc⟩)
  refine hK.out _ _ ?_ (fun hHeld1 => ?_)
  · exact hSc
  clear hK K
  (try simp only [Act.put, List.setIfInBounds_toArray, List.set_cons_zero, List.set_cons_succ, List.getElem_toArray, List.getElem_cons_zero, List.getElem_cons_succ])
  refine wpAnyH_ready (rs := [8]) (by kernel_rfl) (by simp) ?_
  refine AllReadyH.cons rfl (fun K hK => ?_) AllReadyH.nil
  (first | go_at_call 78 | (go_simp; go_at_call 78)); (refine (hpu.out _ _ _ hb1 hSc).mono ?_; rintro en w4 ⟨A2, c2, rfl, hb2, hSc2⟩)
  refine hK.out _ _ ?_ (fun hHeld2 => ?_)
  · exact hSc2
  clear hK K
  (try simp only [Act.put, List.setIfInBounds_toArray, List.set_cons_zero, List.set_cons_succ, List.getElem_toArray, List.getElem_cons_zero, List.getElem_cons_succ])
  refine wpAnyH_take (i := 9) (v := .slice A2 L2.length c2) rfl (by kernel_rfl) (by kernel_rfl) (by kernel_rfl) (fun _ _ _ h => h) (Or.inl ⟨by rfl, ?_⟩) (by assumption) ?_
  · intro w' hSw
    (try dsimp only at hSw)
    obtain ⟨z1, z2, z3⟩ := hSw
    go_simp
    try with_reducible rfl
    all_goals omega
  (try simp only [Act.put, List.setIfInBounds_toArray, List.set_cons_zero, List.set_cons_succ, List.getElem_toArray, List.getElem_cons_zero, List.getElem_cons_succ])
  refine wpAnyH_done (by kernel_rfl) ?_ _
  clear hHeld hHeld1 hHeld2 hSc hb1 hpi hpu hS0 hS1
  have hEW4 : Ext W w4 := hSc2.2.2
  have y1 : w4.cell? ⟨b, 1, none⟩ = some (.slice B m d) := hSc2.2.1
  have hsz4 : w.heap.size ≤ w4.heap.size := (hEW.trans hEW4).size
  replace hb2 := hide hb2
  replace hEW4 := hide hEW4
  clear hSc2
  go_wp2_with fail
  go_loopw [0, 19] (fun s0 s19 wr => ∃ (i n4 c4 : Nat) (A4 : Option Addr) (L : List UInt8), s19 = .int .i64 (i : Int) ∧ s0 = .slice A4 n4 c4 ∧ i ≤ m ∧ n4 ≤ 100100000 ∧ Hid (L = L2 ++ putFs (fs.take i)) ∧ Hid (Own8 wr w.heap.size A4 n4 c4 L) ∧ Hid (Ext w4 wr)) (fun _ s19 _ => m - (intOf s19).toNat)
  case atStart => exact ⟨0, L2.length, c2, A2, L2, rfl, rfl, by omega, by omega, hide (by simp [putFs]), hb2, hide (Ext.refl w4)⟩
  case round =>
    obtain ⟨i, n4, c4, A4, L, rfl, rfl, hi, hn4, hL, hb4, hE⟩ := hrel
    by_cases him : i < m
    · obtain ⟨f, hf⟩ : ∃ f, fs[i]? = some f := ⟨_, List.getElem?_eq_getElem (by rw [← hm.out]; exact him)⟩
      obtain ⟨g, o, rfl, k0, k1⟩ := fcells_at (((hc.ext hEW).ext hEW4.out).ext hE.out) hf
      have hl1 := hfl.out f (List.mem_of_getElem? hf)
      have htk := putFs_take hf
      obtain ⟨nm, tx⟩ := f
      unfold strV at k0 k1
      simp only at k0 k1 hl1 htk
      obtain ⟨hlf1, hlf2⟩ := hl1
      obtain ⟨g2, hg2⟩ : ∃ g2, g2 = wr.heap.size := ⟨_, rfl⟩
      obtain ⟨Wf, hWf⟩ : ∃ Wf, Wf = wr.alloc (.cells #[.string ⟨nm.toArray⟩, .string ⟨tx.toArray⟩] 105) := ⟨_, rfl⟩
      have hEf : Ext wr Wf := by rw [hWf]; exact (Ext.refl wr).alloc _
      have hrf : Row Wf g2 105 #[.string ⟨nm.toArray⟩, .string ⟨tx.toArray⟩] := by rw [hWf, hg2]; exact Row.new wr _ _
      obtain ⟨L5, hL5⟩ : ∃ L5, L5 = L ++ txL nm := ⟨_, rfl⟩
      obtain ⟨L6, hL6⟩ : ∃ L6, L6 = L5 ++ txL tx := ⟨_, rfl⟩
      have hLl : L.length = n4 := hb4.out.1.symm
      have ht1 := txL_len (s := nm) (by omega)
      have ht2 := txL_len (s := tx) (by omega)
      have hl5 : L5.length ≤ 100200000 := by rw [hL5, List.length_append]; omega
      have hL62 : Hid (L6 = L2 ++ putFs (fs.take (i + 1))) := hide (by rw [hL6, hL5, hL.out, htk]; simp)
      have hl6 : L6.length ≤ 100100000 := by
        rw [hL62.out, List.length_append]
        have := htl.out (i + 1)
        omega
      have hEb : Ext w Wf := (hEW.trans hEW4.out).trans (hE.out.trans hEf)
      have hT1 : Wf.drew.cell? ⟨g2, 0, none⟩ = some (.string ⟨nm.toArray⟩) ∧ Wf.drew.cell? ⟨g2, 1, none⟩ = some (.string ⟨tx.toArray⟩) ∧ Ext Wf Wf.drew := ⟨hrf.cell 0 rfl, hrf.cell 1 rfl, (Ext.refl Wf).drew⟩
      have hb4f : Buf Wf w.heap.size 5 A4 n4 c4 (L.map B8) := hb4.out.2.ext hEf
      have hp1 : ∀ x, (x.cell? ⟨g2, 0, none⟩ = some (.string ⟨nm.toArray⟩) ∧ x.cell? ⟨g2, 1, none⟩ = some (.string ⟨tx.toArray⟩) ∧ Ext Wf x) → Calls Tryz.prog 147 #[.slice A4 n4 c4, .string ⟨nm.toArray⟩] x fun e y => ∃ A5 c5, e = .returned (.slice A5 L5.length c5) ∧ Own8 y w.heap.size A5 L5.length c5 L5 ∧ (y.cell? ⟨g2, 0, none⟩ = some (.string ⟨nm.toArray⟩) ∧ y.cell? ⟨g2, 1, none⟩ = some (.string ⟨tx.toArray⟩) ∧ Ext Wf y) := fun x ⟨h0, h1, hE⟩ =>
        (putText_any A4 n4 c4 L nm x hLl.symm (hb4f.cells.ext hE) hb4.out.nil_ (by omega) (by omega)).mono fun e y hy => by
          obtain ⟨A1, c1, he, hb1, hEy⟩ := NewB.own hy (hEb.trans hE).size
          rw [← hL5] at he hb1
          exact ⟨A1, c1, he, hb1, hEy.cell h0, hEy.cell h1, hE.trans hEy⟩
      have hp2 : ∀ x A5 c5, Own8 x w.heap.size A5 L5.length c5 L5 → (x.cell? ⟨g2, 0, none⟩ = some (.string ⟨nm.toArray⟩) ∧ x.cell? ⟨g2, 1, none⟩ = some (.string ⟨tx.toArray⟩) ∧ Ext Wf x) → Calls Tryz.prog 147 #[.slice A5 L5.length c5, .string ⟨tx.toArray⟩] x fun e y => ∃ A6 c6, e = .returned (.slice A6 L6.length c6) ∧ Own8 y w.heap.size A6 L6.length c6 L6 ∧ (y.cell? ⟨g2, 0, none⟩ = some (.string ⟨nm.toArray⟩) ∧ y.cell? ⟨g2, 1, none⟩ = some (.string ⟨tx.toArray⟩) ∧ Ext Wf y) := fun x A5 c5 hb1 ⟨h0, h1, hE⟩ =>
        (putText_any A5 L5.length c5 L5 tx x rfl hb1.2.cells hb1.nil_ (by omega) (by omega)).mono fun e y hy => by
          obtain ⟨A2, c2, he, hb2, hEy⟩ := NewB.own hy (hEb.trans hE).size
          rw [← hL6] at he hb2
          exact ⟨A2, c2, he, hb2, hEy.cell h0, hEy.cell h1, hE.trans hEy⟩
      have hi0 : (0 : Int) ≤ i := by omega
      have hi1 : (i : Int) < m := by omega
      have hEwf := hide (hE.out.trans hEf)
      replace hp1 := hide hp1
      replace hp2 := hide hp2
      replace hT1 := hide hT1
      replace hg2 := hide hg2
      replace hLl := hide hLl
      replace hWf := hide hWf
      clear hf hL5 hL6 htk ht1 ht2 hrf hEb hb4f
      go_wp2_with fail
      rw [← hWf.out, ← hg2.out]
      refine wp_region_held_drew (S := fun x => x.cell? ⟨g2, 0, none⟩ = some (.string ⟨nm.toArray⟩) ∧ x.cell? ⟨g2, 1, none⟩ = some (.string ⟨tx.toArray⟩) ∧ Ext Wf x) (by kernel_rfl) hT1.out (fun hHeld => ?_)
      refine wpAnyH_take (i := 0) (v := .slice A4 n4 c4) rfl (by kernel_rfl) (by kernel_rfl) (by kernel_rfl) (fun _ _ _ h => h) (Or.inl ⟨by rfl, ?_⟩) (by assumption) ?_
      · intro w' hSw
        (try dsimp only at hSw)
        obtain ⟨z1, z2, z3⟩ := hSw
        go_simp
        try with_reducible rfl
        all_goals omega
      (try simp only [Act.put, List.setIfInBounds_toArray, List.set_cons_zero, List.set_cons_succ, List.getElem_toArray, List.getElem_cons_zero, List.getElem_cons_succ])
      refine wpAnyH_take (i := 1) (v := .pointer (some ⟨g2, 0, none⟩)) rfl (by kernel_rfl) (by kernel_rfl) (by kernel_rfl) (fun _ _ _ h => h) (Or.inl ⟨by rfl, ?_⟩) (by assumption) ?_
      · intro w' hSw
        (try dsimp only at hSw)
        obtain ⟨z1, z2, z3⟩ := hSw
        go_simp
        try with_reducible rfl
        all_goals omega
      (try simp only [Act.put, List.setIfInBounds_toArray, List.set_cons_zero, List.set_cons_succ, List.getElem_toArray, List.getElem_cons_zero, List.getElem_cons_succ])
      refine wpAnyH_take (i := 2) (v := .string ⟨nm.toArray⟩) rfl (by kernel_rfl) (by kernel_rfl) (by kernel_rfl) (fun _ _ _ h => h) (Or.inl ⟨by rfl, ?_⟩) (by assumption) ?_
      · intro w' hSw
        (try dsimp only at hSw)
        obtain ⟨z1, z2, z3⟩ := hSw
        go_simp
        try with_reducible rfl
        all_goals omega
      (try simp only [Act.put, List.setIfInBounds_toArray, List.set_cons_zero, List.set_cons_succ, List.getElem_toArray, List.getElem_cons_zero, List.getElem_cons_succ])
      refine wpAnyH_take (i := 4) (v := .pointer (some ⟨g2, 1, none⟩)) rfl (by kernel_rfl) (by kernel_rfl) (by kernel_rfl) (fun _ _ _ h => h) (Or.inl ⟨by rfl, ?_⟩) (by assumption) ?_
      · intro w' hSw
        (try dsimp only at hSw)
        obtain ⟨z1, z2, z3⟩ := hSw
        go_simp
        try with_reducible rfl
        all_goals omega
      (try simp only [Act.put, List.setIfInBounds_toArray, List.set_cons_zero, List.set_cons_succ, List.getElem_toArray, List.getElem_cons_zero, List.getElem_cons_succ])
      refine wpAnyH_take (i := 5) (v := .string ⟨tx.toArray⟩) rfl (by kernel_rfl) (by kernel_rfl) (by kernel_rfl) (fun _ _ _ h => h) (Or.inl ⟨by rfl, ?_⟩) (by assumption) ?_
      · intro w' hSw
        (try dsimp only at hSw)
        obtain ⟨z1, z2, z3⟩ := hSw
        go_simp
        try with_reducible rfl
        all_goals omega
      (try simp only [Act.put, List.setIfInBounds_toArray, List.set_cons_zero, List.set_cons_succ, List.getElem_toArray, List.getElem_cons_zero, List.getElem_cons_succ])
      refine wpAnyH_ready (rs := [3]) (by kernel_rfl) (by simp) ?_
      refine AllReadyH.cons rfl (fun K hK => ?_) AllReadyH.nil
      (first | go_at_call 147 | (go_simp; go_at_call 147)); (refine (hp1.out _ ‹_›).mono ?_; rintro en w5 ⟨A5, c5, rfl, hb5, hSc⟩)
      refine hK.out _ _ ?_ (fun hHeld1 => ?_)
      · exact hSc
      clear hK K
      (try simp only [Act.put, List.setIfInBounds_toArray, List.set_cons_zero, List.set_cons_succ, List.getElem_toArray, List.getElem_cons_zero, List.getElem_cons_succ])
      refine wpAnyH_ready (rs := [6]) (by kernel_rfl) (by simp) ?_
      refine AllReadyH.cons rfl (fun K hK => ?_) AllReadyH.nil
      (first | go_at_call 147 | (go_simp; go_at_call 147)); (refine (hp2.out _ _ _ hb5 hSc).mono ?_; rintro en w6 ⟨A6, c6, rfl, hb6, hSc2⟩)
      refine hK.out _ _ ?_ (fun hHeld2 => ?_)
      · exact hSc2
      clear hK K
      (try simp only [Act.put, List.setIfInBounds_toArray, List.set_cons_zero, List.set_cons_succ, List.getElem_toArray, List.getElem_cons_zero, List.getElem_cons_succ])
      refine wpAnyH_take (i := 7) (v := .slice A6 L6.length c6) rfl (by kernel_rfl) (by kernel_rfl) (by kernel_rfl) (fun _ _ _ h => h) (Or.inl ⟨by rfl, ?_⟩) (by assumption) ?_
      · intro w' hSw
        (try dsimp only at hSw)
        obtain ⟨z1, z2, z3⟩ := hSw
        go_simp
        try with_reducible rfl
        all_goals omega
      (try simp only [Act.put, List.setIfInBounds_toArray, List.set_cons_zero, List.set_cons_succ, List.getElem_toArray, List.getElem_cons_zero, List.getElem_cons_succ])
      refine wpAnyH_done (by kernel_rfl) ?_ _
      have hE6 := hide (hEwf.out.trans hSc2.2.2)
      replace hb6 := hide hb6
      clear hHeld hHeld1 hHeld2 hSc hSc2 hb5
      go_wp2_with fail
      go_roundw
      case rel => exact ⟨i + 1, L6.length, c6, A6, L6, by go_num, rfl, by omega, by omega, hL62, hb6, hE6⟩
      case measure => simp [intOf]; omega
    · obtain rfl : i = m := by omega
      obtain ⟨hbl, hbb⟩ := hb4.out
      have hEfin := hide ((hEW.trans hEW4.out).trans hE.out)
      have hfin : NewB w (L2 ++ putFs (fs.take i)) (.returned (.slice A4 n4 c4)) wr := ⟨A4, c4, by rw [← hL.out, hbl], by rw [← hL.out, ← hbl]; exact hbb, hEfin.out⟩
      replace hfin := hide hfin
      clear hbb hbl
      go_wp2_with fail
      go_ret
      exact hfin.out
end Go.Proofs.YtkdcnhnaiknaaaaGreat

