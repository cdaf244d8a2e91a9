/- loggia/varint, loggiaref02: GetInt, GetAll. -/
import Derived.Test.YtijnomopcpgikaaDoorVaE
import Derived.Laws.DeepNot64
namespace Go.Proofs.YtijnomopcpgikaaDoor
open Go.RowKit

set_option maxRecDepth 100000 in
theorem elemI : Elem Tryd.prog 55 3 1 8 := ⟨Tryd.underlying55, ⟨_, _, rfl, rfl, rfl, rfl, rfl⟩, by omega, by omega⟩
theorem getV_err : ∀ (l : List UInt8) (i k : Nat), getV i l = .error k → 0 < k
  | [], i, k, h => by unfold getV at h; cases h; omega
  | x :: l, i, k, h => by
    unfold getV at h
    split at h
    · cases h; omega
    · split at h
      · cases h; omega
      · split at h
        · cases h
        · split at h
          · cases h
          · rename_i e hg
            cases h
            exact getV_err l (i + 1) k hg
def GotI (w0 w : World) (res : Except Nat (Nat × List UInt8)) (e : Ending) (w' : World) : Prop := Ext w w' ∧ match res with
  | .ok (v, r) => ∃ A c, e = .returned (.tuple #[.int .i64 (unzig v), .slice A r.length c, .int .i64 0]) ∧ In8 w0 A r.length c r
  | .error k => e = .returned (.tuple #[.int .i64 0, .slice none 0 0, .int .i64 k])
/-- What so many whole numbers are told to be. -/
def GotA (w0 w : World) (k : Nat) (res : Except Nat (List Int × List UInt8)) (e : Ending) (w' : World) : Prop := Ext w w' ∧ match res with
  | .ok (ns, r) => ∃ A c B c2, e = .returned (.tuple #[.slice B k c2, .slice A r.length c, .int .i64 0]) ∧ Buf w' w.heap.size 3 B k c2 (ns.map (Value.int .i64)) ∧ In8 w0 A r.length c r
  | .error x => e = .returned (.tuple #[.slice none 0 0, .slice none 0 0, .int .i64 x]) ∧ 0 < x
def combA (ns : List Int) : Except Nat (List Int × List UInt8) → Except Nat (List Int × List UInt8)
  | .ok (ms, r) => .ok (ns ++ ms, r)
  | .error e => .error e
theorem combA_nil (x : Except Nat (List Int × List UInt8)) : combA [] x = x := by
  unfold combA
  split <;> simp
theorem getAll_step {k i : Nat} {ns : List Int} {l r : List UInt8} (h : getAll k l = combA ns (getAll (k - i) r)) (hi : i < k) : match getV 0 r with
    | .ok (v, r1) => getAll k l = combA (ns ++ [unzig v]) (getAll (k - (i + 1)) r1)
    | .error x => getAll k l = .error x ∧ 0 < x := by
  obtain ⟨j, hj⟩ : ∃ j, k - i = j + 1 := ⟨k - i - 1, by omega⟩
  have hj2 : k - (i + 1) = j := by omega
  rw [hj] at h
  rw [h, hj2]
  cases hr : getV 0 r with
  | error x =>
    refine ⟨?_, getV_err r 0 x hr⟩
    unfold getAll
    rw [hr]
    rfl
  | ok p =>
    obtain ⟨v, r1⟩ := p
    simp only
    conv => lhs; unfold getAll
    rw [hr]
    simp only
    cases getAll j r1 with
    | error e => rfl
    | ok q => obtain ⟨ms, r2⟩ := q; simp [combA]
theorem getAll_fin {k i : Nat} {ns : List Int} {l r : List UInt8} (h : getAll k l = combA ns (getAll (k - i) r)) (hi : k ≤ i) : getAll k l = .ok (ns, r) := by
  rw [h, show k - i = 0 by omega]
  simp [getAll, combA]
theorem gotA_err {w0 w w' : World} {k : Nat} {res : Except Nat (List Int × List UInt8)} {x : Nat} (h : res = .error x ∧ 0 < x) (hE : Ext w w') : GotA w0 w k res (.returned (.tuple #[.slice none 0 0, .slice none 0 0, .int .i64 x])) w' := by
  rw [h.1]
  exact ⟨hE, rfl, h.2⟩
theorem gotA_ok {w0 w w' : World} {k : Nat} {res : Except Nat (List Int × List UInt8)} {ns : List Int} {r : List UInt8} {A B : Option Addr} {c c2 : Nat} (h : res = .ok (ns, r)) (hE : Ext w w') (hb : Buf w' w.heap.size 3 B k c2 (ns.map (Value.int .i64))) (hi : In8 w0 A r.length c r) : GotA w0 w k res (.returned (.tuple #[.slice B k c2, .slice A r.length c, .int .i64 0])) w' := by
  rw [h]
  exact ⟨hE, A, c, B, c2, rfl, hb, hi⟩
set_option maxRecDepth 100000 in
set_option maxHeartbeats 1000000 in
theorem getInt_any (A : Option Addr) (n c : Nat) (l : List UInt8) (w0 w : World) (h : In8 w0 A n c l) (hw : Ext w0 w) (hle : n ≤ 1000000000) :
    Calls Tryd.prog 70 #[.slice A n c] w fun e w' => GotI w0 w (getV 0 l) e w' := by
  have hg := get_any A n c l w0 w h hw hle
  cases hr : getV 0 l with
  | error k =>
    rw [hr] at hg
    have hk := getV_err l 0 k hr
    have hk0 : ((k : Int) != 0) = true := by simp; omega
    replace hg := hide hg
    clear h hr hk
    go_enter Tryd.func70, Tryd.ntmps70
    go_wp2_with fail
    refine hg.out.mono ?_
    rintro e w1 ⟨hE1, rfl⟩
    go_wp2_with fail
    go_ret3
    exact ⟨hE1, rfl⟩
  | ok p =>
    obtain ⟨v, r⟩ := p
    have hv := getV_lt64 hr
    rw [hr] at hg
    replace hg := hide hg
    have hand : bits .and .u64 (v : Int) 1 = ((v % 2 : Nat) : Int) := by
      rw [show (1 : Int) = ((1 : Nat) : Int) from rfl, u64_and_nat _ _ hv (by omega), Nat.and_one_is_mod]
    obtain ⟨q, hq⟩ : ∃ q, q = v % 2 := ⟨_, rfl⟩
    obtain ⟨d, hd⟩ : ∃ d, d = v / 2 := ⟨_, rfl⟩
    have hnot := i64_not d (by omega)
    have hdv : (v : Int) / 2 = (d : Int) := by omega
    rw [← hq] at hand
    have hu : unzig v = if q = 0 then (d : Int) else -1 - (d : Int) := by unfold unzig; rw [← hq, ← hd]
    have hq2 : q ≤ 1 := by omega
    have hd2 : d < 9223372036854775808 := by omega
    replace hu := hide hu
    clear hq hd h hr
    rcases (show q = 0 ∨ q = 1 by omega) with rfl | rfl
    · have hu2 : unzig v = d := hu.out
      replace hu2 := hide hu2
      clear hu
      go_enter Tryd.func70, Tryd.ntmps70
      go_wp2_with fail
      refine hg.out.mono ?_
      rintro e w1 ⟨hE1, A1, c1, rfl, hin⟩
      go_wp2_with fail
      go_ret3
      exact ⟨hE1, A1, c1, by rw [hu2.out]; rfl, hin⟩
    · have hu2 : unzig v = -1 - (d : Int) := hu.out
      replace hu2 := hide hu2
      clear hu
      go_enter Tryd.func70, Tryd.ntmps70
      go_wp2_with fail
      refine hg.out.mono ?_
      rintro e w1 ⟨hE1, A1, c1, rfl, hin⟩
      go_wp2_with fail
      go_ret3
      exact ⟨hE1, A1, c1, by rw [hu2.out]; rfl, hin⟩
set_option maxRecDepth 100000 in
set_option maxHeartbeats 1000000 in
theorem back_any (v : Nat) (w : World) (hv : v < 18446744073709551616) : Calls Tryd.prog 71 #[.int .u64 v] w fun e w' => e = .returned (.int .i64 (unzig v)) ∧ w' = w := by
  go_enter Tryd.func71, Tryd.ntmps71
  go_wp2_with fail
  all_goals go_ret
  all_goals exact ⟨ret_int (by unfold unzig; simp only [beq_iff_eq, beq_eq_false_iff_ne, ne_eq] at *; split <;> omega), rfl⟩
set_option maxRecDepth 100000 in
set_option maxHeartbeats 1000000 in
theorem rgetInt_any (A : Option Addr) (n c : Nat) (l : List UInt8) (w0 w : World) (h : In8 w0 A n c l) (hw : Ext w0 w) (hle : n ≤ 1000000000) :
    Calls Tryd.prog 58 #[.slice A n c] w fun e w' => GotI w0 w (getV 0 l) e w' := by
  have hg := rget_any A n c l w0 w h hw hle
  cases hr : getV 0 l with
  | error k =>
    rw [hr] at hg
    have hk := getV_err l 0 k hr
    have hk0 : ((k : Int) != 0) = true := by simp; omega
    replace hg := hide hg
    clear h hr hk
    go_enter Tryd.func58, Tryd.ntmps58
    go_wp2_with fail
    refine hg.out.mono ?_
    rintro e w1 ⟨hE1, rfl⟩
    go_wp2_with fail
    go_ret3
    exact ⟨hE1, rfl⟩
  | ok p =>
    obtain ⟨v, r⟩ := p
    have hv := getV_lt64 hr
    rw [hr] at hg
    replace hg := hide hg
    have hb := hide (fun w => back_any v w hv)
    clear h hr
    go_enter Tryd.func58, Tryd.ntmps58
    go_wp2_with fail
    refine hg.out.mono ?_
    rintro e w1 ⟨hE1, A1, c1, rfl, hin⟩
    go_wp2_with fail
    refine (hb.out _).mono ?_
    rintro e w2 ⟨rfl, rfl⟩
    go_wp2_with fail
    go_ret3
    exact ⟨hE1, A1, c1, rfl, hin⟩
set_option maxRecDepth 100000 in
set_option maxHeartbeats 2000000 in
theorem getAll_any (A : Option Addr) (n c k : Nat) (l : List UInt8) (w0 w : World) (h : In8 w0 A n c l) (hw : Ext w0 w) (hle : n ≤ 1000000000) (hk : k ≤ 1000000) :
    Calls Tryd.prog 56 #[.slice A n c, .int .i64 k] w fun e w' => GotA w0 w k (getAll k l) e w' := by
  obtain rfl := h.len
  go_enter Tryd.func56, Tryd.ntmps56
  go_wp2_with fail
  go_loopw [4, 5, 14] (fun sl sr si wr => ∃ (i : Nat) (ns : List Int) (r : List UInt8) (A1 B : Option Addr) (c1 c2 : Nat), si = .int .i64 i ∧ i ≤ k ∧ sl = .slice B i c2 ∧ sr = .slice A1 r.length c1 ∧ r.length ≤ 1000000000 ∧ Hid (getAll k l = combA ns (getAll (k - i) r)) ∧ Hid (In8 w0 A1 r.length c1 r) ∧ Hid (Buf wr w.heap.size 3 B i c2 (ns.map (Value.int .i64))) ∧ Hid (Ext w wr)) (fun sl sr si _ => k - (intOf si).toNat)
  case atStart => exact ⟨0, [], l, A, none, c, 0, rfl, by omega, rfl, rfl, hle, hide (by rw [combA_nil]; rfl), hide h, hide (Buf.nil _ _ _), hide (Ext.refl w)⟩
  case round =>
    obtain ⟨i, ns, r, A1, B, c1, c2, rfl, hi, rfl, rfl, hr9, hg, hin, hb, hE⟩ := hrel
    by_cases hik : i < k
    · have hgi := getInt_any A1 r.length c1 r w0 wr hin.out (hw.trans hE.out) hr9
      have hst := getAll_step hg.out hik
      cases hr : getV 0 r with
      | error x =>
        rw [hr] at hgi hst
        have hx := getV_err r 0 x hr
        have hx0 : ((x : Int) != 0) = true := by simp; omega
        replace hgi := hide hgi
        replace hst := hide hst
        clear hr hx h
        go_wp2_with fail
        refine hgi.out.mono ?_
        rintro e w1 ⟨hE1, rfl⟩
        go_wp2_with fail
        go_ret3
        exact gotA_err hst.out (hE.out.trans hE1)
      | ok p =>
        obtain ⟨v, r1⟩ := p
        rw [hr] at hgi hst
        obtain ⟨_, _, p, hp, _⟩ := getV_lt r 0 v r1 hr
        have hr1 : r1.length ≤ 1000000000 := by rw [hp, List.length_append] at hr9; omega
        obtain ⟨z, hz⟩ : ∃ z, z = unzig v := ⟨_, rfl⟩
        have hzk := unzig_ok (getV_lt64 hr)
        replace hgi := hide hgi
        replace hst := hide hst
        clear hr hp h
        have hsz := hE.out.size
        go_wp2_with fail
        refine hgi.out.mono ?_
        rintro e w1 ⟨hE1, A3, c3, rfl, hin3⟩
        have hb1 := hb.out.ext hE1
        have hE2 := hE.out.trans hE1
        have hsz2 := hE2.size
        go_wp2_with (at_builtin; refine wpList_bufN elemI hb1 (.tmp 25) (.tmp 27) rfl rfl rfl rfl (one_of rfl) (by simp; omega) hsz2 (fun A4 c4 w4 hb4 hE4 => ?_))
        go_roundw
        case rel => exact ⟨i + 1, ns ++ [unzig v], r1, A3, A4, c3, c4, by go_num, by omega, rfl, rfl, hr1, hide hst.out, hide hin3, hide (by rw [List.map_append]; exact hb4), hide (hE4 w hE2 (Nat.le_refl _))⟩
        case measure => simp [intOf]; omega
    · have hst := getAll_fin hg.out (by omega)
      replace hst := hide hst
      obtain rfl : i = k := by omega
      clear h
      go_wp2_with fail
      go_ret3
      exact gotA_ok hst.out hE.out hb.out hin.out
set_option maxRecDepth 100000 in
set_option maxHeartbeats 2000000 in
theorem rgetAll_any (A : Option Addr) (n c k : Nat) (l : List UInt8) (w0 w : World) (h : In8 w0 A n c l) (hw : Ext w0 w) (hle : n ≤ 1000000000) (hk : k ≤ 1000000) :
    Calls Tryd.prog 34 #[.slice A n c, .int .i64 k] w fun e w' => GotA w0 w k (getAll k l) e w' := by
  obtain rfl := h.len
  go_enter Tryd.func34, Tryd.ntmps34
  go_wp2_with fail
  go_loopw [0, 7, 8] (fun sr sl si wr => ∃ (i : Nat) (ns : List Int) (r : List UInt8) (A1 B : Option Addr) (c1 c2 : Nat), si = .int .i64 i ∧ i ≤ k ∧ sl = .slice B i c2 ∧ sr = .slice A1 r.length c1 ∧ r.length ≤ 1000000000 ∧ Hid (getAll k l = combA ns (getAll (k - i) r)) ∧ Hid (In8 w0 A1 r.length c1 r) ∧ Hid (Buf wr w.heap.size 3 B i c2 (ns.map (Value.int .i64))) ∧ Hid (Ext w wr)) (fun sr sl si _ => k - (intOf si).toNat)
  case atStart => exact ⟨0, [], l, A, none, c, 0, rfl, by omega, rfl, rfl, hle, hide (by rw [combA_nil]; rfl), hide h, hide (Buf.nil _ _ _), hide (Ext.refl w)⟩
  case round =>
    obtain ⟨i, ns, r, A1, B, c1, c2, rfl, hi, rfl, rfl, hr9, hg, hin, hb, hE⟩ := hrel
    by_cases hik : i < k
    · have hgi := rgetInt_any A1 r.length c1 r w0 wr hin.out (hw.trans hE.out) hr9
      have hst := getAll_step hg.out hik
      cases hr : getV 0 r with
      | error x =>
        rw [hr] at hgi hst
        have hx := getV_err r 0 x hr
        have hx0 : ((x : Int) != 0) = true := by simp; omega
        replace hgi := hide hgi
        replace hst := hide hst
        clear hr hx h
        go_wp2_with fail
        refine hgi.out.mono ?_
        rintro e w1 ⟨hE1, rfl⟩
        go_wp2_with fail
        go_ret3
        exact gotA_err hst.out (hE.out.trans hE1)
      | ok p =>
        obtain ⟨v, r1⟩ := p
        rw [hr] at hgi hst
        obtain ⟨_, _, p, hp, _⟩ := getV_lt r 0 v r1 hr
        have hr1 : r1.length ≤ 1000000000 := by rw [hp, List.length_append] at hr9; omega
        obtain ⟨z, hz⟩ : ∃ z, z = unzig v := ⟨_, rfl⟩
        have hzk := unzig_ok (getV_lt64 hr)
        replace hgi := hide hgi
        replace hst := hide hst
        clear hr hp h
        have hsz := hE.out.size
        go_wp2_with fail
        refine hgi.out.mono ?_
        rintro e w1 ⟨hE1, A3, c3, rfl, hin3⟩
        have hb1 := hb.out.ext hE1
        have hE2 := hE.out.trans hE1
        have hsz2 := hE2.size
        go_wp2_with (at_builtin; refine wpList_bufN elemI hb1 (.tmp 28) (.tmp 30) rfl rfl rfl rfl (one_of rfl) (by simp; omega) hsz2 (fun A4 c4 w4 hb4 hE4 => ?_))
        go_roundw
        case rel => exact ⟨i + 1, ns ++ [unzig v], r1, A3, A4, c3, c4, by go_num, by omega, rfl, rfl, hr1, hide hst.out, hide hin3, hide (by rw [List.map_append]; exact hb4), hide (hE4 w hE2 (Nat.le_refl _))⟩
        case measure => simp [intOf]; omega
    · have hst := getAll_fin hg.out (by omega)
      replace hst := hide hst
      obtain rfl : i = k := by omega
      clear h
      go_wp2_with fail
      go_ret3
      exact gotA_ok hst.out hE.out hb.out hin.out
end Go.Proofs.YtijnomopcpgikaaDoor
