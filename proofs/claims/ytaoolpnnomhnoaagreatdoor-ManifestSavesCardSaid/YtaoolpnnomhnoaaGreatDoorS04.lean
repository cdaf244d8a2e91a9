/- loggia/varint, loggiaref02: GetInt, GetAll. -/
import Derived.Test.YtaoolpnnomhnoaaGreatDoorS03
import Derived.Laws.DeepNot64
import Derived.Test.YtaoolpnnomhnoaaGreatDoorS01
import Derived.Deep.QuietTactic
import Derived.BigQuiet
import Derived.Test.YtaoolpnnomhnoaaGreatDoorS02
import Derived.Deep.CutRange
import Derived.Deep.DeepCutAuto
set_option linter.unusedSimpArgs false
set_option linter.unusedVariables false
namespace Go.Proofs.YtaoolpnnomhnoaaGreatDoor
open Go.RowKit

set_option maxRecDepth 100000 in
theorem elemI : Elem Tryz.prog 25 3 1 8 := ⟨Tryz.underlying25, ⟨_, _, rfl, rfl, rfl, rfl, rfl⟩, by omega, by omega⟩
theorem getV_err : ∀ (l : List UInt8) (i k : Nat), getV i l = .error k → 0 < k
  | [], i, k, h => by unfold getV at h; cases h; omega
  | x :: l, i, k, h => by
    unfold getV at h
    split at h
    · cases h; omega
    · split at h
      · cases h; omega
      · split at h
        · cases h
        · split at h
          · cases h
          · rename_i e hg
            cases h
            exact getV_err l (i + 1) k hg
def GotI (w0 w : World) (res : Except Nat (Nat × List UInt8)) (e : Ending) (w' : World) : Prop := Ext w w' ∧ match res with
  | .ok (v, r) => ∃ A c, e = .returned (.tuple #[.int .i64 (unzig v), .slice A r.length c, .int .i64 0]) ∧ In8 w0 A r.length c r
  | .error k => e = .returned (.tuple #[.int .i64 0, .slice none 0 0, .int .i64 k])
/-- What so many whole numbers are told to be. -/
def GotA (w0 w : World) (k : Nat) (res : Except Nat (List Int × List UInt8)) (e : Ending) (w' : World) : Prop := Ext w w' ∧ match res with
  | .ok (ns, r) => ∃ A c B c2, e = .returned (.tuple #[.slice B k c2, .slice A r.length c, .int .i64 0]) ∧ Buf w' w.heap.size 3 B k c2 (ns.map (Value.int .i64)) ∧ In8 w0 A r.length c r
  | .error x => e = .returned (.tuple #[.slice none 0 0, .slice none 0 0, .int .i64 x]) ∧ 0 < x
def combA (ns : List Int) : Except Nat (List Int × List UInt8) → Except Nat (List Int × List UInt8)
  | .ok (ms, r) => .ok (ns ++ ms, r)
  | .error e => .error e
theorem combA_nil (x : Except Nat (List Int × List UInt8)) : combA [] x = x := by
  unfold combA
  split <;> simp
theorem getAll_step {k i : Nat} {ns : List Int} {l r : List UInt8} (h : getAll k l = combA ns (getAll (k - i) r)) (hi : i < k) : match getV 0 r with
    | .ok (v, r1) => getAll k l = combA (ns ++ [unzig v]) (getAll (k - (i + 1)) r1)
    | .error x => getAll k l = .error x ∧ 0 < x := by
  obtain ⟨j, hj⟩ : ∃ j, k - i = j + 1 := ⟨k - i - 1, by omega⟩
  have hj2 : k - (i + 1) = j := by omega
  rw [hj] at h
  rw [h, hj2]
  cases hr : getV 0 r with
  | error x =>
    refine ⟨?_, getV_err r 0 x hr⟩
    unfold getAll
    rw [hr]
    rfl
  | ok p =>
    obtain ⟨v, r1⟩ := p
    simp only
    conv => lhs; unfold getAll
    rw [hr]
    simp only
    cases getAll j r1 with
    | error e => rfl
    | ok q => obtain ⟨ms, r2⟩ := q; simp [combA]
theorem getAll_fin {k i : Nat} {ns : List Int} {l r : List UInt8} (h : getAll k l = combA ns (getAll (k - i) r)) (hi : k ≤ i) : getAll k l = .ok (ns, r) := by
  rw [h, show k - i = 0 by omega]
  simp [getAll, combA]
theorem gotA_err {w0 w w' : World} {k : Nat} {res : Except Nat (List Int × List UInt8)} {x : Nat} (h : res = .error x ∧ 0 < x) (hE : Ext w w') : GotA w0 w k res (.returned (.tuple #[.slice none 0 0, .slice none 0 0, .int .i64 x])) w' := by
  rw [h.1]
  exact ⟨hE, rfl, h.2⟩
theorem gotA_ok {w0 w w' : World} {k : Nat} {res : Except Nat (List Int × List UInt8)} {ns : List Int} {r : List UInt8} {A B : Option Addr} {c c2 : Nat} (h : res = .ok (ns, r)) (hE : Ext w w') (hb : Buf w' w.heap.size 3 B k c2 (ns.map (Value.int .i64))) (hi : In8 w0 A r.length c r) : GotA w0 w k res (.returned (.tuple #[.slice B k c2, .slice A r.length c, .int .i64 0])) w' := by
  rw [h]
  exact ⟨hE, A, c, B, c2, rfl, hb, hi⟩
set_option maxRecDepth 100000 in
set_option maxHeartbeats 1000000 in
theorem getInt_any (A : Option Addr) (n c : Nat) (l : List UInt8) (w0 w : World) (h : In8 w0 A n c l) (hw : Ext w0 w) (hle : n ≤ 1000000000) :
    Calls Tryz.prog 125 #[.slice A n c] w fun e w' => GotI w0 w (getV 0 l) e w' := by
  have hg := get_any A n c l w0 w h hw hle
  cases hr : getV 0 l with
  | error k =>
    rw [hr] at hg
    have hk := getV_err l 0 k hr
    have hk0 : ((k : Int) != 0) = true := by simp; omega
    replace hg := hide hg
    clear h hr hk
    go_enter Tryz.func125, Tryz.ntmps125
    go_wp2_with fail
    refine hg.out.mono ?_
    rintro e w1 ⟨hE1, rfl⟩
    go_wp2_with fail
    go_ret3
    exact ⟨hE1, rfl⟩
  | ok p =>
    obtain ⟨v, r⟩ := p
    have hv := getV_lt64 hr
    rw [hr] at hg
    replace hg := hide hg
    have hand : bits .and .u64 (v : Int) 1 = ((v % 2 : Nat) : Int) := by
      rw [show (1 : Int) = ((1 : Nat) : Int) from rfl, u64_and_nat _ _ hv (by omega), Nat.and_one_is_mod]
    obtain ⟨q, hq⟩ : ∃ q, q = v % 2 := ⟨_, rfl⟩
    obtain ⟨d, hd⟩ : ∃ d, d = v / 2 := ⟨_, rfl⟩
    have hnot := i64_not d (by omega)
    have hdv : (v : Int) / 2 = (d : Int) := by omega
    rw [← hq] at hand
    have hu : unzig v = if q = 0 then (d : Int) else -1 - (d : Int) := by unfold unzig; rw [← hq, ← hd]
    have hq2 : q ≤ 1 := by omega
    have hd2 : d < 9223372036854775808 := by omega
    replace hu := hide hu
    clear hq hd h hr
    rcases (show q = 0 ∨ q = 1 by omega) with rfl | rfl
    · have hu2 : unzig v = d := hu.out
      replace hu2 := hide hu2
      clear hu
      go_enter Tryz.func125, Tryz.ntmps125
      go_wp2_with fail
      refine hg.out.mono ?_
      rintro e w1 ⟨hE1, A1, c1, rfl, hin⟩
      go_wp2_with fail
      go_ret3
      exact ⟨hE1, A1, c1, by rw [hu2.out]; rfl, hin⟩
    · have hu2 : unzig v = -1 - (d : Int) := hu.out
      replace hu2 := hide hu2
      clear hu
      go_enter Tryz.func125, Tryz.ntmps125
      go_wp2_with fail
      refine hg.out.mono ?_
      rintro e w1 ⟨hE1, A1, c1, rfl, hin⟩
      go_wp2_with fail
      go_ret3
      exact ⟨hE1, A1, c1, by rw [hu2.out]; rfl, hin⟩
set_option maxRecDepth 100000 in
set_option maxHeartbeats 1000000 in
theorem back_any (v : Nat) (w : World) (hv : v < 18446744073709551616) : Calls Tryz.prog 126 #[.int .u64 v] w fun e w' => e = .returned (.int .i64 (unzig v)) ∧ w' = w := by
  go_enter Tryz.func126, Tryz.ntmps126
  go_wp2_with fail
  all_goals go_ret
  all_goals exact ⟨ret_int (by unfold unzig; simp only [beq_iff_eq, beq_eq_false_iff_ne, ne_eq] at *; split <;> omega), rfl⟩
set_option maxRecDepth 100000 in
set_option maxHeartbeats 1000000 in
theorem rgetInt_any (A : Option Addr) (n c : Nat) (l : List UInt8) (w0 w : World) (h : In8 w0 A n c l) (hw : Ext w0 w) (hle : n ≤ 1000000000) :
    Calls Tryz.prog 101 #[.slice A n c] w fun e w' => GotI w0 w (getV 0 l) e w' := by
  have hg := rget_any A n c l w0 w h hw hle
  cases hr : getV 0 l with
  | error k =>
    rw [hr] at hg
    have hk := getV_err l 0 k hr
    have hk0 : ((k : Int) != 0) = true := by simp; omega
    replace hg := hide hg
    clear h hr hk
    go_enter Tryz.func101, Tryz.ntmps101
    go_wp2_with fail
    refine hg.out.mono ?_
    rintro e w1 ⟨hE1, rfl⟩
    go_wp2_with fail
    go_ret3
    exact ⟨hE1, rfl⟩
  | ok p =>
    obtain ⟨v, r⟩ := p
    have hv := getV_lt64 hr
    rw [hr] at hg
    replace hg := hide hg
    have hb := hide (fun w => back_any v w hv)
    clear h hr
    go_enter Tryz.func101, Tryz.ntmps101
    go_wp2_with fail
    refine hg.out.mono ?_
    rintro e w1 ⟨hE1, A1, c1, rfl, hin⟩
    go_wp2_with fail
    refine (hb.out _).mono ?_
    rintro e w2 ⟨rfl, rfl⟩
    go_wp2_with fail
    go_ret3
    exact ⟨hE1, A1, c1, rfl, hin⟩
set_option maxRecDepth 100000 in
set_option maxHeartbeats 2000000 in
theorem getAll_any (A : Option Addr) (n c k : Nat) (l : List UInt8) (w0 w : World) (h : In8 w0 A n c l) (hw : Ext w0 w) (hle : n ≤ 1000000000) (hk : k ≤ 1000000) :
    Calls Tryz.prog 97 #[.slice A n c, .int .i64 k] w fun e w' => GotA w0 w k (getAll k l) e w' := by
  obtain rfl := h.len
  go_enter Tryz.func97, Tryz.ntmps97
  go_wp2_with fail
  go_loopw [4, 5, 14] (fun sl sr si wr => ∃ (i : Nat) (ns : List Int) (r : List UInt8) (A1 B : Option Addr) (c1 c2 : Nat), si = .int .i64 i ∧ i ≤ k ∧ sl = .slice B i c2 ∧ sr = .slice A1 r.length c1 ∧ r.length ≤ 1000000000 ∧ Hid (getAll k l = combA ns (getAll (k - i) r)) ∧ Hid (In8 w0 A1 r.length c1 r) ∧ Hid (Buf wr w.heap.size 3 B i c2 (ns.map (Value.int .i64))) ∧ Hid (Ext w wr)) (fun sl sr si _ => k - (intOf si).toNat)
  case atStart => exact ⟨0, [], l, A, none, c, 0, rfl, by omega, rfl, rfl, hle, hide (by rw [combA_nil]; rfl), hide h, hide (Buf.nil _ _ _), hide (Ext.refl w)⟩
  case round =>
    obtain ⟨i, ns, r, A1, B, c1, c2, rfl, hi, rfl, rfl, hr9, hg, hin, hb, hE⟩ := hrel
    by_cases hik : i < k
    · have hgi := getInt_any A1 r.length c1 r w0 wr hin.out (hw.trans hE.out) hr9
      have hst := getAll_step hg.out hik
      cases hr : getV 0 r with
      | error x =>
        rw [hr] at hgi hst
        have hx := getV_err r 0 x hr
        have hx0 : ((x : Int) != 0) = true := by simp; omega
        replace hgi := hide hgi
        replace hst := hide hst
        clear hr hx h
        go_wp2_with fail
        refine hgi.out.mono ?_
        rintro e w1 ⟨hE1, rfl⟩
        go_wp2_with fail
        go_ret3
        exact gotA_err hst.out (hE.out.trans hE1)
      | ok p =>
        obtain ⟨v, r1⟩ := p
        rw [hr] at hgi hst
        obtain ⟨_, _, p, hp, _⟩ := getV_lt r 0 v r1 hr
        have hr1 : r1.length ≤ 1000000000 := by rw [hp, List.length_append] at hr9; omega
        obtain ⟨z, hz⟩ : ∃ z, z = unzig v := ⟨_, rfl⟩
        have hzk := unzig_ok (getV_lt64 hr)
        replace hgi := hide hgi
        replace hst := hide hst
        clear hr hp h
        have hsz := hE.out.size
        go_wp2_with fail
        refine hgi.out.mono ?_
        rintro e w1 ⟨hE1, A3, c3, rfl, hin3⟩
        have hb1 := hb.out.ext hE1
        have hE2 := hE.out.trans hE1
        have hsz2 := hE2.size
        go_wp2_with (at_builtin; refine wpList_bufN elemI hb1 (.tmp 25) (.tmp 27) rfl rfl rfl rfl (one_of rfl) (by simp; omega) hsz2 (fun A4 c4 w4 hb4 hE4 => ?_))
        go_roundw
        case rel => exact ⟨i + 1, ns ++ [unzig v], r1, A3, A4, c3, c4, by go_num, by omega, rfl, rfl, hr1, hide hst.out, hide hin3, hide (by rw [List.map_append]; exact hb4), hide (hE4 w hE2 (Nat.le_refl _))⟩
        case measure => simp [intOf]; omega
    · have hst := getAll_fin hg.out (by omega)
      replace hst := hide hst
      obtain rfl : i = k := by omega
      clear h
      go_wp2_with fail
      go_ret3
      exact gotA_ok hst.out hE.out hb.out hin.out
set_option maxRecDepth 100000 in
set_option maxHeartbeats 2000000 in
theorem rgetAll_any (A : Option Addr) (n c k : Nat) (l : List UInt8) (w0 w : World) (h : In8 w0 A n c l) (hw : Ext w0 w) (hle : n ≤ 1000000000) (hk : k ≤ 1000000) :
    Calls Tryz.prog 78 #[.slice A n c, .int .i64 k] w fun e w' => GotA w0 w k (getAll k l) e w' := by
  obtain rfl := h.len
  go_enter Tryz.func78, Tryz.ntmps78
  go_wp2_with fail
  go_loopw [0, 7, 8] (fun sr sl si wr => ∃ (i : Nat) (ns : List Int) (r : List UInt8) (A1 B : Option Addr) (c1 c2 : Nat), si = .int .i64 i ∧ i ≤ k ∧ sl = .slice B i c2 ∧ sr = .slice A1 r.length c1 ∧ r.length ≤ 1000000000 ∧ Hid (getAll k l = combA ns (getAll (k - i) r)) ∧ Hid (In8 w0 A1 r.length c1 r) ∧ Hid (Buf wr w.heap.size 3 B i c2 (ns.map (Value.int .i64))) ∧ Hid (Ext w wr)) (fun sr sl si _ => k - (intOf si).toNat)
  case atStart => exact ⟨0, [], l, A, none, c, 0, rfl, by omega, rfl, rfl, hle, hide (by rw [combA_nil]; rfl), hide h, hide (Buf.nil _ _ _), hide (Ext.refl w)⟩
  case round =>
    obtain ⟨i, ns, r, A1, B, c1, c2, rfl, hi, rfl, rfl, hr9, hg, hin, hb, hE⟩ := hrel
    by_cases hik : i < k
    · have hgi := rgetInt_any A1 r.length c1 r w0 wr hin.out (hw.trans hE.out) hr9
      have hst := getAll_step hg.out hik
      cases hr : getV 0 r with
      | error x =>
        rw [hr] at hgi hst
        have hx := getV_err r 0 x hr
        have hx0 : ((x : Int) != 0) = true := by simp; omega
        replace hgi := hide hgi
        replace hst := hide hst
        clear hr hx h
        go_wp2_with fail
        refine hgi.out.mono ?_
        rintro e w1 ⟨hE1, rfl⟩
        go_wp2_with fail
        go_ret3
        exact gotA_err hst.out (hE.out.trans hE1)
      | ok p =>
        obtain ⟨v, r1⟩ := p
        rw [hr] at hgi hst
        obtain ⟨_, _, p, hp, _⟩ := getV_lt r 0 v r1 hr
        have hr1 : r1.length ≤ 1000000000 := by rw [hp, List.length_append] at hr9; omega
        obtain ⟨z, hz⟩ : ∃ z, z = unzig v := ⟨_, rfl⟩
        have hzk := unzig_ok (getV_lt64 hr)
        replace hgi := hide hgi
        replace hst := hide hst
        clear hr hp h
        have hsz := hE.out.size
        go_wp2_with fail
        refine hgi.out.mono ?_
        rintro e w1 ⟨hE1, A3, c3, rfl, hin3⟩
        have hb1 := hb.out.ext hE1
        have hE2 := hE.out.trans hE1
        have hsz2 := hE2.size
        go_wp2_with (at_builtin; refine wpList_bufN elemI hb1 (.tmp 28) (.tmp 30) rfl rfl rfl rfl (one_of rfl) (by simp; omega) hsz2 (fun A4 c4 w4 hb4 hE4 => ?_))
        go_roundw
        case rel => exact ⟨i + 1, ns ++ [unzig v], r1, A3, A4, c3, c4, by go_num, by omega, rfl, rfl, hr1, hide hst.out, hide hin3, hide (by rw [List.map_append]; exact hb4), hide (hE4 w hE2 (Nat.le_refl _))⟩
        case measure => simp [intOf]; omega
    · have hst := getAll_fin hg.out (by omega)
      replace hst := hide hst
      obtain rfl : i = k := by omega
      clear h
      go_wp2_with fail
      go_ret3
      exact gotA_ok hst.out hE.out hb.out hin.out
end Go.Proofs.YtaoolpnnomhnoaaGreatDoor

/- loggia/manifest: (*left).numbers. -/
namespace Go.Proofs.YtaoolpnnomhnoaaGreatDoor
open Go.RowKit

def numsM (bad : Bool) (L : List UInt8) (k : Nat) : Bool × List UInt8 × List Int := match bad, getAll k L with
  | false, .ok (ns, r) => (false, r, ns)
  | _, _ => (true, L, List.replicate k 0)
theorem numsM_ok {L : List UInt8} {k : Nat} {ns : List Int} {r : List UInt8} (h : getAll k L = .ok (ns, r)) : numsM false L k = (false, r, ns) := by unfold numsM; rw [h]
theorem numsM_err {L : List UInt8} {k x : Nat} (h : getAll k L = .error x) : numsM false L k = (true, L, List.replicate k 0) := by unfold numsM; rw [h]
theorem numsM_bad (L : List UInt8) (k : Nat) : numsM true L k = (true, L, List.replicate k 0) := rfl
/-- What 'numbers' does. -/
def NumP (w0 w : World) (rb : Nat) (x2 x3 x4 x5 x6 x7 : Value) (k : Nat) (res : Bool × List UInt8 × List Int) (e : Ending) (w' : World) : Prop :=
  ∃ A c B c2, e = .returned (.slice B k c2) ∧ Row w' rb 113 #[.slice A res.2.1.length c, .bool res.1, x2, x3, x4, x5, x6, x7] ∧ In8 w0 A res.2.1.length c res.2.1 ∧ Buf w' w.heap.size 3 B k c2 (res.2.2.map (Value.int .i64)) ∧ Chg (fun b => b = rb) w w'
theorem own_zeros (w : World) (k : Nat) : Buf (w.alloc (.cells (List.replicate k (Value.int .i64 0)).toArray 3)) w.heap.size 3 (some ⟨w.heap.size, 0, none⟩) k k ((List.replicate k (0 : Int)).map (Value.int .i64)) := by
  refine ⟨by simp, Nat.le_refl _, .inr ⟨w.heap.size, _, rfl, Nat.le_refl _, heap_alloc_new w _, by simp, by simp⟩⟩
set_option maxRecDepth 100000 in
set_option maxHeartbeats 2000000 in
theorem numbers_any (A : Option Addr) (n c k rb : Nat) (bad : Bool) (L : List UInt8) (x2 x3 x4 x5 x6 x7 : Value) (w0 w : World) (h : In8 w0 A n c L) (hw : Ext w0 w) (hle : n ≤ 1000000000) (hrb : w0.heap.size ≤ rb) (hk : k = 5 ∨ k = 6)
    (hr : Row w rb 113 #[.slice A n c, .bool bad, x2, x3, x4, x5, x6, x7]) :
    Calls Tryz.prog 70 #[.pointer (some ⟨rb, 0, none⟩), .int .i64 k] w fun e w' => NumP w0 w rb x2 x3 x4 x5 x6 x7 k (numsM bad L k) e w' := by
  have hga := getAll_any A n c k L w0 w h hw hle (by omega)
  have hmk : ∀ W : World, (Instr.makeSlice 25 (.int .i64 k) (.int .i64 k)).run Tryz.prog W = .ok (.slice (some ⟨W.heap.size, 0, none⟩) k k) (W.alloc (.cells (List.replicate k (Value.int .i64 0)).toArray 3)) := by
    intro W
    rcases hk with rfl | rfl <;> kernel_rfl
  have hlt := hr.lt
  obtain rfl := h.len
  have q0 : w.cell? ⟨rb, 0, none⟩ = some (.slice A L.length c) := hr.cell 0 rfl
  have hbad : ∀ w1, Ext w w1 → numsM bad L k = (true, L, List.replicate k 0) → NumP w0 w rb x2 x3 x4 x5 x6 x7 k (numsM bad L k) (.returned (.slice (some ⟨w1.heap.size, 0, none⟩) k k)) ((w1.setCell ⟨rb, 1, none⟩ (.bool true)).alloc (.cells (List.replicate k (Value.int .i64 0)).toArray 3)) := by
    intro w1 hE1 hn
    rw [hn]
    have hs : (w1.setCell ⟨rb, 1, none⟩ (.bool true)).heap.size = w1.heap.size := by simp [World.setCell]
    refine ⟨A, c, _, _, rfl, ?_, h, ?_, ?_⟩
    · exact (((hr.ext hE1).put 1 (.bool true)).alloc _)
    · have hz := own_zeros (w1.setCell ⟨rb, 1, none⟩ (.bool true)) k
      rw [hs] at hz
      exact hz.lower hE1.size
    · exact ((Chg.of_ext hE1 _).trans (Chg.of_set w1 (a := ⟨rb, 1, none⟩) (.bool true) (S := fun b => b = rb) rfl) fun _ _ h => h).trans (Chg.of_ext ((Ext.refl _).alloc _) (fun b => b = rb)) fun _ _ h => h
  replace hbad := hide hbad
  replace hga := hide hga
  cases hg : getAll k L with
  | error x =>
    rw [hg] at hga
    cases bad with
    | true =>
      have hnb := hide (numsM_bad L k)
      clear hg
      go_enter Tryz.func70, Tryz.ntmps70
      go_wp2_with fail
      refine hga.out.mono ?_
      rintro e w1 ⟨hE1, rfl, hx⟩
      have r1 := hr.ext hE1
      have y0 : w1.cell? ⟨rb, 0, none⟩ = some (.slice A L.length c) := r1.cell 0 rfl
      have y1 : w1.cell? ⟨rb, 1, none⟩ = some (.bool true) := r1.cell 1 rfl
      have hlt1 := r1.lt
      have hfr0 := r1.free 0
      have hfr1 := r1.free 1
      skip
      go_wp2_with fail
      go_ret
      have hs : (w1.setCell ⟨rb, 1, none⟩ (.bool true)).heap.size = w1.heap.size := by simp [World.setCell]
      first | exact hbad.out w1 hE1 hnb.out | (have := hbad.out w1 hE1 hnb.out; simpa [hs] using this)
    | false =>
      have hnb := hide (numsM_err hg)
      clear hg
      go_enter Tryz.func70, Tryz.ntmps70
      go_wp2_with fail
      refine hga.out.mono ?_
      rintro e w1 ⟨hE1, rfl, hx⟩
      have r1 := hr.ext hE1
      have y0 : w1.cell? ⟨rb, 0, none⟩ = some (.slice A L.length c) := r1.cell 0 rfl
      have y1 : w1.cell? ⟨rb, 1, none⟩ = some (.bool false) := r1.cell 1 rfl
      have hlt1 := r1.lt
      have hfr0 := r1.free 0
      have hfr1 := r1.free 1
      have hx0 : ((x : Int) != 0) = true := by simp; omega
      go_wp2_with fail
      go_ret
      have hs : (w1.setCell ⟨rb, 1, none⟩ (.bool true)).heap.size = w1.heap.size := by simp [World.setCell]
      first | exact hbad.out w1 hE1 hnb.out | (have := hbad.out w1 hE1 hnb.out; simpa [hs] using this)
  | ok p =>
    obtain ⟨ns, r⟩ := p
    rw [hg] at hga
    cases bad with
    | true =>
      have hnb := hide (numsM_bad L k)
      clear hg
      go_enter Tryz.func70, Tryz.ntmps70
      go_wp2_with fail
      refine hga.out.mono ?_
      rintro e w1 ⟨hE1, A1, c1, B1, c2, rfl, hb1, hin1⟩
      have r1 := hr.ext hE1
      have y0 : w1.cell? ⟨rb, 0, none⟩ = some (.slice A L.length c) := r1.cell 0 rfl
      have y1 : w1.cell? ⟨rb, 1, none⟩ = some (.bool true) := r1.cell 1 rfl
      have hlt1 := r1.lt
      have hfr0 := r1.free 0
      have hfr1 := r1.free 1
      skip
      go_wp2_with fail
      go_ret
      have hs : (w1.setCell ⟨rb, 1, none⟩ (.bool true)).heap.size = w1.heap.size := by simp [World.setCell]
      first | exact hbad.out w1 hE1 hnb.out | (have := hbad.out w1 hE1 hnb.out; simpa [hs] using this)
    | false =>
      have hnb := hide (numsM_ok hg)
      clear hg
      go_enter Tryz.func70, Tryz.ntmps70
      go_wp2_with fail
      refine hga.out.mono ?_
      rintro e w1 ⟨hE1, A1, c1, B1, c2, rfl, hb1, hin1⟩
      have r1 := hr.ext hE1
      have y0 : w1.cell? ⟨rb, 0, none⟩ = some (.slice A L.length c) := r1.cell 0 rfl
      have y1 : w1.cell? ⟨rb, 1, none⟩ = some (.bool false) := r1.cell 1 rfl
      have hlt1 := r1.lt
      have hfr0 := r1.free 0
      have hfr1 := r1.free 1
      skip
      go_wp2_with fail
      go_ret
      rw [hnb.out]
      refine ⟨A1, c1, B1, c2, rfl, r1.put 0 _, hin1, ?_, ?_⟩
      · exact hb1.setCell (fun a ha hbk => by have := hb1.base_le a ha; have hbk2 : a.block = rb := hbk; omega) _
      · exact (Chg.of_ext hE1 _).trans (Chg.of_set w1 (a := ⟨rb, 0, none⟩) _ (S := fun b => b = rb) rfl) fun _ _ h => h
end Go.Proofs.YtaoolpnnomhnoaaGreatDoor

/- 'append' of an element of several cells. -/
namespace Go.Proofs.YtaoolpnnomhnoaaGreatDoor
open Go.RowKit

/-- 'append' of values that the statement has just laid in a new block; an element has more than one cell. -/
theorem wpList_appS {P : Program} {ops : Array Oper} {rest : List Oper} {o : Oper} {a : Act} {Q : Exit → Act → World → Prop} {w0 : World} {us : List Value} {T : TypeId} {t e size bytes m : Nat} (E : Elem P t e size bytes)
    {base : Nat} {v : Value} {n : Nat} {xs : List Value} (hown : w0.ownsRow base e size v n xs) (s x : Operand)
    (ho : o.op = .call { callee := .builtin .append, args := #[s, x], argTypes := #[t, t] }) (hgd : o.guard = none)
    (hs : a.eval s = v) (hx : a.eval x = .slice (some ⟨w0.heap.size, 0, none⟩) m m) (hl : us.length = m * size) (h1 : ∀ u ∈ us, u.oneCell' = true) (hsz : n + m ≤ 4294967296) (hbase : base ≤ w0.heap.size)
    (h : ∀ A1 c1 w', w'.ownsRow base e size (.slice A1 (n + m) c1) (n + m) (xs ++ us) → w0.grownBy w' v.ownBlock → ((Value.slice A1 (n + m) c1).ownBlock = v.ownBlock ∨ (Value.slice A1 (n + m) c1).ownBlock = some (w0.heap.size + 1)) →
      wpList P ops Q rest (a.put o.dst (.slice A1 (n + m) c1)) w') :
    wpList P ops Q (o :: rest) a (w0.alloc (.cells us.toArray T)) := by
  refine wpList_app E (((Ext.refl w0).alloc _).owns hown) (A := some ⟨w0.heap.size, 0, none⟩) (news := us) (.inr ⟨w0.heap.size, 0, rfl, fun i u hu => ?_⟩) s x ho hgd hs hx rfl hl h1 hsz (by simp; omega) fun A1 c1 w' h2 h3 h4 => ?_
  · rw [Nat.zero_add, cell_of_row _ _ _ _ _ _ (heap_alloc_new w0 _)]
    simpa using hu
  · refine h A1 c1 w' h2 ⟨h3.os, h3.tape, h3.output, Nat.le_trans (by simp) h3.size, fun k hk hne => (h3.block k (by simp; omega) hne).trans (Below.heap_alloc w0 _ k hk)⟩ ?_
    simpa using h4
end Go.Proofs.YtaoolpnnomhnoaaGreatDoor

/- loggia/manifest: (*reader).parts. -/
namespace Go.Proofs.YtaoolpnnomhnoaaGreatDoor
open Go.RowKit

def partsM : Nat → Bool → List UInt8 → Bool × List Pt
  | 0, bad, _ => (bad, [])
  | k + 1, bad, L => ((partsM k (numsM bad L 6).1 (numsM bad L 6).2.1).1, mkPt (numsM bad L 6).2.2 :: (partsM k (numsM bad L 6).1 (numsM bad L 6).2.1).2)
theorem partsM_bad : ∀ (k : Nat) (L : List UInt8), (partsM k true L).1 = true
  | 0, _ => rfl
  | k + 1, L => by
    unfold partsM
    rw [numsM_bad]
    exact partsM_bad k L
theorem partsM_ok : ∀ (k : Nat) (L : List UInt8) (ps : List Pt) (r : List UInt8), getPts k L = .ok (ps, r) → partsM k false L = (false, ps)
  | 0, L, ps, r, h => by
    unfold getPts at h
    injection h with h
    injection h with h1 h2
    subst h1
    rfl
  | k + 1, L, ps, r, h => by
    unfold getPts at h
    split at h
    · cases h
    · rename_i ns r1 hg
      split at h
      · cases h
      · rename_i ps1 r2 hr
        injection h with h
        injection h with h1 h2
        subst h1
        unfold partsM
        rw [numsM_ok hg]
        simp only
        rw [partsM_ok k r1 ps1 r2 hr]
theorem partsM_err : ∀ (k : Nat) (L : List UInt8) (x : Nat), getPts k L = .error x → (partsM k false L).1 = true
  | 0, L, x, h => by unfold getPts at h; cases h
  | k + 1, L, x, h => by
    unfold getPts at h
    unfold partsM
    split at h
    · rename_i e hg
      rw [numsM_err hg]
      exact partsM_bad k L
    · rename_i ns r1 hg
      rw [numsM_ok hg]
      simp only
      split at h
      · rename_i e hr
        exact partsM_err k r1 e hr
      · cases h
theorem numsM_len (bad : Bool) (L : List UInt8) (k : Nat) : (numsM bad L k).2.2.length = k ∧ (∀ n ∈ (numsM bad L k).2.2, -9223372036854775808 ≤ n ∧ n ≤ 9223372036854775807) ∧ (numsM bad L k).2.1.length ≤ L.length := by
  have hz : ∀ n ∈ List.replicate k (0 : Int), -9223372036854775808 ≤ n ∧ n ≤ 9223372036854775807 := fun n hn => by
    rw [List.eq_of_mem_replicate hn]
    omega
  cases bad with
  | true => rw [numsM_bad]; exact ⟨by simp, hz, Nat.le_refl _⟩
  | false =>
    cases hg : getAll k L with
    | error x => rw [numsM_err hg]; exact ⟨by simp, hz, Nat.le_refl _⟩
    | ok p =>
      obtain ⟨ns, r⟩ := p
      rw [numsM_ok hg]
      obtain ⟨h1, h2, q, h3⟩ := getAll_len k L ns r hg
      refine ⟨h1, h2, ?_⟩
      rw [h3, List.length_append]
      exact Nat.le_add_left _ _
theorem partsM_in : ∀ (k : Nat) (bad : Bool) (L : List UInt8), (partsM k bad L).2.length = k ∧ ∀ p ∈ (partsM k bad L).2, p.Ok
  | 0, _, _ => ⟨rfl, nofun⟩
  | k + 1, bad, L => by
    obtain ⟨h1, h2⟩ := partsM_in k (numsM bad L 6).1 (numsM bad L 6).2.1
    unfold partsM
    refine ⟨by rw [List.length_cons, h1], fun p hp => ?_⟩
    rcases List.mem_cons.1 hp with rfl | hp
    · exact mkPt_ok (numsM_len bad L 6).2.1
    · exact h2 p hp
/-- The partitions that the reader reads. -/
def partsP (bad : Bool) (L : List UInt8) : Bool × List Pt := match getV 0 L with
  | .error _ => (true, [])
  | .ok (n, r) => if bad = true ∨ 512 < n then (true, []) else partsM n false r
theorem six_of {l : List Int} (h : l.length = 6) : ∃ a0 a1 a2 a3 a4 a5, l = [a0, a1, a2, a3, a4, a5] := by
  match l, h with
  | [a0, a1, a2, a3, a4, a5], _ => exact ⟨a0, a1, a2, a3, a4, a5, rfl⟩
theorem partsM_step {v i : Nat} {b b3 : Bool} {L L3 : List UInt8} {ns : List Int} {ps : List Pt} {Z : Bool × List Pt} (h : Z = ((partsM (v - i) b L).1, ps ++ (partsM (v - i) b L).2)) (hi : i < v) (hq : (b3, L3, ns) = numsM b L 6) :
    Z = ((partsM (v - (i + 1)) b3 L3).1, (ps ++ [mkPt ns]) ++ (partsM (v - (i + 1)) b3 L3).2) := by
  obtain ⟨k, hk⟩ : ∃ k, v - i = k + 1 := ⟨v - i - 1, by omega⟩
  rw [h, hk, show v - (i + 1) = k by omega]
  conv => lhs; unfold partsM
  rw [← hq]
  simp
theorem pcells_snoc (ps : List Pt) (p : Pt) : pcells (ps ++ [p]) = pcells ps ++ p.cells := by unfold pcells; rw [List.flatMap_append]; simp
set_option maxRecDepth 100000 in
theorem elemP : Elem Tryz.prog 22 71 7 56 := ⟨Tryz.underlying22, ⟨_, _, rfl, rfl, rfl, rfl, rfl⟩, by omega, by omega⟩
def ReadP (w0 w : World) (rb : Nat) (x3 x4 x5 x6 x7 : Value) (res : Bool × List Pt) (w' : World) : Prop :=
  ∃ A c P cp, ∃ L : List UInt8, Row w' rb 113 #[.slice A L.length c, .bool res.1, .slice P res.2.length cp, x3, x4, x5, x6, x7] ∧ w'.ownsRow w.heap.size 71 7 (.slice P res.2.length cp) res.2.length (pcells res.2) ∧ Chg (fun b => b = rb) w w'
set_option maxRecDepth 100000 in
set_option maxHeartbeats 4000000 in
theorem parts_any (A : Option Addr) (n c rb : Nat) (bad : Bool) (L : List UInt8) (x3 x4 x5 x6 x7 : Value) (w0 w : World) (h : In8 w0 A n c L) (hw : Ext w0 w) (hle : n ≤ 1000000000) (hrb : w0.heap.size ≤ rb)
    (hr : Row w rb 113 #[.slice A n c, .bool bad, .slice none 0 0, x3, x4, x5, x6, x7]) :
    Calls Tryz.prog 71 #[.pointer (some ⟨rb, 0, none⟩)] w fun e w' => e = .returned (.tuple #[]) ∧ ReadP w0 w rb x3 x4 x5 x6 x7 (partsP bad L) w' := by
  obtain rfl := h.len
  have q0 : w.cell? ⟨rb, 0, none⟩ = some (.slice A L.length c) := hr.cell 0 rfl
  have hlt := hr.lt
  have hgv := get_any A L.length c L w0 w h hw hle
  replace hgv := hide hgv
  have hone : ∀ w1, Ext w w1 → partsP bad L = (true, []) → ReadP w0 w rb x3 x4 x5 x6 x7 (partsP bad L) (w1.setCell ⟨rb, 1, none⟩ (.bool true)) := by
    intro w1 hE1 hn
    rw [hn]
    refine ⟨A, c, none, 0, L, (hr.ext hE1).put 1 (.bool true), ⟨rfl, .inl ⟨rfl, rfl⟩⟩, ?_⟩
    exact (Chg.of_ext hE1 _).trans (Chg.of_set w1 (a := ⟨rb, 1, none⟩) (.bool true) (S := fun b => b = rb) rfl) fun _ _ h => h
  replace hone := hide hone
  cases hg : getV 0 L with
  | error x =>
    have hpp : partsP bad L = (true, []) := by unfold partsP; rw [hg]
    rw [hg] at hgv
    have hx := getV_err L 0 x hg
    have hx0 : ((x : Int) != 0) = true := by simp; omega
    replace hpp := hide hpp
    clear hg hx
    go_enter Tryz.func71, Tryz.ntmps71
    go_wp2_with fail
    refine hgv.out.mono ?_
    rintro e w1 ⟨hE1, rfl⟩
    have r1 := hr.ext hE1
    have y1 : w1.cell? ⟨rb, 1, none⟩ = some (.bool bad) := r1.cell 1 rfl
    have hlt1 := r1.lt
    have hfr1 := r1.free 1
    go_wp2_with fail
    all_goals
      first
        | (go_end0; exact ⟨rfl, hone.out _ hE1 hpp.out⟩)
        | exact bodyPost_ret (v := .tuple #[]) (by simp [results, Tryz.results71, go_sem]) rfl ⟨rfl, hone.out _ hE1 hpp.out⟩
  | ok p =>
    obtain ⟨v, r⟩ := p
    rw [hg] at hgv
    have hv := getV_lt64 hg
    have hrl : r.length ≤ 1000000000 := by
      obtain ⟨_, _, q, hq, _⟩ := getV_lt L 0 v r hg
      rw [hq, List.length_append] at hle
      omega
    by_cases hb5 : bad = true ∨ 512 < v
    · have hpp : partsP bad L = (true, []) := by unfold partsP; rw [hg]; simp only; rw [if_pos hb5]
      replace hpp := hide hpp
      clear hg
      have hb5' : bad = false → 512 < v := fun h => by rcases hb5 with h2 | h2; rw [h] at h2; cases h2; exact h2
      replace hb5' := hide hb5'
      clear hb5
      cases bad with
      | true =>
        go_enter Tryz.func71, Tryz.ntmps71
        go_wp2_with fail
        refine hgv.out.mono ?_
        rintro e w1 ⟨hE1, A1, c1, rfl, hin1⟩
        have r1 := hr.ext hE1
        have y1 : w1.cell? ⟨rb, 1, none⟩ = some (.bool true) := r1.cell 1 rfl
        have hlt1 := r1.lt
        have hfr1 := r1.free 1
        go_wp2_with fail
        all_goals
          first
            | (go_end0; exact ⟨rfl, hone.out _ hE1 hpp.out⟩)
            | exact bodyPost_ret (v := .tuple #[]) (by simp [results, Tryz.results71, go_sem]) rfl ⟨rfl, hone.out _ hE1 hpp.out⟩
      | false =>
        have hv5 := hb5'.out rfl
        go_enter Tryz.func71, Tryz.ntmps71
        go_wp2_with fail
        refine hgv.out.mono ?_
        rintro e w1 ⟨hE1, A1, c1, rfl, hin1⟩
        have r1 := hr.ext hE1
        have y1 : w1.cell? ⟨rb, 1, none⟩ = some (.bool false) := r1.cell 1 rfl
        have hlt1 := r1.lt
        have hfr1 := r1.free 1
        go_wp2_with fail
        all_goals
          first
            | (go_end0; exact ⟨rfl, hone.out _ hE1 hpp.out⟩)
            | exact bodyPost_ret (v := .tuple #[]) (by simp [results, Tryz.results71, go_sem]) rfl ⟨rfl, hone.out _ hE1 hpp.out⟩
    · have hpp : partsP bad L = partsM v false r := by unfold partsP; rw [hg]; simp only; rw [if_neg hb5]
      have hbf : bad = false := by cases bad with | false => rfl | true => exact absurd (.inl rfl) hb5
      have hv5 : v ≤ 512 := by omega
      subst hbf
      replace hpp := hide hpp
      clear hg hone hb5
      go_enter Tryz.func71, Tryz.ntmps71
      go_wp2_with fail
      refine hgv.out.mono ?_
      rintro e w1 ⟨hE1, A1, c1, rfl, hin1⟩
      have r1 := hr.ext hE1
      have y1 : w1.cell? ⟨rb, 1, none⟩ = some (.bool false) := r1.cell 1 rfl
      have y0 : w1.cell? ⟨rb, 0, none⟩ = some (.slice A L.length c) := r1.cell 0 rfl
      have hlt1 := r1.lt
      have hfr0 := r1.free 0
      have r2 := hide (show Row (w1.setCell ⟨rb, 0, none⟩ (.slice A1 r.length c1)) rb 113 #[.slice A1 r.length c1, .bool false, .slice none 0 0, x3, x4, x5, x6, x7] from r1.put 0 _)
      have hc2 := hide ((Chg.of_ext hE1 (fun b => b = rb)).trans (Chg.of_set w1 (a := ⟨rb, 0, none⟩) (.slice A1 r.length c1) (S := fun b => b = rb) rfl) fun _ _ h => h)
      go_wp2_with fail
      go_loopw [40] (fun s40 wr => ∃ (i : Nat) (bad2 : Bool) (L2 : List UInt8) (ps : List Pt) (A2 P : Option Addr) (c3 cp : Nat), s40 = .int .u64 i ∧ i ≤ v ∧ L2.length ≤ 1000000000 ∧ Hid (partsM v false r = ((partsM (v - i) bad2 L2).1, ps ++ (partsM (v - i) bad2 L2).2)) ∧ Hid (ps.length = i) ∧ Hid (Row wr rb 113 #[.slice A2 L2.length c3, .bool bad2, .slice P i cp, x3, x4, x5, x6, x7]) ∧ Hid (In8 w0 A2 L2.length c3 L2) ∧ Hid (wr.ownsRow w.heap.size 71 7 (.slice P i cp) i (pcells ps)) ∧ Hid (Chg (fun b => b = rb) w wr)) (fun s40 _ => v - (intOf s40).toNat)
      case atStart => exact ⟨0, false, r, [], A1, none, c1, 0, rfl, by omega, hrl, hide (by simp), hide rfl, r2, hide hin1, hide ⟨rfl, .inl ⟨rfl, rfl⟩⟩, hc2⟩
      case round =>
        obtain ⟨i, bad2, L2, ps, A2, P, c3, cp, rfl, hi, hL2, hpm, hpl, hrw, hin2, hown, hch⟩ := hrel
        by_cases hiv : i < v
        · have hE2 : Ext w0 wr := hw.chg hch.out fun k hk h => by omega
          have hnum := numbers_any A2 L2.length c3 6 rb bad2 L2 (.slice P i cp) x3 x4 x5 x6 x7 w0 wr hin2.out hE2 hL2 hrb (.inr rfl) hrw.out
          obtain ⟨n1, n2, n3⟩ := numsM_len bad2 L2 6
          obtain ⟨a0, a1, a2, a3, a4, a5, hns⟩ := six_of n1
          obtain ⟨q, hq⟩ : ∃ q, q = numsM bad2 L2 6 := ⟨_, rfl⟩
          rw [← hq] at hnum hns n3
          obtain ⟨b3, L3, ns⟩ := q
          simp only at hns n3
          subst hns
          replace hnum := hide hnum
          have hq' := hide hq
          clear n1 n2 hq
          have hlr := hrw.out.lt
          go_wp2_with fail
          refine hnum.out.mono ?_
          rintro e w2 ⟨A3, c4, B, cb, rfl, hr2, hin3, hbu, hch2⟩
          obtain ⟨g, o, rfl, hcc⟩ := hbu.cells.at_ (by simp)
          have z0 : w2.cell? ⟨g, o, none⟩ = some (.int .i64 a0) := hcc 0 _ rfl
          have z1 : w2.cell? ⟨g, o + 1, none⟩ = some (.int .i64 a1) := hcc 1 _ rfl
          have z2 : w2.cell? ⟨g, o + 2, none⟩ = some (.int .i64 a2) := hcc 2 _ rfl
          have z3 : w2.cell? ⟨g, o + 3, none⟩ = some (.int .i64 a3) := hcc 3 _ rfl
          have z4 : w2.cell? ⟨g, o + 4, none⟩ = some (.int .i64 a4) := hcc 4 _ rfl
          have z5 : w2.cell? ⟨g, o + 5, none⟩ = some (.int .i64 a5) := hcc 5 _ rfl
          go_wp2_with fail
          refine wp_region_text follows (by kernel_rfl) (by kernel_rfl) (fun K hK => ?_)
          go_wp2_with fail
          refine ⟨by kernel_rfl, ?_⟩
          go_wp2_with fail
          obtain ⟨w3, hw3⟩ : ∃ w3, w3 = (w2.alloc (.cells #[.int .i64 a0, .int .i64 a1, .int .i64 a2, .int .i64 a3, .int .i64 a4, .int .i64 a5, .int .i64 (wrap64 (wrap64 (a5 - a4) + 1))] 71)).drew := ⟨_, rfl⟩
          have hE3 : Ext w2 w3 := by rw [hw3]; exact ((Ext.refl w2).alloc _).drew
          have hpr : Row w3 w2.heap.size 71 #[.int .i64 a0, .int .i64 a1, .int .i64 a2, .int .i64 a3, .int .i64 a4, .int .i64 a5, .int .i64 (wrap64 (wrap64 (a5 - a4) + 1))] := by rw [hw3]; exact (Row.new w2 _ _).drew
          have hstep := hide (partsM_step hpm.out hiv hq'.out)
          have hrbw : rb < w.heap.size := hlt
          have hnrb : ∀ g, (Value.slice P i cp).ownBlock = some g → ¬ g = rb := fun g hg e => by
            obtain ⟨_, _, hb⟩ := owns_row hown.out hg
            omega
          have hown3 := hE3.owns (hch2.owns hown.out hnrb)
          have hr3 := hr2.ext hE3
          have hch3 := hide ((hch.out.trans hch2 fun _ _ h => h).trans (Chg.of_ext hE3 (fun b => b = rb)) fun _ _ h => h)
          rw [← hw3]
          clear hw3 z0 z1 z2 z3 z4 z5 hcc hbu hq' hpm hown hrw
          have p0 := hpr.cell 0 rfl
          have p1 := hpr.cell 1 rfl
          have p2 := hpr.cell 2 rfl
          have p3 := hpr.cell 3 rfl
          have p4 := hpr.cell 4 rfl
          have p5 := hpr.cell 5 rfl
          have p6 := hpr.cell 6 rfl
          have q2 : w3.cell? ⟨rb, 2, none⟩ = some (.slice P i cp) := hr3.cell 2 rfl
          have hown4 := hide (((Ext.refl w3).drew).owns hown3)
          have hr4 := hide (hr3.drew)
          have hsz3 := hch3.out.size
          have hne3 := hide hnrb
          clear hown3 hpr hr3 hnrb hr2 hch2 hE3
          refine wp_region_text follows (by kernel_rfl) (by kernel_rfl) (fun K hK => ?_)
          go_wp2_with (at_builtin; refine wpList_appS (m := 1) elemP hown4.out (.tmp 77) (.tmp 79) rfl rfl rfl rfl rfl (one_of rfl) (by omega) hsz3 (fun A4 c5 w4 ho5 hg5 hl5 => ?_); have r5 := Row.grown hr4.out hg5 (fun e => hne3.out rb e.symm rfl); have y2 : w4.cell? ⟨rb, 2, none⟩ = some (.slice P i cp) := r5.cell 2 rfl; have f2 := r5.free 2; have l5 := r5.lt; have r6 := hide r5; have hg6 := hide hg5; have ho6 := hide ho5; clear r5 hg5 ho5 hl5)
          refine ⟨by kernel_rfl, ?_⟩
          go_wp2_with fail
          go_roundw
          case rel =>
            have hpt : (mkPt [a0, a1, a2, a3, a4, a5]).cells = [.int .i64 a0, .int .i64 a1, .int .i64 a2, .int .i64 a3, .int .i64 a4, .int .i64 a5, .int .i64 (wrap64 (wrap64 (a5 - a4) + 1))] := rfl
            have hne4 : (Value.slice A4 (i + 1) c5).ownBlock ≠ some rb := fun e => by
              obtain ⟨_, _, hb⟩ := owns_row ho6.out e
              omega
            refine ⟨i + 1, b3, L3, ps ++ [mkPt [a0, a1, a2, a3, a4, a5]], A3, A4, c4, c5, by go_num, by omega, by omega, hstep, hide (by rw [List.length_append, hpl.out]; rfl), hide (r6.out.put 2 _), hide hin3, hide ?_, hide ?_⟩
            · rw [pcells_snoc, hpt]
              exact owns_set ho6.out hne4 _
            · have hgr : Chg (fun b => b = rb ∨ (Value.slice P i cp).ownBlock = some b) w3.drew (w4.setCell ⟨rb, 2, none⟩ (.slice A4 (i + 1) c5)) :=
                Chg.trans (S' := fun b => b = rb ∨ (Value.slice P i cp).ownBlock = some b) (Chg.of_grown hg6.out fun k _ e => .inr e) (Chg.of_set w4 (a := ⟨rb, 2, none⟩) _ (.inl rfl)) fun _ _ h => h
              refine (hch3.out.trans (Chg.of_ext (Ext.refl w3).drew (fun b => b = rb)) fun _ _ h => h).trans hgr fun k hk hh => ?_
              rcases hh with hh | hh
              · exact hh
              · obtain ⟨_, _, hb⟩ := owns_row hown4.out hh
                omega
          case measure => simp [intOf]; omega
        · obtain rfl : i = v := by omega
          have hz := hpm.out
          rw [Nat.sub_self, show partsM 0 bad2 L2 = (bad2, []) from rfl, List.append_nil] at hz
          replace hz := hide hz
          go_wp2_with fail
          have hfin : ReadP w0 w rb x3 x4 x5 x6 x7 (partsP false L) wr := by
            rw [hpp.out, hz.out]
            exact ⟨A2, c3, P, cp, L2, by rw [hpl.out]; exact hrw.out, by rw [hpl.out]; exact hown.out, hch.out⟩
          first
            | (go_end0; exact ⟨rfl, hfin⟩)
            | exact bodyPost_ret (v := .tuple #[]) (by simp [results, Tryz.results71, go_sem]) rfl ⟨rfl, hfin⟩
end Go.Proofs.YtaoolpnnomhnoaaGreatDoor

/- slices.Equal of bytes; cut. -/
namespace Go.Proofs.YtaoolpnnomhnoaaGreatDoor
open Go.RowKit

set_option maxRecDepth 100000 in
set_option maxHeartbeats 2000000 in
theorem equalB_any (A B : Option Addr) (n m c c2 : Nat) (a b : List UInt8) (w : World) (ha : In8 w A n c a) (hb : In8 w B m c2 b) (hn : n ≤ 1000000000) (hm : m ≤ 1000000000) :
    Calls Tryz.prog 72 #[.slice A n c, .slice B m c2] w fun e w' => e = .returned (.bool (decide (a = b))) ∧ Ext w w' := by
  have hal := ha.len
  have hbl := hb.len
  have hne : ((n : Int) != (m : Int)) = true → decide (a = b) = false := fun h => decide_eq_false fun e => by rw [e] at hal; simp at h; omega
  replace hne := hide hne
  by_cases hnm : n = m
  · subst hnm
    replace hal := hide hal
    replace hbl := hide hbl
    clear hne
    go_enter Tryz.func72, Tryz.ntmps72
    go_wp2_with fail
    go_loopw [13] (fun s13 wr => ∃ i : Nat, s13 = .int .i64 i ∧ i ≤ n ∧ Hid (a.take i = b.take i) ∧ Hid (Ext w wr)) (fun s13 _ => n - (intOf s13).toNat)
    case atStart => exact ⟨0, rfl, by omega, rfl, hide (Ext.refl w)⟩
    case round =>
      obtain ⟨i, rfl, hi, hab, hE⟩ := hrel
      by_cases hin : i < n
      · have hia : i < a.length := by rw [← hal.out]; exact hin
        have hib : i < b.length := by rw [← hbl.out]; exact hin
        obtain ⟨g, o, rfl, hc⟩ := ha.bytes.at_ (by omega)
        obtain ⟨g2, o2, rfl, hc2⟩ := hb.bytes.at_ (by omega)
        have k0 := hE.out.cell (hc i hia)
        have k1 := hE.out.cell (hc2 i hib)
        have hx : a[i] = b[i] → a.take (i + 1) = b.take (i + 1) := fun h => by rw [List.take_succ_eq_append_getElem hia, List.take_succ_eq_append_getElem hib, hab.out, h]
        have hy : a[i] ≠ b[i] → decide (a = b) = false := fun h => decide_eq_false fun e => h (by subst e; rfl)
        obtain ⟨p, hp⟩ : ∃ p, p = a[i] := ⟨_, rfl⟩
        obtain ⟨q, hq⟩ : ∃ q, q = b[i] := ⟨_, rfl⟩
        rw [← hp, ← hq] at hx hy
        rw [← hp] at k0
        rw [← hq] at k1
        have hi0 : (0 : Int) ≤ i := by omega
        have hi1 : (i : Int) < n := by omega
        replace hx := hide hx
        replace hy := hide hy
        clear hp hq hc hc2
        by_cases hpq : p = q
        · subst hpq
          have hx2 := hide (hx.out rfl)
          clear hx hy
          go_wp2_with fail
          go_quiet (fail)
          go_wp2_with fail
          go_roundw
          case rel => exact ⟨i + 1, by go_num, by omega, hx2, by first | exact hide hE.out.drew | exact hide (hE.out.drewN _)⟩
          case measure => simp [intOf]; omega
        · have hy2 := hide (hy.out hpq)
          have hpn : (((p.toNat : Int)) != (q.toNat : Int)) = true := by simp; exact fun h => hpq (UInt8.toNat_inj.1 (by omega))
          clear hx hy
          go_wp2_with fail
          go_quiet (fail)
          go_wp2_with fail
          go_ret
          exact ⟨ret_bool hy2.out.symm, by first | exact hE.out.drew | exact hE.out.drewN _⟩
      · obtain rfl : i = n := by omega
        have hd : decide (a = b) = true := decide_eq_true (by
          have h := hab.out
          rw [List.take_of_length_le (by rw [← hal.out]; exact Nat.le_refl _), List.take_of_length_le (by rw [← hbl.out]; exact Nat.le_refl _)] at h
          exact h)
        replace hd := hide hd
        go_wp2_with fail
        go_ret
        exact ⟨ret_bool hd.out.symm, hE.out⟩
  · have hd := hide (hne.out (by simp; omega))
    clear hne hal hbl ha hb
    go_enter Tryz.func72, Tryz.ntmps72
    go_wp2_with fail
    go_ret
    exact ⟨ret_bool hd.out.symm, Ext.refl w⟩
def cutL (l : List UInt8) : List UInt8 := l.take 900
theorem In8.take {w : World} {A : Option Addr} {n c : Nat} {l : List UInt8} (h : In8 w A n c l) {k : Nat} (hk : k ≤ n) : In8 w A k c (l.take k) := by
  refine ⟨by rw [List.length_take, ← h.len]; omega, ?_, by have := h.cap; omega, h.nil_, h.at_⟩
  rcases h.bytes with hb | ⟨g, o, hA, hb⟩
  · left
    have : l = [] := by simpa using hb
    rw [this]
    simp
  · refine .inr ⟨g, o, hA, fun i v hv => hb i v ?_⟩
    rw [List.getElem?_map] at hv ⊢
    rw [List.getElem?_take] at hv
    split at hv
    · exact hv
    · cases hv
set_option maxRecDepth 100000 in
set_option maxHeartbeats 1000000 in
theorem cut_any (A : Option Addr) (n c : Nat) (l : List UInt8) (w0 w : World) (h : In8 w0 A n c l) : Calls Tryz.prog 39 #[.slice A n c] w fun e w' => (e = .returned (.slice A (cutL l).length c) ∧ In8 w0 A (cutL l).length c (cutL l)) ∧ w' = w := by
  have hcap := h.cap
  have hl := h.len
  by_cases h9 : n ≤ 900
  · have ht : cutL l = l := List.take_of_length_le (by omega)
    rw [ht, ← hl]
    clear hl ht
    go_enter Tryz.func39, Tryz.ntmps39
    go_wp2_with fail
    go_ret
    exact ⟨⟨rfl, h⟩, rfl⟩
  · have hhd := fun W => run_head1 (n := n) (c := c) (k := 900) (A := A) (by omega) (fun a ha => (h.at_ a ha).1) W
    have ht := h.take (k := 900) (by omega)
    have hl9 : (cutL l).length = 900 := by unfold cutL; rw [List.length_take]; omega
    rw [hl9]
    clear hl hl9
    go_enter Tryz.func39, Tryz.ntmps39
    go_wp2_with fail
    go_ret
    exact ⟨⟨rfl, ht⟩, rfl⟩
end Go.Proofs.YtaoolpnnomhnoaaGreatDoor

/- loggia/manifest: Decode. -/
namespace Go.Proofs.YtaoolpnnomhnoaaGreatDoor
open Go.RowKit

set_option maxRecDepth 100000 in
theorem In8.sub {w : World} {A : Option Addr} {n c : Nat} {l : List UInt8} (h : In8 w A n c l) {fr k : Nat} (hf : fr + k ≤ n) {z0 z : Int} (hz0 : z0 = (fr : Int)) (hz : z = (fr : Int) + (k : Int)) :
    ∃ A' c', (∀ W : World, (Instr.sliceAt 57 (.slice A n c) (some (.int .i64 z0)) (some (.int .i64 z)) none).run Tryz.prog W = .ok (.slice A' k c') W) ∧ In8 w A' k c' ((l.drop fr).take k) := by
  subst hz0
  subst hz
  have ht := Tryz.underlying57
  have he : Tryz.prog.elem 57 = 5 := by unfold Program.elem; rw [ht]
  have hs : ∀ W : World, (sizeOf 5).run Tryz.prog W = .ok 1 W := fun W => by kernel_rfl
  have hcap := h.cap
  have hrun : ∀ W : World, (Instr.sliceAt 57 (.slice A n c) (some (.int .i64 fr)) (some (.int .i64 ((fr : Int) + (k : Int)))) none).run Tryz.prog W = .ok (sliced A fr (fr + k) c 1) W := by
    intro W
    rw [run_sliceAt_slice W _ _ _ _ _ (by rw [ht, he]), run_slice_lh W _ A n c (by rw [ht, he]) .i64 .i64 fr ((fr : Int) + k) (by omega) (by omega) (by omega), he, hs]
    simp only [Result.andThen_ok]
    congr 1
  unfold sliced at hrun
  rw [Nat.add_sub_cancel_left] at hrun
  refine ⟨_, _, hrun, by rw [List.length_take, List.length_drop, ← h.len]; omega, ?_, by omega, ?_, ?_⟩
  · rcases h.bytes with hb | ⟨g, o, rfl, hb⟩
    · left
      have : l = [] := by simpa using hb
      rw [this]
      simp
    · by_cases hcf : c = fr
      · left
        have : k = 0 := by omega
        subst this
        simp
      · refine .inr ⟨g, o + fr, by rw [if_neg hcf]; simp [Addr.add_lit], fun i v hv => ?_⟩
        rw [Nat.add_assoc]
        refine hb (fr + i) v ?_
        rw [List.getElem?_map] at hv ⊢
        rw [List.getElem?_take] at hv
        split at hv
        · rw [List.getElem?_drop] at hv
          exact hv
        · cases hv
  · intro hn
    cases A with
    | none => have := h.nil_ rfl; omega
    | some a => split at hn <;> cases hn
  · intro a ha
    cases A with
    | none => split at ha <;> cases ha
    | some b =>
      obtain ⟨h1, h2⟩ := h.at_ b rfl
      obtain ⟨b, o, sp⟩ := b
      obtain rfl : sp = Option.none := h1
      split at ha
      · cases ha; exact ⟨rfl, h2⟩
      · cases ha
        show (Addr.add ⟨b, o, none⟩ (fr * 1)).spot = none ∧ (Addr.add ⟨b, o, none⟩ (fr * 1)).block < w.heap.size
        rw [Addr.add_lit]
        exact ⟨rfl, h2⟩
def nilMf : Mf := ⟨[], 0, 0, 0, 0, 0⟩
/-- What Decode answers. -/
def DecP (w : World) (res : Option Mf) (e : Ending) (w' : World) : Prop := Ext w w' ∧ match res with
  | some m => ∃ A c, e = .returned (.tuple #[m.val A c, .int .i64 0]) ∧ m.Ok w' w'.heap.size A c
  | none => e = .returned (.tuple #[nilMf.val none 0, .int .i64 160])
theorem getM_reads (L : List UInt8) : ((partsP (numsM false L 5).1 (numsM false L 5).2.1).1 = false → getM L = some (mkMf (numsM false L 5).2.2 (partsP (numsM false L 5).1 (numsM false L 5).2.1).2)) ∧
    ((partsP (numsM false L 5).1 (numsM false L 5).2.1).1 = true → getM L = none) := by
  unfold getM
  cases hg : getAll 5 L with
  | error x =>
    rw [numsM_err hg]
    simp only
    refine ⟨fun h => ?_, fun _ => trivial⟩
    unfold partsP at h
    split at h
    · cases h
    · rw [if_pos (.inl rfl)] at h; cases h
  | ok p =>
    obtain ⟨ns, r⟩ := p
    rw [numsM_ok hg]
    simp only
    unfold partsP
    cases hv : getV 0 r with
    | error x => exact ⟨fun h => (by cases h), fun _ => rfl⟩
    | ok q =>
      obtain ⟨n, r2⟩ := q
      simp only [Bool.false_eq_true, false_or]
      by_cases h5 : 512 < n
      · rw [if_pos h5, if_pos h5]
        exact ⟨fun h => (by cases h), fun _ => rfl⟩
      · rw [if_neg h5, if_neg h5]
        cases hp : getPts n r2 with
        | error x =>
          have := partsM_err n r2 x hp
          exact ⟨fun h => (by rw [h] at this; cases this), fun _ => rfl⟩
        | ok t =>
          obtain ⟨ps, r3⟩ := t
          rw [partsM_ok n r2 ps r3 hp]
          exact ⟨fun _ => rfl, fun h => (by cases h)⟩
theorem five_of {l : List Int} (h : l.length = 5) : ∃ a0 a1 a2 a3 a4, l = [a0, a1, a2, a3, a4] := by
  match l, h with
  | [a0, a1, a2, a3, a4], _ => exact ⟨a0, a1, a2, a3, a4, rfl⟩
theorem owns_parts {w : World} {base : Nat} {P : Option Addr} {cp : Nat} {ps : List Pt} (h : w.ownsRow base 71 7 (.slice P ps.length cp) ps.length (pcells ps)) (hok : ∀ p ∈ ps, p.Ok) (h5 : ps.length ≤ 9223372036854775807) : PS w w.heap.size P ps.length cp ps := by
  refine ⟨rfl, Cells.of_own h, fun hne a ha => ?_, ?_, h5, hok⟩
  · rcases h.2 with ⟨hv, _⟩ | ⟨g, cap, cur, hv, _, hg, _⟩
    · injection hv with h0 _ _
      rw [h0] at ha
      cases ha
    · injection hv with h0 _ _
      rw [h0] at ha
      cases ha
      exact ⟨(Array.getElem?_eq_some_iff.1 hg).1, rfl⟩
  · rcases h.2 with ⟨hv, _⟩ | ⟨g, cap, cur, hv, _, hg, hn, _⟩
    · injection hv with _ h1 h2
      omega
    · injection hv with _ h1 h2
      omega
end Go.Proofs.YtaoolpnnomhnoaaGreatDoor

/- manifest.Save and manifest.Load, plainly; the manifest as a whole. -/
namespace Go.Proofs.YtaoolpnnomhnoaaGreatDoor
open Go.RowKit Go.Maps

/-- manifest, manifest.new -/
def curN : List UInt8 := [109, 97, 110, 105, 102, 101, 115, 116]
def comN : List UInt8 := [109, 97, 110, 105, 102, 101, 115, 116, 46, 110, 101, 119]
theorem cur_named : namedM curN = true := by decide
theorem com_named : namedM comN = true := by decide
def goneM (P : PD) : PD × Nat := if (sizeM P comN).2 then removeM P comN else (P, 0)
def thenM (x : PD × Nat) (f : PD → PD × Nat) : PD × Nat := if x.2 = 0 then f x.1 else x
def chainM : List (PD → PD × Nat) → PD → PD × Nat
  | [], P => (P, 0)
  | f :: fs, P => thenM (f P) (chainM fs)
def stepsM (P : PD) (b : List UInt8) : PD × Nat := chainM [goneM, fun P => appendM P comN b, fun P => syncM P comN, fun P => renameM P comN curN] P
theorem chain_go {f : PD → PD × Nat} {fs : List (PD → PD × Nat)} {P : PD} (h : (f P).2 = 0) : chainM (f :: fs) P = chainM fs (f P).1 := by show (if (f P).2 = 0 then chainM fs (f P).1 else f P) = _; rw [if_pos h]
theorem chain_no {f : PD → PD × Nat} {fs : List (PD → PD × Nat)} {P : PD} (h : ¬ (f P).2 = 0) : chainM (f :: fs) P = f P := by show (if (f P).2 = 0 then chainM fs (f P).1 else f P) = _; rw [if_neg h]
def saveM (P : PD) (m : Mf) : PD × Nat := if checkP m = 0 then (if (stepsM P (encM m)).2 = 0 ∨ (stepsM P (encM m)).2 = 63 then stepsM P (encM m) else ((goneM (stepsM P (encM m)).1).1, (stepsM P (encM m)).2)) else (P, checkP m)


def loadM (P : PD) : Mf × Bool × Nat := if P.stopped then (nilMf, false, 63) else match P.find curN with
  | none => (newM, false, 0)
  | some f => match decM (f.2.1.take 67108864) with
    | none => (nilMf, false, 160)
    | some m => (m, true, 0)
theorem flat_len_le {α : Type} (f : α → List UInt8) (k : Nat) : ∀ l : List α, (∀ x ∈ l, (f x).length ≤ k) → (l.flatMap f).length ≤ l.length * k
  | [], _ => by simp
  | x :: l, h => by
    have h1 := h x (List.mem_cons_self ..)
    have h2 := flat_len_le f k l fun y hy => h y (List.mem_cons_of_mem _ hy)
    rw [List.flatMap_cons, List.length_append, List.length_cons, Nat.add_mul]
    omega
theorem vall_le10 (l : List Int) (h : ∀ n ∈ l, I64ok n) : (vall l).length ≤ l.length * 10 := by
  unfold vall
  exact flat_len_le _ 10 l fun n hn => vb_len10 (by have := h n hn; unfold I64ok at this; unfold zig; split <;> omega)
theorem enc_small {m : Mf} (hi : m.In) (h : checkP m = 0) : (encM m).length ≤ 40000 := by
  obtain ⟨h5, _⟩ := checkP_zero h
  rw [encM_len]
  unfold encB
  rw [List.length_append, List.length_append, List.length_append]
  have h1 := vall_le10 [m.floor, m.done, m.log, m.next, m.now] (by
    intro n hn
    simp only [List.mem_cons, List.not_mem_nil, or_false] at hn
    rcases hn with rfl | rfl | rfl | rfl | rfl
    · exact hi.floor
    · exact hi.done
    · exact hi.log
    · exact hi.next
    · exact hi.now)
  have h2 := vb_len10 (n := m.ps.length) (by omega)
  have h3 := flat_len_le (fun p : Pt => vall [p.id, p.st, p.lo, p.hi, p.fi, p.la]) 60 m.ps (fun p hp => by
    have ho := hi.parts p hp
    refine vall_le10 [p.id, p.st, p.lo, p.hi, p.fi, p.la] ?_
    intro n hn
    simp only [List.mem_cons, List.not_mem_nil, or_false] at hn
    rcases hn with rfl | rfl | rfl | rfl | rfl | rfl
    · exact ho.id
    · exact ho.st
    · exact ho.lo
    · exact ho.hi
    · exact ho.fi
    · exact ho.la)
  simp only [List.length_cons, List.length_nil] at h1 ⊢
  omega
/-- A disk with the manifest, and one with the coming one. -/
def PD1 (A : List UInt8) (a c : Nat) : PD := ⟨[(curN, A, a)], 0, c, false⟩
theorem cur_ne : ¬ curN = comN := by decide
theorem com_ne : ¬ comN = curN := by decide
theorem cur_lt : curN < comN := by decide
theorem com_lt : ¬ comN < curN := by decide
theorem steps0 (B : List UInt8) (hB : B.length ≤ 67108864) : stepsM ⟨[], 0, 0, false⟩ B = (PD1 B B.length 0, 0) := by
  have hB2 : ¬ 67108864 < B.length := by omega
  simp [stepsM, chainM, thenM, goneM, sizeM, PD.find, appendM, com_named, putM, hB2, fullM, PD.goes, withG, withoutG, insG, fname, syncM, writesM, renameM, cur_named, PD1]
theorem steps1 (A B : List UInt8) (a c : Nat) (hB : B.length ≤ 67108864) : stepsM (PD1 A a c) B = (
    if c = 1 then (⟨[(curN, A, a)], 0, 0, true⟩, 63)
    else if c = 2 then (⟨[(curN, A, a), (comN, B, 0)], 0, 0, true⟩, 63)
    else if c = 3 then (⟨[(curN, A, a), (comN, B, B.length)], 0, 0, true⟩, 63)
    else (PD1 B B.length (c - 1 - 1 - 1), 0)) := by
  have hB2 : ¬ 67108864 < B.length := by omega
  have h2 : (c - 1 = 1) ↔ c = 2 := by omega
  have h3 : (c - 1 - 1 = 1) ↔ c = 3 := by omega
  by_cases h1 : c = 1
  · subst h1
    simp [stepsM, chainM, thenM, goneM, sizeM, PD.find, appendM, com_named, putM, hB2, fullM, PD.stops, fname, cur_ne, PD1]
  · by_cases hc2 : c = 2
    · subst hc2
      simp [stepsM, chainM, thenM, goneM, sizeM, PD.find, appendM, com_named, putM, hB2, fullM, PD.goes, PD.stops, withG, withoutG, insG, fname, cur_ne, com_ne, com_lt, syncM, writesM, PD1]
    · by_cases hc3 : c = 3
      · subst hc3
        simp [stepsM, chainM, thenM, goneM, sizeM, PD.find, appendM, com_named, cur_named, putM, hB2, fullM, PD.goes, PD.stops, withG, withoutG, insG, fname, cur_ne, com_ne, com_lt, syncM, writesM, renameM, PD1]
      · have h2' : ¬ (c - 1 = 1) := by omega
        have h3' : ¬ (c - 1 - 1 = 1) := by omega
        simp [stepsM, chainM, thenM, goneM, sizeM, PD.find, appendM, com_named, cur_named, putM, hB2, fullM, PD.goes, PD.stops, withG, withoutG, insG, fname, cur_ne, com_ne, com_lt, syncM, writesM, renameM, PD1, h1, hc2, hc3, h2', h3']
theorem load_head {A : List UInt8} {L : List PF} {q : Nat} {m : Mf} (keep : List Int) (hA : A.length ≤ 67108864) (hd : decM A = some m) (st : Bool) (ar : Nat) : loadM (restartM ⟨(curN, A, A.length) :: L, q, ar, st⟩ keep) = (m, true, 0) := by
  have hk : leftM ((curN, A, A.length) : PF) keep[0]? = A.length := by
    unfold leftM
    cases keep[0]? with
    | none => rfl
    | some k =>
      simp only
      show A.length + (k % ((A.length : Int) - (A.length : Nat) + 1)).toNat = A.length
      have h1 : ((A.length : Int) - (A.length : Nat) + 1) = 1 := by omega
      rw [h1, Int.emod_one]
      rfl
  unfold loadM restartM
  simp only [Bool.false_eq_true, if_false]
  unfold keptM PD.find
  rw [List.mapIdx_cons, hk]
  unfold cutM
  simp only [List.take_length, fname, List.find?_cons, decide_true]
  rw [List.take_of_length_le hA, hd]
/-- A Save on a new disk. -/
theorem save0 {a : Mf} (hi : a.In) (h : checkP a = 0) : saveM ⟨[], 0, 0, false⟩ a = (PD1 (encM a) (encM a).length 0, 0) := by
  have hl := enc_small hi h
  unfold saveM
  rw [if_pos h, steps0 _ (by omega), if_pos (.inl rfl)]
theorem save_bad {P : PD} {a : Mf} (h : ¬ checkP a = 0) : saveM P a = (P, checkP a) := by
  unfold saveM
  rw [if_neg h]
/-- As a whole: behind any stop and restart the old one or the new one is loaded; the new one, where Save told OK. -/
theorem whole {a b : Mf} (ha : a.In) (hb : b.In) (hca : checkP a = 0) (c : Nat) (keep : List Int) :
    ∃ m, loadM (restartM (saveM (PD1 (encM a) (encM a).length c) b).1 keep) = (m, true, 0) ∧ (checkP b ≠ 0 → (saveM (PD1 (encM a) (encM a).length c) b).2 = checkP b ∧ m = a) ∧ (checkP b = 0 → m = b ∨ (saveM (PD1 (encM a) (encM a).length c) b).2 ≠ 0 ∧ m = a) := by
  have hla := enc_small ha hca
  have hda := decM_of ha hca rfl
  by_cases hcb : checkP b = 0
  · have hlb := enc_small hb hcb
    have hdb := decM_of hb hcb rfl
    have hs := steps1 (encM a) (encM b) (encM a).length c (by omega)
    have hold : ∀ L st, loadM (restartM ⟨(curN, encM a, (encM a).length) :: L, 0, 0, st⟩ keep) = (a, true, 0) := fun L st => load_head keep (by omega) hda st 0
    have key : saveM (PD1 (encM a) (encM a).length c) b = stepsM (PD1 (encM a) (encM a).length c) (encM b) := by
      unfold saveM
      rw [if_pos hcb, if_pos]
      rw [hs]
      split
      · exact .inr rfl
      · split
        · exact .inr rfl
        · split
          · exact .inr rfl
          · exact .inl rfl
    rw [key, hs]
    split
    · exact ⟨a, hold _ _, fun h => absurd hcb h, fun _ => .inr ⟨by show (63 : Nat) ≠ 0; omega, rfl⟩⟩
    · split
      · exact ⟨a, hold _ _, fun h => absurd hcb h, fun _ => .inr ⟨by show (63 : Nat) ≠ 0; omega, rfl⟩⟩
      · split
        · exact ⟨a, hold _ _, fun h => absurd hcb h, fun _ => .inr ⟨by show (63 : Nat) ≠ 0; omega, rfl⟩⟩
        · exact ⟨b, load_head keep (by omega) hdb _ _, fun h => absurd hcb h, fun _ => .inl rfl⟩
  · rw [save_bad hcb]
    exact ⟨a, load_head keep (by omega) hda _ _, fun _ => ⟨rfl, rfl⟩, fun h => absurd h hcb⟩
end Go.Proofs.YtaoolpnnomhnoaaGreatDoor

/- A disk in memory and a disk, plainly; the calls that turn little. -/
namespace Go.Proofs.YtaoolpnnomhnoaaGreatDoor
open Go.RowKit Go.Maps

/-- The disk at d with the map m and the files E is P. -/
structure DE (w : World) (base d m : Nat) (P : PD) (E : List Ent) : Prop where
  row : DRow w d m P.quota P.armed P.stopped
  fs : FS w base m E
  low : base ≤ d
  up : Up Ent.name E
  cnt : E.length ≤ 1024
  lens : ∀ e ∈ E, e.b.length ≤ 67108864
  pl : E.map Ent.pl = P.L
  hq : P.quota ≤ 9223372036854775807
  ha : P.armed ≤ 9223372036854775807
/-- Its blocks. -/
def Foot (d m : Nat) (E : List Ent) (k : Nat) : Prop := k = d ∨ k = m ∨ ∃ e ∈ E, k = e.f ∨ ∃ a, e.A = some a ∧ a.block = k
/-- The disk at d is P; it has the blocks F. -/
def DS (w : World) (base d : Nat) (P : PD) (F : Nat → Prop) : Prop := ∃ m E, DE w base d m P E ∧ ∀ k, F k ↔ Foot d m E k
/-- A call of the disk at d, of the blocks F, has made P of it. -/
def DNext (base d : Nat) (F : Nat → Prop) (w : World) (P : PD) (w' : World) : Prop := ∃ F', DS w' base d P F' ∧ Chg F w w' ∧ ∀ k, F' k → F k ∨ w.heap.size ≤ k
section
variable {w w1 : World} {base d m : Nat} {P : PD} {E : List Ent} {F : Nat → Prop}
theorem DE.used (h : DE w base d m P E) : usedM E = usedP P.L := by
  rw [← h.pl]
  unfold usedM usedP
  rw [List.map_map]
  rfl
theorem used_bd : ∀ (E : List Ent), (∀ e ∈ E, e.b.length ≤ 67108864) → usedM E ≤ E.length * 67108864
  | [], _ => Nat.zero_le _
  | e :: E, h => by
    have := used_bd E fun x hx => h x (List.mem_cons_of_mem _ hx)
    have := h e (List.mem_cons_self ..)
    unfold usedM at *
    simp only [List.map_cons, List.sum_cons, List.length_cons]
    omega
theorem DE.used_le (h : DE w base d m P E) : usedM E ≤ 68719476736 := Nat.le_trans (used_bd E h.lens) (by have := h.cnt; omega)
theorem DE.find_in (h : DE w base d m P E) {e : Ent} (he : e ∈ E) : P.find e.name = some e.pl := by
  have h2 : Up fname P.L := by
    rw [← h.pl]
    unfold Up
    rw [List.pairwise_map]
    exact h.up
  exact find_of h2 (f := e.pl) (by rw [← h.pl]; exact List.mem_map.2 ⟨e, he, rfl⟩)
theorem DE.find_out (h : DE w base d m P E) {s : List UInt8} (hn : ∀ e ∈ E, e.name ≠ s) : P.find s = none := find_no (fun f hf => by
  rw [← h.pl] at hf
  obtain ⟨e, he, rfl⟩ := List.mem_map.1 hf
  exact hn e he)
set_option maxRecDepth 100000 in
theorem key_str {s : List UInt8} (hs : s.length ≤ 9223372036854775807) : keyOf Tryz.prog 9 (str s) = some (.string s) := WideMaps.keyOf_string_mk (P := Tryz.prog) Tryz.underlying9 (s := ⟨s.toArray⟩) (by rw [ByteArray.size_mk_toArray]; exact hs)
set_option maxRecDepth 100000 in
theorem DE.lookup (h : DE w base d m P E) (s : List UInt8) (hs : s.length ≤ 9223372036854775807) (W : World) (hW : W.heap[m]? = w.heap[m]?) :
    (∃ e ∈ E, e.name = s ∧ (Instr.lookup 54 (.map (some m)) (str s) true).run Tryz.prog W = .ok (.tuple #[.pointer (some ⟨e.f, 0, none⟩), .bool true]) W) ∨
    ((∀ e ∈ E, e.name ≠ s) ∧ (Instr.lookup 54 (.map (some m)) (str s) true).run Tryz.prog W = .ok (.tuple #[.pointer none, .bool false]) W) := by
  obtain ⟨L, hL, hmem, _⟩ := h.fs.map
  rcases (hL.keep hW).look keyS Tryz.underlying54 (x := str s) (key_str hs) (by kernel_rfl : (zeroValue 75).run Tryz.prog W = .ok (.pointer none) W) true with ⟨v, hv, hrun⟩ | ⟨hno, hrun⟩
  · obtain ⟨e, he, hkv⟩ := (hmem _).1 hv
    unfold Ent.kv at hkv
    injection hkv with h1 h2
    subst h2
    exact .inl ⟨e, he, (str_inj h1).symm, hrun⟩
  · refine .inr ⟨fun e he hs => hno e.kv ((hmem _).2 ⟨e, he, rfl⟩) (by rw [← hs]; rfl), hrun⟩
theorem DE.lt (h : DE w base d m P E) {k : Nat} (hk : Foot d m E k) : k < w.heap.size := by
  rcases hk with rfl | rfl | ⟨e, he, rfl | ⟨a, ha, rfl⟩⟩
  · exact Row.lt h.row
  · obtain ⟨L, hL, _⟩ := h.fs.map
    exact hL.lt
  · exact (h.fs.ok e he).row.lt
  · exact (h.fs.ok e he).buf.lt a ha
theorem DE.base_le (h : DE w base d m P E) {k : Nat} (hk : Foot d m E k) : base ≤ k := by
  rcases hk with rfl | rfl | ⟨e, he, rfl | ⟨a, ha, rfl⟩⟩
  · exact h.low
  · exact h.fs.low
  · exact (h.fs.ok e he).low
  · exact (h.fs.ok e he).buf.base_le a ha
theorem DS.lt (h : DS w base d P F) {k : Nat} (hk : F k) : k < w.heap.size := by
  obtain ⟨m, E, hD, hF⟩ := h
  exact hD.lt ((hF k).1 hk)
theorem DS.base_le (h : DS w base d P F) {k : Nat} (hk : F k) : base ≤ k := by
  obtain ⟨m, E, hD, hF⟩ := h
  exact hD.base_le ((hF k).1 hk)
theorem EOk.keep {e : Ent} (h : EOk w base e) (hf : w1.heap[e.f]? = w.heap[e.f]?) (ha : ∀ a, e.A = some a → w1.heap[a.block]? = w.heap[a.block]?) : EOk w1 base e :=
  ⟨h.row.keep hf, h.buf.keep fun g hg => ha ⟨g, 0, none⟩ hg, h.low, h.sure⟩
theorem FS.keep (h : FS w base m E) (hm : w1.heap[m]? = w.heap[m]?) (he : ∀ e ∈ E, w1.heap[e.f]? = w.heap[e.f]? ∧ ∀ a, e.A = some a → w1.heap[a.block]? = w.heap[a.block]?) : FS w1 base m E := by
  obtain ⟨⟨L, hL, hmem⟩, hok, r1, r2, r3, r4, r5⟩ := h
  exact ⟨⟨L, hL.keep hm, hmem⟩, fun e h => (hok e h).keep (he e h).1 (he e h).2, r1, r2, r3, r4, r5⟩
theorem FS.chg {S : Nat → Prop} (h : FS w base m E) (hc : Chg S w w1) (hn : ∀ k, S k → k ≠ m ∧ ∀ e ∈ E, k ≠ e.f ∧ ∀ a, e.A = some a → k ≠ a.block) : FS w1 base m E := by
  have hml : m < w.heap.size := by
    obtain ⟨L, hL, _⟩ := h.map
    exact hL.lt
  exact h.keep (hc.block m hml fun hs => (hn m hs).1 rfl) fun e he => ⟨hc.block _ (h.ok e he).row.lt fun hs => ((hn _ hs).2 e he).1 rfl, fun a ha => hc.block _ ((h.ok e he).buf.lt a ha) fun hs => ((hn _ hs).2 e he).2 a ha rfl⟩
theorem DE.chg {S : Nat → Prop} (h : DE w base d m P E) (hc : Chg S w w1) (hn : ∀ k, S k → ¬ Foot d m E k) : DE w1 base d m P E :=
  ⟨Chg.row hc h.row (fun hs => hn d hs (.inl rfl)), h.fs.chg hc (fun k hs => ⟨fun e => hn k hs (.inr (.inl e)), fun x hx => ⟨fun e => hn k hs (.inr (.inr ⟨x, hx, .inl e⟩)), fun a ha e => hn k hs (.inr (.inr ⟨x, hx, .inr ⟨a, ha, e.symm⟩⟩))⟩⟩), h.low, h.up, h.cnt, h.lens, h.pl, h.hq, h.ha⟩
theorem DS.chg {S : Nat → Prop} (h : DS w base d P F) (hc : Chg S w w1) (hn : ∀ k, S k → ¬ F k) : DS w1 base d P F := by
  obtain ⟨m, E, hD, hF⟩ := h
  exact ⟨m, E, hD.chg hc (fun k hs hk => hn k hs ((hF k).2 hk)), hF⟩
theorem DS.ext (h : DS w base d P F) (hc : Ext w w1) : DS w1 base d P F := h.chg (Chg.of_ext hc (fun _ => False)) (fun _ h => h.elim)
/-- Block d is none of the files', nor the map. -/
theorem DE.apart (h : DE w base d m P E) : d ≠ m ∧ ∀ e ∈ E, d ≠ e.f ∧ ∀ a, e.A = some a → d ≠ a.block := by
  refine ⟨?_, fun e he => ⟨Row.unlike h.row (h.fs.ok e he).row (by decide), fun a ha hd => (h.fs.ok e he).buf.unlike h.row (by decide) a ha hd.symm⟩⟩
  rintro rfl
  obtain ⟨L, hL, _⟩ := h.fs.map
  obtain ⟨es, cl, hm, _⟩ := hL.ex
  have h1 : w.heap[d]? = some (.cells _ _ (0, 0)) := h.row
  rw [h1] at hm
  cases hm
/-- Only its own block has turned. -/
theorem DE.own {P' : PD} (h : DE w base d m P E) (hc : Chg (fun k => k = d) w w1) (hr : DRow w1 d m P'.quota P'.armed P'.stopped) (hL : P'.L = P.L) (hq : P'.quota ≤ 9223372036854775807) (ha : P'.armed ≤ 9223372036854775807) : DE w1 base d m P' E :=
  ⟨hr, h.fs.chg hc (fun k hk => by subst hk; exact h.apart), h.low, h.up, h.cnt, h.lens, by rw [hL]; exact h.pl, hq, ha⟩
theorem DS.next (h : DS w base d P F) {m : Nat} {E E' : List Ent} {P' : PD} (hF : ∀ k, F k ↔ Foot d m E k) (hD : DE w1 base d m P' E') (hc : Chg (Foot d m E) w w1) (hf : ∀ k, Foot d m E' k → Foot d m E k ∨ w.heap.size ≤ k) : DNext base d F w P' w1 :=
  ⟨Foot d m E', ⟨m, E', hD, fun _ => Iff.rfl⟩, hc.mono (fun k _ hk => (hF k).2 hk), fun k hk => (hf k hk).imp_left (hF k).2⟩
end
theorem run_max2 {P : Program} (ts : Array TypeId) (ty : TypeId) {x y m : Int} (hm : m = max x y) (W : World) : (Builtin.max_ ts ty #[.int .i64 x, .int .i64 y]).run P W = .ok (.int .i64 m) W := by
  simp only [Builtin.max_, List.foldlM, Builtin.max2, Sem.run_bind, Sem.run_pure, Result.andThen_ok]
  subst hm
  congr 2
  split <;> omega
set_option maxRecDepth 100000 in
theorem arm_any (base d : Nat) (P : PD) (F : Nat → Prop) (q : Int) (w : World) (h : DS w base d P F) (hq : q ≤ 9223372036854775807) :
    Calls Tryz.prog 10 #[.pointer (some ⟨d, 0, none⟩), .int .i64 q] w fun e w' => e = .returned (.tuple #[]) ∧ DNext base d F w { P with armed := q.toNat } w' := by
  have hS := h
  obtain ⟨m, E, hD, hF⟩ := h
  have h0 := none_any d m P.quota P.armed P.stopped w hD.row
  have f1 := Row.free hD.row 2
  have hp := Row.put hD.row 2 (.int .i64 (q.toNat : Nat))
  have c1 : w.cell? ⟨d, 2, none⟩ = some (.int .i64 P.armed) := Row.cell hD.row 2 rfl
  have hmx : (max q 0 : Int) = (q.toNat : Nat) := by omega
  have hmy : (max 0 q : Int) = (q.toNat : Nat) := by omega
  replace hmx := hide hmx
  replace hmy := hide hmy
  replace h0 := hide h0
  replace hp := hide hp
  go_enter Tryz.func10, Tryz.ntmps10
  go_wp2_with fail
  refine h0.out.mono ?_
  rintro e w1 ⟨rfl, rfl⟩
  go_wp2_with fail
  all_goals
    first | rw [hmx.out] | rw [hmy.out]
    go_end0
    have hc : Chg (fun k => k = d) w1 (w1.setCell ⟨d, 2, none⟩ (.int .i64 (q.toNat : Nat))) := Chg.of_set w1 (a := ⟨d, 2, none⟩) _ rfl
    exact ⟨rfl, hS.next hF (E' := E) (P' := { P with armed := q.toNat }) (hD.own hc hp.out rfl hD.hq (by show q.toNat ≤ _; omega)) (hc.mono (fun k _ hk => .inl hk)) (fun k hk => .inl hk)⟩
end Go.Proofs.YtaoolpnnomhnoaaGreatDoor

/- loggia/disk: New, Size, Durable, List. -/
namespace Go.Proofs.YtaoolpnnomhnoaaGreatDoor
open Go.RowKit Go.Maps

theorem new_no (q : Int) (w : World) (hq : q < 0) :
    Calls Tryz.prog 6 #[.int .i64 q] w fun e w' => e = .returned (.tuple #[.pointer none, .int .i64 1]) ∧ w' = w := by
  go_enter Tryz.func6, Tryz.ntmps6
  go_wp2_with fail
  go_ret2
  exact ⟨rfl, rfl⟩
theorem fs_new (w : World) (base m : Nat) (hm : MapL Tryz.prog 9 w m []) (hb : base ≤ m) : FS w base m [] :=
  ⟨⟨[], hm, by simp, rfl⟩, by simp, hb, List.nodup_nil, by simp, List.Pairwise.nil, List.Pairwise.nil⟩
theorem new_yes (base : Nat) (q : Nat) (w : World) (hq : q ≤ 9223372036854775807) (hb : base ≤ w.heap.size) :
    Calls Tryz.prog 6 #[.int .i64 q] w fun e w' => ∃ d F, e = .returned (.tuple #[.pointer (some ⟨d, 0, none⟩), .int .i64 0]) ∧ DS w' base d ⟨[], q, 0, false⟩ F ∧ (∀ k, F k → w.heap.size ≤ k) ∧ Ext w w' := by
  have hm := MapL.made (P := Tryz.prog) (k := 9) w
  have hr := Row.new (w.alloc (.map #[] 0)) 56 #[.map (some w.heap.size), .int .i64 q, .int .i64 0, .bool false]
  have hm2 := hm.alloc (.cells #[.map (some w.heap.size), .int .i64 q, .int .i64 0, .bool false] 56)
  have hE : Ext w ((w.alloc (.map #[] 0)).alloc (.cells #[.map (some w.heap.size), .int .i64 q, .int .i64 0, .bool false] 56)) := ((Ext.refl w).alloc _).alloc _
  replace hr := hide hr
  have hmm := @run_makeMap Tryz.prog
  go_enter Tryz.func6, Tryz.ntmps6
  go_wp2_with fail
  go_ret2
  refine ⟨w.heap.size + 1, Foot (w.heap.size + 1) w.heap.size [], rfl, ⟨w.heap.size, [], ⟨?_, fs_new _ _ _ hm2 hb, by omega, List.Pairwise.nil, by simp, by simp, rfl, hq, by simp⟩, fun _ => Iff.rfl⟩, ?_, hE⟩
  · have h := hr.out
    have hs : (w.alloc (.map #[] 0)).heap.size = w.heap.size + 1 := by simp
    rw [hs] at h
    exact h
  · rintro k (rfl | rfl | ⟨e, he, _⟩)
    · omega
    · omega
    · cases he
set_option maxRecDepth 100000 in
set_option maxHeartbeats 1000000 in
theorem size_any (base d : Nat) (P : PD) (F : Nat → Prop) (s : List UInt8) (w : World) (h : DS w base d P F) (hs : s.length ≤ 9223372036854775807) :
    Calls Tryz.prog 57 #[.pointer (some ⟨d, 0, none⟩), str s] w fun e w' => e = .returned (.tuple #[.int .i64 (sizeM P s).1, .bool (sizeM P s).2]) ∧ w' = w := by
  obtain ⟨m, E, hD, hF⟩ := h
  have h0 := none_any d m P.quota P.armed P.stopped w hD.row
  have c0 : w.cell? ⟨d, 0, none⟩ = some (.map (some m)) := Row.cell hD.row 0 rfl
  have c3 : w.cell? ⟨d, 3, none⟩ = some (.bool P.stopped) := Row.cell hD.row 3 rfl
  replace h0 := hide h0
  cases hb : P.stopped with
  | true =>
    have hm : sizeM P s = (0, false) := by unfold sizeM; rw [hb]; rfl
    rw [hm]
    rw [hb] at c3
    replace hb := hide hb
    clear hm
    go_enter Tryz.func57, Tryz.ntmps57
    go_wp2_with fail
    refine h0.out.mono ?_
    rintro e w1 ⟨rfl, rfl⟩
    go_wp2_with fail
    go_ret2
    exact ⟨rfl, rfl⟩
  | false =>
    rw [hb] at c3
    rcases hD.lookup s hs w rfl with ⟨e0, he0, hn, hrun⟩ | ⟨hno, hrun⟩
    · have hm : sizeM P s = (e0.b.length, true) := by
        unfold sizeM
        rw [hb, ← hn, hD.find_in he0]
        rfl
      rw [hm]
      have cf : w.cell? ⟨e0.f, 0, none⟩ = some (.slice e0.A e0.b.length e0.c) := (hD.fs.ok e0 he0).row.cell 0 rfl
      obtain ⟨n, hnn⟩ : ∃ n, n = e0.b.length := ⟨_, rfl⟩
      rw [← hnn] at cf ⊢
      replace hnn := hide hnn
      replace hb := hide hb
      replace hn := hide hn
      clear hm
      go_enter Tryz.func57, Tryz.ntmps57
      go_wp2_with fail
      refine h0.out.mono ?_
      rintro e w1 ⟨rfl, rfl⟩
      go_wp2_with fail
      go_ret2
      exact ⟨rfl, rfl⟩
    · have hm : sizeM P s = (0, false) := by
        unfold sizeM
        rw [hb, hD.find_out hno]
        rfl
      rw [hm]
      replace hb := hide hb
      clear hm hno
      go_enter Tryz.func57, Tryz.ntmps57
      go_wp2_with fail
      refine h0.out.mono ?_
      rintro e w1 ⟨rfl, rfl⟩
      go_wp2_with fail
      go_ret2
      exact ⟨rfl, rfl⟩
theorem DE.fnames {w : World} {base d m : Nat} {P : PD} {E : List Ent} (h : DE w base d m P E) : sortN (E.map Ent.name) = P.L.map fname := by
  rw [sortN_eq h.up.le, ← h.pl, List.map_map]
  rfl
set_option maxRecDepth 100000 in
set_option maxHeartbeats 1000000 in
theorem list_any (base d : Nat) (P : PD) (F : Nat → Prop) (w : World) (h : DS w base d P F) :
    Calls Tryz.prog 50 #[.pointer (some ⟨d, 0, none⟩)] w fun e w' => ∃ A n c, e = .returned (.slice A n c) ∧ n = (listM P).length ∧ Cells w' A ((listM P).map str) ∧ (∀ a, A = some a → w.heap.size ≤ a.block ∧ a.block < w'.heap.size) ∧ n ≤ 1024 ∧ n ≤ c ∧ Ext w w' := by
  obtain ⟨m, E, hD, hF⟩ := h
  have h0 := none_any d m P.quota P.armed P.stopped w hD.row
  have c3 : w.cell? ⟨d, 3, none⟩ = some (.bool P.stopped) := Row.cell hD.row 3 rfl
  replace h0 := hide h0
  cases hb : P.stopped with
  | true =>
    have hm : listM P = [] := by unfold listM; rw [hb]; rfl
    rw [hm]
    rw [hb] at c3
    replace hb := hide hb
    clear hm
    go_enter Tryz.func50, Tryz.ntmps50
    go_wp2_with fail
    refine h0.out.mono ?_
    rintro e w1 ⟨rfl, rfl⟩
    go_wp2_with fail
    go_ret
    exact ⟨none, 0, 0, rfl, rfl, Cells.nil _ _, nofun, by omega, by omega, Ext.refl _⟩
  | false =>
    rw [hb] at c3
    have hm : listM P = sortN (E.map Ent.name) := by unfold listM; rw [hb, hD.fnames]; rfl
    rw [hm]
    have hnm := names_any base d m P.quota P.armed P.stopped E w hD.row hD.fs hD.cnt
    have hl : (sortN (E.map Ent.name)).length = E.length := by rw [(sortN_perm _).length_eq, List.length_map]
    have hcnt := hD.cnt
    replace hm := hide hm
    replace hb := hide hb
    replace hl := hide hl
    replace hnm := hide hnm
    go_enter Tryz.func50, Tryz.ntmps50
    go_wp2_with fail
    refine h0.out.mono ?_
    rintro e w1 ⟨rfl, rfl⟩
    go_wp2_with fail
    refine hnm.out.mono ?_
    rintro e w2 ⟨A, n, c, rfl, hn, hbuf, hE⟩
    replace hn := hide hn
    go_wp2_with fail
    go_ret
    exact ⟨A, n, c, rfl, by rw [hl.out]; exact hn.out, hbuf.cells, fun a ha => ⟨hbuf.base_le a ha, hbuf.lt a ha⟩, by rw [hn.out]; exact hcnt, hbuf.2.1, hE⟩
end Go.Proofs.YtaoolpnnomhnoaaGreatDoor

/- slices.Clone of bytes; Read. -/
namespace Go.Proofs.YtaoolpnnomhnoaaGreatDoor
open Go.RowKit Go.Maps

end Go.Proofs.YtaoolpnnomhnoaaGreatDoor

/- loggia/disk: Read. -/
namespace Go.Proofs.YtaoolpnnomhnoaaGreatDoor
open Go.RowKit Go.Maps

/-- Behind the list of one name. -/
abbrev oneW (w : World) (s : List UInt8) : World := w.alloc (.cells #[.string ⟨s.toArray⟩] 9)
theorem may_one (base d : Nat) (P : PD) (F : Nat → Prop) (s : List UInt8) (w : World) (h : DS w base d P F) (hs : s.length ≤ 9223372036854775807) :
    Calls Tryz.prog 52 #[.pointer (some ⟨d, 0, none⟩), .slice (some ⟨w.heap.size, 0, none⟩) 1 1] (oneW w s) fun e w' => e = .returned (.int .i64 (mayM [s] P.stopped)) ∧ oneW w s = w' := by
  have hE : Ext w (oneW w s) := (Ext.refl w).alloc _
  obtain ⟨m, E, hD, hF⟩ := h.ext hE
  refine (may_any d m P.quota P.armed P.stopped (some ⟨w.heap.size, 0, none⟩) 1 1 [s] (oneW w s) hD.row rfl ?_ (by omega) (by simpa using hs)).mono fun e w' h => ⟨h.1, h.2.symm⟩
  refine .inr ⟨w.heap.size, 0, rfl, fun i v hv => ?_⟩
  rw [Nat.zero_add, cell_of_row _ _ _ _ _ _ (heap_alloc_new w _)]
  simpa [str] using hv
theorem may_ok {s : List UInt8} (h : namedM s = true) : mayM [s] false = 0 := by unfold mayM; simp [h]
theorem may_stop {s : List UInt8} (h : namedM s = true) : mayM [s] true = 63 := by unfold mayM; simp [h]
theorem may_bad {s : List UInt8} (b : Bool) (h : namedM s = false) : mayM [s] b = 60 := by unfold mayM; simp [h]
/-- What Read answers. -/
def ReadPost (P : PD) (s : List UInt8) (fr n : Int) (w : World) (e : Ending) (w' : World) : Prop :=
  ∃ A k c, e = .returned (.tuple #[.slice A k c, .int .i64 (readM P s fr n).2]) ∧ Buf w' w.heap.size 5 A k c ((readM P s fr n).1.map B8) ∧ k = (readM P s fr n).1.length ∧ Ext w w'
theorem readPost_err {P : PD} {s : List UInt8} {fr n : Int} {w w' : World} {k : Nat} (h : readM P s fr n = ([], k)) (he : Ext w w') : ReadPost P s fr n w (.returned (.tuple #[.slice none 0 0, .int .i64 k])) w' := by
  unfold ReadPost
  rw [h]
  exact ⟨none, 0, 0, rfl, Buf.nil _ _ _, rfl, he⟩
set_option maxRecDepth 100000 in
set_option maxHeartbeats 1000000 in
theorem read_any (base d : Nat) (P : PD) (F : Nat → Prop) (s : List UInt8) (fr n : Int) (w : World) (h : DS w base d P F) (hs : s.length ≤ 9223372036854775807) (hf1 : -9223372036854775808 ≤ fr) (hf2 : fr ≤ 9223372036854775807)
    (hn1 : -9223372036854775808 ≤ n) (hn2 : n ≤ 9223372036854775807) :
    Calls Tryz.prog 20 #[.pointer (some ⟨d, 0, none⟩), str s, .int .i64 fr, .int .i64 n] w (ReadPost P s fr n w) := by
  have hmay := may_one base d P F s w h hs
  have hE : Ext w (oneW w s) := (Ext.refl w).alloc _
  unfold str
  cases hnm : namedM s with
  | false =>
    have hr : readM P s fr n = ([], 60) := by unfold readM; rw [hnm]; rfl
    rw [may_bad _ hnm] at hmay
    have fin := readPost_err hr hE
    replace fin := hide fin
    replace hmay := hide hmay
    clear hr hnm h
    go_enter Tryz.func20, Tryz.ntmps20
    go_wp2_with fail
    refine hmay.out.mono ?_
    rintro e w1 ⟨rfl, rfl⟩
    go_wp2_with fail
    go_ret2
    exact fin.out
  | true =>
    cases hst : P.stopped with
    | true =>
      have hr : readM P s fr n = ([], 63) := by unfold readM; rw [hnm, hst]; rfl
      rw [hst, may_stop hnm] at hmay
      have fin := readPost_err hr hE
      replace fin := hide fin
      replace hmay := hide hmay
      clear hr hnm h hst
      go_enter Tryz.func20, Tryz.ntmps20
      go_wp2_with fail
      refine hmay.out.mono ?_
      rintro e w1 ⟨rfl, rfl⟩
      go_wp2_with fail
      go_ret2
      exact fin.out
    | false =>
      rw [hst, may_ok hnm] at hmay
      obtain ⟨m, E, hD, hF⟩ := h.ext hE
      have c0 : (oneW w s).cell? ⟨d, 0, none⟩ = some (.map (some m)) := Row.cell hD.row 0 rfl
      rcases hD.lookup s hs (oneW w s) rfl with ⟨e0, he0, hn, hrun⟩ | ⟨hno, hrun⟩
      · have hfd : P.find s = some e0.pl := by rw [← hn]; exact hD.find_in he0
        have cf : (oneW w s).cell? ⟨e0.f, 0, none⟩ = some (.slice e0.A e0.b.length e0.c) := (hD.fs.ok e0 he0).row.cell 0 rfl
        have hbuf := (hD.fs.ok e0 he0).buf
        have hlen := hD.lens e0 he0
        obtain ⟨bl, hbl⟩ : ∃ x, x = e0.b.length := ⟨_, rfl⟩
        rw [← hbl] at cf hbuf hlen
        unfold str at hrun
        by_cases hbad : fr < 0 ∨ (bl : Int) < fr ∨ n < 0
        · have hr : readM P s fr n = ([], 5) := by
            unfold readM
            rw [hnm, hst, hfd]
            simp only [if_true]
            show (if fr < 0 ∨ (e0.b.length : Int) < fr ∨ n < 0 then _ else _) = _
            rw [← hbl, if_pos hbad]
          have fin := readPost_err hr hE
          replace fin := hide fin
          replace hmay := hide hmay
          replace hn := hide hn
          replace hbl := hide hbl
          clear hr hnm h hst hfd hbuf
          rcases Int.lt_or_le fr 0 with h1 | h1
          · go_enter Tryz.func20, Tryz.ntmps20
            go_wp2_with fail
            refine hmay.out.mono ?_
            rintro e w1 ⟨rfl, rfl⟩
            go_wp2_with fail
            go_ret2
            exact fin.out
          · rcases Int.lt_or_le bl fr with h2 | h2
            · go_enter Tryz.func20, Tryz.ntmps20
              go_wp2_with fail
              refine hmay.out.mono ?_
              rintro e w1 ⟨rfl, rfl⟩
              go_wp2_with fail
              go_ret2
              exact fin.out
            · have h3 : n < 0 := by omega
              go_enter Tryz.func20, Tryz.ntmps20
              go_wp2_with fail
              refine hmay.out.mono ?_
              rintro e w1 ⟨rfl, rfl⟩
              go_wp2_with fail
              go_ret2
              exact fin.out
        · obtain ⟨f, rfl⟩ : ∃ f : Nat, fr = f := ⟨fr.toNat, by omega⟩
          obtain ⟨k, rfl⟩ : ∃ k : Nat, n = k := ⟨n.toNat, by omega⟩
          have hfl : f ≤ bl := by omega
          obtain ⟨k2, hk2⟩ : ∃ k2, k2 = min k (bl - f) := ⟨_, rfl⟩
          have hr : readM P s f k = ((e0.b.drop f).take k, 0) := by
            unfold readM
            rw [hnm, hst, hfd]
            simp only [if_true]
            show (if (f : Int) < 0 ∨ (e0.b.length : Int) < f ∨ (k : Int) < 0 then _ else _) = _
            rw [← hbl, if_neg hbad]
            rfl
          have hmin := run_min2 (P := Tryz.prog) #[3, 3] 3 (x := k) (y := (bl : Int) - f) (m := (k2 : Nat)) (by omega)
          have hA0 : e0.A = none → e0.c = 0 := by
            intro hA
            rcases hbuf.2.2 with h | ⟨g, cur, hg, _⟩
            · exact h.2
            · rw [hA] at hg; cases hg
          have hAs : ∀ a, e0.A = some a → a.spot = none := by
            intro a hA
            rcases hbuf.2.2 with h | ⟨g, cur, hg, _⟩
            · rw [hA] at h; cases h.1
            · rw [hA] at hg; cases hg; rfl
          obtain ⟨A', c', hsub, hcl, hz', hbk, hkc⟩ := run_sub (t := 57) (e := 5) (fr := f) (k := k2) Tryz.underlying57 (fun W => by kernel_rfl) (n := bl) (by omega) hbuf.2.1 hA0 hAs
          have hcells : Bs (oneW w s) A' ((e0.b.drop f).take k2) := by
            have := hcl _ _ hbuf.1 hbuf.cells
            unfold Bs
            rw [List.map_take, List.map_drop]
            exact this
          have hl2 : ((e0.b.drop f).take k2).length = k2 := by rw [List.length_take, List.length_drop, ← hbl]; omega
          have htk : (e0.b.drop f).take k2 = (e0.b.drop f).take k := by
            by_cases hc : k ≤ bl - f
            · rw [hk2, Nat.min_eq_left hc]
            · rw [hk2, Nat.min_eq_right (by omega), List.take_of_length_le (i := bl - f) (by rw [List.length_drop, ← hbl]; omega), List.take_of_length_le (i := k) (by rw [List.length_drop, ← hbl]; omega)]
          have hcln := clone_any A' k2 c' ((e0.b.drop f).take k2) (oneW w s).drew hl2.symm hcells hz' (by omega)
          replace htk := hide htk
          replace hl2 := hide hl2
          replace hr := hide hr
          replace hmay := hide hmay
          replace hn := hide hn
          replace hbl := hide hbl
          replace hcln := hide hcln
          replace hk2' := hide hk2
          have hk2b : (f : Int) + k2 ≤ bl := by omega
          clear hnm h hst hfd hbuf hcl hz' hbk hcells hk2
          go_enter Tryz.func20, Tryz.ntmps20
          go_wp2_with fail
          refine hmay.out.mono ?_
          rintro e w1 ⟨rfl, rfl⟩
          go_wp2_with fail
          refine wp_region_text follows (by kernel_rfl) (by kernel_rfl) (fun K hK => ?_)
          go_wp2_with fail
          refine hcln.out.mono ?_
          rintro e w3 ⟨A3, c3, rfl, hb3, hE3⟩
          go_wp2_with fail
          refine ⟨by kernel_rfl, ?_⟩
          go_wp2_with fail
          go_ret2
          unfold ReadPost
          rw [hr.out]
          refine ⟨A3, k2, c3, rfl, ?_, ?_, hE.drew.trans hE3⟩
          · rw [← htk.out]
            exact hb3.lower hE.size
          · rw [← htk.out]
            exact hl2.out.symm
      · have hr : readM P s fr n = ([], 61) := by unfold readM; rw [hnm, hst, hD.find_out hno]; rfl
        have fin := readPost_err hr hE
        unfold str at hrun
        replace fin := hide fin
        replace hmay := hide hmay
        clear hr hnm h hst hno
        go_enter Tryz.func20, Tryz.ntmps20
        go_wp2_with fail
        refine hmay.out.mono ?_
        rintro e w1 ⟨rfl, rfl⟩
        go_wp2_with fail
        go_ret2
        exact fin.out
end Go.Proofs.YtaoolpnnomhnoaaGreatDoor

/- A file put, a file dropped. -/
namespace Go.Proofs.YtaoolpnnomhnoaaGreatDoor
open Go.RowKit Go.Maps

section
variable {w w1 : World} {base d m : Nat} {P P' : PD} {E : List Ent} {e1 : Ent}
theorem perm_ins {α : Type} (nm : α → List UInt8) (f : α) : ∀ l : List α, (insG nm f l).Perm (f :: l)
  | [] => List.Perm.refl _
  | y :: ys => by
    unfold insG
    split
    · exact List.Perm.refl _
    · exact ((perm_ins nm f ys).cons y).trans (List.Perm.swap f y ys)
theorem pw_with {α : Type} {nm : α → List UInt8} {R : α → α → Prop} (hs : ∀ {x y}, R x y → R y x) {f : α} {l : List α} (h : l.Pairwise R) (h1 : ∀ x ∈ l, nm x ≠ nm f → R f x) : (withG nm f l).Pairwise R := by
  unfold withG
  refine ((perm_ins nm f _).pairwise_iff hs).2 ?_
  rw [List.pairwise_cons]
  exact ⟨fun x hx => h1 x (mem_without.1 hx).1 (mem_without.1 hx).2, h.filter _⟩
/-- A map has just the files' entries: so it has as many. -/
theorem kv_len {L : List (Value × Value)} (hL : MapL Tryz.prog 9 w m L) (hu : Up Ent.name E) (hmem : ∀ p, p ∈ L ↔ ∃ e ∈ E, p = e.kv) : L.length = E.length := by
  have h1 : L.Nodup := nodup_of_map Prod.fst hL.nodup
  have h2 : (E.map Ent.kv).Nodup := by
    refine nodup_of_map Prod.fst ?_
    rw [List.map_map]
    have : (E.map Ent.name).Nodup := hu.nodup
    rw [List.Nodup, List.pairwise_map] at this ⊢
    exact this.imp fun h e => h (str_inj e)
  have h3 : L.Perm (E.map Ent.kv) := (List.perm_ext_iff_of_nodup h1 h2).2 fun p => by
    rw [hmem, List.mem_map]
    exact ⟨fun ⟨e, he, hp⟩ => ⟨e, he, hp.symm⟩, fun ⟨e, he, hp⟩ => ⟨e, he, hp.symm⟩⟩
  rw [h3.length_eq, List.length_map]
theorem DE.put (h : DE w base d m P E) (hrow : DRow w1 d m P'.quota P'.armed P'.stopped) (hm : ∃ L, MapL Tryz.prog 9 w1 m L ∧ ∀ p, p ∈ L ↔ ∃ e ∈ withG Ent.name e1 E, p = e.kv)
    (ho : ∀ x ∈ E, x.name ≠ e1.name → EOk w1 base x ∧ x.f ≠ e1.f ∧ ∀ a b, x.A = some a → e1.A = some b → a.block ≠ b.block) (hok : EOk w1 base e1) (hs : e1.name.length ≤ 9223372036854775807) (hl : e1.b.length ≤ 67108864)
    (hcnt : (withG Ent.name e1 E).length ≤ 1024) (hL : P'.L = withG fname e1.pl P.L) (hq : P'.quota ≤ 9223372036854775807) (ha : P'.armed ≤ 9223372036854775807) : DE w1 base d m P' (withG Ent.name e1 E) := by
  obtain ⟨L, hL1, hmem⟩ := hm
  refine ⟨hrow, ⟨⟨L, hL1, hmem, kv_len hL1 h.up.with hmem⟩, ?_, h.fs.low, h.up.with.nodup, ?_, ?_, ?_⟩, h.low, h.up.with, hcnt, ?_, ?_, hq, ha⟩
  · intro e he
    rcases mem_with.1 he with rfl | ⟨h1, h2⟩
    · exact hok
    · exact (ho e h1 h2).1
  · intro e he
    rcases mem_with.1 he with rfl | ⟨h1, h2⟩
    · exact hs
    · exact h.fs.short e h1
  · refine pw_with (fun h => h.symm) h.fs.fd fun x hx hn => ((ho x hx hn).2.1).symm
  · refine pw_with (fun h a b ha hb => (h b a hb ha).symm) h.fs.ad fun x hx hn a b ha hb => ((ho x hx hn).2.2 b a hb ha).symm
  · intro e he
    rcases mem_with.1 he with rfl | ⟨h1, h2⟩
    · exact hl
    · exact h.lens e h1
  · rw [hL, ← h.pl]
    exact map_with (nm := Ent.name) (nm' := fname) (g := Ent.pl) (fun _ => rfl) e1 E
theorem foot_with {k : Nat} (h : Foot d m (withG Ent.name e1 E) k) : Foot d m E k ∨ k = e1.f ∨ ∃ a, e1.A = some a ∧ a.block = k := by
  rcases h with h | h | ⟨e, he, h⟩
  · exact .inl (.inl h)
  · exact .inl (.inr (.inl h))
  · rcases mem_with.1 he with rfl | ⟨h1, h2⟩
    · exact .inr h
    · exact .inl (.inr (.inr ⟨e, h1, h⟩))
theorem DE.drop (h : DE w base d m P E) (s : List UInt8) (hrow : DRow w1 d m P'.quota P'.armed P'.stopped) (hm : ∃ L, MapL Tryz.prog 9 w1 m L ∧ ∀ p, p ∈ L ↔ ∃ e ∈ withoutG Ent.name s E, p = e.kv)
    (ho : ∀ x ∈ E, EOk w1 base x) (hL : P'.L = withoutG fname s P.L) (hq : P'.quota ≤ 9223372036854775807) (ha : P'.armed ≤ 9223372036854775807) : DE w1 base d m P' (withoutG Ent.name s E) := by
  obtain ⟨L, hL1, hmem⟩ := hm
  have hsub : ∀ x ∈ withoutG Ent.name s E, x ∈ E := fun x hx => (mem_without.1 hx).1
  refine ⟨hrow, ⟨⟨L, hL1, hmem, kv_len hL1 (h.up.without s) hmem⟩, fun e he => ho e (hsub e he), h.fs.low, (h.up.without s).nodup, fun e he => h.fs.short e (hsub e he), h.fs.fd.filter _, h.fs.ad.filter _⟩, h.low, h.up.without s, Nat.le_trans (len_without_le _ _) h.cnt, fun e he => h.lens e (hsub e he), ?_, hq, ha⟩
  rw [hL, ← h.pl]
  exact map_without (nm := Ent.name) (nm' := fname) (g := Ent.pl) (fun _ => rfl) s E
theorem foot_without {s : List UInt8} {k : Nat} (h : Foot d m (withoutG Ent.name s E) k) : Foot d m E k := by
  rcases h with h | h | ⟨e, he, h⟩
  · exact .inl h
  · exact .inr (.inl h)
  · exact .inr (.inr ⟨e, (mem_without.1 he).1, h⟩)
/-- What a map's block holds when a file is put. -/
theorem DE.mapPut (h : DE w base d m P E) {L L' : List (Value × Value)} (hmem : ∀ p, p ∈ L ↔ ∃ e ∈ E, p = e.kv) (hp : Put L (str e1.name) (.pointer (some ⟨e1.f, 0, none⟩)) L') : ∀ p, p ∈ L' ↔ ∃ e ∈ withG Ent.name e1 E, p = e.kv := by
  intro p
  rw [hp.mem]
  constructor
  · rintro (rfl | ⟨h1, h2⟩)
    · exact ⟨e1, mem_with.2 (.inl rfl), rfl⟩
    · obtain ⟨e, he, rfl⟩ := (hmem p).1 h1
      exact ⟨e, mem_with.2 (.inr ⟨he, fun hn => h2 (by show str e.name = str e1.name; rw [hn])⟩), rfl⟩
  · rintro ⟨e, he, rfl⟩
    rcases mem_with.1 he with rfl | ⟨h1, h2⟩
    · exact .inl rfl
    · exact .inr ⟨(hmem _).2 ⟨e, h1, rfl⟩, fun hn => h2 (str_inj hn)⟩
/-- The same map, when a file's bytes turn. -/
theorem DE.mapSame (h : DE w base d m P E) {L : List (Value × Value)} (hmem : ∀ p, p ∈ L ↔ ∃ e ∈ E, p = e.kv) {e0 : Ent} (h0 : e0 ∈ E) (hn : e1.name = e0.name) (hf : e1.f = e0.f) : ∀ p, p ∈ L ↔ ∃ e ∈ withG Ent.name e1 E, p = e.kv := by
  have hk : e1.kv = e0.kv := by unfold Ent.kv; rw [hn, hf]
  intro p
  rw [hmem]
  constructor
  · rintro ⟨e, he, rfl⟩
    by_cases hne : e.name = e1.name
    · have : e = e0 := h.up.uniq he h0 (hne.trans hn)
      subst this
      exact ⟨e1, mem_with.2 (.inl rfl), hk.symm⟩
    · exact ⟨e, mem_with.2 (.inr ⟨he, hne⟩), rfl⟩
  · rintro ⟨e, he, rfl⟩
    rcases mem_with.1 he with rfl | ⟨h1, h2⟩
    · exact ⟨e0, h0, hk⟩
    · exact ⟨e, h1, rfl⟩
theorem DE.mapDrop {L L' : List (Value × Value)} (hmem : ∀ p, p ∈ L ↔ ∃ e ∈ E, p = e.kv) {s : List UInt8} (hp : ∀ p, p ∈ L' ↔ p ∈ L ∧ p.1 ≠ str s) : ∀ p, p ∈ L' ↔ ∃ e ∈ withoutG Ent.name s E, p = e.kv := by
  intro p
  rw [hp]
  constructor
  · rintro ⟨h1, h2⟩
    obtain ⟨e, he, rfl⟩ := (hmem p).1 h1
    exact ⟨e, mem_without.2 ⟨he, fun hn => h2 (by show str e.name = str s; rw [hn])⟩, rfl⟩
  · rintro ⟨e, he, rfl⟩
    exact ⟨(hmem _).2 ⟨e, (mem_without.1 he).1, rfl⟩, fun hn => (mem_without.1 he).2 (str_inj hn)⟩
end
end Go.Proofs.YtaoolpnnomhnoaaGreatDoor

/- loggia/disk: Append, what it needs. -/
namespace Go.Proofs.YtaoolpnnomhnoaaGreatDoor
open Go.RowKit Go.Maps

theorem pw_mem {α : Type} {R : α → α → Prop} (hs : ∀ {x y}, R x y → R y x) : ∀ {l : List α}, l.Pairwise R → ∀ {x y : α}, x ∈ l → y ∈ l → x ≠ y → R x y
  | [], _, _, _, h, _, _ => by cases h
  | a :: l, h, x, y, hx, hy, hne => by
    rw [List.pairwise_cons] at h
    rcases List.mem_cons.1 hx with h1 | h1 <;> rcases List.mem_cons.1 hy with h2 | h2
    · exact (hne (h1.trans h2.symm)).elim
    · subst h1; exact h.1 y h2
    · subst h2; exact hs (h.1 x h1)
    · exact pw_mem hs h.2 h1 h2 hne
section
variable {w W : World} {base d m : Nat} {P : PD} {E : List Ent} {e x : Ent}
theorem row_ne_map {g : Nat} {t : TypeId} {cs : Array Value} {L : List (Value × Value)} (hr : Row w g t cs) (hL : MapL Tryz.prog 9 w m L) : g ≠ m := by
  rintro rfl
  obtain ⟨es, cl, hm, _⟩ := hL.ex
  have h1 : w.heap[g]? = some (.cells cs t (0, 0)) := hr
  rw [h1] at hm
  cases hm
theorem EOk.ne_map {L : List (Value × Value)} (h : EOk w base e) (hL : MapL Tryz.prog 9 w m L) : e.f ≠ m ∧ ∀ a, e.A = some a → a.block ≠ m := by
  refine ⟨row_ne_map h.row hL, ?_⟩
  rintro a ha
  rcases h.buf.2.2 with h1 | ⟨g, cur, hg, _, hr, _⟩
  · rw [ha] at h1; cases h1.1
  · rw [ha] at hg; cases hg
    exact row_ne_map hr hL
theorem EOk.fa (h : EOk w base e) (k : EOk w base x) : ∀ a, x.A = some a → e.f ≠ a.block := fun a ha he => k.buf.unlike h.row (by decide) a ha he.symm
/-- The file that Append has found, or made. -/
structure GotD (w W : World) (base : Nat) (E : List Ent) (s : List UInt8) (ok : Bool) (e0 : Ent) : Prop where
  name : e0.name = s
  has : EOk W base e0
  len : e0.b.length ≤ 67108864
  here : ok = true → e0 ∈ E
  away : ok = false → (∀ e ∈ E, e.name ≠ s) ∧ e0.b = [] ∧ e0.sure = 0 ∧ e0.A = none ∧ w.heap.size ≤ e0.f
theorem GotD.far {s : List UInt8} {ok : Bool} (h : GotD w W base E s ok e) (hD : DE w base d m P E) (hx : x ∈ E) (hn : x.name ≠ s) : x.f ≠ e.f ∧ ∀ a b, x.A = some a → e.A = some b → a.block ≠ b.block := by
  cases ok with
  | true =>
    have he := h.here rfl
    have hne : x ≠ e := fun hh => hn (by rw [hh]; exact h.name)
    exact ⟨pw_mem (fun h => h.symm) hD.fs.fd hx he hne, pw_mem (R := fun a b : Ent => ∀ x y, a.A = some x → b.A = some y → x.block ≠ y.block) (fun h a b ha hb => (h b a hb ha).symm) hD.fs.ad hx he hne⟩
  | false =>
    obtain ⟨_, _, _, hA, hf⟩ := h.away rfl
    refine ⟨fun hh => ?_, fun a b _ hb => by rw [hA] at hb; cases hb⟩
    have := (hD.fs.ok x hx).row.lt
    omega
/-- Where the file lies. -/
theorem GotD.at_ {s : List UInt8} {ok : Bool} (h : GotD w W base E s ok e) : (Foot d m E e.f ∨ w.heap.size ≤ e.f) ∧ ∀ a, e.A = some a → Foot d m E a.block := by
  cases ok with
  | true =>
    have he := h.here rfl
    exact ⟨.inl (.inr (.inr ⟨e, he, .inl rfl⟩)), fun a ha => .inr (.inr ⟨e, he, .inr ⟨a, ha, rfl⟩⟩)⟩
  | false =>
    obtain ⟨_, _, _, hA, hf⟩ := h.away rfl
    exact ⟨.inr hf, fun a ha => by rw [hA] at ha; cases ha⟩
end
/-- The end of Append, plainly: W1 is behind the counting, W2 behind the append, W3 behind the store, W4 behind the map's turn. -/
theorem append_end {w wx W1 W2 W4 : World} {base d m : Nat} {P : PD} {E : List Ent} {s b : List UInt8} {ok : Bool} {e0 : Ent} {A1 : Option Addr} {c1 : Nat}
    (hD : DE w base d m P E) (hs : s.length ≤ 9223372036854775807) (hwx : Ext w wx) (hG : GotD w wx base E s ok e0) (hcnt : ok = false → E.length < 1024)
    (hl : e0.b.length + b.length ≤ 67108864) (hrow1 : DRow W1 d m P.quota (P.armed - 1) false) (hc1 : Chg (fun k => k = d) wx W1) (hst : P.stopped = false)
    (hbuf : Buf W2 base 5 A1 (e0.b.length + b.length) c1 (e0.b.map B8 ++ b.map B8)) (hg2 : W1.grownBy W2 (Value.slice e0.A e0.b.length e0.c).ownBlock) (hA1 : A1 = e0.A ∨ A1 = some ⟨W1.heap.size, 0, none⟩)
    {L L' : List (Value × Value)} (hmem : ∀ p, p ∈ L ↔ ∃ e ∈ E, p = e.kv) (hL : MapL Tryz.prog 9 w m L)
    (hput : Put L (str s) (.pointer (some ⟨e0.f, 0, none⟩)) L') (hL4 : MapL Tryz.prog 9 W4 m L') (hg4 : (W2.setCell ⟨e0.f, 0, none⟩ (.slice A1 (e0.b.length + b.length) c1)).grownBy W4 (some m)) :
    ∃ E', DE W4 base d m (P.goes (withG fname (s, e0.b ++ b, e0.sure) P.L)) E' ∧ Chg (Foot d m E) w W4 ∧ ∀ k, Foot d m E' k → Foot d m E k ∨ w.heap.size ≤ k := by
  obtain ⟨W3, hW3⟩ : ∃ W3, W3 = W2.setCell ⟨e0.f, 0, none⟩ (.slice A1 (e0.b.length + b.length) c1) := ⟨_, rfl⟩
  rw [← hW3] at hg4
  have hDx : DE wx base d m P E := hD.chg (Chg.of_ext hwx (fun _ => False)) (fun _ h => h.elim)
  have hLx := hL.ext hwx
  have hok0 := hG.has
  have hap := hDx.apart
  have hm0 := hok0.ne_map hLx
  have hsz1 : wx.heap.size ≤ W1.heap.size := hc1.size
  have hszx : w.heap.size ≤ wx.heap.size := hwx.size
  -- which blocks may have turned
  have hd0 : d ≠ e0.f ∧ ∀ a, e0.A = some a → d ≠ a.block := ⟨Row.unlike hDx.row hok0.row (by decide), fun a ha hd => hok0.buf.unlike hDx.row (by decide) a ha hd.symm⟩
  have hown : ∀ k, (Value.slice e0.A e0.b.length e0.c).ownBlock = some k → ∃ a, e0.A = some a ∧ a.block = k := by
    intro k hk
    rcases hok0.buf.2.2 with ⟨h1, _⟩ | ⟨g, cur, hg, _⟩
    · rw [h1] at hk; cases hk
    · rw [hg] at hk ⊢
      exact ⟨_, rfl, by simpa [Value.ownBlock] using hk⟩
  have hc2 : Chg (fun k => ∃ a, e0.A = some a ∧ a.block = k) W1 W2 := Chg.of_grown hg2 fun k _ hk => hown k hk
  have hc3 : Chg (fun k => k = e0.f) W2 W3 := by rw [hW3]; exact Chg.of_set W2 (a := ⟨e0.f, 0, none⟩) _ rfl
  have hc4 : Chg (fun k => k = m) W3 W4 := Chg.of_grown hg4 fun k _ hk => by cases hk; rfl
  have hcall : Chg (fun k => k = d ∨ (∃ a, e0.A = some a ∧ a.block = k) ∨ k = e0.f ∨ k = m) wx W4 := by
    refine ((hc1.mono (S' := fun k => k = d ∨ (∃ a, e0.A = some a ∧ a.block = k) ∨ k = e0.f ∨ k = m) fun k _ h => .inl h).trans hc2 fun k _ h => .inr (.inl h)) |>.trans hc3 (fun k _ h => .inr (.inr (.inl h))) |>.trans hc4 fun k _ h => .inr (.inr (.inr h))
  obtain ⟨e1, he1⟩ : ∃ e1 : Ent, e1 = ⟨s, e0.f, e0.b ++ b, e0.sure, A1, c1⟩ := ⟨_, rfl⟩
  have hname : e1.name = s := by rw [he1]
  have hok1 : EOk W4 base e1 := by
    rw [he1]
    have hr1 : Row W1 e0.f 79 #[.slice e0.A e0.b.length e0.c, .int .i64 e0.sure] := hc1.row hok0.row fun h => hd0.1 h.symm
    have hr2 : Row W2 e0.f 79 #[.slice e0.A e0.b.length e0.c, .int .i64 e0.sure] := hc2.row hr1 fun ⟨a, ha, hk⟩ => hok0.fa hok0 a ha hk.symm
    have hr3 : Row W3 e0.f 79 #[.slice A1 (e0.b.length + b.length) c1, .int .i64 e0.sure] := by rw [hW3]; exact hr2.put 0 _
    have hb3 : Buf W3 base 5 A1 (e0.b.length + b.length) c1 (e0.b.map B8 ++ b.map B8) := by
      rw [hW3]
      exact hbuf.setCell (fun a ha => hbuf.unlike hr2 (by decide) a ha) _
    refine ⟨?_, ?_, hok0.low, ?_⟩
    · show Row W4 e0.f _ #[.slice A1 (e0.b ++ b).length c1, .int .i64 e0.sure]
      rw [List.length_append]
      exact hc4.row hr3 hm0.1
    · show Buf W4 base 5 A1 (e0.b ++ b).length c1 ((e0.b ++ b).map B8)
      rw [List.length_append, List.map_append]
      refine hb3.chg hc4 ?_
      intro a ha hk
      rcases hA1 with h | h
      · exact hm0.2 a (by rw [← h]; exact ha) hk
      · rw [h] at ha; cases ha
        have := hLx.lt
        have hk : W1.heap.size = m := hk
        omega
    · show e0.sure ≤ (e0.b ++ b).length
      rw [List.length_append]
      have := hok0.sure
      omega
  refine ⟨withG Ent.name e1 E, DE.put hD ?_ ⟨L', hL4, ?_⟩ ?_ hok1 (by rw [hname]; exact hs) ?_ ?_ ?_ hD.hq ?_, ?_, ?_⟩
  · show DRow W4 d m P.quota (P.armed - 1) P.stopped
    rw [hst]
    refine hc4.row (hc3.row (hc2.row hrow1 fun ⟨a, ha, hk⟩ => hd0.2 a ha hk.symm) fun h => hd0.1 h) hap.1
  · refine hD.mapPut hmem ?_
    rw [he1]
    exact hput
  · intro x hx hn
    rw [hname] at hn
    obtain ⟨h1, h2⟩ := hG.far hD hx hn
    have hokx := hDx.fs.ok x hx
    have hmx := hokx.ne_map hLx
    have hf : ¬ (x.f = d ∨ (∃ a, e0.A = some a ∧ a.block = x.f) ∨ x.f = e0.f ∨ x.f = m) := by
      rintro (h | ⟨a, ha, h⟩ | h | h)
      · exact (hap.2 x hx).1 h.symm
      · exact hokx.fa hok0 a ha h.symm
      · exact h1 h
      · exact hmx.1 h
    have hA : ∀ b, x.A = some b → ¬ (b.block = d ∨ (∃ a, e0.A = some a ∧ a.block = b.block) ∨ b.block = e0.f ∨ b.block = m) := by
      rintro b hb (h | ⟨a, ha, h⟩ | h | h)
      · exact (hap.2 x hx).2 b hb h.symm
      · exact h2 b a hb ha h.symm
      · exact hok0.fa hokx b hb h.symm
      · exact hmx.2 b hb h
    refine ⟨hokx.keep (hcall.block _ hokx.row.lt hf) fun a ha => hcall.block _ (hokx.buf.lt a ha) (hA a ha), by rw [he1]; exact h1, ?_⟩
    intro a a1 ha ha1
    rw [he1] at ha1
    rcases hA1 with h | h
    · exact h2 a a1 ha (by rw [← h]; exact ha1)
    · rw [h] at ha1; cases ha1
      have := hokx.buf.lt a ha
      show a.block ≠ W1.heap.size
      omega
  · rw [he1]
    show (e0.b ++ b).length ≤ _
    rw [List.length_append]
    exact hl
  · cases ok with
    | true => exact Nat.le_trans (len_with_in (hG.here rfl) (by rw [hname]; exact hG.name)) hD.cnt
    | false => exact Nat.le_trans (len_with_le _ _) (hcnt rfl)
  · rw [he1]
    rfl
  · show P.armed - 1 ≤ _
    have := hD.ha
    omega
  · obtain ⟨hf, hA⟩ := hG.at_ (d := d) (m := m)
    refine (Chg.of_ext hwx (Foot d m E)).trans hcall ?_
    rintro k hk (rfl | ⟨a, ha, rfl⟩ | rfl | rfl)
    · exact .inl rfl
    · exact hA a ha
    · rcases hf with hf | hf
      · exact hf
      · omega
    · exact .inr (.inl rfl)
  · obtain ⟨hf, hA⟩ := hG.at_ (d := d) (m := m)
    intro k hk
    rcases foot_with hk with h | h | ⟨a, ha, h⟩
    · exact .inl h
    · rw [he1] at h
      rw [h]
      exact hf
    · rw [he1] at ha
      rcases hA1 with h1 | h1
      · rw [← h]
        exact .inl (hA a (by rw [← h1]; exact ha))
      · rw [h1] at ha; cases ha
        rw [← h]
        exact .inr (by show w.heap.size ≤ W1.heap.size; omega)
end Go.Proofs.YtaoolpnnomhnoaaGreatDoor

/- loggia/disk: Append. -/
namespace Go.Proofs.YtaoolpnnomhnoaaGreatDoor
open Go.RowKit Go.Maps

theorem append_no {P : PD} {s b : List UInt8} {k : Nat} (hk : appendM P s b = (P, k)) {base d : Nat} {F : Nat → Prop} {w w1 : World} (h : DS w base d P F) (hE : Ext w w1) : ∀ e, e = Ending.returned (.int .i64 k) → e = .returned (.int .i64 (appendM P s b).2) ∧ DNext base d F w (appendM P s b).1 w1 := by
  rw [hk]
  exact fun e he => ⟨he, F, h.ext hE, Chg.of_ext hE F, fun k hk => .inl hk⟩
set_option maxRecDepth 100000 in
set_option maxHeartbeats 1000000 in
theorem append_bad (base d : Nat) (P : PD) (F : Nat → Prop) (s b : List UInt8) (B : Option Addr) (n c : Nat) (w : World) (h : DS w base d P F) (hs : s.length ≤ 9223372036854775807) (hbad : namedM s = false ∨ P.stopped = true) :
    Calls Tryz.prog 26 #[.pointer (some ⟨d, 0, none⟩), str s, .slice B n c] w fun e w' => e = .returned (.int .i64 (appendM P s b).2) ∧ DNext base d F w (appendM P s b).1 w' := by
  have hmay := may_one base d P F s w h hs
  have hE : Ext w (oneW w s) := (Ext.refl w).alloc _
  obtain ⟨k, hk, hm⟩ : ∃ k : Nat, appendM P s b = (P, k) ∧ mayM [s] P.stopped = k ∧ 0 < k := by
    unfold appendM
    cases hn : namedM s with
    | false => exact ⟨60, rfl, may_bad _ hn, by omega⟩
    | true =>
      rcases hbad with hbad | hbad
      · rw [hn] at hbad; cases hbad
      · rw [hbad]
        exact ⟨63, rfl, may_stop hn, by omega⟩
  rw [hm.1] at hmay
  have hkp := hm.2
  have fin := append_no hk h hE
  have hkd : decide ((k : Int) = 0) = false := decide_eq_false (by omega)
  clear hm hk h
  replace hmay := hide hmay
  replace fin := hide fin
  unfold str
  go_enter Tryz.func26, Tryz.ntmps26
  go_wp2_with fail
  refine hmay.out.mono ?_
  rintro e w1 ⟨rfl, rfl⟩
  go_wp2_with fail
  go_ret
  exact fin.out _ rfl
end Go.Proofs.YtaoolpnnomhnoaaGreatDoor

