/- loggiaref16: digits, File, Log. -/
import Derived.Test.YtijnomopcpgikaaDoorMnP
import Derived.Test.YtijnomopcpgikaaDoorMlA
import Derived.Test.YtijnomopcpgikaaDoorStr
import Derived.Test.YtijnomopcpgikaaDoorShelf
import Derived.Lib.AtoiTie
import Derived.Stop.LaidErr
import Derived.Lib.LaidTab
import Derived.WalkSmall
import Derived.LaidLaws
import Derived.Lib.QuietBelow
import Derived.Test.YtijnomopcpgikaaDoorInS
import Derived.Test.YtijnomopcpgikaaDoorMfC
import Derived.Deep.RegionHeld3
import Derived.Test.YtijnomopcpgikaaDoorSame
import Derived.Test.YtijnomopcpgikaaDoorMfL
import Derived.Test.YtijnomopcpgikaaDoorMfStore
namespace Go.Proofs.YtijnomopcpgikaaDoor
open Go.RowKit

theorem digs_set {k v : Nat} {suf : List UInt8} : (List.replicate (k + 1) (Value.int .u8 0) ++ suf.map B8).set k (.int .u8 ((48 + v % 10 : Nat) : Int)) = List.replicate k (Value.int .u8 0) ++ ((UInt8.ofNat (48 + v % 10)) :: suf).map B8 := by
  rw [List.set_append, if_pos (by simp), List.replicate_succ', List.set_append, if_neg (by simp)]
  simp [B8]
  omega
set_option maxRecDepth 100000 in
set_option maxHeartbeats 1000000 in
theorem digits_any (n : Nat) (w : World) (hn : n ≤ 99999999) : Calls Tryd.prog 43 #[.int .i64 n] w fun e w' => e = .returned (.string ⟨(padk 8 n).toArray⟩) ∧ Ext w w' := by
  have hmk : ∀ W : World, (Instr.makeSlice 25 (.int .i64 8) (.int .i64 8)).run Tryd.prog W = .ok (.slice (some ⟨W.heap.size, 0, none⟩) 8 8) (W.alloc (.cells #[.int .u8 0, .int .u8 0, .int .u8 0, .int .u8 0, .int .u8 0, .int .u8 0, .int .u8 0, .int .u8 0] 5)) := fun W => by kernel_rfl
  have hr0 : Row (w.alloc (.cells #[.int .u8 0, .int .u8 0, .int .u8 0, .int .u8 0, .int .u8 0, .int .u8 0, .int .u8 0, .int .u8 0] 5)) w.heap.size 5 (List.replicate 8 (Value.int .u8 0) ++ ([] : List UInt8).map B8).toArray := Row.new w _ _
  have hE0 : Ext w (w.alloc (.cells #[.int .u8 0, .int .u8 0, .int .u8 0, .int .u8 0, .int .u8 0, .int .u8 0, .int .u8 0, .int .u8 0] 5)) := (Ext.refl w).alloc _
  replace hr0 := hide hr0
  replace hE0 := hide hE0
  go_enter Tryd.func43, Tryd.ntmps43
  go_wp2_with fail
  go_loopw [0, 4] (fun s0 s4 wr => ∃ (k v : Nat) (t : Int) (suf : List UInt8), s4 = .int .i64 t ∧ s0 = .int .i64 v ∧ k ≤ 8 ∧ v ≤ 99999999 ∧ Hid (t = (k : Int) - 1) ∧ Hid (padk 8 n = padk k v ++ suf) ∧ Hid (suf.length + k = 8) ∧ Hid (Row wr w.heap.size 5 (List.replicate k (Value.int .u8 0) ++ suf.map B8).toArray) ∧ Hid (Ext w wr)) (fun _ s4 _ => (intOf s4 + 1).toNat)
  case atStart => exact ⟨8, n, 7, [], rfl, rfl, by omega, hn, hide (by omega), hide (by simp), hide rfl, hr0, hE0⟩
  case round =>
    obtain ⟨k, v, t, suf, rfl, rfl, hk, hv, ht, hp, hs, hr, hE⟩ := hrel
    cases k with
    | zero =>
      obtain rfl : t = -1 := by have := ht.out; omega
      have hfin : padk 8 n = suf := hp.out
      have hstr := run_str (A := some ⟨w.heap.size, 0, none⟩) (l := suf) (w := wr) (.inr ⟨w.heap.size, 0, rfl, fun i u hu => by
        rw [Nat.zero_add]
        exact hr.out.cell i (by simpa using hu)⟩) 8 8 (by have := hs.out; omega)
      replace hfin := hide hfin
      clear hp hr0
      go_wp2_with fail
      go_ret
      rw [hfin.out]
      exact ⟨rfl, hE.out⟩
    | succ k =>
      obtain rfl : t = ((k : Nat) : Int) := by have := ht.out; omega
      have hst := hr.out.put k (.int .u8 ((48 + v % 10 : Nat) : Int))
      have hcell : wr.cell? ⟨w.heap.size, k, none⟩ = some (.int .u8 0) := hr.out.cell k (by
        rw [List.getElem?_toArray, List.getElem?_append_left (by simp)]
        simp)
      have hfr := hr.out.free k
      have hlt := hr.out.lt
      rw [List.setIfInBounds_toArray, digs_set] at hst
      have hpk : padk (k + 1) v = padk k (v / 10) ++ [UInt8.ofNat (48 + v % 10)] := rfl
      have hnx : padk 8 n = padk k (v / 10) ++ (UInt8.ofNat (48 + v % 10) :: suf) := by
        rw [hp.out, hpk, List.append_assoc]
        rfl
      have hEs := hide (hE.out.setCell (p := ⟨w.heap.size, k, none⟩) (Nat.le_refl _) (.int .u8 ((48 + v % 10 : Nat) : Int)))
      obtain ⟨q, hq⟩ : ∃ q, q = 48 + v % 10 := ⟨_, rfl⟩
      have hqv : 48 + (v : Int) % 10 = (q : Int) := by omega
      have hq2 : q ≤ 57 := by omega
      rw [← hq] at hst hnx hEs
      replace hst := hide hst
      replace hnx := hide hnx
      clear hq hr0 hpk
      go_wp2_with fail
      go_roundw
      case rel => exact ⟨k, v / 10, (k : Int) - 1, UInt8.ofNat q :: suf, rfl, by go_num, by omega, by omega, hide rfl, hnx, hide (by rw [List.length_cons]; have := hs.out; omega), hst, hEs⟩
      case measure => simp [intOf]
end Go.Proofs.YtijnomopcpgikaaDoor

/- loggiaref16: Log, File. -/
namespace Go.Proofs.YtijnomopcpgikaaDoor
open Go.RowKit

theorem digs_num {n : Int} (h : (!numP n) = false) (w : World) : Calls Tryd.prog 43 #[.int .i64 n] w fun e w' => e = .returned (.string ⟨(dig8 n.toNat).toArray⟩) ∧ Ext w w' := by
  have hb : 1 ≤ n ∧ n ≤ 99999999 := by unfold numP at h; simp at h; omega
  obtain ⟨k, rfl⟩ : ∃ k : Nat, n = (k : Int) := ⟨n.toNat, by omega⟩
  rw [Int.toNat_natCast, dig8_pad (by omega) (by omega)]
  exact digits_any k w (by omega)
theorem dig8_le {n : Int} (h : (!numP n) = false) : (dig8 n.toNat).length ≤ 8 := by
  unfold numP at h
  simp at h
  rw [dig8_len (dd8 (by omega) (by omega))]
  omega
set_option maxRecDepth 100000 in
set_option maxHeartbeats 2000000 in
theorem rlog_any (n : Int) (w : World) : Calls Tryd.prog 19 #[.int .i64 n] w fun e w' => e = .returned (.string ⟨(logP n).toArray⟩) ∧ Ext w w' := by
  have hn := hide (eight_any n)
  have hd := hide (@digs_num n)
  have hl := hide (@dig8_le n)
  go_enter Tryd.func19, Tryd.ntmps19
  go_wp2_with fail
  refine (hn.out _).mono ?_
  rintro e w1 ⟨rfl, rfl⟩
  go_wp2_with (go_at_call 43; refine (hd.out ‹_› _).mono ?_; rintro e w2 ⟨rfl, hE2⟩; have hl2 := hl.out ‹_›)
  · go_ret
    exact ⟨ret_str (by unfold logP; simp_all), Ext.refl _⟩
  · go_ret
    exact ⟨ret_str (by rw [cat_bytes2]; unfold logP; simp_all), hE2⟩
set_option maxRecDepth 100000 in
set_option maxHeartbeats 4000000 in
theorem rfile_any (p : Pt) (w : World) : Calls Tryd.prog 18 #[p.val] w fun e w' => e = .returned (.string ⟨(fileP p.id p.st).toArray⟩) ∧ Ext w w' := by
  have hn := hide (eight_any p.id)
  have hE0 : ∀ cs t, Ext w (w.alloc (.cells cs t)) := fun _ _ => (Ext.refl w).alloc _
  replace hE0 := hide hE0
  have hd := hide (@digs_num p.id)
  have hl := hide (@dig8_le p.id)
  unfold Pt.val
  go_enter Tryd.func18, Tryd.ntmps18
  go_wp2_with (first | (go_at_call 42; refine (hn.out _).mono ?_; rintro e w1 ⟨rfl, rfl⟩) | (go_at_call 43; refine (hd.out ‹_› _).mono ?_; rintro e w2 ⟨rfl, hE2⟩; have hl2 := hl.out ‹_›))
  all_goals first
    | (go_ret; exact ⟨ret_str (by unfold fileP; simp_all), hE0.out _ _⟩)
    | (go_ret; exact ⟨ret_str (by rw [cat_bytes2]; unfold fileP; simp_all), (hE0.out _ _).trans hE2⟩)
    | skip
  all_goals trace_state
end Go.Proofs.YtijnomopcpgikaaDoor

/- loggiaref16: LogOf. -/
namespace Go.Proofs.YtijnomopcpgikaaDoor
open Go.RowKit

theorem decFrom_bad {v : Nat} {b : UInt8} {r : List UInt8} (h : b.toNat < 48 ∨ 57 < b.toNat) : Lib.decFrom v (b :: r) = none := by
  have : Lib.digitVal b = none := by unfold Lib.digitVal; rw [if_neg (by omega)]
  simp [Lib.decFrom, this]
theorem decFrom_good {v : Nat} {b : UInt8} {r : List UInt8} (h1 : 48 ≤ b.toNat) (h2 : b.toNat ≤ 57) : Lib.decFrom v (b :: r) = Lib.decFrom (v * 10 + (b.toNat - 48)) r := by
  have : Lib.digitVal b = some (b.toNat - 48) := by unfold Lib.digitVal; rw [if_pos ⟨h1, h2⟩]
  simp [Lib.decFrom, this]
theorem logV_go {s : List UInt8} (h1 : s.length = 12) (h2 : s.take 4 = [108, 111, 103, 45]) : logV s = (Lib.decFrom 0 (s.drop 4)).getD 0 := by unfold logV; rw [if_pos ⟨h1, h2⟩]
theorem logV_no {s : List UInt8} (h : ¬ (s.length = 12 ∧ s.take 4 = [108, 111, 103, 45])) : logV s = 0 := by unfold logV; rw [if_neg h]
set_option maxRecDepth 100000 in
set_option maxHeartbeats 2000000 in
theorem rlogOf_any (s : List UInt8) (w : World) (hs : s.length ≤ 9223372036854775807) : Calls Tryd.prog 15 #[.string ⟨s.toArray⟩] w fun e w' => e = .returned (.tuple #[.int .i64 (logV s), .bool (decide (0 < logV s))]) ∧ w' = w := by
  obtain ⟨x, hx⟩ : ∃ x, x = logV s := ⟨_, rfl⟩
  rw [← hx]
  by_cases h12 : s.length = 12
  · have hhd := fun W => run_strheadz (l := s) (k := 4) (by omega) (z := 4) rfl W
    have h4l : (4 : Int) ≤ (s.length : Int) := by omega
    have hbl : ((s.length : Int) != 12) = false := by simp; omega
    by_cases h4 : s.take 4 = [108, 111, 103, 45]
    · have hgo := hide (hx.trans (logV_go h12 h4))
      have hq : (s.take 4 == [108, 111, 103, 45]) = true := by rw [h4]; rfl
      have h12' := hide h12
      replace hx := hide hx
      clear h12 h4
      go_enter Tryd.func15, Tryd.ntmps15
      go_wp2_with fail
      go_loop [4, 5] (fun s4 s5 => ∃ (i v : Nat), s5 = .int .i64 i ∧ 4 ≤ i ∧ i ≤ 12 ∧ s4 = .int .i64 v ∧ v < 10 ^ (i - 4) ∧ Hid (Lib.decFrom 0 (s.drop 4) = Lib.decFrom v (s.drop i))) (fun _ s5 => 12 - (intOf s5).toNat)
      case atStart => exact ⟨4, 0, rfl, by omega, by omega, rfl, by decide, hide rfl⟩
      case round =>
        obtain ⟨i, v, rfl, hi4, hi, rfl, hv, hd⟩ := hrel
        by_cases hi12 : i < 12
        · have hil : i < s.length := by rw [h12'.out]; exact hi12
          have hsi : s[i]? = some s[i] := List.getElem?_eq_getElem hil
          have hrun := fun W => run_strindex hsi (z := (i : Int)) rfl W
          have hdd := hd.out
          rw [List.drop_eq_getElem_cons hil] at hdd
          obtain ⟨b, hb⟩ : ∃ b, b = s[i] := ⟨_, rfl⟩
          rw [← hb] at hrun hdd
          have hb8 := b.toNat_lt
          have hv8 : v < 10000000 := Nat.lt_of_lt_of_le hv (by
            have : 10 ^ (i - 4) ≤ 10 ^ 7 := Nat.pow_le_pow_right (by omega) (by omega)
            omega)
          have hv9 : v * 10 + 9 < 10 ^ (i + 1 - 4) ∨ 10 ^ (i + 1 - 4) ≤ v * 10 + 9 := by omega
          have hpw : 10 ^ (i + 1 - 4) = 10 ^ (i - 4) * 10 := by rw [show i + 1 - 4 = (i - 4) + 1 by omega, Nat.pow_succ]
          have hnv : b.toNat ≤ 57 → v * 10 + (b.toNat - 48) < 10 ^ (i + 1 - 4) := fun h => by omega
          have hbad : (b.toNat < 48 ∨ 57 < b.toNat) → x = 0 := fun h => by rw [hgo.out, hdd, decFrom_bad h]; rfl
          have hgood : 48 ≤ b.toNat → b.toNat ≤ 57 → Lib.decFrom 0 (s.drop 4) = Lib.decFrom (v * 10 + (b.toNat - 48)) (s.drop (i + 1)) := fun h1 h2 => by rw [hdd, decFrom_good h1 h2]
          replace hnv := hide hnv
          replace hbad := hide hbad
          replace hgood := hide hgood
          clear hdd hb hsi hd hv9 hpw hv
          go_wp2_with fail
          · have h0 : (b.toNat : Int) < 48 ∨ 57 < (b.toNat : Int) := by assumption
            have hx0 := hbad.out (by omega)
            go_ret2
            rw [hx0]
            exact ⟨rfl, rfl⟩
          · have h0 : 48 ≤ (b.toNat : Int) ∧ (b.toNat : Int) ≤ 57 := by assumption
            go_round
            case rel => exact ⟨i + 1, v * 10 + (b.toNat - 48), by go_num, by omega, by omega, by congr 1; omega, hnv.out (by omega), hide (hgood.out (by omega) (by omega))⟩
            case measure => simp [intOf]; omega
          · have h0 : (b.toNat : Int) < 48 := by assumption
            have hx0 := hbad.out (by omega)
            go_ret2
            rw [hx0]
            exact ⟨rfl, rfl⟩
        · have hi2 : i = 12 := by omega
          have hxv : x = v := by rw [hgo.out, hd.out, List.drop_of_length_le (by rw [h12'.out]; omega)]; rfl
          clear hd
          subst hxv
          go_wp2_with fail
          go_ret2
          exact ⟨rfl, rfl⟩
    · have hx0 : x = 0 := by rw [hx]; exact logV_no fun h => h4 h.2
      have hq : (s.take 4 == [108, 111, 103, 45]) = false := by simpa using h4
      subst hx0
      clear hx h4 h12
      go_enter Tryd.func15, Tryd.ntmps15
      go_wp2_with fail
      go_ret2
      exact ⟨rfl, rfl⟩
  · have hx0 : x = 0 := by rw [hx]; exact logV_no fun h => h12 h.1
    have hbl : ((s.length : Int) != 12) = true := by simp; omega
    subst hx0
    clear hx h12
    go_enter Tryd.func15, Tryd.ntmps15
    go_wp2_with fail
    go_ret2
    exact ⟨rfl, rfl⟩
end Go.Proofs.YtijnomopcpgikaaDoor

/- strconv.Atoi, strings.CutPrefix, whatever the string. -/
namespace Go.Proofs.YtijnomopcpgikaaDoor
open Go.RowKit

/-- The cells of the two errors that Atoi may wrap hold interface values. -/
structure Errs (w : World) : Prop where
  a : ∃ ev, w.cell? ⟨0, 0, none⟩ = some ev ∧ (ev = .nilIface ∨ ∃ te pe, ev = .iface te pe)
  b : ∃ ev, w.cell? ⟨1, 0, none⟩ = some ev ∧ (ev = .nilIface ∨ ∃ te pe, ev = .iface te pe)
theorem Errs.ext {w w' : World} (h : Errs w) (hE : Ext w w') : Errs w' := by
  obtain ⟨⟨ev, h1, h2⟩, ⟨ev2, h3, h4⟩⟩ := h
  exact ⟨⟨ev, hE.cell h1, h2⟩, ⟨ev2, hE.cell h3, h4⟩⟩
def AtoiP (w : World) (s : List UInt8) (e : Ending) (w' : World) : Prop := Ext w w' ∧ ((∃ v, e = .returned (.tuple #[.int .i64 v, .nilIface]) ∧ Lib.atoiAll s = .ok v) ∨ (∃ v t p, e = .returned (.tuple #[.int .i64 v, .iface t p]) ∧ ∀ v, Lib.atoiAll s ≠ .ok v))
theorem atoi_any (s : List UInt8) (w : World) (hl : s.length ≤ 281474976710656) (h : Errs w) : Calls Tryd.prog 39 #[.string ⟨s.toArray⟩] w fun e w' => AtoiP w s e w' := by
  have hsz : (⟨s.toArray⟩ : ByteArray).size = s.length := ByteArray.size_mk_toArray s
  obtain ⟨⟨ev, h1, h2⟩, ⟨ev2, h3, h4⟩⟩ := h
  cases hc : Lib.atoiAll s
  case ok v =>
    refine (Tryd.strconv_Atoi_ok ⟨s.toArray⟩ (by rw [hsz]; omega) v hc w).mono fun e w' ⟨he, hw⟩ => ⟨?_, .inl ⟨v, he, hc⟩⟩
    rcases hw with rfl | ⟨t, rfl⟩
    · exact Ext.refl _
    · unfold Lib.bytesWorld
      rw [show w.heap.size = w.drew.heap.size from rfl, freeze_new]
      exact (Ext.refl w).drew.alloc _
  case range =>
    exact (Tryd.strconv_Atoi_range ⟨s.toArray⟩ (by rw [hsz]; omega) hc ev2 w h3 h4).mono fun e w' ⟨N, he, _, _, hb⟩ => ⟨hb, .inr ⟨_, _, _, he, fun v h => by rw [hc] at h; cases h⟩⟩
  all_goals exact (Any.strconv_Atoi_syntax Tryd.laysC172 ⟨s.toArray⟩ (by rw [hsz]; omega) hc ev w h1 h2).mono fun e w' ⟨N, he, _, _, hb⟩ => ⟨hb, .inr ⟨0, _, _, he, fun v h => by rw [hc] at h; cases h⟩⟩
end Go.Proofs.YtijnomopcpgikaaDoor

/- manifest.LogOf. -/
namespace Go.Proofs.YtijnomopcpgikaaDoor
open Go.RowKit

theorem atoi_dig8 {n : Nat} (h1 : 1 ≤ n) (h2 : n ≤ 99999999) : Lib.atoiAll (dig8 n) = .ok (n : Int) := by
  rw [dig8_pad h1 h2]
  have hd := dec8_pad h2
  have hl := padk_len 8 n
  rw [Lib.atoiAll_short _ (by omega)]
  have hb : (UInt8.ofNat (48 + n / 10 / 10 / 10 / 10 / 10 / 10 / 10 % 10)).toNat = 48 + n / 10 / 10 / 10 / 10 / 10 / 10 / 10 % 10 := by rw [UInt8.toNat_ofNat']; omega
  rw [padk8] at hd ⊢
  have h45 : (UInt8.ofNat (48 + n / 10 / 10 / 10 / 10 / 10 / 10 / 10 % 10) == 45) = false := by
    rw [beq_eq_false_iff_ne]
    intro e
    rw [e] at hb
    have : (45 : UInt8).toNat = 45 := rfl
    omega
  have h43 : (UInt8.ofNat (48 + n / 10 / 10 / 10 / 10 / 10 / 10 / 10 % 10) == 43) = false := by
    rw [beq_eq_false_iff_ne]
    intro e
    rw [e] at hb
    have : (43 : UInt8).toNat = 43 := rfl
    omega
  unfold Lib.atoi
  simp only [h45, h43, Bool.false_eq_true, if_false]
  unfold Lib.decNat
  simp only [List.isEmpty_cons, Bool.false_eq_true, if_false, hd]
  rfl
theorem logV_pre {s r : List UInt8} {n : Int} (hs : s = [108, 111, 103, 45] ++ r) (h : logP n = s) : 0 < logV s ∧ n = (logV s : Int) := by
  unfold logP at h
  cases hn : numP n with
  | false => rw [hn] at h; rw [hs] at h; cases h
  | true =>
    rw [hn] at h
    have hb : 1 ≤ n ∧ n ≤ 99999999 := by unfold numP at hn; simp at hn; omega
    have hv := logV_of (n := n.toNat) (by omega) (by omega)
    rw [← h]
    simp only [if_true]
    rw [hv]
    omega
theorem logV_zero {s : List UInt8} (h : Lib.hasPrefix s [108, 111, 103, 45] = false) : logV s = 0 := by
  refine logV_no fun hc => ?_
  have : Lib.hasPrefix s [108, 111, 103, 45] = true := by
    unfold Lib.hasPrefix
    rw [List.isPrefixOf_iff_prefix, ← hc.2]
    exact List.take_prefix 4 s
  rw [this] at h
  cases h
set_option maxRecDepth 100000 in
set_option maxHeartbeats 2000000 in
theorem logOf_any (s : List UInt8) (w : World) (hl : s.length ≤ 1000000) (hE : Errs w) (h8 : ∀ n, Eights w n) : Calls Tryd.prog 14 #[.string ⟨s.toArray⟩] w fun e w' => e = .returned (.tuple #[.int .i64 (logV s), .bool (decide (0 < logV s))]) ∧ Ext w w' := by
  have hcp : ∀ W, Calls Tryd.prog 38 #[.string ⟨s.toArray⟩, .string ⟨#[108, 111, 103, 45]⟩] W fun e w' => e = .returned (.tuple #[.string ⟨(Lib.trimPrefix s [108, 111, 103, 45]).toArray⟩, .bool (Lib.hasPrefix s [108, 111, 103, 45])]) ∧ w' = W := fun W => Tryd.strings_CutPrefix ⟨s.toArray⟩ ⟨#[108, 111, 103, 45]⟩ W
  obtain ⟨r, hr⟩ : ∃ r, r = Lib.trimPrefix s [108, 111, 103, 45] := ⟨_, rfl⟩
  rw [← hr] at hcp
  have hrl : r.length ≤ 1000000 := by
    rw [hr]
    unfold Lib.trimPrefix
    split
    · rw [List.length_drop]; omega
    · exact hl
  have hat := hide (atoi_any r w (by omega) hE)
  obtain ⟨x, hx⟩ : ∃ x, x = logV s := ⟨_, rfl⟩
  rw [← hx]
  cases hp : Lib.hasPrefix s [108, 111, 103, 45] with
  | false =>
    have hx0 : x = 0 := hx.trans (logV_zero hp)
    rw [hp] at hcp
    subst hx0
    replace hcp := hide hcp
    clear hx hr hp
    go_enter Tryd.func14, Tryd.ntmps14
    go_wp2_with fail
    refine (hcp.out _).mono ?_
    rintro e w1 ⟨rfl, rfl⟩
    go_wp2_with fail
    refine hat.out.mono ?_
    rintro e w2 ⟨hE2, ⟨v, rfl, _⟩ | ⟨v, t, p, rfl, _⟩⟩
    · go_wp2_with fail
      go_ret2
      exact ⟨rfl, hE2⟩
    · go_wp2_with fail
      go_ret2
      exact ⟨rfl, hE2⟩
  | true =>
    have hs : s = [108, 111, 103, 45] ++ r := by
      rw [hr]
      unfold Lib.trimPrefix
      rw [hp, if_pos rfl]
      unfold Lib.hasPrefix at hp
      rw [List.isPrefixOf_iff_prefix] at hp
      obtain ⟨t, rfl⟩ := hp
      simp
    have hno : (∀ v, Lib.atoiAll r ≠ .ok v) → x = 0 := fun h => by
      rcases Nat.eq_zero_or_pos x with h0 | h0
      · exact h0
      · obtain ⟨h1, h2, h3⟩ := logV_is (s := s) (by omega)
        rw [hs] at h3
        have h4 := List.append_cancel_left h3
        rw [← hs] at h4
        exact absurd (by rw [h4]; exact atoi_dig8 h1 h2) (h _)
    have hyes : ∀ v, Lib.atoiAll r = .ok v → (logP v = s → x = v ∧ 0 < x) ∧ (logP v ≠ s → x = 0) := fun v hv => by
      refine ⟨fun h => ?_, fun h => ?_⟩
      · have := logV_pre hs h
        omega
      · rcases Nat.eq_zero_or_pos x with h0 | h0
        · exact h0
        · obtain ⟨h1, h2, h3⟩ := logV_is (s := s) (by omega)
          have h4 := h3
          rw [hs] at h4
          have h5 := List.append_cancel_left h4
          rw [← hs] at h5
          have h6 : Lib.atoiAll r = .ok ((logV s : Nat) : Int) := by rw [h5]; exact atoi_dig8 h1 h2
          rw [hv] at h6
          injection h6 with h6
          refine absurd ?_ h
          rw [h6]
          unfold logP
          have hnum : numP ((logV s : Nat) : Int) = true := by unfold numP; simp; omega
          rw [hnum, if_pos rfl, Int.toNat_natCast]
          exact h3.symm
    rw [hp] at hcp
    replace hcp := hide hcp
    replace hno := hide hno
    replace hyes := hide hyes
    clear hx hr hp hs
    go_enter Tryd.func14, Tryd.ntmps14
    go_wp2_with fail
    refine (hcp.out _).mono ?_
    rintro e w1 ⟨rfl, rfl⟩
    go_wp2_with fail
    refine hat.out.mono ?_
    rintro e w2 ⟨hE2, ⟨v, rfl, hv⟩ | ⟨v, t, p, rfl, hv⟩⟩
    · have hlg := hide (log_any v w2 ((h8 v).ext hE2))
      obtain ⟨hy1, hy2⟩ := hyes.out v hv
      replace hy1 := hide hy1
      replace hy2 := hide hy2
      clear hv
      go_wp2_with fail
      refine hlg.out.mono ?_
      rintro e w3 ⟨rfl, hE3⟩
      by_cases hls : logP v = s
      · obtain ⟨rfl, hx0⟩ := hy1.out hls
        have hq : (logP (x : Int) == s) = true := by rw [hls]; simp
        clear hls
        go_wp2_with fail
        go_ret2
        exact ⟨by rw [decide_eq_true hx0]; rfl, hE2.trans hE3⟩
      · have hx0 := hy2.out hls
        subst hx0
        have hq : (logP v == s) = false := by simpa using hls
        clear hls
        go_wp2_with fail
        go_ret2
        exact ⟨rfl, hE2.trans hE3⟩
    · have hx0 := hno.out hv
      subst hx0
      clear hv
      go_wp2_with fail
      go_ret2
      exact ⟨rfl, hE2⟩
end Go.Proofs.YtijnomopcpgikaaDoor

/- The tables and the errors of the library, out of a row's condition. -/
namespace Go.Proofs.YtijnomopcpgikaaDoor
open Go.RowKit Go.ChangeShapes

theorem Tryd.gSyn : Tryd.prog.globalNamed "strconv.ErrSyntax" = some 0 := by kernel_rfl
theorem Tryd.gRan : Tryd.prog.globalNamed "strconv.ErrRange" = some 1 := by kernel_rfl
theorem Tryd.gPow : Tryd.prog.globalNamed "internal/strconv.uint64pow10" = some 2 := by kernel_rfl
theorem Tryd.gSynT : (Tryd.prog.globals[0]?).map (·.type) = some 77 := by kernel_rfl
theorem Tryd.gRanT : (Tryd.prog.globals[1]?).map (·.type) = some 77 := by kernel_rfl
theorem Tryd.gPowT : (Tryd.prog.globals[2]?).map (·.type) = some 142 := by kernel_rfl
theorem Tryd.starE : "*" ++ "errors.errorString" = "*errors.errorString" := by decide
theorem Tryd.rowErr (u : TypeId) (h : Tryd.prog.typeName? 3 u = some "*errors.errorString") : u = 131 :=
  typeName_ptr_named (nm := "errors.errorString") (by rw [Tryd.starE]; kernel_rfl) (by kernel_rfl) (by decide) u (by rw [Tryd.starE]; exact h)
/-- The table of the powers of ten lies as the text of the library lays it. -/
def Tabs (w : World) : Prop := Lib.TabIs Tryd.prog w "internal/strconv.uint64pow10" .u64 Lib.pow10Tab
theorem Tabs.ext {w w1 : World} (h : Tabs w) (hE : Ext w w1) : Tabs w1 := by
  have hlt : 2 < w.heap.size := by
    have hv : w.var? Tryd.prog "internal/strconv.uint64pow10" = some _ := h
    have := World.var?_cell Tryd.gPow hv 0
    exact World.block_lt_of_cell? w ⟨2, 0, none⟩ (u := .int .u64 1) (by simpa [Lib.pow10Tab] using this)
  exact var?_below hE Tryd.gPow hlt h
set_option maxRecDepth 100000 in
theorem tabs_of {W : World} {rest : List (String × DataW Unit)} (h : laidMet Tryd.prog (("internal/strconv.uint64pow10", Lib.tabData .u64 Lib.pow10Tab) :: rest) W) : Tabs W :=
  Lib.tabIs_of_head Tryd.gPow Tryd.gPowT Tryd.underlying142 Tryd.underlying53 (by kernel_rfl) (by kernel_rfl) h
theorem itoa_any (n : Int) (h0 : -9223372036854775808 ≤ n) (h1 : n ≤ 9223372036854775807) (w : World) (ht : Tabs w) : Calls Tryd.prog 62 #[.int .i64 n] w fun e w' => e = .returned (.string ⟨(Lib.itoa n).toArray⟩) ∧ Ext w w' :=
  (Tryd.strconv_Itoa n h0 h1 w ht).mono fun e w' ⟨he, k, os, hw⟩ => ⟨he, by rw [hw]; exact ((Ext.refl w).drewN k).trans (show Ext (w.drewN k) (Sort.grow (redrawn (w.drewN k) (w.drewN k).drawn) os) from below_regrown (w.drewN k) (w.drewN k).drawn os)⟩
theorem eights_of {w : World} (ht : Tabs w) (n : Int) : Eights w n := fun hn W hE => by
  have hb : 1 ≤ n ∧ n ≤ 99999999 := by unfold numP at hn; simp at hn; omega
  obtain ⟨k, rfl⟩ : ∃ k : Nat, n = k := ⟨n.toNat, by omega⟩
  rw [Int.toNat_natCast]
  refine eight_of k W (dd8 (by omega) (by omega)) fun W1 hE1 => ?_
  have h := itoa_any k (by omega) (by omega) W1 ((ht.ext hE).ext hE1)
  rw [show Lib.itoa (k : Int) = Lib.decDigits k by unfold Lib.itoa; rw [if_neg (by omega), Int.toNat_natCast]] at h
  exact h
set_option maxRecDepth 100000 in
theorem errs_of {W : World} {t1 t2 : List UInt8} {r1 r2 : List (String × DataW Unit)} (h1 : laidMet Tryd.prog (("strconv.ErrSyntax", .iface "*errors.errorString" (.ptr (.agg [.lit (.string t1)]))) :: r1) W)
    (h2 : laidMet Tryd.prog (("strconv.ErrRange", .iface "*errors.errorString" (.ptr (.agg [.lit (.string t2)]))) :: r2) W) : Errs W := by
  obtain ⟨a0, _, hv0, _, _, _⟩ := laid_sentinel h1 Tryd.gSyn Tryd.gSynT Tryd.underlying77 Tryd.rowErr Tryd.underlying131 Tryd.underlying133 rfl rfl Tryd.underlying9 (by kernel_rfl) (by kernel_rfl)
  obtain ⟨a1, _, hv1, _, _, _⟩ := laid_sentinel h2 Tryd.gRan Tryd.gRanT Tryd.underlying77 Tryd.rowErr Tryd.underlying131 Tryd.underlying133 rfl rfl Tryd.underlying9 (by kernel_rfl) (by kernel_rfl)
  exact ⟨⟨_, by simpa using World.var?_cell Tryd.gSyn hv0 0, .inr ⟨_, _, rfl⟩⟩, ⟨_, by simpa using World.var?_cell Tryd.gRan hv1 0, .inr ⟨_, _, rfl⟩⟩⟩
end Go.Proofs.YtijnomopcpgikaaDoor

/- loggiaref16: orphan. -/
namespace Go.Proofs.YtijnomopcpgikaaDoor
open Go.RowKit

def segIce (s : List UInt8) : Bool := decide (4 ≤ s.length) && (s.take 4 == [115, 101, 103, 45] || s.take 4 == [105, 99, 101, 45])
/-- Is a name one that nobody needs? -/
def orphM (m : Mf) (s : List UInt8) : Bool := s == [109, 97, 110, 105, 102, 101, 115, 116, 46, 110, 101, 119] || (if 0 < logV s then decide ((logV s : Int) < m.log) else segIce s && !(m.ps.any fun p => fileP p.id p.st == s))
set_option maxRecDepth 100000 in
set_option maxHeartbeats 2000000 in
theorem rorphan_any (base : Nat) (m : Mf) (A : Option Addr) (c : Nat) (s : List UInt8) (w : World) (h : m.Ok w base A c) (hs : s.length ≤ 1000000) : Calls Tryd.prog 48 #[m.val A c, .string ⟨s.toArray⟩] w fun e w' => e = .returned (.bool (orphM m s)) ∧ Ext w w' := by
  have hp := h.parts
  have hlg := h.log
  unfold I64ok at hlg
  have hlo := hide (fun w => rlogOf_any s w (by omega))
  have hhd : 4 ≤ s.length → ∀ W, _ := fun h4 W => run_strheadz (l := s) (k := 4) h4 (z := 4) rfl W
  obtain ⟨x, hx⟩ : ∃ x, x = logV s := ⟨_, rfl⟩
  rw [← hx] at hlo
  unfold Mf.val
  replace hhd := hide hhd
  by_cases hmn : s = [109, 97, 110, 105, 102, 101, 115, 116, 46, 110, 101, 119]
  · have ho : orphM m s = true := by unfold orphM; rw [hmn]; simp
    have hq : (s == [109, 97, 110, 105, 102, 101, 115, 116, 46, 110, 101, 119]) = true := by rw [hmn]; simp
    rw [ho]
    clear ho hmn hx h hp
    go_enter Tryd.func48, Tryd.ntmps48
    go_wp2_with fail
    go_ret
    exact ⟨rfl, (Ext.refl w).alloc _⟩
  · have hq : (s == [109, 97, 110, 105, 102, 101, 115, 116, 46, 110, 101, 119]) = false := by simpa using hmn
    obtain ⟨W, hW⟩ : ∃ W, W = w.alloc (.cells #[.slice A m.ps.length c, .int .i64 m.floor, .int .i64 m.done, .int .i64 m.log, .int .i64 m.next, .int .i64 m.now] 24) := ⟨_, rfl⟩
    have hrow : Row W w.heap.size 24 #[.slice A m.ps.length c, .int .i64 m.floor, .int .i64 m.done, .int .i64 m.log, .int .i64 m.next, .int .i64 m.now] := by rw [hW]; exact Row.new w _ _
    have hEW : Ext w W := by rw [hW]; exact (Ext.refl w).alloc _
    by_cases hx0 : 0 < x
    · have ho : orphM m s = decide ((x : Int) < m.log) := by unfold orphM; rw [hq, ← hx, if_pos hx0]; simp
      rw [ho]
      have hd : decide (0 < x) = true := decide_eq_true hx0
      rw [hd] at hlo
      replace hlo := hide hlo.out
      subst hW
      have hc3 : (w.alloc (.cells #[.slice A m.ps.length c, .int .i64 m.floor, .int .i64 m.done, .int .i64 m.log, .int .i64 m.next, .int .i64 m.now] 24)).cell? ⟨w.heap.size, 3, none⟩ = some (.int .i64 m.log) := hrow.cell 3 rfl
      replace hEW := hide hEW
      clear ho hx hmn hx0 hd h hp hrow
      go_enter Tryd.func48, Tryd.ntmps48
      go_wp2_with fail
      refine (hlo.out _).mono ?_
      rintro e w1 ⟨rfl, rfl⟩
      go_wp2_with fail
      go_ret
      exact ⟨rfl, hEW.out⟩
    · obtain rfl : x = 0 := by omega
      have ho : orphM m s = (segIce s && !(m.ps.any fun p => fileP p.id p.st == s)) := by unfold orphM; rw [hq, ← hx, if_neg hx0]; simp
      rw [show decide (0 < 0) = false from rfl] at hlo
      subst hW
      obtain ⟨z, hz⟩ : ∃ z, z = orphM m s := ⟨_, rfl⟩
      rw [← hz]
      have hz2 := hide (hz.trans ho)
      replace hrow := hide hrow
      replace hEW := hide hEW
      clear ho hx hmn hx0 hz h
      by_cases h4 : 4 ≤ s.length
      · have hhd4 := hhd.out h4
        have h4l : (4 : Int) ≤ (s.length : Int) := by omega
        have hmost := hp.most
        cases q1 : (s.take 4 == [115, 101, 103, 45])
        case false =>
          cases q2 : (s.take 4 == [105, 99, 101, 45])
          case false =>
            have hz0 : z = false := by rw [hz2.out]; unfold segIce; rw [q1, q2]; simp
            subst hz0
            clear h4 hp
            go_enter Tryd.func48, Tryd.ntmps48
            go_wp2_with fail
            refine (hlo.out _).mono ?_
            rintro e w1 ⟨rfl, rfl⟩
            go_wp2_with fail
            go_ret
            exact ⟨rfl, hEW.out⟩
          case true =>
            have hz3 := hide (show z = !(m.ps.any fun p => fileP p.id p.st == s) by rw [hz2.out]; unfold segIce; rw [q1, q2, decide_eq_true h4]; rfl)
            have hc0 : (w.alloc (.cells #[.slice A m.ps.length c, .int .i64 m.floor, .int .i64 m.done, .int .i64 m.log, .int .i64 m.next, .int .i64 m.now] 24)).cell? ⟨w.heap.size, 0, none⟩ = some (.slice A m.ps.length c) := hrow.out.cell 0 rfl
            clear h4
            go_enter Tryd.func48, Tryd.ntmps48
            go_wp2_with fail
            refine (hlo.out _).mono ?_
            rintro e w1 ⟨rfl, rfl⟩
            go_wp2_with fail
            go_loopw [7] (fun s7 wr => ∃ i : Nat, s7 = .int .i64 i ∧ i ≤ m.ps.length ∧ Hid ((m.ps.take i).any (fun p => fileP p.id p.st == s) = false) ∧ Hid (Ext (w.alloc (.cells #[.slice A m.ps.length c, .int .i64 m.floor, .int .i64 m.done, .int .i64 m.log, .int .i64 m.next, .int .i64 m.now] 24)) wr)) (fun s7 _ => m.ps.length - (intOf s7).toNat)
            case atStart => exact ⟨0, rfl, by omega, hide (by simp), hide (Ext.refl _)⟩
            case round =>
              obtain ⟨i, rfl, hi, hany, hE⟩ := hrel
              have x0 := hE.out.cell hc0
              by_cases hin : i < m.ps.length
              · obtain ⟨g, o, p, rfl, hpi, hpo, k0, k1, k2, k3, k4, k5, k6⟩ := (hp.ext (hEW.out.trans hE.out)).at_ hin
                have hf := rfile_any p wr
                unfold Pt.val at hf
                have hmem : p ∈ m.ps := List.mem_of_getElem? hpi
                have hnext : (fileP p.id p.st == s) = false → (m.ps.take (i + 1)).any (fun p => fileP p.id p.st == s) = false := fun h => by
                  have h2 := (List.getElem?_eq_some_iff.1 hpi).2
                  rw [List.take_succ_eq_append_getElem hin, List.any_append, hany.out, h2]
                  simp [h]
                have hstop : (fileP p.id p.st == s) = true → z = false := fun h => by
                  rw [hz3.out, List.any_eq_true.2 ⟨p, hmem, h⟩]
                  rfl
                replace hf := hide hf
                replace hnext := hide hnext
                replace hstop := hide hstop
                clear hpi hpo hmem
                cases hfp : (fileP p.id p.st == s) with
                | true =>
                  have hz0 := hstop.out hfp
                  subst hz0
                  go_wp2_with fail
                  refine hf.out.mono ?_
                  rintro e w2 ⟨rfl, hE2⟩
                  go_wp2_with fail
                  go_ret
                  exact ⟨rfl, (hEW.out.trans hE.out).trans hE2⟩
                | false =>
                  have hn := hide (hnext.out hfp)
                  go_wp2_with fail
                  refine hf.out.mono ?_
                  rintro e w2 ⟨rfl, hE2⟩
                  go_wp2_with fail
                  go_roundw
                  case rel => exact ⟨i + 1, by go_num, by omega, hn, hide (hE.out.trans hE2)⟩
                  case measure => simp [intOf]; omega
              · have hz1 : z = true := by
                  have h := hany.out
                  rw [List.take_of_length_le (by omega)] at h
                  rw [hz3.out, h]
                  rfl
                subst hz1
                go_wp2_with fail
                go_ret
                exact ⟨rfl, hEW.out.trans hE.out⟩
        case true =>
          have hz3 := hide (show z = !(m.ps.any fun p => fileP p.id p.st == s) by rw [hz2.out]; unfold segIce; rw [q1, decide_eq_true h4]; rfl)
          have hc0 : (w.alloc (.cells #[.slice A m.ps.length c, .int .i64 m.floor, .int .i64 m.done, .int .i64 m.log, .int .i64 m.next, .int .i64 m.now] 24)).cell? ⟨w.heap.size, 0, none⟩ = some (.slice A m.ps.length c) := hrow.out.cell 0 rfl
          clear h4
          go_enter Tryd.func48, Tryd.ntmps48
          go_wp2_with fail
          refine (hlo.out _).mono ?_
          rintro e w1 ⟨rfl, rfl⟩
          go_wp2_with fail
          go_loopw [7] (fun s7 wr => ∃ i : Nat, s7 = .int .i64 i ∧ i ≤ m.ps.length ∧ Hid ((m.ps.take i).any (fun p => fileP p.id p.st == s) = false) ∧ Hid (Ext (w.alloc (.cells #[.slice A m.ps.length c, .int .i64 m.floor, .int .i64 m.done, .int .i64 m.log, .int .i64 m.next, .int .i64 m.now] 24)) wr)) (fun s7 _ => m.ps.length - (intOf s7).toNat)
          case atStart => exact ⟨0, rfl, by omega, hide (by simp), hide (Ext.refl _)⟩
          case round =>
            obtain ⟨i, rfl, hi, hany, hE⟩ := hrel
            have x0 := hE.out.cell hc0
            by_cases hin : i < m.ps.length
            · obtain ⟨g, o, p, rfl, hpi, hpo, k0, k1, k2, k3, k4, k5, k6⟩ := (hp.ext (hEW.out.trans hE.out)).at_ hin
              have hf := rfile_any p wr
              unfold Pt.val at hf
              have hmem : p ∈ m.ps := List.mem_of_getElem? hpi
              have hnext : (fileP p.id p.st == s) = false → (m.ps.take (i + 1)).any (fun p => fileP p.id p.st == s) = false := fun h => by
                have h2 := (List.getElem?_eq_some_iff.1 hpi).2
                rw [List.take_succ_eq_append_getElem hin, List.any_append, hany.out, h2]
                simp [h]
              have hstop : (fileP p.id p.st == s) = true → z = false := fun h => by
                rw [hz3.out, List.any_eq_true.2 ⟨p, hmem, h⟩]
                rfl
              replace hf := hide hf
              replace hnext := hide hnext
              replace hstop := hide hstop
              clear hpi hpo hmem
              cases hfp : (fileP p.id p.st == s) with
              | true =>
                have hz0 := hstop.out hfp
                subst hz0
                go_wp2_with fail
                refine hf.out.mono ?_
                rintro e w2 ⟨rfl, hE2⟩
                go_wp2_with fail
                go_ret
                exact ⟨rfl, (hEW.out.trans hE.out).trans hE2⟩
              | false =>
                have hn := hide (hnext.out hfp)
                go_wp2_with fail
                refine hf.out.mono ?_
                rintro e w2 ⟨rfl, hE2⟩
                go_wp2_with fail
                go_roundw
                case rel => exact ⟨i + 1, by go_num, by omega, hn, hide (hE.out.trans hE2)⟩
                case measure => simp [intOf]; omega
            · have hz1 : z = true := by
                have h := hany.out
                rw [List.take_of_length_le (by omega)] at h
                rw [hz3.out, h]
                rfl
              subst hz1
              go_wp2_with fail
              go_ret
              exact ⟨rfl, hEW.out.trans hE.out⟩
      · have hz0 : z = false := by rw [hz2.out]; unfold segIce; rw [decide_eq_false h4]; rfl
        subst hz0
        have h4l : (s.length : Int) < 4 := by omega
        clear h4
        go_enter Tryd.func48, Tryd.ntmps48
        go_wp2_with fail
        refine (hlo.out _).mono ?_
        rintro e w1 ⟨rfl, rfl⟩
        go_wp2_with fail
        go_ret
        exact ⟨rfl, hEW.out⟩
end Go.Proofs.YtijnomopcpgikaaDoor

/- loggiaref16: Orphans. -/
namespace Go.Proofs.YtijnomopcpgikaaDoor
open Go.RowKit


set_option maxRecDepth 100000 in
theorem elemStr : Elem Tryd.prog 41 9 1 16 := ⟨Tryd.underlying41, ⟨_, _, rfl, rfl, rfl, rfl, rfl⟩, by omega, by omega⟩
def NewStr (w : World) (ns : List (List UInt8)) (e : Ending) (w' : World) : Prop := ∃ A c, e = .returned (.slice A ns.length c) ∧ Buf w' w.heap.size 9 A ns.length c (ns.map strV) ∧ Ext w w'
set_option maxRecDepth 100000 in
set_option maxHeartbeats 2000000 in
theorem rorphans_any (base : Nat) (m : Mf) (A B : Option Addr) (c c2 : Nat) (ns : List (List UInt8)) (w : World) (h : m.Ok w base A c) (hns : Cells w B (ns.map strV)) (hs : ∀ s ∈ ns, s.length ≤ 1000000) (hn : ns.length ≤ 1000000) :
    Calls Tryd.prog 22 #[m.val A c, .slice B ns.length c2] w fun e w' => NewStr w (ns.filter fun s => orphM m s) e w' := by
  have hro := fun W s (hE : Ext w W) (hl : s.length ≤ 1000000) => rorphan_any base m A c s W (h.ext hE) hl
  have hrow : Row (w.alloc (.cells #[.slice A m.ps.length c, .int .i64 m.floor, .int .i64 m.done, .int .i64 m.log, .int .i64 m.next, .int .i64 m.now] 24)) w.heap.size 24 #[.slice A m.ps.length c, .int .i64 m.floor, .int .i64 m.done, .int .i64 m.log, .int .i64 m.next, .int .i64 m.now] := Row.new w _ _
  unfold Mf.val at hro ⊢
  obtain ⟨n, hnl⟩ : ∃ n, n = ns.length := ⟨_, rfl⟩
  rw [← hnl] at hn ⊢
  replace hnl := hide hnl
  replace hro := hide hro
  replace hs := hide hs
  clear h
  go_enter Tryd.func22, Tryd.ntmps22
  go_wp2_with fail
  obtain ⟨W, hW⟩ : ∃ W, W = w.alloc (.cells #[.slice A m.ps.length c, .int .i64 m.floor, .int .i64 m.done, .int .i64 m.log, .int .i64 m.next, .int .i64 m.now] 24) := ⟨_, rfl⟩
  have hEW : Ext w W := by rw [hW]; exact (Ext.refl w).alloc _
  rw [← hW] at hrow ⊢
  clear hW
  go_loopw [5, 6] (fun s5 s6 wr => ∃ (i : Nat) (A2 : Option Addr) (k c3 : Nat), s6 = .int .i64 i ∧ i ≤ n ∧ s5 = .slice A2 k c3 ∧ k ≤ i ∧ Hid (k = ((ns.take i).filter fun s => orphM m s).length) ∧ Hid (Buf wr W.heap.size 9 A2 k c3 (((ns.take i).filter fun s => orphM m s).map strV)) ∧ Hid (Ext W wr)) (fun _ s6 _ => n - (intOf s6).toNat)
  case atStart => exact ⟨0, none, 0, 0, rfl, by omega, rfl, by omega, hide (by simp), hide (by simpa using Buf.nil _ _ _), hide (Ext.refl W)⟩
  case round =>
    obtain ⟨i, A2, k, c3, rfl, hi, rfl, hki, hk, hb, hE⟩ := hrel
    by_cases hin : i < n
    · have hil : i < ns.length := by rw [← hnl.out]; exact hin
      obtain ⟨g, o, rfl, hc⟩ := hns.at_ (by rw [List.length_map]; omega)
      have k0 := (hEW.trans hE.out).cell (hc i _ (by rw [List.getElem?_map, List.getElem?_eq_getElem hil]; rfl))
      obtain ⟨s, hsd⟩ : ∃ s, s = ns[i] := ⟨_, rfl⟩
      have hsl := hs.out s (by rw [hsd]; exact List.getElem_mem hil)
      have htk : ns.take (i + 1) = ns.take i ++ [s] := by rw [List.take_succ_eq_append_getElem hil, hsd]
      rw [← hsd] at k0
      unfold strV at k0
      have hr := hrow.ext hE.out
      have x0 := hr.cell 0 rfl
      have x1 := hr.cell 1 rfl
      have x2 := hr.cell 2 rfl
      have x3 := hr.cell 3 rfl
      have x4 := hr.cell 4 rfl
      have x5 := hr.cell 5 rfl
      have hi0 : (0 : Int) ≤ i := by omega
      have hi1 : (i : Int) < n := by omega
      replace htk := hide htk
      clear hsd hc hr
      go_wp2_with fail
      refine wp_region_text follows (by kernel_rfl) (by kernel_rfl) (fun K hK => ?_)
      go_wp2_with fail
      refine (hro.out _ s (hEW.trans hE.out.drew) hsl).mono ?_
      rintro e w4 ⟨rfl, hE4⟩
      have hE5 := hide (hE.out.drew.trans hE4)
      have hb5 := hide ((hb.out.drew).ext hE4)
      have k1 := hE4.cell (show wr.drew.cell? ⟨g, o + i, none⟩ = some (.string ⟨s.toArray⟩) from k0)
      have hsz := hE5.out.size
      cases hom : orphM m s with
      | true =>
        have hf : (ns.take (i + 1)).filter (fun s => orphM m s) = (ns.take i).filter (fun s => orphM m s) ++ [s] := by rw [htk.out, List.filter_append]; simp [hom]
        replace hf := hide hf
        go_wp2_with fail
        refine ⟨by kernel_rfl, ?_⟩
        go_wp2_with (at_builtin; refine wpList_bufN elemStr hb5.out (.tmp 19) (.tmp 24) rfl rfl rfl rfl (one_of rfl) (by simp; omega) hsz (fun A3 c4 w5 hb6 hE6 => ?_))
        go_roundw
        case rel => exact ⟨i + 1, A3, k + 1, c4, by go_num, by omega, rfl, by omega, hide (by rw [hf.out, List.length_append, ← hk.out]; rfl), hide (by rw [hf.out, List.map_append]; exact hb6), hide (hE6 W hE5.out (Nat.le_refl _))⟩
        case measure => simp [intOf]; omega
      | false =>
        have hf : (ns.take (i + 1)).filter (fun s => orphM m s) = (ns.take i).filter (fun s => orphM m s) := by rw [htk.out, List.filter_append]; simp [hom]
        replace hf := hide hf
        go_wp2_with fail
        refine ⟨by kernel_rfl, ?_⟩
        go_wp2_with fail
        go_roundw
        case rel => exact ⟨i + 1, A2, k, c3, by go_num, by omega, rfl, by omega, hide (by rw [hf.out]; exact hk.out), hide (by rw [hf.out]; exact hb5.out), hE5⟩
        case measure => simp [intOf]; omega
    · have htk : ns.take i = ns := List.take_of_length_le (by rw [← hnl.out]; omega)
      rw [htk] at hk hb
      clear htk
      go_wp2_with fail
      go_ret
      exact ⟨A2, c3, by rw [← hk.out]; rfl, by rw [← hk.out]; exact hb.out.lower hEW.size, hEW.trans hE.out⟩
end Go.Proofs.YtijnomopcpgikaaDoor

/- manifest.Orphans: does a partition bear a name? -/
namespace Go.Proofs.YtijnomopcpgikaaDoor
open Go.RowKit

set_option maxRecDepth 100000 in
theorem orph11_any (p : Pt) (s : List UInt8) (b : Nat) (w : World) (h8 : ∀ n, Eights w n) (hc : w.cell? ⟨b, 0, none⟩ = some (.string ⟨s.toArray⟩)) :
    Calls Tryd.prog 46 #[p.val, .pointer (some ⟨b, 0, none⟩)] w fun e w' => e = .returned (.bool (fileP p.id p.st == s)) ∧ Ext w w' := by
  have hf := fun W (hE : Ext w W) => file_any p W ((h8 p.id).ext hE)
  unfold Pt.val at hf ⊢
  have hE0 : ∀ cs t, Ext w (w.alloc (.cells cs t)) := fun _ _ => (Ext.refl w).alloc _
  replace hE0 := hide hE0
  replace hf := hide hf
  go_enter Tryd.func46, Tryd.ntmps46
  go_wp2_with fail
  obtain ⟨W, hW⟩ : ∃ W, W = w.alloc (.cells #[.int .i64 p.id, .int .i64 p.st, .int .i64 p.lo, .int .i64 p.hi, .int .i64 p.fi, .int .i64 p.la, .int .i64 p.n] 40) := ⟨_, rfl⟩
  have hEW : Ext w W := by rw [hW]; exact (Ext.refl w).alloc _
  have hrow : Row W w.heap.size 40 #[.int .i64 p.id, .int .i64 p.st, .int .i64 p.lo, .int .i64 p.hi, .int .i64 p.fi, .int .i64 p.la, .int .i64 p.n] := by rw [hW]; exact Row.new w _ _
  rw [← hW]
  have hS : ∀ w0 w1, (w0.cell? ⟨b, 0, none⟩ = some (.string ⟨s.toArray⟩) ∧ w0.cell? ⟨w.heap.size, 0, none⟩ = some (.int .i64 p.id) ∧ w0.cell? ⟨w.heap.size, 1, none⟩ = some (.int .i64 p.st) ∧ w0.cell? ⟨w.heap.size, 2, none⟩ = some (.int .i64 p.lo) ∧ w0.cell? ⟨w.heap.size, 3, none⟩ = some (.int .i64 p.hi) ∧ w0.cell? ⟨w.heap.size, 4, none⟩ = some (.int .i64 p.fi) ∧ w0.cell? ⟨w.heap.size, 5, none⟩ = some (.int .i64 p.la) ∧ w0.cell? ⟨w.heap.size, 6, none⟩ = some (.int .i64 p.n) ∧ Ext W w0) → Ext w0 w1 → (w1.cell? ⟨b, 0, none⟩ = some (.string ⟨s.toArray⟩) ∧ w1.cell? ⟨w.heap.size, 0, none⟩ = some (.int .i64 p.id) ∧ w1.cell? ⟨w.heap.size, 1, none⟩ = some (.int .i64 p.st) ∧ w1.cell? ⟨w.heap.size, 2, none⟩ = some (.int .i64 p.lo) ∧ w1.cell? ⟨w.heap.size, 3, none⟩ = some (.int .i64 p.hi) ∧ w1.cell? ⟨w.heap.size, 4, none⟩ = some (.int .i64 p.fi) ∧ w1.cell? ⟨w.heap.size, 5, none⟩ = some (.int .i64 p.la) ∧ w1.cell? ⟨w.heap.size, 6, none⟩ = some (.int .i64 p.n) ∧ Ext W w1) := fun w0 w1 ⟨h0, h1, h2, h3, h4, h5, h6, h7, h⟩ hE => ⟨hE.cell h0, hE.cell h1, hE.cell h2, hE.cell h3, hE.cell h4, hE.cell h5, hE.cell h6, hE.cell h7, h.trans hE⟩
  have hf' : ∀ w0, (w0.cell? ⟨b, 0, none⟩ = some (.string ⟨s.toArray⟩) ∧ w0.cell? ⟨w.heap.size, 0, none⟩ = some (.int .i64 p.id) ∧ w0.cell? ⟨w.heap.size, 1, none⟩ = some (.int .i64 p.st) ∧ w0.cell? ⟨w.heap.size, 2, none⟩ = some (.int .i64 p.lo) ∧ w0.cell? ⟨w.heap.size, 3, none⟩ = some (.int .i64 p.hi) ∧ w0.cell? ⟨w.heap.size, 4, none⟩ = some (.int .i64 p.fi) ∧ w0.cell? ⟨w.heap.size, 5, none⟩ = some (.int .i64 p.la) ∧ w0.cell? ⟨w.heap.size, 6, none⟩ = some (.int .i64 p.n) ∧ Ext W w0) → Calls Tryd.prog 17 #[.agg #[.int .i64 p.id, .int .i64 p.st, .int .i64 p.lo, .int .i64 p.hi, .int .i64 p.fi, .int .i64 p.la, .int .i64 p.n]] w0 fun e w' => e = .returned (.string ⟨(fileP p.id p.st).toArray⟩) ∧ (w'.cell? ⟨b, 0, none⟩ = some (.string ⟨s.toArray⟩) ∧ w'.cell? ⟨w.heap.size, 0, none⟩ = some (.int .i64 p.id) ∧ w'.cell? ⟨w.heap.size, 1, none⟩ = some (.int .i64 p.st) ∧ w'.cell? ⟨w.heap.size, 2, none⟩ = some (.int .i64 p.lo) ∧ w'.cell? ⟨w.heap.size, 3, none⟩ = some (.int .i64 p.hi) ∧ w'.cell? ⟨w.heap.size, 4, none⟩ = some (.int .i64 p.fi) ∧ w'.cell? ⟨w.heap.size, 5, none⟩ = some (.int .i64 p.la) ∧ w'.cell? ⟨w.heap.size, 6, none⟩ = some (.int .i64 p.n) ∧ Ext W w') := fun w0 h => (hf.out w0 (hEW.trans h.2.2.2.2.2.2.2.2)).mono fun e w' ⟨h1, h2⟩ => ⟨h1, hS _ _ h h2⟩
  have hS0 : W.cell? ⟨b, 0, none⟩ = some (.string ⟨s.toArray⟩) ∧ W.cell? ⟨w.heap.size, 0, none⟩ = some (.int .i64 p.id) ∧ W.cell? ⟨w.heap.size, 1, none⟩ = some (.int .i64 p.st) ∧ W.cell? ⟨w.heap.size, 2, none⟩ = some (.int .i64 p.lo) ∧ W.cell? ⟨w.heap.size, 3, none⟩ = some (.int .i64 p.hi) ∧ W.cell? ⟨w.heap.size, 4, none⟩ = some (.int .i64 p.fi) ∧ W.cell? ⟨w.heap.size, 5, none⟩ = some (.int .i64 p.la) ∧ W.cell? ⟨w.heap.size, 6, none⟩ = some (.int .i64 p.n) ∧ Ext W W := ⟨hEW.cell hc, hrow.cell 0 rfl, hrow.cell 1 rfl, hrow.cell 2 rfl, hrow.cell 3 rfl, hrow.cell 4 rfl, hrow.cell 5 rfl, hrow.cell 6 rfl, Ext.refl W⟩
  have hx : ∀ w', (w'.cell? ⟨b, 0, none⟩ = some (.string ⟨s.toArray⟩) ∧ w'.cell? ⟨w.heap.size, 0, none⟩ = some (.int .i64 p.id) ∧ w'.cell? ⟨w.heap.size, 1, none⟩ = some (.int .i64 p.st) ∧ w'.cell? ⟨w.heap.size, 2, none⟩ = some (.int .i64 p.lo) ∧ w'.cell? ⟨w.heap.size, 3, none⟩ = some (.int .i64 p.hi) ∧ w'.cell? ⟨w.heap.size, 4, none⟩ = some (.int .i64 p.fi) ∧ w'.cell? ⟨w.heap.size, 5, none⟩ = some (.int .i64 p.la) ∧ w'.cell? ⟨w.heap.size, 6, none⟩ = some (.int .i64 p.n) ∧ Ext W w') → Ext w w' := fun w' h => hEW.trans h.2.2.2.2.2.2.2.2
  have hS1 := hS _ _ hS0 (Ext.refl W).drew
  replace hf' := hide hf'
  replace hS0 := hide hS0
  replace hS1 := hide hS1
  replace hx := hide hx
  clear hf hS hW hEW hrow h8 hc hE0
  go_region_held3 (fun w' => w'.cell? ⟨b, 0, none⟩ = some (.string ⟨s.toArray⟩) ∧ w'.cell? ⟨w.heap.size, 0, none⟩ = some (.int .i64 p.id) ∧ w'.cell? ⟨w.heap.size, 1, none⟩ = some (.int .i64 p.st) ∧ w'.cell? ⟨w.heap.size, 2, none⟩ = some (.int .i64 p.lo) ∧ w'.cell? ⟨w.heap.size, 3, none⟩ = some (.int .i64 p.hi) ∧ w'.cell? ⟨w.heap.size, 4, none⟩ = some (.int .i64 p.fi) ∧ w'.cell? ⟨w.heap.size, 5, none⟩ = some (.int .i64 p.la) ∧ w'.cell? ⟨w.heap.size, 6, none⟩ = some (.int .i64 p.n) ∧ Ext W w') (first | exact hS0.out | exact hS1.out | exact ‹_›) (first | (go_at_call 17; refine (hf'.out _ ‹_›).mono ?_; rintro e w3 ⟨rfl, hSc⟩))
  go_wp2_with fail
  go_ret
  exact ⟨rfl, hx.out _ ‹_›⟩
set_option maxRecDepth 100000 in
set_option maxHeartbeats 1000000 in
theorem indexP_any (base : Nat) (A : Option Addr) (c : Nat) (ps : List Pt) (s : List UInt8) (b : Nat) (w : World) (hp : PS w base A ps.length c ps) (h8 : ∀ n, Eights w n) (hc : w.cell? ⟨b, 0, none⟩ = some (.string ⟨s.toArray⟩)) :
    Calls Tryd.prog 64 #[.slice A ps.length c, .func (.func 46) #[] #[.pointer (some ⟨b, 0, none⟩)]] w fun e w' => ∃ v : Int, e = .returned (.int .i64 v) ∧ decide (0 ≤ v) = (ps.any fun p => fileP p.id p.st == s) ∧ Ext w w' := by
  obtain ⟨n, hn⟩ : ∃ n, n = ps.length := ⟨_, rfl⟩
  rw [← hn] at hp ⊢
  have hm := hp.most
  have h8' := fun W (hE : Ext w W) n => (h8 n).ext hE
  replace hn := hide hn
  replace h8' := hide h8'
  clear h8
  go_enter Tryd.func64, Tryd.ntmps64
  go_wp2_with fail
  go_loopw [8] (fun s8 wr => ∃ i : Nat, s8 = .int .i64 i ∧ i ≤ n ∧ Hid ((ps.any fun p => fileP p.id p.st == s) = (ps.drop i).any fun p => fileP p.id p.st == s) ∧ Hid (Ext w wr)) (fun s8 _ => n - (intOf s8).toNat)
  case atStart => exact ⟨0, rfl, by omega, hide rfl, hide (Ext.refl _)⟩
  case round =>
    obtain ⟨i, rfl, hi, hall, hE⟩ := hrel
    by_cases hin : i < n
    · obtain ⟨g, o, p, rfl, hpi, hpo, k0, k1, k2, k3, k4, k5, k6⟩ := (hp.ext hE.out).at_ hin
      have hil : i < ps.length := by rw [← hn.out]; exact hin
      have hdr : ((ps.drop i).any fun p => fileP p.id p.st == s) = ((fileP p.id p.st == s) || (ps.drop (i + 1)).any fun p => fileP p.id p.st == s) := by
        have h2 := (List.getElem?_eq_some_iff.1 hpi).2
        rw [List.drop_eq_getElem_cons hil, List.any_cons, h2]
      have hcl := orph11_any p s b wr (h8'.out _ hE.out) (hE.out.cell hc)
      unfold Pt.val at hcl
      replace hcl := hide hcl
      replace hdr := hide hdr
      clear hpi hpo
      go_wp2_with fail
      refine hcl.out.mono ?_
      rintro e w2 ⟨rfl, hE2⟩
      have hE3 := hide (hE.out.trans hE2)
      cases hok : (fileP p.id p.st == s) with
      | false =>
        rw [hok] at hdr
        have hd2 : Hid ((ps.any fun p => fileP p.id p.st == s) = (ps.drop (i + 1)).any fun p => fileP p.id p.st == s) := by rw [hall.out, hdr.out]; exact Bool.false_or _
        replace hok := hide hok
        clear hdr
        go_wp2_with fail
        go_roundw
        case rel => exact ⟨i + 1, by go_num, by omega, hd2, hE3⟩
        case measure => simp [intOf]; omega
      | true =>
        rw [hok] at hdr
        have hd2 : Hid ((ps.any fun p => fileP p.id p.st == s) = true) := by rw [hall.out, hdr.out]; exact Bool.true_or _
        replace hok := hide hok
        clear hdr
        go_wp2_with fail
        go_ret
        rw [hd2.out]
        exact ⟨_, rfl, decide_eq_true (by omega), hE3.out⟩
    · have hd2 : (ps.any fun p => fileP p.id p.st == s) = false := by
        rw [hall.out, List.drop_eq_nil_of_le (by rw [← hn.out]; omega)]
        rfl
      replace hd2 := hide hd2
      go_wp2_with fail
      go_ret
      rw [hd2.out]
      exact ⟨-1, rfl, rfl, hE.out⟩
set_option maxRecDepth 100000 in
theorem containsP_any (base : Nat) (A : Option Addr) (c : Nat) (ps : List Pt) (s : List UInt8) (b : Nat) (w : World) (hp : PS w base A ps.length c ps) (h8 : ∀ n, Eights w n) (hc : w.cell? ⟨b, 0, none⟩ = some (.string ⟨s.toArray⟩)) :
    Calls Tryd.prog 45 #[.slice A ps.length c, .func (.func 46) #[] #[.pointer (some ⟨b, 0, none⟩)]] w fun e w' => e = .returned (.bool (ps.any fun p => fileP p.id p.st == s)) ∧ Ext w w' := by
  have h := indexP_any base A c ps s b w hp h8 hc
  obtain ⟨q, hq⟩ : ∃ q, q = (ps.any fun p => fileP p.id p.st == s) := ⟨_, rfl⟩
  rw [← hq] at h ⊢
  replace hq := hide hq
  replace h := hide h
  clear h8 hp
  go_enter Tryd.func45, Tryd.ntmps45
  go_wp2_with fail
  refine h.out.mono ?_
  rintro e w1 ⟨v, rfl, hv, hE⟩
  go_wp2_with fail
  go_ret
  exact ⟨ret_bool rfl, hE⟩
set_option maxRecDepth 100000 in
theorem orph1_any (base : Nat) (m : Mf) (A : Option Addr) (c : Nat) (s : List UInt8) (b : Nat) (w : World) (hm : m.Ok w base A c) (h8 : ∀ n, Eights w n) (hr : Row w b 24 #[.slice A m.ps.length c, .int .i64 m.floor, .int .i64 m.done, .int .i64 m.log, .int .i64 m.next, .int .i64 m.now]) :
    Calls Tryd.prog 44 #[.string ⟨s.toArray⟩, .pointer (some ⟨b, 0, none⟩)] w fun e w' => e = .returned (.bool (m.ps.any fun p => fileP p.id p.st == s)) ∧ Ext w w' := by
  have hmf : ∀ (fn : Fn) (first cap : Array Value) (w : World), (Instr.makeFunc fn first cap).run Tryd.prog w = .ok (.func fn first cap) w := fun _ _ _ _ => rfl
  have hE0 : Ext w (w.alloc (.cells #[.string ⟨s.toArray⟩] 9)) := (Ext.refl w).alloc _
  have hcs : (w.alloc (.cells #[.string ⟨s.toArray⟩] 9)).cell? ⟨w.heap.size, 0, none⟩ = some (.string ⟨s.toArray⟩) := (Row.new w 9 #[.string ⟨s.toArray⟩]).cell 0 rfl
  have hcl := containsP_any base A c m.ps s w.heap.size _ (hm.parts.ext hE0) (fun n => (h8 n).ext hE0) hcs
  have x0 := (hr.ext hE0).cell 0 rfl
  obtain ⟨q, hq⟩ : ∃ q, q = (m.ps.any fun p => fileP p.id p.st == s) := ⟨_, rfl⟩
  rw [← hq] at hcl ⊢
  replace hq := hide hq
  replace hcl := hide hcl
  replace hE0 := hide hE0
  clear h8 hm hr
  go_enter Tryd.func44, Tryd.ntmps44
  go_wp2_with fail
  refine hcl.out.mono ?_
  rintro e w1 ⟨rfl, hE⟩
  go_wp2_with fail
  go_ret
  exact ⟨rfl, hE0.out.trans hE⟩
end Go.Proofs.YtijnomopcpgikaaDoor

/- manifest.Orphans. -/
namespace Go.Proofs.YtijnomopcpgikaaDoor
open Go.RowKit

theorem orphM_eq (m : Mf) (s : List UInt8) : orphM m s = (s == [109, 97, 110, 105, 102, 101, 115, 116, 46, 110, 101, 119] || (segIce s && !(m.ps.any fun p => fileP p.id p.st == s)) || (decide (0 < logV s) && decide ((logV s : Int) < m.log))) := by
  unfold orphM
  by_cases h : 0 < logV s
  · obtain ⟨_, _, h3⟩ := logV_is (s := s) (by omega)
    have hse : segIce s = false := by
      unfold segIce
      rw [h3]
      simp
    rw [if_pos h, hse, decide_eq_true h]
    simp
  · rw [if_neg h, decide_eq_false h]
    simp
theorem segIce_eq (s : List UInt8) : segIce s = (Lib.hasPrefix s [115, 101, 103, 45] || Lib.hasPrefix s [105, 99, 101, 45]) := by
  have hp : ∀ p : List UInt8, p.length = 4 → Lib.hasPrefix s p = (decide (4 ≤ s.length) && s.take 4 == p) := fun p hp => by
    unfold Lib.hasPrefix
    rw [Bool.eq_iff_iff, List.isPrefixOf_iff_prefix, Bool.and_eq_true, decide_eq_true_iff, beq_iff_eq]
    constructor
    · rintro ⟨t, rfl⟩
      refine ⟨by rw [List.length_append]; omega, ?_⟩
      rw [← hp, List.take_left']
      rfl
    · rintro ⟨_, h2⟩
      rw [← h2]
      exact List.take_prefix 4 s
  rw [hp _ rfl, hp _ rfl]
  unfold segIce
  cases decide (4 ≤ s.length) <;> simp
set_option maxRecDepth 100000 in
set_option maxHeartbeats 2000000 in
theorem orphans_any (base : Nat) (m : Mf) (A B : Option Addr) (c c2 : Nat) (ns : List (List UInt8)) (w : World) (h : m.Ok w base A c) (hns : Cells w B (ns.map strV)) (hs : ∀ s ∈ ns, s.length ≤ 1000000) (hn : ns.length ≤ 1000000) (hEr : Errs w) (h8 : ∀ n, Eights w n) :
    Calls Tryd.prog 21 #[m.val A c, .slice B ns.length c2] w fun e w' => NewStr w (ns.filter fun s => orphM m s) e w' := by
  have hlg := fun W s (hE : Ext w W) (hl : s.length ≤ 1000000) => logOf_any s W hl (hEr.ext hE) (fun n => (h8 n).ext hE)
  have hrow : Row (w.alloc (.cells #[.slice A m.ps.length c, .int .i64 m.floor, .int .i64 m.done, .int .i64 m.log, .int .i64 m.next, .int .i64 m.now] 24)) w.heap.size 24 #[.slice A m.ps.length c, .int .i64 m.floor, .int .i64 m.done, .int .i64 m.log, .int .i64 m.next, .int .i64 m.now] := Row.new w _ _
  have hmf : ∀ (fn : Fn) (first cap : Array Value) (w : World), (Instr.makeFunc fn first cap).run Tryd.prog w = .ok (.func fn first cap) w := fun _ _ _ _ => rfl
  have hcl := fun W s (hE : Ext w W) (hr : Row W w.heap.size 24 #[.slice A m.ps.length c, .int .i64 m.floor, .int .i64 m.done, .int .i64 m.log, .int .i64 m.next, .int .i64 m.now]) => orph1_any base m A c s w.heap.size W (h.ext hE) (fun n => (h8 n).ext hE) hr
  have hsg := fun (s : List UInt8) W => Tryd.strings_HasPrefix ⟨s.toArray⟩ ⟨#[115, 101, 103, 45]⟩ W
  have hic := fun (s : List UInt8) W => Tryd.strings_HasPrefix ⟨s.toArray⟩ ⟨#[105, 99, 101, 45]⟩ W
  unfold Mf.val
  obtain ⟨n, hnl⟩ : ∃ n, n = ns.length := ⟨_, rfl⟩
  rw [← hnl] at hn ⊢
  replace hnl := hide hnl
  replace hlg := hide hlg
  replace hcl := hide hcl
  replace hsg := hide hsg
  replace hic := hide hic
  replace hs := hide hs
  clear h hEr h8
  go_enter Tryd.func21, Tryd.ntmps21
  go_wp2_with fail
  obtain ⟨W, hW⟩ : ∃ W, W = w.alloc (.cells #[.slice A m.ps.length c, .int .i64 m.floor, .int .i64 m.done, .int .i64 m.log, .int .i64 m.next, .int .i64 m.now] 24) := ⟨_, rfl⟩
  have hEW : Ext w W := by rw [hW]; exact (Ext.refl w).alloc _
  rw [← hW] at hrow ⊢
  clear hW
  go_loopw [6, 15] (fun s6 s15 wr => ∃ (i : Nat) (A2 : Option Addr) (k c3 : Nat), s15 = .int .i64 i ∧ i ≤ n ∧ s6 = .slice A2 k c3 ∧ k ≤ i ∧ Hid (k = ((ns.take i).filter fun s => orphM m s).length) ∧ Hid (Buf wr W.heap.size 9 A2 k c3 (((ns.take i).filter fun s => orphM m s).map strV)) ∧ Hid (Ext W wr)) (fun _ s15 _ => n - (intOf s15).toNat)
  case atStart => exact ⟨0, none, 0, 0, rfl, by omega, rfl, by omega, hide (by simp), hide (by simpa using Buf.nil _ _ _), hide (Ext.refl W)⟩
  case round =>
    obtain ⟨i, A2, k, c3, rfl, hi, rfl, hki, hk, hb, hE⟩ := hrel
    by_cases hin : i < n
    · have hil : i < ns.length := by rw [← hnl.out]; exact hin
      obtain ⟨g, o, rfl, hc⟩ := hns.at_ (by rw [List.length_map]; omega)
      have k0 := (hEW.trans hE.out).cell (hc i _ (by rw [List.getElem?_map, List.getElem?_eq_getElem hil]; rfl))
      obtain ⟨s, hsd⟩ : ∃ s, s = ns[i] := ⟨_, rfl⟩
      have hsl := hs.out s (by rw [hsd]; exact List.getElem_mem hil)
      have htk : ns.take (i + 1) = ns.take i ++ [s] := by rw [List.take_succ_eq_append_getElem hil, hsd]
      rw [← hsd] at k0
      unfold strV at k0
      have hlg1 := hide (hlg.out wr s (hEW.trans hE.out) hsl)
      have hi0 : (0 : Int) ≤ i := by omega
      have hi1 : (i : Int) < n := by omega
      have hom := orphM_eq m s
      rw [segIce_eq] at hom
      obtain ⟨b1, hb1⟩ : ∃ b1, b1 = Lib.hasPrefix s [115, 101, 103, 45] := ⟨_, rfl⟩
      obtain ⟨b2, hb2⟩ : ∃ b2, b2 = Lib.hasPrefix s [105, 99, 101, 45] := ⟨_, rfl⟩
      obtain ⟨b3, hb3⟩ : ∃ b3, b3 = (m.ps.any fun p => fileP p.id p.st == s) := ⟨_, rfl⟩
      obtain ⟨b4, hb4⟩ : ∃ b4, b4 = (s == [109, 97, 110, 105, 102, 101, 115, 116, 46, 110, 101, 119]) := ⟨_, rfl⟩
      obtain ⟨x, hx⟩ : ∃ x, x = logV s := ⟨_, rfl⟩
      have hsg1 : ∀ W, Calls Tryd.prog 47 #[.string ⟨s.toArray⟩, .string ⟨#[115, 101, 103, 45]⟩] W fun e w' => e = .returned (.bool b1) ∧ w' = W := by rw [hb1]; exact hsg.out s
      have hic1 : ∀ W, Calls Tryd.prog 47 #[.string ⟨s.toArray⟩, .string ⟨#[105, 99, 101, 45]⟩] W fun e w' => e = .returned (.bool b2) ∧ w' = W := by rw [hb2]; exact hic.out s
      have hcl1 := fun W1 (hE1 : Ext W W1) => hcl.out W1 s (hEW.trans hE1) (hrow.ext hE1)
      rw [← hb1, ← hb2, ← hb3, ← hb4, ← hx] at hom
      rw [← hb3] at hcl1
      rw [← hx] at hlg1
      obtain ⟨z, hz⟩ : ∃ z, z = orphM m s := ⟨_, rfl⟩
      have hyes : z = true → (ns.take (i + 1)).filter (fun s => orphM m s) = (ns.take i).filter (fun s => orphM m s) ++ [s] := fun h => by rw [htk, List.filter_append]; simp [← hz, h]
      have hno : z = false → (ns.take (i + 1)).filter (fun s => orphM m s) = (ns.take i).filter (fun s => orphM m s) := fun h => by rw [htk, List.filter_append]; simp [← hz, h]
      rw [← hz] at hom
      replace hyes := hide hyes
      replace hno := hide hno
      replace hom := hide hom
      clear hz
      clear htk
      replace hsg1 := hide hsg1
      replace hic1 := hide hic1
      replace hcl1 := hide hcl1
      clear hsd hc hb1 hb2 hb3 hx
      go_wp2_with fail
      refine hlg1.out.mono ?_
      rintro e w4 ⟨rfl, hE4⟩
      have hE5 := hide (hE.out.trans hE4)
      have hb5 := hide (hb.out.ext hE4)
      have hr := hrow.ext hE5.out
      have x3 := hr.cell 3 rfl
      have hsz := hE5.out.size
      clear hr
      go_wp2_with fail
      refine (hsg1.out _).mono ?_
      rintro e w5 ⟨rfl, rfl⟩
      obtain ⟨b5, hb5e⟩ : ∃ b5, b5 = (b1 || b2) := ⟨_, rfl⟩
      rw [← hb5e] at hom
      cases b1
      case' false =>
        obtain rfl : b5 = b2 := hb5e.trans (Bool.false_or _)
        clear hb5e
        go_wp2_with fail
        refine (hic1.out _).mono ?_
        rintro e w5 ⟨rfl, rfl⟩
      case' true =>
        obtain rfl : b5 = true := hb5e.trans (Bool.true_or _)
        clear hb5e
      all_goals go_wp2_with (first
        | (go_at_call 44; refine (hcl1.out _ hE5.out).mono ?_; rintro e w6 ⟨rfl, hE6⟩; have hE7 := hide (hE5.out.trans hE6); have hb7 := hide (hb5.out.ext hE6); have hs7 := hE7.out.size; have y3 := hE6.cell x3)
        | (at_builtin; first
          | refine wpList_bufN elemStr hb7.out (.tmp 50) (.tmp 52) rfl rfl rfl rfl (one_of rfl) (by simp; omega) hs7 (fun A3 c4 w8 hb8 hE8 => ?_)
          | refine wpList_bufN elemStr hb5.out (.tmp 50) (.tmp 52) rfl rfl rfl rfl (one_of rfl) (by simp; omega) hsz (fun A3 c4 w8 hb8 hE8 => ?_)))
      all_goals first
        | have hz : z = true := by rw [hom.out]; first | rfl | simp_all
          go_roundw
          case rel => exact ⟨i + 1, A3, k + 1, c4, by go_num, by omega, rfl, by omega, hide (by rw [hyes.out hz, List.length_append, ← hk.out]; rfl), hide (by rw [hyes.out hz, List.map_append]; exact hb8), hide (by first | exact hE8 W hE7.out (Nat.le_refl _) | exact hE8 W hE5.out (Nat.le_refl _))⟩
          case measure => simp [intOf]; omega
        | have hz : z = false := by rw [hom.out]; first | rfl | simp_all
          go_roundw
          case rel => exact ⟨i + 1, A2, k, c3, by go_num, by omega, rfl, by omega, hide (by rw [hno.out hz]; exact hk.out), hide (by rw [hno.out hz]; first | exact hb7.out | exact hb5.out), (by first | exact hE7 | exact hE5)⟩
          case measure => simp [intOf]; omega
        | have hq : s = [109, 97, 110, 105, 102, 101, 115, 116, 46, 110, 101, 119] := ‹_›
          have hz : z = true := by rw [hom.out, hb4, hq]; rfl
          subst hq
          go_roundw
          case rel => exact ⟨i + 1, A3, k + 1, c4, by go_num, by omega, rfl, by omega, hide (by rw [hyes.out hz, List.length_append, ← hk.out]; rfl), hide (by rw [hyes.out hz, List.map_append]; exact hb8), hide (by first | exact hE8 W hE7.out (Nat.le_refl _) | exact hE8 W hE5.out (Nat.le_refl _))⟩
          case measure => simp [intOf]; omega
    · have htk : ns.take i = ns := List.take_of_length_le (by rw [← hnl.out]; omega)
      rw [htk] at hk hb
      clear htk
      go_wp2_with fail
      go_ret
      exact ⟨A2, c3, by rw [← hk.out]; rfl, by rw [← hk.out]; exact hb.out.lower hEW.size, hEW.trans hE.out⟩
end Go.Proofs.YtijnomopcpgikaaDoor

/- loggialaw16: ManifestNames, walked: the names. -/
namespace Go.Proofs.YtijnomopcpgikaaDoor
open Go.RowKit

theorem logP_logV {s : List UInt8} (h : 0 < logV s) : logP (logV s : Int) = s := by
  obtain ⟨h1, h2, h3⟩ := logV_is (s := s) (by omega)
  unfold logP
  have hnum : numP ((logV s : Nat) : Int) = true := by unfold numP; simp; omega
  rw [hnum, if_pos rfl, Int.toNat_natCast]
  exact h3.symm
/-- A row of strings that was handed back. -/
def GotS (w : World) (A : Option Addr) (n : Nat) (F : List (List UInt8)) : Prop := n = F.length ∧ Cells w A (F.map strV)
def cutS (ns : List (List UInt8)) : List (List UInt8) := (ns.take 20).map fun s => s.take 30
theorem cutS_take (ns : List (List UInt8)) (i : Nat) (hi : i < ns.length) (h20 : i < 20) : ((ns.take (i + 1)).map fun s => s.take 30) = ((ns.take i).map fun s => s.take 30) ++ [ns[i].take 30] := by
  rw [List.take_succ_eq_append_getElem hi, List.map_append]
  rfl
set_option maxRecDepth 100000 in
set_option maxHeartbeats 4000000 in
theorem names_any (m0 : Mf) (p : Pt) (n : Int) (A B : Option Addr) (c c2 : Nat) (ns : List (List UInt8)) (w : World) (hm : m0.Ok w w.heap.size A c) (hns : Cells w B (ns.map strV)) (hs : ∀ s ∈ ns, s.length ≤ 9223372036854775807) (hn : ns.length ≤ 9223372036854775807) (hEr : Errs w) (h8 : ∀ n, Eights w n) :
    Calls Tryd.prog 5 #[m0.val A c, p.val, .int .i64 n, .slice B ns.length c2] w fun e w' => e = .returned (.bool true) ∧ Ext w w' := by
  have hfew := fun W (hE : Ext w W) => few_any w.heap.size m0 A c W (hm.ext hE)
  obtain ⟨m, hmd⟩ : ∃ m, m = m0.few := ⟨_, rfl⟩
  have hok := hm.few
  obtain ⟨W0, hW0⟩ : ∃ W0, W0 = (w.alloc (.cells #[.slice A m0.ps.length c, .int .i64 m0.floor, .int .i64 m0.done, .int .i64 m0.log, .int .i64 m0.next, .int .i64 m0.now] 24)).alloc (.cells #[.int .i64 p.id, .int .i64 p.st, .int .i64 p.lo, .int .i64 p.hi, .int .i64 p.fi, .int .i64 p.la, .int .i64 p.n] 40) := ⟨_, rfl⟩
  rw [← hmd] at hok hfew
  unfold Mf.val at hfew ⊢
  unfold Pt.val
  have hr0 : Row W0 w.heap.size 24 #[.slice A m0.ps.length c, .int .i64 m0.floor, .int .i64 m0.done, .int .i64 m0.log, .int .i64 m0.next, .int .i64 m0.now] := by rw [hW0]; exact (Row.new w _ _).alloc _
  have hp0 : Row W0 (w.heap.size + 1) 40 #[.int .i64 p.id, .int .i64 p.st, .int .i64 p.lo, .int .i64 p.hi, .int .i64 p.fi, .int .i64 p.la, .int .i64 p.n] := by
    rw [hW0]
    have h := Row.new (w.alloc (.cells #[.slice A m0.ps.length c, .int .i64 m0.floor, .int .i64 m0.done, .int .i64 m0.log, .int .i64 m0.next, .int .i64 m0.now] 24)) 40 #[.int .i64 p.id, .int .i64 p.st, .int .i64 p.lo, .int .i64 p.hi, .int .i64 p.fi, .int .i64 p.la, .int .i64 p.n]
    simpa using h
  have hE0 : Ext w W0 := by rw [hW0]; exact ((Ext.refl w).alloc _).alloc _
  replace hW0 := hide hW0
  replace hfew := hide hfew
  replace hs := hide hs
  clear hm hmd
  obtain ⟨N, hN⟩ : ∃ N, N = ns.length := ⟨_, rfl⟩
  rw [← hN] at hn ⊢
  replace hN := hide hN
  go_enter Tryd.func5, Tryd.ntmps5
  go_wp2_with fail
  rw [← hW0.out]
  refine (hfew.out _ hE0).mono ?_
  rintro e w1 ⟨rfl, hE1⟩
  have hr1 := hr0.ext hE1
  have hp1 := hp0.ext hE1
  have q1 := setM_row hr1 m A c
  have q2 := setM_ext (hE0.trans hE1) (Nat.le_refl _) m A c
  have q3 := setM_away hp1 (by omega : w.heap.size + 1 ≠ w.heap.size) m A c
  have f0 := fun i => hr1.free i
  have x0 : w1.cell? ⟨w.heap.size, 0, none⟩ = some (.slice A m0.ps.length c) := hr1.cell 0 rfl
  have x1 : w1.cell? ⟨w.heap.size, 1, none⟩ = some (.int .i64 m0.floor) := hr1.cell 1 rfl
  have x2 : w1.cell? ⟨w.heap.size, 2, none⟩ = some (.int .i64 m0.done) := hr1.cell 2 rfl
  have x3 : w1.cell? ⟨w.heap.size, 3, none⟩ = some (.int .i64 m0.log) := hr1.cell 3 rfl
  have x4 : w1.cell? ⟨w.heap.size, 4, none⟩ = some (.int .i64 m0.next) := hr1.cell 4 rfl
  have x5 : w1.cell? ⟨w.heap.size, 5, none⟩ = some (.int .i64 m0.now) := hr1.cell 5 rfl
  have xl := hr1.lt
  clear hr0 hp0 hE0 hp1
  go_wp2_with fail
  obtain ⟨w2, hw2⟩ : ∃ w2, w2 = setM w1 w.heap.size m A c := ⟨_, rfl⟩
  rw [← hw2] at q1 q2 q3
  unfold setM at hw2
  rw [← hw2]
  clear hw2 f0 x0 x1 x2 x3 x4 x5 xl hr1 hE1 hW0 hfew
  unfold Mf.cells at q1
  go_loopw [9, 10] (fun s9 s10 wr => ∃ (i : Nat) (A2 : Option Addr) (c3 : Nat), s10 = .int .i64 i ∧ i ≤ N ∧ i ≤ 20 ∧ s9 = .slice A2 i c3 ∧ Hid (Buf wr w2.heap.size 9 A2 i c3 (((ns.take i).map fun s => s.take 30).map strV)) ∧ Hid (Ext w2 wr)) (fun _ s10 _ => 20 - (intOf s10).toNat)
  case atStart => exact ⟨0, none, 0, rfl, by omega, by omega, rfl, hide (by simpa using Buf.nil _ _ _), hide (Ext.refl w2)⟩
  case round =>
    obtain ⟨i, A2, c3, rfl, hi, hi20, rfl, hb, hE⟩ := hrel
    have hEr' := hEr
    have hEw := hide (q2.trans hE.out)
    by_cases hgo : i < N ∧ i < 20
    case neg =>
      clear hs hEr
      obtain ⟨L, hL⟩ : ∃ L, L = (ns.take i).map fun s => s.take 30 := ⟨_, rfl⟩
      have hLl : i = L.length := by rw [hL, List.length_map, List.length_take, ← hN.out]; omega
      have hL30 : ∀ s ∈ L, s.length ≤ 1000000 := fun s hs => by
        rw [hL] at hs
        obtain ⟨z, _, rfl⟩ := List.mem_map.1 hs
        rw [List.length_take]
        omega
      rw [← hL] at hb
      have hbc := hb.out.cells
      obtain ⟨F, hF⟩ : ∃ F, F = L.filter fun s => orphM m s := ⟨_, rfl⟩
      have hFl : F.length ≤ 1024 := by
        have := List.length_filter_le (fun s => orphM m s) L
        rw [← hF] at this
        omega
      have hS : ∀ w0 w1, (w0.cell? ⟨w.heap.size, 0, none⟩ = some (.slice A m.ps.length c) ∧ w0.cell? ⟨w.heap.size, 1, none⟩ = some (.int .i64 m.floor) ∧ w0.cell? ⟨w.heap.size, 2, none⟩ = some (.int .i64 m.done) ∧ w0.cell? ⟨w.heap.size, 3, none⟩ = some (.int .i64 m.log) ∧ w0.cell? ⟨w.heap.size, 4, none⟩ = some (.int .i64 m.next) ∧ w0.cell? ⟨w.heap.size, 5, none⟩ = some (.int .i64 m.now) ∧ w0.cell? ⟨w.heap.size + 1, 0, none⟩ = some (.int .i64 p.id) ∧ w0.cell? ⟨w.heap.size + 1, 1, none⟩ = some (.int .i64 p.st) ∧ w0.cell? ⟨w.heap.size + 1, 2, none⟩ = some (.int .i64 p.lo) ∧ w0.cell? ⟨w.heap.size + 1, 3, none⟩ = some (.int .i64 p.hi) ∧ w0.cell? ⟨w.heap.size + 1, 4, none⟩ = some (.int .i64 p.fi) ∧ w0.cell? ⟨w.heap.size + 1, 5, none⟩ = some (.int .i64 p.la) ∧ w0.cell? ⟨w.heap.size + 1, 6, none⟩ = some (.int .i64 p.n) ∧ Ext wr w0) → Ext w0 w1 → (w1.cell? ⟨w.heap.size, 0, none⟩ = some (.slice A m.ps.length c) ∧ w1.cell? ⟨w.heap.size, 1, none⟩ = some (.int .i64 m.floor) ∧ w1.cell? ⟨w.heap.size, 2, none⟩ = some (.int .i64 m.done) ∧ w1.cell? ⟨w.heap.size, 3, none⟩ = some (.int .i64 m.log) ∧ w1.cell? ⟨w.heap.size, 4, none⟩ = some (.int .i64 m.next) ∧ w1.cell? ⟨w.heap.size, 5, none⟩ = some (.int .i64 m.now) ∧ w1.cell? ⟨w.heap.size + 1, 0, none⟩ = some (.int .i64 p.id) ∧ w1.cell? ⟨w.heap.size + 1, 1, none⟩ = some (.int .i64 p.st) ∧ w1.cell? ⟨w.heap.size + 1, 2, none⟩ = some (.int .i64 p.lo) ∧ w1.cell? ⟨w.heap.size + 1, 3, none⟩ = some (.int .i64 p.hi) ∧ w1.cell? ⟨w.heap.size + 1, 4, none⟩ = some (.int .i64 p.fi) ∧ w1.cell? ⟨w.heap.size + 1, 5, none⟩ = some (.int .i64 p.la) ∧ w1.cell? ⟨w.heap.size + 1, 6, none⟩ = some (.int .i64 p.n) ∧ Ext wr w1) := fun w0 w1 ⟨h0, h1, h2, h3, h4, h5, h6, h7, h8, h9, h10, h11, h12, h⟩ hE => ⟨hE.cell h0, hE.cell h1, hE.cell h2, hE.cell h3, hE.cell h4, hE.cell h5, hE.cell h6, hE.cell h7, hE.cell h8, hE.cell h9, hE.cell h10, hE.cell h11, hE.cell h12, h.trans hE⟩
      have hm4 := q1.ext hE.out
      have hp4 := q3.ext hE.out
      have hS0 : wr.cell? ⟨w.heap.size, 0, none⟩ = some (.slice A m.ps.length c) ∧ wr.cell? ⟨w.heap.size, 1, none⟩ = some (.int .i64 m.floor) ∧ wr.cell? ⟨w.heap.size, 2, none⟩ = some (.int .i64 m.done) ∧ wr.cell? ⟨w.heap.size, 3, none⟩ = some (.int .i64 m.log) ∧ wr.cell? ⟨w.heap.size, 4, none⟩ = some (.int .i64 m.next) ∧ wr.cell? ⟨w.heap.size, 5, none⟩ = some (.int .i64 m.now) ∧ wr.cell? ⟨w.heap.size + 1, 0, none⟩ = some (.int .i64 p.id) ∧ wr.cell? ⟨w.heap.size + 1, 1, none⟩ = some (.int .i64 p.st) ∧ wr.cell? ⟨w.heap.size + 1, 2, none⟩ = some (.int .i64 p.lo) ∧ wr.cell? ⟨w.heap.size + 1, 3, none⟩ = some (.int .i64 p.hi) ∧ wr.cell? ⟨w.heap.size + 1, 4, none⟩ = some (.int .i64 p.fi) ∧ wr.cell? ⟨w.heap.size + 1, 5, none⟩ = some (.int .i64 p.la) ∧ wr.cell? ⟨w.heap.size + 1, 6, none⟩ = some (.int .i64 p.n) ∧ Ext wr wr := ⟨hm4.cell 0 rfl, hm4.cell 1 rfl, hm4.cell 2 rfl, hm4.cell 3 rfl, hm4.cell 4 rfl, hm4.cell 5 rfl, hp4.cell 0 rfl, hp4.cell 1 rfl, hp4.cell 2 rfl, hp4.cell 3 rfl, hp4.cell 4 rfl, hp4.cell 5 rfl, hp4.cell 6 rfl, Ext.refl wr⟩
      have hS1 := hS _ _ hS0 (Ext.refl wr).drew
      have hx : ∀ w', (w'.cell? ⟨w.heap.size, 0, none⟩ = some (.slice A m.ps.length c) ∧ w'.cell? ⟨w.heap.size, 1, none⟩ = some (.int .i64 m.floor) ∧ w'.cell? ⟨w.heap.size, 2, none⟩ = some (.int .i64 m.done) ∧ w'.cell? ⟨w.heap.size, 3, none⟩ = some (.int .i64 m.log) ∧ w'.cell? ⟨w.heap.size, 4, none⟩ = some (.int .i64 m.next) ∧ w'.cell? ⟨w.heap.size, 5, none⟩ = some (.int .i64 m.now) ∧ w'.cell? ⟨w.heap.size + 1, 0, none⟩ = some (.int .i64 p.id) ∧ w'.cell? ⟨w.heap.size + 1, 1, none⟩ = some (.int .i64 p.st) ∧ w'.cell? ⟨w.heap.size + 1, 2, none⟩ = some (.int .i64 p.lo) ∧ w'.cell? ⟨w.heap.size + 1, 3, none⟩ = some (.int .i64 p.hi) ∧ w'.cell? ⟨w.heap.size + 1, 4, none⟩ = some (.int .i64 p.fi) ∧ w'.cell? ⟨w.heap.size + 1, 5, none⟩ = some (.int .i64 p.la) ∧ w'.cell? ⟨w.heap.size + 1, 6, none⟩ = some (.int .i64 p.n) ∧ Ext wr w') → Ext w w' := fun w' ⟨_, _, _, _, _, _, _, _, _, _, _, _, _, h⟩ => hEw.out.trans h
      have hxr : ∀ w', (w'.cell? ⟨w.heap.size, 0, none⟩ = some (.slice A m.ps.length c) ∧ w'.cell? ⟨w.heap.size, 1, none⟩ = some (.int .i64 m.floor) ∧ w'.cell? ⟨w.heap.size, 2, none⟩ = some (.int .i64 m.done) ∧ w'.cell? ⟨w.heap.size, 3, none⟩ = some (.int .i64 m.log) ∧ w'.cell? ⟨w.heap.size, 4, none⟩ = some (.int .i64 m.next) ∧ w'.cell? ⟨w.heap.size, 5, none⟩ = some (.int .i64 m.now) ∧ w'.cell? ⟨w.heap.size + 1, 0, none⟩ = some (.int .i64 p.id) ∧ w'.cell? ⟨w.heap.size + 1, 1, none⟩ = some (.int .i64 p.st) ∧ w'.cell? ⟨w.heap.size + 1, 2, none⟩ = some (.int .i64 p.lo) ∧ w'.cell? ⟨w.heap.size + 1, 3, none⟩ = some (.int .i64 p.hi) ∧ w'.cell? ⟨w.heap.size + 1, 4, none⟩ = some (.int .i64 p.fi) ∧ w'.cell? ⟨w.heap.size + 1, 5, none⟩ = some (.int .i64 p.la) ∧ w'.cell? ⟨w.heap.size + 1, 6, none⟩ = some (.int .i64 p.n) ∧ Ext wr w') → Ext wr w' := fun w' ⟨_, _, _, _, _, _, _, _, _, _, _, _, _, h⟩ => h
      have hfi : ∀ w0, (w0.cell? ⟨w.heap.size, 0, none⟩ = some (.slice A m.ps.length c) ∧ w0.cell? ⟨w.heap.size, 1, none⟩ = some (.int .i64 m.floor) ∧ w0.cell? ⟨w.heap.size, 2, none⟩ = some (.int .i64 m.done) ∧ w0.cell? ⟨w.heap.size, 3, none⟩ = some (.int .i64 m.log) ∧ w0.cell? ⟨w.heap.size, 4, none⟩ = some (.int .i64 m.next) ∧ w0.cell? ⟨w.heap.size, 5, none⟩ = some (.int .i64 m.now) ∧ w0.cell? ⟨w.heap.size + 1, 0, none⟩ = some (.int .i64 p.id) ∧ w0.cell? ⟨w.heap.size + 1, 1, none⟩ = some (.int .i64 p.st) ∧ w0.cell? ⟨w.heap.size + 1, 2, none⟩ = some (.int .i64 p.lo) ∧ w0.cell? ⟨w.heap.size + 1, 3, none⟩ = some (.int .i64 p.hi) ∧ w0.cell? ⟨w.heap.size + 1, 4, none⟩ = some (.int .i64 p.fi) ∧ w0.cell? ⟨w.heap.size + 1, 5, none⟩ = some (.int .i64 p.la) ∧ w0.cell? ⟨w.heap.size + 1, 6, none⟩ = some (.int .i64 p.n) ∧ Ext wr w0) → Calls Tryd.prog 17 #[.agg #[.int .i64 p.id, .int .i64 p.st, .int .i64 p.lo, .int .i64 p.hi, .int .i64 p.fi, .int .i64 p.la, .int .i64 p.n]] w0 fun e w' => e = .returned (.string ⟨(fileP p.id p.st).toArray⟩) ∧ (w'.cell? ⟨w.heap.size, 0, none⟩ = some (.slice A m.ps.length c) ∧ w'.cell? ⟨w.heap.size, 1, none⟩ = some (.int .i64 m.floor) ∧ w'.cell? ⟨w.heap.size, 2, none⟩ = some (.int .i64 m.done) ∧ w'.cell? ⟨w.heap.size, 3, none⟩ = some (.int .i64 m.log) ∧ w'.cell? ⟨w.heap.size, 4, none⟩ = some (.int .i64 m.next) ∧ w'.cell? ⟨w.heap.size, 5, none⟩ = some (.int .i64 m.now) ∧ w'.cell? ⟨w.heap.size + 1, 0, none⟩ = some (.int .i64 p.id) ∧ w'.cell? ⟨w.heap.size + 1, 1, none⟩ = some (.int .i64 p.st) ∧ w'.cell? ⟨w.heap.size + 1, 2, none⟩ = some (.int .i64 p.lo) ∧ w'.cell? ⟨w.heap.size + 1, 3, none⟩ = some (.int .i64 p.hi) ∧ w'.cell? ⟨w.heap.size + 1, 4, none⟩ = some (.int .i64 p.fi) ∧ w'.cell? ⟨w.heap.size + 1, 5, none⟩ = some (.int .i64 p.la) ∧ w'.cell? ⟨w.heap.size + 1, 6, none⟩ = some (.int .i64 p.n) ∧ Ext wr w') ∧ Ext w0 w' := fun w0 h => (file_any p w0 ((h8 p.id).ext (hx _ h))).mono fun e w' ⟨h1, h2⟩ => ⟨h1, hS _ _ h h2, h2⟩
      have hrf : ∀ w0, (w0.cell? ⟨w.heap.size, 0, none⟩ = some (.slice A m.ps.length c) ∧ w0.cell? ⟨w.heap.size, 1, none⟩ = some (.int .i64 m.floor) ∧ w0.cell? ⟨w.heap.size, 2, none⟩ = some (.int .i64 m.done) ∧ w0.cell? ⟨w.heap.size, 3, none⟩ = some (.int .i64 m.log) ∧ w0.cell? ⟨w.heap.size, 4, none⟩ = some (.int .i64 m.next) ∧ w0.cell? ⟨w.heap.size, 5, none⟩ = some (.int .i64 m.now) ∧ w0.cell? ⟨w.heap.size + 1, 0, none⟩ = some (.int .i64 p.id) ∧ w0.cell? ⟨w.heap.size + 1, 1, none⟩ = some (.int .i64 p.st) ∧ w0.cell? ⟨w.heap.size + 1, 2, none⟩ = some (.int .i64 p.lo) ∧ w0.cell? ⟨w.heap.size + 1, 3, none⟩ = some (.int .i64 p.hi) ∧ w0.cell? ⟨w.heap.size + 1, 4, none⟩ = some (.int .i64 p.fi) ∧ w0.cell? ⟨w.heap.size + 1, 5, none⟩ = some (.int .i64 p.la) ∧ w0.cell? ⟨w.heap.size + 1, 6, none⟩ = some (.int .i64 p.n) ∧ Ext wr w0) → Calls Tryd.prog 18 #[.agg #[.int .i64 p.id, .int .i64 p.st, .int .i64 p.lo, .int .i64 p.hi, .int .i64 p.fi, .int .i64 p.la, .int .i64 p.n]] w0 fun e w' => e = .returned (.string ⟨(fileP p.id p.st).toArray⟩) ∧ (w'.cell? ⟨w.heap.size, 0, none⟩ = some (.slice A m.ps.length c) ∧ w'.cell? ⟨w.heap.size, 1, none⟩ = some (.int .i64 m.floor) ∧ w'.cell? ⟨w.heap.size, 2, none⟩ = some (.int .i64 m.done) ∧ w'.cell? ⟨w.heap.size, 3, none⟩ = some (.int .i64 m.log) ∧ w'.cell? ⟨w.heap.size, 4, none⟩ = some (.int .i64 m.next) ∧ w'.cell? ⟨w.heap.size, 5, none⟩ = some (.int .i64 m.now) ∧ w'.cell? ⟨w.heap.size + 1, 0, none⟩ = some (.int .i64 p.id) ∧ w'.cell? ⟨w.heap.size + 1, 1, none⟩ = some (.int .i64 p.st) ∧ w'.cell? ⟨w.heap.size + 1, 2, none⟩ = some (.int .i64 p.lo) ∧ w'.cell? ⟨w.heap.size + 1, 3, none⟩ = some (.int .i64 p.hi) ∧ w'.cell? ⟨w.heap.size + 1, 4, none⟩ = some (.int .i64 p.fi) ∧ w'.cell? ⟨w.heap.size + 1, 5, none⟩ = some (.int .i64 p.la) ∧ w'.cell? ⟨w.heap.size + 1, 6, none⟩ = some (.int .i64 p.n) ∧ Ext wr w') ∧ Ext w0 w' := fun w0 h => (rfile_any p w0).mono fun e w' ⟨h1, h2⟩ => ⟨h1, hS _ _ h h2, h2⟩
      have hlg : ∀ w0, (w0.cell? ⟨w.heap.size, 0, none⟩ = some (.slice A m.ps.length c) ∧ w0.cell? ⟨w.heap.size, 1, none⟩ = some (.int .i64 m.floor) ∧ w0.cell? ⟨w.heap.size, 2, none⟩ = some (.int .i64 m.done) ∧ w0.cell? ⟨w.heap.size, 3, none⟩ = some (.int .i64 m.log) ∧ w0.cell? ⟨w.heap.size, 4, none⟩ = some (.int .i64 m.next) ∧ w0.cell? ⟨w.heap.size, 5, none⟩ = some (.int .i64 m.now) ∧ w0.cell? ⟨w.heap.size + 1, 0, none⟩ = some (.int .i64 p.id) ∧ w0.cell? ⟨w.heap.size + 1, 1, none⟩ = some (.int .i64 p.st) ∧ w0.cell? ⟨w.heap.size + 1, 2, none⟩ = some (.int .i64 p.lo) ∧ w0.cell? ⟨w.heap.size + 1, 3, none⟩ = some (.int .i64 p.hi) ∧ w0.cell? ⟨w.heap.size + 1, 4, none⟩ = some (.int .i64 p.fi) ∧ w0.cell? ⟨w.heap.size + 1, 5, none⟩ = some (.int .i64 p.la) ∧ w0.cell? ⟨w.heap.size + 1, 6, none⟩ = some (.int .i64 p.n) ∧ Ext wr w0) → Calls Tryd.prog 16 #[.int .i64 n] w0 fun e w' => e = .returned (.string ⟨(logP n).toArray⟩) ∧ (w'.cell? ⟨w.heap.size, 0, none⟩ = some (.slice A m.ps.length c) ∧ w'.cell? ⟨w.heap.size, 1, none⟩ = some (.int .i64 m.floor) ∧ w'.cell? ⟨w.heap.size, 2, none⟩ = some (.int .i64 m.done) ∧ w'.cell? ⟨w.heap.size, 3, none⟩ = some (.int .i64 m.log) ∧ w'.cell? ⟨w.heap.size, 4, none⟩ = some (.int .i64 m.next) ∧ w'.cell? ⟨w.heap.size, 5, none⟩ = some (.int .i64 m.now) ∧ w'.cell? ⟨w.heap.size + 1, 0, none⟩ = some (.int .i64 p.id) ∧ w'.cell? ⟨w.heap.size + 1, 1, none⟩ = some (.int .i64 p.st) ∧ w'.cell? ⟨w.heap.size + 1, 2, none⟩ = some (.int .i64 p.lo) ∧ w'.cell? ⟨w.heap.size + 1, 3, none⟩ = some (.int .i64 p.hi) ∧ w'.cell? ⟨w.heap.size + 1, 4, none⟩ = some (.int .i64 p.fi) ∧ w'.cell? ⟨w.heap.size + 1, 5, none⟩ = some (.int .i64 p.la) ∧ w'.cell? ⟨w.heap.size + 1, 6, none⟩ = some (.int .i64 p.n) ∧ Ext wr w') ∧ Ext w0 w' := fun w0 h => (log_any n w0 ((h8 n).ext (hx _ h))).mono fun e w' ⟨h1, h2⟩ => ⟨h1, hS _ _ h h2, h2⟩
      have hrl : ∀ w0, (w0.cell? ⟨w.heap.size, 0, none⟩ = some (.slice A m.ps.length c) ∧ w0.cell? ⟨w.heap.size, 1, none⟩ = some (.int .i64 m.floor) ∧ w0.cell? ⟨w.heap.size, 2, none⟩ = some (.int .i64 m.done) ∧ w0.cell? ⟨w.heap.size, 3, none⟩ = some (.int .i64 m.log) ∧ w0.cell? ⟨w.heap.size, 4, none⟩ = some (.int .i64 m.next) ∧ w0.cell? ⟨w.heap.size, 5, none⟩ = some (.int .i64 m.now) ∧ w0.cell? ⟨w.heap.size + 1, 0, none⟩ = some (.int .i64 p.id) ∧ w0.cell? ⟨w.heap.size + 1, 1, none⟩ = some (.int .i64 p.st) ∧ w0.cell? ⟨w.heap.size + 1, 2, none⟩ = some (.int .i64 p.lo) ∧ w0.cell? ⟨w.heap.size + 1, 3, none⟩ = some (.int .i64 p.hi) ∧ w0.cell? ⟨w.heap.size + 1, 4, none⟩ = some (.int .i64 p.fi) ∧ w0.cell? ⟨w.heap.size + 1, 5, none⟩ = some (.int .i64 p.la) ∧ w0.cell? ⟨w.heap.size + 1, 6, none⟩ = some (.int .i64 p.n) ∧ Ext wr w0) → Calls Tryd.prog 19 #[.int .i64 n] w0 fun e w' => e = .returned (.string ⟨(logP n).toArray⟩) ∧ (w'.cell? ⟨w.heap.size, 0, none⟩ = some (.slice A m.ps.length c) ∧ w'.cell? ⟨w.heap.size, 1, none⟩ = some (.int .i64 m.floor) ∧ w'.cell? ⟨w.heap.size, 2, none⟩ = some (.int .i64 m.done) ∧ w'.cell? ⟨w.heap.size, 3, none⟩ = some (.int .i64 m.log) ∧ w'.cell? ⟨w.heap.size, 4, none⟩ = some (.int .i64 m.next) ∧ w'.cell? ⟨w.heap.size, 5, none⟩ = some (.int .i64 m.now) ∧ w'.cell? ⟨w.heap.size + 1, 0, none⟩ = some (.int .i64 p.id) ∧ w'.cell? ⟨w.heap.size + 1, 1, none⟩ = some (.int .i64 p.st) ∧ w'.cell? ⟨w.heap.size + 1, 2, none⟩ = some (.int .i64 p.lo) ∧ w'.cell? ⟨w.heap.size + 1, 3, none⟩ = some (.int .i64 p.hi) ∧ w'.cell? ⟨w.heap.size + 1, 4, none⟩ = some (.int .i64 p.fi) ∧ w'.cell? ⟨w.heap.size + 1, 5, none⟩ = some (.int .i64 p.la) ∧ w'.cell? ⟨w.heap.size + 1, 6, none⟩ = some (.int .i64 p.n) ∧ Ext wr w') ∧ Ext w0 w' := fun w0 h => (rlog_any n w0).mono fun e w' ⟨h1, h2⟩ => ⟨h1, hS _ _ h h2, h2⟩
      have hor : ∀ w0, (w0.cell? ⟨w.heap.size, 0, none⟩ = some (.slice A m.ps.length c) ∧ w0.cell? ⟨w.heap.size, 1, none⟩ = some (.int .i64 m.floor) ∧ w0.cell? ⟨w.heap.size, 2, none⟩ = some (.int .i64 m.done) ∧ w0.cell? ⟨w.heap.size, 3, none⟩ = some (.int .i64 m.log) ∧ w0.cell? ⟨w.heap.size, 4, none⟩ = some (.int .i64 m.next) ∧ w0.cell? ⟨w.heap.size, 5, none⟩ = some (.int .i64 m.now) ∧ w0.cell? ⟨w.heap.size + 1, 0, none⟩ = some (.int .i64 p.id) ∧ w0.cell? ⟨w.heap.size + 1, 1, none⟩ = some (.int .i64 p.st) ∧ w0.cell? ⟨w.heap.size + 1, 2, none⟩ = some (.int .i64 p.lo) ∧ w0.cell? ⟨w.heap.size + 1, 3, none⟩ = some (.int .i64 p.hi) ∧ w0.cell? ⟨w.heap.size + 1, 4, none⟩ = some (.int .i64 p.fi) ∧ w0.cell? ⟨w.heap.size + 1, 5, none⟩ = some (.int .i64 p.la) ∧ w0.cell? ⟨w.heap.size + 1, 6, none⟩ = some (.int .i64 p.n) ∧ Ext wr w0) → Calls Tryd.prog 21 #[.agg #[.slice A m.ps.length c, .int .i64 m.floor, .int .i64 m.done, .int .i64 m.log, .int .i64 m.next, .int .i64 m.now], .slice A2 i c3] w0 fun e w' => ∃ A5 n5 c5, e = .returned (.slice A5 n5 c5) ∧ GotS w' A5 n5 F ∧ (w'.cell? ⟨w.heap.size, 0, none⟩ = some (.slice A m.ps.length c) ∧ w'.cell? ⟨w.heap.size, 1, none⟩ = some (.int .i64 m.floor) ∧ w'.cell? ⟨w.heap.size, 2, none⟩ = some (.int .i64 m.done) ∧ w'.cell? ⟨w.heap.size, 3, none⟩ = some (.int .i64 m.log) ∧ w'.cell? ⟨w.heap.size, 4, none⟩ = some (.int .i64 m.next) ∧ w'.cell? ⟨w.heap.size, 5, none⟩ = some (.int .i64 m.now) ∧ w'.cell? ⟨w.heap.size + 1, 0, none⟩ = some (.int .i64 p.id) ∧ w'.cell? ⟨w.heap.size + 1, 1, none⟩ = some (.int .i64 p.st) ∧ w'.cell? ⟨w.heap.size + 1, 2, none⟩ = some (.int .i64 p.lo) ∧ w'.cell? ⟨w.heap.size + 1, 3, none⟩ = some (.int .i64 p.hi) ∧ w'.cell? ⟨w.heap.size + 1, 4, none⟩ = some (.int .i64 p.fi) ∧ w'.cell? ⟨w.heap.size + 1, 5, none⟩ = some (.int .i64 p.la) ∧ w'.cell? ⟨w.heap.size + 1, 6, none⟩ = some (.int .i64 p.n) ∧ Ext wr w') ∧ Ext w0 w' := fun w0 h => by
        have hh := orphans_any w.heap.size m A A2 c c3 L w0 (hok.ext (hx _ h)) (hbc.ext (hxr _ h)) hL30 (by omega) (hEr'.ext (hx _ h)) (fun n => (h8 n).ext (hx _ h))
        rw [← hLl] at hh
        unfold Mf.val at hh
        refine hh.mono fun e w' ⟨A5, c5, he, hb5, hE5⟩ => ?_
        rw [← hF] at he hb5
        exact ⟨A5, _, c5, he, ⟨rfl, hb5.cells⟩, hS _ _ h hE5, hE5⟩
      have hro : ∀ w0, (w0.cell? ⟨w.heap.size, 0, none⟩ = some (.slice A m.ps.length c) ∧ w0.cell? ⟨w.heap.size, 1, none⟩ = some (.int .i64 m.floor) ∧ w0.cell? ⟨w.heap.size, 2, none⟩ = some (.int .i64 m.done) ∧ w0.cell? ⟨w.heap.size, 3, none⟩ = some (.int .i64 m.log) ∧ w0.cell? ⟨w.heap.size, 4, none⟩ = some (.int .i64 m.next) ∧ w0.cell? ⟨w.heap.size, 5, none⟩ = some (.int .i64 m.now) ∧ w0.cell? ⟨w.heap.size + 1, 0, none⟩ = some (.int .i64 p.id) ∧ w0.cell? ⟨w.heap.size + 1, 1, none⟩ = some (.int .i64 p.st) ∧ w0.cell? ⟨w.heap.size + 1, 2, none⟩ = some (.int .i64 p.lo) ∧ w0.cell? ⟨w.heap.size + 1, 3, none⟩ = some (.int .i64 p.hi) ∧ w0.cell? ⟨w.heap.size + 1, 4, none⟩ = some (.int .i64 p.fi) ∧ w0.cell? ⟨w.heap.size + 1, 5, none⟩ = some (.int .i64 p.la) ∧ w0.cell? ⟨w.heap.size + 1, 6, none⟩ = some (.int .i64 p.n) ∧ Ext wr w0) → Calls Tryd.prog 22 #[.agg #[.slice A m.ps.length c, .int .i64 m.floor, .int .i64 m.done, .int .i64 m.log, .int .i64 m.next, .int .i64 m.now], .slice A2 i c3] w0 fun e w' => ∃ A5 n5 c5, e = .returned (.slice A5 n5 c5) ∧ GotS w' A5 n5 F ∧ (w'.cell? ⟨w.heap.size, 0, none⟩ = some (.slice A m.ps.length c) ∧ w'.cell? ⟨w.heap.size, 1, none⟩ = some (.int .i64 m.floor) ∧ w'.cell? ⟨w.heap.size, 2, none⟩ = some (.int .i64 m.done) ∧ w'.cell? ⟨w.heap.size, 3, none⟩ = some (.int .i64 m.log) ∧ w'.cell? ⟨w.heap.size, 4, none⟩ = some (.int .i64 m.next) ∧ w'.cell? ⟨w.heap.size, 5, none⟩ = some (.int .i64 m.now) ∧ w'.cell? ⟨w.heap.size + 1, 0, none⟩ = some (.int .i64 p.id) ∧ w'.cell? ⟨w.heap.size + 1, 1, none⟩ = some (.int .i64 p.st) ∧ w'.cell? ⟨w.heap.size + 1, 2, none⟩ = some (.int .i64 p.lo) ∧ w'.cell? ⟨w.heap.size + 1, 3, none⟩ = some (.int .i64 p.hi) ∧ w'.cell? ⟨w.heap.size + 1, 4, none⟩ = some (.int .i64 p.fi) ∧ w'.cell? ⟨w.heap.size + 1, 5, none⟩ = some (.int .i64 p.la) ∧ w'.cell? ⟨w.heap.size + 1, 6, none⟩ = some (.int .i64 p.n) ∧ Ext wr w') ∧ Ext w0 w' := fun w0 h => by
        have hh := rorphans_any w.heap.size m A A2 c c3 L w0 (hok.ext (hx _ h)) (hbc.ext (hxr _ h)) hL30 (by omega)
        rw [← hLl] at hh
        unfold Mf.val at hh
        refine hh.mono fun e w' ⟨A5, c5, he, hb5, hE5⟩ => ?_
        rw [← hF] at he hb5
        exact ⟨A5, _, c5, he, ⟨rfl, hb5.cells⟩, hS _ _ h hE5, hE5⟩
      have hsn : ∀ A5 n5 c5 A6 n6 c6 wa wb w0, GotS wa A5 n5 F → GotS wb A6 n6 F → Ext wa w0 → Ext wb w0 → (w0.cell? ⟨w.heap.size, 0, none⟩ = some (.slice A m.ps.length c) ∧ w0.cell? ⟨w.heap.size, 1, none⟩ = some (.int .i64 m.floor) ∧ w0.cell? ⟨w.heap.size, 2, none⟩ = some (.int .i64 m.done) ∧ w0.cell? ⟨w.heap.size, 3, none⟩ = some (.int .i64 m.log) ∧ w0.cell? ⟨w.heap.size, 4, none⟩ = some (.int .i64 m.next) ∧ w0.cell? ⟨w.heap.size, 5, none⟩ = some (.int .i64 m.now) ∧ w0.cell? ⟨w.heap.size + 1, 0, none⟩ = some (.int .i64 p.id) ∧ w0.cell? ⟨w.heap.size + 1, 1, none⟩ = some (.int .i64 p.st) ∧ w0.cell? ⟨w.heap.size + 1, 2, none⟩ = some (.int .i64 p.lo) ∧ w0.cell? ⟨w.heap.size + 1, 3, none⟩ = some (.int .i64 p.hi) ∧ w0.cell? ⟨w.heap.size + 1, 4, none⟩ = some (.int .i64 p.fi) ∧ w0.cell? ⟨w.heap.size + 1, 5, none⟩ = some (.int .i64 p.la) ∧ w0.cell? ⟨w.heap.size + 1, 6, none⟩ = some (.int .i64 p.n) ∧ Ext wr w0) → Calls Tryd.prog 20 #[.slice A5 n5 c5, .slice A6 n6 c6] w0 fun e w' => e = .returned (.bool true) ∧ (w'.cell? ⟨w.heap.size, 0, none⟩ = some (.slice A m.ps.length c) ∧ w'.cell? ⟨w.heap.size, 1, none⟩ = some (.int .i64 m.floor) ∧ w'.cell? ⟨w.heap.size, 2, none⟩ = some (.int .i64 m.done) ∧ w'.cell? ⟨w.heap.size, 3, none⟩ = some (.int .i64 m.log) ∧ w'.cell? ⟨w.heap.size, 4, none⟩ = some (.int .i64 m.next) ∧ w'.cell? ⟨w.heap.size, 5, none⟩ = some (.int .i64 m.now) ∧ w'.cell? ⟨w.heap.size + 1, 0, none⟩ = some (.int .i64 p.id) ∧ w'.cell? ⟨w.heap.size + 1, 1, none⟩ = some (.int .i64 p.st) ∧ w'.cell? ⟨w.heap.size + 1, 2, none⟩ = some (.int .i64 p.lo) ∧ w'.cell? ⟨w.heap.size + 1, 3, none⟩ = some (.int .i64 p.hi) ∧ w'.cell? ⟨w.heap.size + 1, 4, none⟩ = some (.int .i64 p.fi) ∧ w'.cell? ⟨w.heap.size + 1, 5, none⟩ = some (.int .i64 p.la) ∧ w'.cell? ⟨w.heap.size + 1, 6, none⟩ = some (.int .i64 p.n) ∧ Ext wr w') ∧ Ext w0 w' := fun A5 n5 c5 A6 n6 c6 wa wb w0 h5 h6 e5 e6 h => by
        have hh := sameNames_any A5 A6 n5 n6 c5 c6 F F w0 h5.1 h6.1 (h5.2.ext e5) (h6.2.ext e6) (by rw [h5.1]; exact hFl) (by rw [h6.1]; exact hFl)
        rw [decide_eq_true rfl] at hh
        exact hh.mono fun e w' ⟨h1, h2⟩ => ⟨h1, hS _ _ h h2, h2⟩
      have haw : ∀ w0, (w0.cell? ⟨w.heap.size, 0, none⟩ = some (.slice A m.ps.length c) ∧ w0.cell? ⟨w.heap.size, 1, none⟩ = some (.int .i64 m.floor) ∧ w0.cell? ⟨w.heap.size, 2, none⟩ = some (.int .i64 m.done) ∧ w0.cell? ⟨w.heap.size, 3, none⟩ = some (.int .i64 m.log) ∧ w0.cell? ⟨w.heap.size, 4, none⟩ = some (.int .i64 m.next) ∧ w0.cell? ⟨w.heap.size, 5, none⟩ = some (.int .i64 m.now) ∧ w0.cell? ⟨w.heap.size + 1, 0, none⟩ = some (.int .i64 p.id) ∧ w0.cell? ⟨w.heap.size + 1, 1, none⟩ = some (.int .i64 p.st) ∧ w0.cell? ⟨w.heap.size + 1, 2, none⟩ = some (.int .i64 p.lo) ∧ w0.cell? ⟨w.heap.size + 1, 3, none⟩ = some (.int .i64 p.hi) ∧ w0.cell? ⟨w.heap.size + 1, 4, none⟩ = some (.int .i64 p.fi) ∧ w0.cell? ⟨w.heap.size + 1, 5, none⟩ = some (.int .i64 p.la) ∧ w0.cell? ⟨w.heap.size + 1, 6, none⟩ = some (.int .i64 p.n) ∧ Ext wr w0) → Calls Tryd.prog 13 #[] w0 fun e w' => e = .returned (.bool true) ∧ (w'.cell? ⟨w.heap.size, 0, none⟩ = some (.slice A m.ps.length c) ∧ w'.cell? ⟨w.heap.size, 1, none⟩ = some (.int .i64 m.floor) ∧ w'.cell? ⟨w.heap.size, 2, none⟩ = some (.int .i64 m.done) ∧ w'.cell? ⟨w.heap.size, 3, none⟩ = some (.int .i64 m.log) ∧ w'.cell? ⟨w.heap.size, 4, none⟩ = some (.int .i64 m.next) ∧ w'.cell? ⟨w.heap.size, 5, none⟩ = some (.int .i64 m.now) ∧ w'.cell? ⟨w.heap.size + 1, 0, none⟩ = some (.int .i64 p.id) ∧ w'.cell? ⟨w.heap.size + 1, 1, none⟩ = some (.int .i64 p.st) ∧ w'.cell? ⟨w.heap.size + 1, 2, none⟩ = some (.int .i64 p.lo) ∧ w'.cell? ⟨w.heap.size + 1, 3, none⟩ = some (.int .i64 p.hi) ∧ w'.cell? ⟨w.heap.size + 1, 4, none⟩ = some (.int .i64 p.fi) ∧ w'.cell? ⟨w.heap.size + 1, 5, none⟩ = some (.int .i64 p.la) ∧ w'.cell? ⟨w.heap.size + 1, 6, none⟩ = some (.int .i64 p.n) ∧ Ext wr w') ∧ Ext w0 w' := fun w0 h => (awake_any w0).mono fun e w' ⟨h1, h2⟩ => ⟨h1, hS _ _ h h2, h2⟩
      obtain ⟨fv, hfv⟩ : ∃ fv, fv = fileP p.id p.st := ⟨_, rfl⟩
      obtain ⟨lv, hlv⟩ : ∃ lv, lv = logP n := ⟨_, rfl⟩
      rw [← hfv] at hfi hrf
      rw [← hlv] at hlg hrl
      replace hx := hide hx
      replace hfi := hide hfi
      replace hrf := hide hrf
      replace hlg := hide hlg
      replace hrl := hide hrl
      replace hor := hide hor
      replace hro := hide hro
      replace hsn := hide hsn
      replace haw := hide haw
      replace hS0 := hide hS0
      replace hS1 := hide hS1
      clear hfv hlv hS hxr hm4 hp4 hb hbc hF hL hLl hL30 hFl hE hEw hns hN h8 hok q1 q2 q3 hEr'
      go_wp2_with fail
      all_goals go_region_held3 (fun w' => w'.cell? ⟨w.heap.size, 0, none⟩ = some (.slice A m.ps.length c) ∧ w'.cell? ⟨w.heap.size, 1, none⟩ = some (.int .i64 m.floor) ∧ w'.cell? ⟨w.heap.size, 2, none⟩ = some (.int .i64 m.done) ∧ w'.cell? ⟨w.heap.size, 3, none⟩ = some (.int .i64 m.log) ∧ w'.cell? ⟨w.heap.size, 4, none⟩ = some (.int .i64 m.next) ∧ w'.cell? ⟨w.heap.size, 5, none⟩ = some (.int .i64 m.now) ∧ w'.cell? ⟨w.heap.size + 1, 0, none⟩ = some (.int .i64 p.id) ∧ w'.cell? ⟨w.heap.size + 1, 1, none⟩ = some (.int .i64 p.st) ∧ w'.cell? ⟨w.heap.size + 1, 2, none⟩ = some (.int .i64 p.lo) ∧ w'.cell? ⟨w.heap.size + 1, 3, none⟩ = some (.int .i64 p.hi) ∧ w'.cell? ⟨w.heap.size + 1, 4, none⟩ = some (.int .i64 p.fi) ∧ w'.cell? ⟨w.heap.size + 1, 5, none⟩ = some (.int .i64 p.la) ∧ w'.cell? ⟨w.heap.size + 1, 6, none⟩ = some (.int .i64 p.n) ∧ Ext wr w') (first | exact hS0.out | exact hS1.out | assumption) (first
        | (go_at_call 17; refine (hfi.out _ ‹_›).mono ?_; rintro e w3 ⟨rfl, hSc, hE3⟩)
        | (go_at_call 18; refine (hrf.out _ ‹_›).mono ?_; rintro e w5 ⟨rfl, hSc, hE5⟩)
        | (go_at_call 16; refine (hlg.out _ ‹_›).mono ?_; rintro e w6 ⟨rfl, hSc, hE6⟩)
        | (go_at_call 19; refine (hrl.out _ ‹_›).mono ?_; rintro e w7 ⟨rfl, hSc, hE7⟩)
        | (go_at_call 21; refine (hor.out _ ‹_›).mono ?_; rintro e w8 ⟨A5, n5, c5, rfl, hG5, hSc, hE8⟩)
        | (go_at_call 22; refine (hro.out _ ‹_›).mono ?_; rintro e w9 ⟨A6, n6, c6, rfl, hG6, hSc, hE9⟩)
        | (go_at_call 20; refine (hsn.out _ _ _ _ _ _ _ _ _ hG5 hG6 hE9 (Ext.refl _) ‹_›).mono ?_; rintro e w10 ⟨rfl, hSc, hE10⟩)
        | (go_at_call 13; refine (haw.out _ ‹_›).mono ?_; rintro e w11 ⟨rfl, hSc, hE11⟩))
      all_goals go_wp2_with fail
      all_goals go_ret
      all_goals exact ⟨rfl, hx.out _ ‹_›⟩
    case pos =>
      obtain ⟨hin, h20⟩ := hgo
      · have hil : i < ns.length := by rw [← hN.out]; exact hin
        obtain ⟨g, o, rfl, hc⟩ := hns.at_ (by rw [List.length_map]; omega)
        have k0 := hEw.out.cell (hc i _ (by rw [List.getElem?_map, List.getElem?_eq_getElem hil]; rfl))
        obtain ⟨s, hsd⟩ : ∃ s, s = ns[i] := ⟨_, rfl⟩
        have hsl := hs.out s (by rw [hsd]; exact List.getElem_mem hil)
        have htk := cutS_take ns i hil h20
        rw [← hsd] at k0 htk
        unfold strV at k0
        have hhd : 30 ≤ s.length → ∀ W, _ := fun h4 W => run_strheadz (l := s) (k := 30) h4 (z := 30) rfl W
        obtain ⟨t, ht⟩ : ∃ t, t = s.take 30 := ⟨_, rfl⟩
        have htl : t.length ≤ 30 := by rw [ht, List.length_take]; omega
        rw [← ht] at htk
        have hlo := fun W (hE : Ext w W) => logOf_any t W (by omega) (hEr.ext hE) (fun n => (h8 n).ext hE)
        have hrl := fun W => rlogOf_any t W (by omega)
        have hlp := @logP_logV t
        have hlg := fun W (hE : Ext w W) => log_any (logV t) W ((h8 (logV t)).ext hE)
        obtain ⟨x, hx⟩ : ∃ x, x = logV t := ⟨_, rfl⟩
        rw [← hx] at hlo hrl hlp hlg
        have hlgt : 0 < x → ∀ W, Ext w W → Calls Tryd.prog 16 #[.int .i64 x] W fun e w' => e = .returned (.string ⟨t.toArray⟩) ∧ Ext W w' := fun h W hE => by
          have := hlg W hE
          rw [hlp h] at this
          exact this
        replace hlgt := hide hlgt
        clear hlg hlp
        replace hlo := hide hlo
        replace hrl := hide hrl
        replace htk := hide htk
        replace hhd := hide hhd
        clear hsd hc hx hhd
        have hfin : ∀ A4 c4 w8, Buf w8 w2.heap.size 9 A4 (i + 1) c4 (((ns.take i).map fun s => s.take 30).map strV ++ [.string ⟨t.toArray⟩]) → Buf w8 w2.heap.size 9 A4 (i + 1) c4 (((ns.take (i + 1)).map fun s => s.take 30).map strV) := fun _ _ _ h => by rw [htk.out, List.map_append]; exact h
        replace hfin := hide hfin
        go_wp2_with fail
        all_goals
          first
            | (rw [bytes_take, ← ht]; clear ht)
            | (obtain rfl : t = s := (by rw [ht, List.take_of_length_le (by omega)]); clear ht)
          refine (hlo.out wr hEw.out).mono ?_
          rintro e w3 ⟨rfl, hE3⟩
          have hE4 := hide (hE.out.trans hE3)
          have hb4 := hide (hb.out.ext hE3)
          go_wp2_with fail
          refine (hrl.out w3).mono ?_
          rintro e w4 ⟨rfl, rfl⟩
          have hE5 := hide (q2.trans hE4.out)
          have hsz := hE4.out.size
          go_wp2_with (first
            | (go_at_call 16; refine (hlgt.out (by simp_all) _ hE5.out).mono ?_; rintro e w6 ⟨rfl, hE6⟩; have hE7 := hide (hE4.out.trans hE6); have hb7 := hide (hb4.out.ext hE6); have hs7 := hE7.out.size)
            | (at_builtin; first
              | refine wpList_bufN elemStr hb7.out (.tmp 64) (.tmp 66) rfl rfl rfl rfl (one_of rfl) (by simp; omega) hs7 (fun A4 c4 w8 hb8 hE8 => ?_)
              | refine wpList_bufN elemStr hb4.out (.tmp 64) (.tmp 66) rfl rfl rfl rfl (one_of rfl) (by simp; omega) hsz (fun A4 c4 w8 hb8 hE8 => ?_)))
          all_goals
            go_roundw
            case rel => exact ⟨i + 1, A4, c4, by go_num, by omega, by omega, rfl, hide (hfin.out _ _ _ hb8), hide (by first | exact hE8 w2 hE7.out (Nat.le_refl _) | exact hE8 w2 hE4.out (Nat.le_refl _))⟩
            case measure => simp [intOf]; omega
end Go.Proofs.YtijnomopcpgikaaDoor

