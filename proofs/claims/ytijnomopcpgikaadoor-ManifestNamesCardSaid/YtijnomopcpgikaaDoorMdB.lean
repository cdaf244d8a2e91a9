/- slices.Equal of bytes; cut. -/
import Derived.Test.YtijnomopcpgikaaDoorVaC
import Derived.Deep.QuietTactic
import Derived.BigQuiet
namespace Go.Proofs.YtijnomopcpgikaaDoor
open Go.RowKit

set_option maxRecDepth 100000 in
set_option maxHeartbeats 2000000 in
theorem equalB_any (A B : Option Addr) (n m c c2 : Nat) (a b : List UInt8) (w : World) (ha : In8 w A n c a) (hb : In8 w B m c2 b) (hn : n ≤ 1000000000) (hm : m ≤ 1000000000) :
    Calls Tryd.prog 33 #[.slice A n c, .slice B m c2] w fun e w' => e = .returned (.bool (decide (a = b))) ∧ Ext w w' := by
  have hal := ha.len
  have hbl := hb.len
  have hne : ((n : Int) != (m : Int)) = true → decide (a = b) = false := fun h => decide_eq_false fun e => by rw [e] at hal; simp at h; omega
  replace hne := hide hne
  by_cases hnm : n = m
  · subst hnm
    replace hal := hide hal
    replace hbl := hide hbl
    clear hne
    go_enter Tryd.func33, Tryd.ntmps33
    go_wp2_with fail
    go_loopw [13] (fun s13 wr => ∃ i : Nat, s13 = .int .i64 i ∧ i ≤ n ∧ Hid (a.take i = b.take i) ∧ Hid (Ext w wr)) (fun s13 _ => n - (intOf s13).toNat)
    case atStart => exact ⟨0, rfl, by omega, rfl, hide (Ext.refl w)⟩
    case round =>
      obtain ⟨i, rfl, hi, hab, hE⟩ := hrel
      by_cases hin : i < n
      · have hia : i < a.length := by rw [← hal.out]; exact hin
        have hib : i < b.length := by rw [← hbl.out]; exact hin
        obtain ⟨g, o, rfl, hc⟩ := ha.bytes.at_ (by omega)
        obtain ⟨g2, o2, rfl, hc2⟩ := hb.bytes.at_ (by omega)
        have k0 := hE.out.cell (hc i hia)
        have k1 := hE.out.cell (hc2 i hib)
        have hx : a[i] = b[i] → a.take (i + 1) = b.take (i + 1) := fun h => by rw [List.take_succ_eq_append_getElem hia, List.take_succ_eq_append_getElem hib, hab.out, h]
        have hy : a[i] ≠ b[i] → decide (a = b) = false := fun h => decide_eq_false fun e => h (by subst e; rfl)
        obtain ⟨p, hp⟩ : ∃ p, p = a[i] := ⟨_, rfl⟩
        obtain ⟨q, hq⟩ : ∃ q, q = b[i] := ⟨_, rfl⟩
        rw [← hp, ← hq] at hx hy
        rw [← hp] at k0
        rw [← hq] at k1
        have hi0 : (0 : Int) ≤ i := by omega
        have hi1 : (i : Int) < n := by omega
        replace hx := hide hx
        replace hy := hide hy
        clear hp hq hc hc2
        by_cases hpq : p = q
        · subst hpq
          have hx2 := hide (hx.out rfl)
          clear hx hy
          go_wp2_with fail
          go_quiet (fail)
          go_wp2_with fail
          go_roundw
          case rel => exact ⟨i + 1, by go_num, by omega, hx2, by first | exact hide hE.out.drew | exact hide (hE.out.drewN _)⟩
          case measure => simp [intOf]; omega
        · have hy2 := hide (hy.out hpq)
          have hpn : (((p.toNat : Int)) != (q.toNat : Int)) = true := by simp; exact fun h => hpq (UInt8.toNat_inj.1 (by omega))
          clear hx hy
          go_wp2_with fail
          go_quiet (fail)
          go_wp2_with fail
          go_ret
          exact ⟨ret_bool hy2.out.symm, by first | exact hE.out.drew | exact hE.out.drewN _⟩
      · obtain rfl : i = n := by omega
        have hd : decide (a = b) = true := decide_eq_true (by
          have h := hab.out
          rw [List.take_of_length_le (by rw [← hal.out]; exact Nat.le_refl _), List.take_of_length_le (by rw [← hbl.out]; exact Nat.le_refl _)] at h
          exact h)
        replace hd := hide hd
        go_wp2_with fail
        go_ret
        exact ⟨ret_bool hd.out.symm, hE.out⟩
  · have hd := hide (hne.out (by simp; omega))
    clear hne hal hbl ha hb
    go_enter Tryd.func33, Tryd.ntmps33
    go_wp2_with fail
    go_ret
    exact ⟨ret_bool hd.out.symm, Ext.refl w⟩
def cutL (l : List UInt8) : List UInt8 := l.take 900
theorem In8.take {w : World} {A : Option Addr} {n c : Nat} {l : List UInt8} (h : In8 w A n c l) {k : Nat} (hk : k ≤ n) : In8 w A k c (l.take k) := by
  refine ⟨by rw [List.length_take, ← h.len]; omega, ?_, by have := h.cap; omega, h.nil_, h.at_⟩
  rcases h.bytes with hb | ⟨g, o, hA, hb⟩
  · left
    have : l = [] := by simpa using hb
    rw [this]
    simp
  · refine .inr ⟨g, o, hA, fun i v hv => hb i v ?_⟩
    rw [List.getElem?_map] at hv ⊢
    rw [List.getElem?_take] at hv
    split at hv
    · exact hv
    · cases hv
set_option maxRecDepth 100000 in
set_option maxHeartbeats 1000000 in
theorem cut_any (A : Option Addr) (n c : Nat) (l : List UInt8) (w0 w : World) (h : In8 w0 A n c l) : Calls Tryd.prog 7 #[.slice A n c] w fun e w' => (e = .returned (.slice A (cutL l).length c) ∧ In8 w0 A (cutL l).length c (cutL l)) ∧ w' = w := by
  have hcap := h.cap
  have hl := h.len
  by_cases h9 : n ≤ 900
  · have ht : cutL l = l := List.take_of_length_le (by omega)
    rw [ht, ← hl]
    clear hl ht
    go_enter Tryd.func7, Tryd.ntmps7
    go_wp2_with fail
    go_ret
    exact ⟨⟨rfl, h⟩, rfl⟩
  · have hhd := fun W => run_head1 (n := n) (c := c) (k := 900) (A := A) (by omega) (fun a ha => (h.at_ a ha).1) W
    have ht := h.take (k := 900) (by omega)
    have hl9 : (cutL l).length = 900 := by unfold cutL; rw [List.length_take]; omega
    rw [hl9]
    clear hl hl9
    go_enter Tryd.func7, Tryd.ntmps7
    go_wp2_with fail
    go_ret
    exact ⟨⟨rfl, ht⟩, rfl⟩
end Go.Proofs.YtijnomopcpgikaaDoor
