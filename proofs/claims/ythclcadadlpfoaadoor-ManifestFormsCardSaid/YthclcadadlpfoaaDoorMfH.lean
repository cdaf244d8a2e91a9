/- slices.Equal at api.Part. -/
import Derived.Test.YthclcadadlpfoaaDoorMfG
import Derived.Deep.QuietTactic
import Derived.BigQuiet
namespace Go.Proofs.YthclcadadlpfoaaDoor
open Go.RowKit

set_option maxRecDepth 100000 in
set_option maxHeartbeats 4000000 in
theorem equal_any (base base2 : Nat) (A B : Option Addr) (c c2 : Nat) (a b : List Pt) (w : World) (ha : PS w base A a.length c a) (hb : PS w base2 B b.length c2 b) :
    Calls Tryd.prog 15 #[.slice A a.length c, .slice B b.length c2] w fun e w' => e = .returned (.bool (decide (a = b))) ∧ Ext w w' := by
  obtain ⟨r, hr⟩ : ∃ r, r = decide (a = b) := ⟨_, rfl⟩
  rw [← hr]
  replace hr := hide hr
  have hma := ha.most
  have hmb := hb.most
  by_cases hl : a.length = b.length
  · obtain ⟨n, hn⟩ : ∃ n, n = a.length := ⟨_, rfl⟩
    rw [← hl]
    rw [← hn] at hma
    have ha' := ha
    have hb' := hb
    rw [← hl, ← hn] at hb'
    rw [← hn] at ha' ⊢
    have hna := hide hn
    have hlb := hide hl
    clear ha hb hl hn hmb
    go_enter Tryd.func15, Tryd.ntmps15
    go_wp2_with fail
    go_loopw [13] (fun s13 wr => ∃ i : Nat, s13 = .int .i64 i ∧ i ≤ n ∧ Hid (a.take i = b.take i) ∧ Ext w wr) (fun s13 _ => n - (intOf s13).toNat)
    case atStart => exact ⟨0, rfl, by omega, rfl, Ext.refl w⟩
    case round =>
      obtain ⟨i, rfl, hi, hab, hE⟩ := hrel
      by_cases hin : i < n
      · obtain ⟨g, s, p, rfl, hp, hpo, k0, k1, k2, k3, k4, k5, k6⟩ := (ha'.ext hE).at_ hin
        obtain ⟨g2, s2, q, rfl, hq, hqo, j0, j1, j2, j3, j4, j5, j6⟩ := (hb'.ext hE).at_ hin
        have hne := part_ne p q
        unfold Pt.val at hne
        have hia : a[i]? = some p := hp
        have hib : b[i]? = some q := hq
        by_cases hpq : p = q
        · subst hpq
          rw [decide_eq_true rfl] at hne
          have hnx : a.take (i + 1) = b.take (i + 1) := by rw [List.take_add_one, List.take_add_one, hab.out, hia, hib]
          replace hnx := hide hnx
          clear hab
          go_wp2_with fail
          go_quiet (fail)
          go_wp2_with fail
          go_roundw
          case rel => exact ⟨i + 1, by go_num, by omega, hnx, by first | exact hE.drew | exact hE.drewN _⟩
          case measure => simp [intOf]; omega
        · rw [decide_eq_false hpq] at hne
          have hd : decide (a = b) = false := decide_eq_false fun e => by rw [e, hib] at hia; exact hpq (Option.some.inj hia).symm
          replace hd := hide hd
          clear hab
          go_wp2_with fail
          go_quiet (fail)
          go_wp2_with fail
          go_ret
          rw [hr.out, hd.out]
          exact ⟨rfl, by first | exact hE.drew | exact hE.drewN _⟩
      · obtain rfl : i = n := by omega
        have hd : decide (a = b) = true := decide_eq_true (by
          have h := hab.out
          rw [List.take_of_length_le (by rw [hna.out]; exact Nat.le_refl _), List.take_of_length_le (by rw [hna.out, hlb.out]; exact Nat.le_refl _)] at h
          exact h)
        replace hd := hide hd
        go_wp2_with fail
        go_ret
        rw [hr.out, hd.out]
        exact ⟨rfl, hE⟩
  · have hd : decide (a = b) = false := decide_eq_false fun e => hl (by rw [e])
    replace hd := hide hd
    go_enter Tryd.func15, Tryd.ntmps15
    go_wp2_with fail
    go_ret
    rw [hr.out, hd.out]
    exact ⟨rfl, Ext.refl w⟩
end Go.Proofs.YthclcadadlpfoaaDoor
