/- loggiaref16: Same. -/
import Derived.Test.YtijnomopcpgikaaDoorMfG
import Derived.Deep.QuietTactic
import Derived.BigQuiet
namespace Go.Proofs.YtijnomopcpgikaaDoor
open Go.RowKit

theorem sameP_len {a b : Mf} (h : a.ps.length ≠ b.ps.length) : sameP a b = false := by
  unfold sameP
  rw [decide_eq_false fun e : a.ps = b.ps => h (by rw [e])]
  simp
set_option maxRecDepth 100000 in
set_option maxHeartbeats 4000000 in
theorem rsame_any (base base2 : Nat) (a b : Mf) (A B : Option Addr) (c c2 : Nat) (w : World) (ha : a.Ok w base A c) (hb : b.Ok w base2 B c2) :
    Calls Tryd.prog 12 #[a.val A c, b.val B c2] w fun e w' => e = .returned (.bool (sameP a b)) ∧ Ext w w' := by
  have ha' := ha.parts
  have hb' := hb.parts
  have hma := ha'.most
  have hmb := hb'.most
  have hlen : ((a.ps.length : Int) != (b.ps.length : Int)) = true → sameP a b = false := fun h => sameP_len (by simp at h; omega)
  replace hlen := hide hlen
  unfold Mf.val
  go_enter Tryd.func12, Tryd.ntmps12
  go_wp2_with fail
  all_goals first
    | (go_ret; exact ⟨ret_bool (by clear ha hb ha' hb'; first | (unfold sameP; simp_all; done) | exact (hlen.out (by assumption)).symm), ((Ext.refl w).alloc _).alloc _⟩)
    | skip
  rename_i q1 q2 q3 q4 q5 q6 K hK
  have hs : sameP a b = decide (a.ps = b.ps) := by unfold sameP; simp [q1, q2, q3, q4, q5]
  have hl : a.ps.length = b.ps.length := by simp at q6; omega
  rw [← hl] at hb'
  clear q1 q2 q3 q4 q5 q6 ha hb hmb hlen
  obtain ⟨n, hn⟩ : ∃ n, n = a.ps.length := ⟨_, rfl⟩
  rw [← hl, ← hn]
  rw [← hn] at ha' hb' hma
  replace hs := hide hs
  replace hl := hide hl
  replace hn := hide hn
  go_loopw [5] (fun s5 wr => ∃ i : Nat, s5 = .int .i64 i ∧ i ≤ n ∧ Hid (a.ps.take i = b.ps.take i) ∧ Hid (Ext w wr) ∧ Hid (wr.cell? ⟨w.heap.size, 0, none⟩ = some (.slice A n c)) ∧ Hid (wr.cell? ⟨w.heap.size + 1, 0, none⟩ = some (.slice B n c2))) (fun s5 _ => n - (intOf s5).toNat)
  case atStart => exact ⟨0, rfl, by omega, rfl, hide (((Ext.refl w).alloc _).alloc _), hide (by go_simp), hide (by go_simp)⟩
  case round =>
    obtain ⟨i, rfl, hi, hab, hE, hx, hy⟩ := hrel
    have x0 := hx.out
    have y0 := hy.out
    by_cases hin : i < n
    · obtain ⟨g, s, p, rfl, hp, hpo, k0, k1, k2, k3, k4, k5, k6⟩ := (ha'.ext hE.out).at_ hin
      obtain ⟨g2, s2, q, rfl, hq, hqo, j0, j1, j2, j3, j4, j5, j6⟩ := (hb'.ext hE.out).at_ hin
      have hne := part_ne p q
      unfold Pt.val at hne
      replace hp := hide hp
      replace hq := hide hq
      have hi0 : (0 : Int) ≤ i := by omega
      have hi1 : (i : Int) < n := by omega
      go_wp2_with fail
      go_quiet (fail)
      go_wp2_with fail
      · go_ret
        have h : ¬ p = q := by first | assumption | simp_all
        rw [hs.out]
        exact ⟨ret_bool (decide_eq_false fun e => h (by have e1 := hp.out; rw [e, hq.out] at e1; exact (Option.some.inj e1).symm)).symm, by first | exact hE.out.drew | exact hE.out.drewN _⟩
      · go_roundw
        case rel => 
          have h : p = q := by first | assumption | simp_all
          exact ⟨i + 1, by go_num, by omega, hide (by rw [List.take_add_one, List.take_add_one, hab.out, hp.out, hq.out, h]), by first | exact hide hE.out.drew | exact hide (hE.out.drewN _),
            hide ((by first | exact (Ext.refl _).drew | exact (Ext.refl _).drewN _ : Ext wr _).cell hx.out), hide ((by first | exact (Ext.refl _).drew | exact (Ext.refl _).drewN _ : Ext wr _).cell hy.out)⟩
        case measure => simp [intOf]; omega
    · obtain rfl : i = n := by omega
      go_wp2_with fail
      go_ret
      rw [hs.out]
      refine ⟨ret_bool (decide_eq_true ?_).symm, hE.out⟩
      have h := hab.out
      rw [List.take_of_length_le (by rw [hn.out]; exact Nat.le_refl _), List.take_of_length_le (by rw [hn.out, hl.out]; exact Nat.le_refl _)] at h
      exact h
end Go.Proofs.YtijnomopcpgikaaDoor
