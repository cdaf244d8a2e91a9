/- loggia/disk: Used, the walk. -/
import Derived.Test.YticnncgbfpgeaaaDkF
namespace Go.Proofs.Yticnncgbfpgeaaa
open Go.RowKit Go.Maps

set_option maxRecDepth 100000 in
set_option maxHeartbeats 1000000 in
theorem used_any (base d m quota armed : Nat) (stopped : Bool) (E : List Ent) (w : World) (h : DRow w d m quota armed stopped) (hF : FS w base m E) (hu : usedM E ≤ 1099511627776) :
    Calls Try.prog 16 #[.pointer (some ⟨d, 0, none⟩)] w fun e w' => e = .returned (.int .i64 (usedM E)) ∧ Ext w w' := by
  have h0 := none_any d m quota armed stopped w h
  replace h0 := hide h0
  have c0 : w.cell? ⟨d, 0, none⟩ = some (.map (some m)) := Row.cell h 0 rfl
  obtain ⟨L, hL, hmem, hlen⟩ := hF.map
  obtain ⟨o, hrange, hRL⟩ := hL.range Try.underlying61
  go_enter Try.func16, Try.ntmps16
  go_wp2_with fail
  refine h0.out.mono ?_
  rintro e w1 ⟨rfl, rfl⟩
  go_wp2_with fail
  have hE0 : Ext w1 (w1.alloc o) := (Ext.refl w1).alloc o
  go_loopw [3] (fun s3 wr => ∃ (D : List Ent) (n : Nat), s3 = .int .i64 n ∧ n ≤ 1099511627776 ∧ Hid (n = usedM D) ∧ Hid (RangeL Try.prog 9 wr m w1.heap.size L (D.map fun e => str e.name)) ∧ Hid (∀ e ∈ D, e ∈ E) ∧ Ext w1 wr) (fun _ wr => wr.rangeLeft m w1.heap.size)
  case atStart => exact ⟨[], 0, rfl, by omega, rfl, hRL, hide (by simp), hE0⟩
  case round =>
    obtain ⟨D, n, rfl, hn, hnD, hR, hD, hE⟩ := hrel
    rcases hR.out.next 0 with ⟨hrun, hall⟩ | ⟨x, v, w2, hxv, hxd, hrun, hR2, hg2, hs2, hent, hleft⟩
    · have hperm : D.Perm E := all_came hF.names hR.out.dn hD.out (fun e he => by
        have := hall e.kv ((hmem _).2 ⟨e, he, rfl⟩)
        exact this)
      have hfin : n = usedM E := by
        rw [hnD.out]
        unfold usedM
        exact (hperm.map _).sum_nat
      replace hfin := hide hfin
      go_wp2_with fail
      go_ret
      rw [hfin.out]
      exact ⟨rfl, hE⟩
    · obtain ⟨e0, he0, hkv⟩ := (hmem _).1 hxv
      unfold Ent.kv at hkv
      injection hkv with hx1 hv1
      subst hx1
      subst hv1
      have hok := (hF.ok e0 he0).row
      have hE2 : Ext w1 w2 := hE.grown hg2 (fun k hk => by cases hk; exact Nat.le_refl _)
      have cf : w2.cell? ⟨e0.f, 0, none⟩ = some (.slice e0.A e0.b.length e0.c) := hE2.cell (hok.cell 0 rfl)
      obtain ⟨bl, hbl⟩ : ∃ x, x = e0.b.length := ⟨_, rfl⟩
      rw [← hbl] at cf
      have hsum : usedM (D ++ [e0]) = n + bl := by
        unfold usedM
        rw [List.map_append, List.sum_append, hbl]
        simp
        exact hnD.out.symm
      have hle : n + bl ≤ 1099511627776 := by
        rw [← hsum]
        refine Nat.le_trans (used_le _ E ?_ ?_) hu
        · refine nodup_of_map (fun e => str e.name) ?_
          rw [List.map_append]
          exact hR2.dn
        · intro e he
          rcases List.mem_append.1 he with he | he
          · exact hD.out e he
          · simp at he; subst he; exact he0
      replace hsum := hide hsum.symm
      replace hbl := hide hbl
      go_wp2_with fail
      go_roundw
      case rel => exact ⟨D ++ [e0], n + bl, by go_num, by omega, hsum, hide (by rw [List.map_append]; exact hR2), hide (fun e he => by
        rcases List.mem_append.1 he with he | he
        · exact hD.out e he
        · simp at he; subst he; exact he0), hE2⟩
      case measure => exact hleft
end Go.Proofs.Yticnncgbfpgeaaa
