/- loggiaref31: SameAll, at alike rows. -/
import Derived.Test.YtpajpdkliohepaaDoorLrD
namespace Go.Proofs.YtpajpdkliohepaaDoor
open Go.RowKit

set_option maxRecDepth 100000 in
set_option maxHeartbeats 4000000 in
theorem sameall_any (l m : List EvC) (A B : Option Addr) (c c2 : Nat) (w : World) (hl : EvsOk w A l) (hm : EvsOk w B m) (hlm : l.map (·.e) = m.map (·.e)) (hb : l.length ≤ 9223372036854775807) :
    Calls Tryd.prog 23 #[.slice A l.length c, .slice B m.length c2] w fun en w' => en = .returned (.bool true) ∧ Ext w w' := by
  have hlen : m.length = l.length := by
    have := congrArg List.length hlm
    rw [List.length_map, List.length_map] at this
    exact this.symm
  obtain ⟨n, hn⟩ : ∃ n, n = l.length := ⟨_, rfl⟩
  rw [hlen, ← hn]
  rw [← hn] at hb hlen
  replace hn := hide hn
  replace hlen := hide hlen
  replace hlm := hide hlm
  go_enter Tryd.func23, Tryd.ntmps23
  go_wp2_with fail
  go_loopw [5] (fun s5 wr => ∃ i : Nat, s5 = .int .i64 (i : Int) ∧ i ≤ n ∧ Hid (Ext w wr)) (fun s5 _ => n - (intOf s5).toNat)
  case atStart => exact ⟨0, rfl, by omega, hide (Ext.refl w)⟩
  case round =>
    obtain ⟨i, rfl, hi, hE⟩ := hrel
    by_cases hin : i < n
    · obtain ⟨x, hx⟩ : ∃ x, l[i]? = some x := ⟨_, List.getElem?_eq_getElem (by rw [← hn.out]; exact hin)⟩
      obtain ⟨y, hy⟩ : ∃ y, m[i]? = some y := ⟨_, List.getElem?_eq_getElem (by rw [hlen.out]; exact hin)⟩
      have hxy : x.e = y.e := by
        have h1 : (l.map (·.e))[i]? = some x.e := by rw [List.getElem?_map, hx]; rfl
        have h2 : (m.map (·.e))[i]? = some y.e := by rw [List.getElem?_map, hy]; rfl
        rw [hlm.out, h2] at h1
        exact (Option.some.inj h1).symm
      obtain ⟨g, o, hA, k0, k1⟩ := ecells_at (hl.cells.ext hE.out) hx
      obtain ⟨g2, o2, hB, k2, k3⟩ := ecells_at (hm.cells.ext hE.out) hy
      have hxo := (hl.each x (List.mem_of_getElem? hx))
      have hyo := (hm.each y (List.mem_of_getElem? hy))
      obtain ⟨⟨at_, fs⟩, C, d⟩ := x
      obtain ⟨y, D, d2⟩ := y
      simp only at hxy k0 k1 k2 k3 hxo hyo
      subst hxy hA hB
      have hsm : ∀ x, (x.cell? ⟨g, o + i * 2, none⟩ = some (.int .i64 at_) ∧ x.cell? ⟨g, o + i * 2 + 1, none⟩ = some (.slice C fs.length d) ∧ x.cell? ⟨g2, o2 + i * 2, none⟩ = some (.int .i64 at_) ∧ x.cell? ⟨g2, o2 + i * 2 + 1, none⟩ = some (.slice D fs.length d2) ∧ Ext w x) → Calls Tryd.prog 13 #[.agg #[.int .i64 at_, .slice C fs.length d], .agg #[.int .i64 at_, .slice D fs.length d2]] x fun e y => e = .returned (.bool true) ∧ (y.cell? ⟨g, o + i * 2, none⟩ = some (.int .i64 at_) ∧ y.cell? ⟨g, o + i * 2 + 1, none⟩ = some (.slice C fs.length d) ∧ y.cell? ⟨g2, o2 + i * 2, none⟩ = some (.int .i64 at_) ∧ y.cell? ⟨g2, o2 + i * 2 + 1, none⟩ = some (.slice D fs.length d2) ∧ Ext w y) := fun x ⟨h0, h1, h2, h3, hE⟩ =>
        (resame_any ⟨at_, fs⟩ ⟨at_, fs⟩ C D d d2 x (hxo.ext hE) (hyo.ext hE)).mono fun e y ⟨he, hEy⟩ => ⟨by rw [he, show sameE ⟨at_, fs⟩ ⟨at_, fs⟩ = true from decide_eq_true ⟨rfl, rfl⟩], hEy.cell h0, hEy.cell h1, hEy.cell h2, hEy.cell h3, hE.trans hEy⟩
      have hS0 : wr.cell? ⟨g, o + i * 2, none⟩ = some (.int .i64 at_) ∧ wr.cell? ⟨g, o + i * 2 + 1, none⟩ = some (.slice C fs.length d) ∧ wr.cell? ⟨g2, o2 + i * 2, none⟩ = some (.int .i64 at_) ∧ wr.cell? ⟨g2, o2 + i * 2 + 1, none⟩ = some (.slice D fs.length d2) ∧ Ext w wr := ⟨k0, k1, k2, k3, hE.out⟩
      have hS1 : wr.drew.cell? ⟨g, o + i * 2, none⟩ = some (.int .i64 at_) ∧ wr.drew.cell? ⟨g, o + i * 2 + 1, none⟩ = some (.slice C fs.length d) ∧ wr.drew.cell? ⟨g2, o2 + i * 2, none⟩ = some (.int .i64 at_) ∧ wr.drew.cell? ⟨g2, o2 + i * 2 + 1, none⟩ = some (.slice D fs.length d2) ∧ Ext w wr.drew := ⟨k0, k1, k2, k3, hE.out.drew⟩
      have hxt : ∀ x, (x.cell? ⟨g, o + i * 2, none⟩ = some (.int .i64 at_) ∧ x.cell? ⟨g, o + i * 2 + 1, none⟩ = some (.slice C fs.length d) ∧ x.cell? ⟨g2, o2 + i * 2, none⟩ = some (.int .i64 at_) ∧ x.cell? ⟨g2, o2 + i * 2 + 1, none⟩ = some (.slice D fs.length d2) ∧ Ext w x) → Ext w x := fun x h => h.2.2.2.2
      have hi0 : (0 : Int) ≤ i := by omega
      have hi1 : (i : Int) < n := by omega
      replace hsm := hide hsm
      replace hS0 := hide hS0
      replace hS1 := hide hS1
      replace hxt := hide hxt
      clear hx hy hxo hyo
      go_wp2_with fail
      go_region_held3 (fun x => x.cell? ⟨g, o + i * 2, none⟩ = some (.int .i64 at_) ∧ x.cell? ⟨g, o + i * 2 + 1, none⟩ = some (.slice C fs.length d) ∧ x.cell? ⟨g2, o2 + i * 2, none⟩ = some (.int .i64 at_) ∧ x.cell? ⟨g2, o2 + i * 2 + 1, none⟩ = some (.slice D fs.length d2) ∧ Ext w x) (first | exact hS1.out | exact hS0.out | exact ‹_›) (first | (go_at_call 13; refine (hsm.out _ ‹_›).mono ?_; rintro e w3 ⟨rfl, hSc⟩))
      go_wp2_with fail
      have hEn := hide (hxt.out _ ‹_›)
      go_roundw
      case rel => exact ⟨i + 1, by go_num, by omega, hEn⟩
      case measure => simp [intOf]; omega
    · go_wp2_with fail
      go_ret
      exact ⟨rfl, hE.out⟩
end Go.Proofs.YtpajpdkliohepaaDoor
