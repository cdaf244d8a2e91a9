/- slices.Clone of bytes. -/
import Derived.Test.YtijnomopcpgikaaDoorByt
namespace Go.Proofs.YtijnomopcpgikaaDoor
open Go.RowKit Go.Maps

set_option maxRecDepth 100000 in
theorem clone_any (A : Option Addr) (n c : Nat) (l : List UInt8) (w : World) (hn : n = l.length) (hl : Bs w A l) (hz : A = none → c = 0) (hle : n ≤ 1073741824) :
    Calls Tryd.prog 50 #[.slice A n c] w fun e w' => ∃ A1 c1, e = .returned (.slice A1 n c1) ∧ Buf w' w.heap.size 5 A1 n c1 (l.map B8) ∧ Ext w w' := by
  cases A with
  | none =>
    have h0 : l = [] := by
      rcases hl with h | ⟨_, _, h, _⟩
      · simpa using h
      · cases h
    subst h0
    obtain rfl : c = 0 := hz rfl
    obtain rfl : n = 0 := hn
    have hq := nil_eq w
    go_enter Tryd.func50, Tryd.ntmps50
    go_wp2_with fail
    go_ret
    exact ⟨none, 0, rfl, Buf.nil _ _ _, Ext.refl _⟩
  | some a =>
    have hq := nil_ne a n c w
    have ho := own_empty w 5
    have hE0 : Ext w (w.alloc (.cells #[] 5)) := (Ext.refl w).alloc _
    have hb := hl.ext hE0
    have hln : (l.map B8).length = n * 1 := by rw [List.length_map, hn]; omega
    have hsz : w.heap.size ≤ (w.alloc (.cells #[] 5)).heap.size := hE0.size
    replace hln := hide hln
    replace hn := hide hn
    go_enter Tryd.func50, Tryd.ntmps50
    go_wp2_with (at_builtin; refine wpList_app (m := n) elemB ho hb (.tmp 5) (.tmp 6) rfl rfl rfl rfl rfl hln.out (bytes_one _) (by omega) hsz (fun A1 c1 w3 ho3 hg3 hl3 => ?_))
    go_ret
    refine ⟨A1, c1, rfl, ?_, hE0.grown hg3 (fun k hk => by cases hk; exact Nat.le_refl _)⟩
    have := Buf.of_own ho3
    rw [Nat.zero_add] at this
    exact this
end Go.Proofs.YtijnomopcpgikaaDoor
