/- loggiaref06: SameNames. -/
import Derived.Test.YtijnomopcpgikaaDoorInS
import Derived.Test.YtijnomopcpgikaaDoorByt
namespace Go.Proofs.YtijnomopcpgikaaDoor
open Go.RowKit

theorem take_one' {α : Type} (xs : List α) (i : Nat) (x : α) (h : xs[i]? = some x) : xs.take (i + 1) = xs.take i ++ [x] := by
  obtain ⟨hi, rfl⟩ := List.getElem?_eq_some_iff.1 h
  exact List.take_succ_eq_append_getElem hi
set_option maxRecDepth 100000 in
set_option maxHeartbeats 1000000 in
theorem sameNames_any (A B : Option Addr) (n m c c2 : Nat) (xs ys : List (List UInt8)) (w : World) (hn : n = xs.length) (hm : m = ys.length) (hA : Cells w A (xs.map strV)) (hB : Cells w B (ys.map strV)) (hn2 : n ≤ 1024) (hm2 : m ≤ 1024) :
    Calls Tryd.prog 20 #[.slice A n c, .slice B m c2] w fun e w' => e = .returned (.bool (decide (xs = ys))) ∧ Ext w w' := by
  replace hn := hide hn
  replace hm := hide hm
  by_cases hnm : n = m
  · subst hnm
    go_enter Tryd.func20, Tryd.ntmps20
    go_wp2_with fail
    go_loopw [5] (fun s5 wr => ∃ i : Nat, s5 = .int .i64 i ∧ i ≤ n ∧ Hid (xs.take i = ys.take i) ∧ Ext w wr) (fun s5 _ => n - (intOf s5).toNat)
    case atStart => exact ⟨0, rfl, by omega, hide rfl, Ext.refl _⟩
    case round =>
      obtain ⟨i, rfl, hi, hs, hE⟩ := hrel
      by_cases hin : i < n
      · have hx : i < xs.length := by rw [← hn.out]; exact hin
        have hy : i < ys.length := by rw [← hm.out]; exact hin
        obtain ⟨g, o, rfl, hc⟩ := hA.at_ (by rw [List.length_map]; omega)
        obtain ⟨g2, o2, rfl, hc2⟩ := hB.at_ (by rw [List.length_map]; omega)
        obtain ⟨x, hxe⟩ : ∃ x, x = xs[i] := ⟨_, rfl⟩
        obtain ⟨y, hye⟩ : ∃ y, y = ys[i] := ⟨_, rfl⟩
        have k1 : wr.cell? ⟨g, o + i, none⟩ = some (strV x) := hE.cell (hc i (strV x) (by simp [hx, hxe]))
        have k2 : wr.cell? ⟨g2, o2 + i, none⟩ = some (strV y) := hE.cell (hc2 i (strV y) (by simp [hy, hye]))
        clear hc hc2
        unfold strV at k1 k2
        have hnx := take_one' xs i x (by rw [hxe]; exact List.getElem?_eq_getElem hx)
        have hny := take_one' ys i y (by rw [hye]; exact List.getElem?_eq_getElem hy)
        replace hnx := hide hnx
        replace hny := hide hny
        by_cases hxy : x = y
        · have q1 : (x == y) = true := by rw [hxy]; exact beq_self_eq_true y
          have q2 : (x != y) = false := by rw [hxy]; simp
          have hs2 : Hid (xs.take (i + 1) = ys.take (i + 1)) := hide (by rw [hnx.out, hny.out, hs.out, hxy])
          replace hxe := hide hxe
          replace hye := hide hye
          replace hxy := hide hxy
          go_wp2_with fail
          refine wp_region_text follows (by kernel_rfl) (by kernel_rfl) (fun K hK => ?_)
          go_wp2_with fail
          refine ⟨by kernel_rfl, ?_⟩
          go_wp2_with fail
          go_roundw
          case rel => exact ⟨i + 1, by go_num, by omega, hs2, hE.drew⟩
          case measure => simp [intOf]; omega
        · have q1 : (x == y) = false := beq_eq_false_iff_ne.2 hxy
          have q2 : (x != y) = true := bne_iff_ne.2 hxy
          have hs2 : Hid (decide (xs = ys) = false) := hide (decide_eq_false fun h => hxy (by rw [hxe, hye]; simp [h]))
          replace hxe := hide hxe
          replace hye := hide hye
          replace hxy := hide hxy
          go_wp2_with fail
          refine wp_region_text follows (by kernel_rfl) (by kernel_rfl) (fun K hK => ?_)
          go_wp2_with fail
          refine ⟨by kernel_rfl, ?_⟩
          go_wp2_with fail
          go_ret
          rw [hs2.out]
          exact ⟨rfl, hE.drew⟩
      · have hs2 : Hid (decide (xs = ys) = true) := hide (decide_eq_true (by
          have h1 := hs.out
          rw [List.take_of_length_le (by rw [← hn.out]; omega), List.take_of_length_le (by rw [← hm.out]; omega)] at h1
          exact h1))
        go_wp2_with fail
        go_ret
        rw [hs2.out]
        exact ⟨rfl, hE⟩
  · have hs2 : Hid (decide (xs = ys) = false) := hide (decide_eq_false fun h => hnm (by rw [hn.out, hm.out, h]))
    have q1 : ((n : Int) == m) = false := beq_eq_false_iff_ne.2 (by omega)
    have q2 : ((n : Int) != m) = true := bne_iff_ne.2 (by omega)
    go_enter Tryd.func20, Tryd.ntmps20
    go_wp2_with fail
    go_ret
    rw [hs2.out]
    exact ⟨rfl, Ext.refl _⟩
end Go.Proofs.YtijnomopcpgikaaDoor
