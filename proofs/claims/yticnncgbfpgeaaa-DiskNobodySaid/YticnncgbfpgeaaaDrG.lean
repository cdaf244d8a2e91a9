/- loggiaref06: List, SameNames. -/
import Derived.Test.YticnncgbfpgeaaaDrE
namespace Go.Proofs.Yticnncgbfpgeaaa
open Go.RowKit Go.Maps

def NamesPost (ns : List (List UInt8)) (w : World) (e : Ending) (w' : World) : Prop := ∃ A1 n1 c1, e = .returned (.slice A1 n1 c1) ∧ n1 = ns.length ∧ n1 ≤ 1024 ∧ Cells w' A1 (ns.map str) ∧ Ext w w'
set_option maxRecDepth 100000 in
set_option maxHeartbeats 1000000 in
theorem rlist_any (N : Nat → Prop) (A : Option Addr) (n c : Nat) (P : PD) (R : List RE) (w : World) (h : RS w N A n c R) (hP : R.map RE.pl = P.L) :
    Calls Try.prog 49 #[rdisk A n c P.quota P.armed P.stopped] w (NamesPost (listM P) w) := by
  obtain ⟨q, hq⟩ : ∃ q, q = P.quota := ⟨_, rfl⟩
  obtain ⟨a, ha⟩ : ∃ q, q = P.armed := ⟨_, rfl⟩
  obtain ⟨st, hst⟩ : ∃ q, q = P.stopped := ⟨_, rfl⟩
  have hm : listM P = if st then [] else R.map RE.name := by
    unfold listM
    rw [hst, ← hP, List.map_map]
    rfl
  rw [hm, ← hq, ← ha, ← hst]
  unfold rdisk
  obtain ⟨ns, hns⟩ : ∃ ns, ns = if st = true then [] else R.map RE.name := ⟨_, rfl⟩
  rw [← hns]
  replace hns := hide hns
  have hlen := h.len
  have hmany := h.many
  replace hlen := hide hlen
  replace hq := hide hq
  replace ha := hide ha
  replace hst := hide hst
  clear hm
  obtain ⟨W, hW⟩ : ∃ W, W = w.alloc (.cells #[.slice A n c, .int .i64 q, .int .i64 a, .bool st] 36) := ⟨_, rfl⟩
  have hE : Ext w W := by rw [hW]; exact (Ext.refl w).alloc _
  have hd : Row W w.heap.size 36 #[.slice A n c, .int .i64 q, .int .i64 a, .bool st] := by rw [hW]; exact Row.new w _ _
  have hR := h.ext hE
  have hWx := hide hW.symm
  clear hW
  go_enter Try.func49, Try.ntmps49
  go_wp2_with fail
  rw [hWx.out]
  go_loopw [3, 4] (fun s3 s4 wr => ∃ (i c1 : Nat) (A1 : Option Addr), s4 = .int .i64 i ∧ s3 = .slice A1 i c1 ∧ i ≤ n ∧ Hid (st = true → i = 0) ∧ Hid (wr.ownsRow W.heap.size 9 1 (.slice A1 i c1) i ((R.take i).map fun r => str r.name)) ∧ Ext W wr) (fun _ s4 _ => n - (intOf s4).toNat)
  case atStart => exact ⟨0, 0, none, rfl, rfl, by omega, hide (fun _ => rfl), hide (World.ownsRow_nil _ _ _ _), Ext.refl _⟩
  case round =>
    obtain ⟨i, c1, A1, rfl, rfl, hi, hsi, hO, hEr⟩ := hrel
    have c0r : wr.cell? ⟨w.heap.size, 0, none⟩ = some (.slice A n c) := (hd.ext hEr).cell 0 rfl
    have c3r : wr.cell? ⟨w.heap.size, 3, none⟩ = some (.bool st) := (hd.ext hEr).cell 3 rfl
    by_cases hin : i < n
    · cases st with
      | true =>
        obtain rfl := hsi.out rfl
        have fin : NamesPost ns w (.returned (.slice A1 0 c1)) wr := by
          rw [hns.out, if_pos rfl]
          exact ⟨A1, 0, c1, rfl, rfl, by omega, .inl rfl, hE.trans hEr⟩
        replace fin := hide fin
        go_wp2_with fail
        go_ret
        exact fin.out
      | false =>
        obtain ⟨g, o, r, rfl, hr, k0, k1, k2⟩ := (hR.ext hEr).at_ hin
        unfold str at k0
        have htk := take_one R i r hr
        replace hr := hide hr
        replace htk := hide htk
        have hO2 := hO.out
        have hsz := hEr.size
        go_wp2_with (at_builtin; refine wpList_appN (us := [.string ⟨r.name.toArray⟩]) elemS hO2 (.tmp 17) (.tmp 24) rfl rfl rfl rfl (one_of rfl) (by simp; omega) hsz (fun A3 c3 w3 ho3 hg3 hl3 => ?_))
        have ho4 : Hid (w3.ownsRow W.heap.size 9 1 (.slice A3 (i + 1) c3) (i + 1) ((R.take (i + 1)).map fun r => str r.name)) := hide (by
          rw [htk.out, List.map_append]
          exact ho3)
        have hE3 : Ext W w3 := hEr.grown hg3 (own_ge hO2)
        go_roundw
        case rel => exact ⟨i + 1, c3, A3, by go_num, rfl, by omega, hide nofun, ho4, hE3⟩
        case measure => simp [intOf]; omega
    · obtain rfl : i = n := by omega
      have hO2 := hO.out
      rw [List.take_of_length_le (by rw [← hlen.out]; exact Nat.le_refl _)] at hO2
      have fin : NamesPost ns w (.returned (.slice A1 i c1)) wr := by
        rw [hns.out]
        cases st with
        | true =>
          have := hsi.out rfl
          rw [if_pos rfl]
          exact ⟨A1, i, c1, rfl, this, hmany, .inl rfl, hE.trans hEr⟩
        | false =>
          rw [if_neg (by simp)]
          refine ⟨A1, i, c1, rfl, by rw [List.length_map]; exact hlen.out, hmany, ?_, hE.trans hEr⟩
          have := Cells.of_own hO2
          rw [List.map_map]
          exact this
      replace fin := hide fin
      go_wp2_with fail
      go_ret
      exact fin.out
set_option maxRecDepth 100000 in
set_option maxHeartbeats 1000000 in
theorem rsame_any (A B : Option Addr) (n m c c2 : Nat) (xs ys : List (List UInt8)) (w : World) (hn : n = xs.length) (hm : m = ys.length) (hA : Cells w A (xs.map str)) (hB : Cells w B (ys.map str)) (hn2 : n ≤ 1024) (hm2 : m ≤ 1024) :
    Calls Try.prog 48 #[.slice A n c, .slice B m c2] w fun e w' => e = .returned (.bool (decide (xs = ys))) ∧ Ext w w' := by
  replace hn := hide hn
  replace hm := hide hm
  by_cases hnm : n = m
  · subst hnm
    go_enter Try.func48, Try.ntmps48
    go_wp2_with fail
    go_loopw [5] (fun s5 wr => ∃ i : Nat, s5 = .int .i64 i ∧ i ≤ n ∧ Hid (xs.take i = ys.take i) ∧ Ext w wr) (fun s5 _ => n - (intOf s5).toNat)
    case atStart => exact ⟨0, rfl, by omega, hide rfl, Ext.refl _⟩
    case round =>
      obtain ⟨i, rfl, hi, hs, hE⟩ := hrel
      by_cases hin : i < n
      · have hx : i < xs.length := by rw [← hn.out]; exact hin
        have hy : i < ys.length := by rw [← hm.out]; exact hin
        obtain ⟨g, o, rfl, hc⟩ := hA.at_ (by rw [List.length_map]; omega)
        obtain ⟨g2, o2, rfl, hc2⟩ := hB.at_ (by rw [List.length_map]; omega)
        obtain ⟨x, hxe⟩ : ∃ x, x = xs[i] := ⟨_, rfl⟩
        obtain ⟨y, hye⟩ : ∃ y, y = ys[i] := ⟨_, rfl⟩
        have k1 : wr.cell? ⟨g, o + i, none⟩ = some (str x) := hE.cell (hc i (str x) (by simp [hx, hxe]))
        have k2 : wr.cell? ⟨g2, o2 + i, none⟩ = some (str y) := hE.cell (hc2 i (str y) (by simp [hy, hye]))
        clear hc hc2
        unfold str at k1 k2
        have hnx := take_one xs i x (by rw [hxe]; exact List.getElem?_eq_getElem hx)
        have hny := take_one ys i y (by rw [hye]; exact List.getElem?_eq_getElem hy)
        replace hnx := hide hnx
        replace hny := hide hny
        by_cases hxy : x = y
        · have q1 : (x == y) = true := by rw [hxy]; exact beq_self_eq_true y
          have q2 : (x != y) = false := by rw [hxy]; simp
          have hs2 : Hid (xs.take (i + 1) = ys.take (i + 1)) := hide (by rw [hnx.out, hny.out, hs.out, hxy])
          replace hxe := hide hxe
          replace hye := hide hye
          replace hxy := hide hxy
          go_wp2_with fail
          refine wp_region_text follows (by kernel_rfl) (by kernel_rfl) (fun K hK => ?_)
          go_wp2_with fail
          refine ⟨by kernel_rfl, ?_⟩
          go_wp2_with fail
          go_roundw
          case rel => exact ⟨i + 1, by go_num, by omega, hs2, hE.drew⟩
          case measure => simp [intOf]; omega
        · have q1 : (x == y) = false := beq_eq_false_iff_ne.2 hxy
          have q2 : (x != y) = true := bne_iff_ne.2 hxy
          have hs2 : Hid (decide (xs = ys) = false) := hide (decide_eq_false fun h => hxy (by rw [hxe, hye]; simp [h]))
          replace hxe := hide hxe
          replace hye := hide hye
          replace hxy := hide hxy
          go_wp2_with fail
          refine wp_region_text follows (by kernel_rfl) (by kernel_rfl) (fun K hK => ?_)
          go_wp2_with fail
          refine ⟨by kernel_rfl, ?_⟩
          go_wp2_with fail
          go_ret
          rw [hs2.out]
          exact ⟨rfl, hE.drew⟩
      · have hs2 : Hid (decide (xs = ys) = true) := hide (decide_eq_true (by
          have h1 := hs.out
          rw [List.take_of_length_le (by rw [← hn.out]; omega), List.take_of_length_le (by rw [← hm.out]; omega)] at h1
          exact h1))
        go_wp2_with fail
        go_ret
        rw [hs2.out]
        exact ⟨rfl, hE⟩
  · have hs2 : Hid (decide (xs = ys) = false) := hide (decide_eq_false fun h => hnm (by rw [hn.out, hm.out, h]))
    have q1 : ((n : Int) == m) = false := beq_eq_false_iff_ne.2 (by omega)
    have q2 : ((n : Int) != m) = true := bne_iff_ne.2 (by omega)
    go_enter Try.func48, Try.ntmps48
    go_wp2_with fail
    go_ret
    rw [hs2.out]
    exact ⟨rfl, Ext.refl _⟩
end Go.Proofs.Yticnncgbfpgeaaa
