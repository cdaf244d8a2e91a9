/- loggiaref16: Encode. -/
import Derived.Test.YtijnomopcpgikaaDoorMeA
namespace Go.Proofs.YtijnomopcpgikaaDoor
open Go.RowKit

set_option maxRecDepth 100000 in
set_option maxHeartbeats 4000000 in
theorem rencode_any (base : Nat) (m : Mf) (A : Option Addr) (c : Nat) (w : World) (h : m.Ok w base A c) : Calls Tryd.prog 9 #[m.val A c] w fun e w' => EncP w m e w' := by
  have hp := h.parts
  have hin := h.in_
  have hck : ∀ W, Ext w W → Calls Tryd.prog 27 #[m.val A c] W fun e w' => e = .returned (.int .i64 (checkP m)) ∧ Ext W w' := fun W hE => rcheck_any base m A c W (h.ext hE)
  have hrow : Row (w.alloc (.cells #[.slice A m.ps.length c, .int .i64 m.floor, .int .i64 m.done, .int .i64 m.log, .int .i64 m.next, .int .i64 m.now] 24)) w.heap.size 24 #[.slice A m.ps.length c, .int .i64 m.floor, .int .i64 m.done, .int .i64 m.log, .int .i64 m.next, .int .i64 m.now] := Row.new w _ _
  have hE0 : Ext w (w.alloc (.cells #[.slice A m.ps.length c, .int .i64 m.floor, .int .i64 m.done, .int .i64 m.log, .int .i64 m.next, .int .i64 m.now] 24)) := (Ext.refl w).alloc _
  unfold Mf.val at hck ⊢
  replace hck := hide hck
  by_cases hc : checkP m = 0
  · obtain ⟨h5, hpp⟩ := checkP_zero hc
    have hcn : (checkP m : Int) = 0 := by omega
    have hc' := hide hc
    rw [hcn] at hck
    clear hc hcn h hpp
    have hfl := hide (heads_ok hin)
    have hle := hide (encI_len hin h5)
    replace hin := hide hin
    replace hrow := hide hrow
    replace hE0 := hide hE0
    replace hp := hide hp
    go_enter Tryd.func9, Tryd.ntmps9
    go_wp2_with fail
    refine (hck.out _ hE0.out).mono ?_
    rintro e w1 ⟨rfl, hE1⟩
    have hr1 := hide (hrow.out.ext hE1)
    have hE2 := hide (hE0.out.trans hE1)
    have x0 := hr1.out.cell 0 rfl
    have x1 := hr1.out.cell 1 rfl
    have x2 := hr1.out.cell 2 rfl
    have x3 := hr1.out.cell 3 rfl
    have x4 := hr1.out.cell 4 rfl
    have x5 := hr1.out.cell 5 rfl
    have hlt1 := hr1.out.lt
    have hbm := hide (buf_new w1 [.int .u8 76, .int .u8 71, .int .u8 77, .int .u8 49] 5 (by simp))
    have hall := rall_any (some ⟨w1.heap.size + 1, 0, none⟩) 5 5 [m.floor, m.done, m.log, m.next, m.now] ((w1.alloc (.cells #[.int .u8 76, .int .u8 71, .int .u8 77, .int .u8 49] 5)).alloc (.cells #[.int .i64 m.floor, .int .i64 m.done, .int .i64 m.log, .int .i64 m.next, .int .i64 m.now] 3)) rfl (.inr ⟨w1.heap.size + 1, 0, rfl, fun i v hv => by
      have hn := heap_alloc_new (w1.alloc (.cells #[.int .u8 76, .int .u8 71, .int .u8 77, .int .u8 49] 5)) (.cells #[.int .i64 m.floor, .int .i64 m.done, .int .i64 m.log, .int .i64 m.next, .int .i64 m.now] 3)
      rw [show (w1.alloc (.cells #[.int .u8 76, .int .u8 71, .int .u8 77, .int .u8 49] 5)).heap.size = w1.heap.size + 1 by simp] at hn
      rw [Nat.zero_add, cell_of_row _ _ _ _ _ _ hn]
      simpa using hv⟩) (by omega) hfl.out
    have hE3 : Ext w1 ((w1.alloc (.cells #[.int .u8 76, .int .u8 71, .int .u8 77, .int .u8 49] 5)).alloc (.cells #[.int .i64 m.floor, .int .i64 m.done, .int .i64 m.log, .int .i64 m.next, .int .i64 m.now] 3)) := ((Ext.refl w1).alloc _).alloc _
    have hE3b : Ext (w1.alloc (.cells #[.int .u8 76, .int .u8 71, .int .u8 77, .int .u8 49] 5)) ((w1.alloc (.cells #[.int .u8 76, .int .u8 71, .int .u8 77, .int .u8 49] 5)).alloc (.cells #[.int .i64 m.floor, .int .i64 m.done, .int .i64 m.log, .int .i64 m.next, .int .i64 m.now] 3)) := (Ext.refl _).alloc _
    replace hall := hide hall
    replace hE3 := hide hE3
    replace hE3b := hide hE3b
    go_wp2_with fail
    refine hall.out.mono ?_
    rintro e w2 ⟨A2, c2, rfl, hb2, hE4⟩
    have hE5 := hide (hE3.out.trans hE4)
    have y0 := hE5.out.cell x0
    have hE6 := hide (hE2.out.trans hE5.out)
    have hlen2 := vall_len _ hfl.out
    simp only [List.length_cons, List.length_nil] at hlen2
    have hbm2 := hbm.out.ext (hE3b.out.trans hE4)
    have hs2 := hE5.out.size
    have hby := hide (fun w => rbytes m.ps.length w (by omega))
    have hvl := vb_len10 (n := m.ps.length) (by omega)
    clear x0 x1 x2 x3 x4 x5 hall hck hE4 hlt1
    go_wp2_with (at_builtin; refine wpList_buf elemB hbm2 hb2.cells (.tmp 14) (.tmp 26) rfl rfl rfl rfl rfl (by rw [List.length_map]) (bytes_one _) (by simp only [List.length_cons, List.length_nil]; omega) hs2 (fun A3 c3 w3 hb3 _ hE7 _ => ?_); have q0 := (hE7 w1 hE5.out (Nat.le_refl _)).cell (show w1.cell? ⟨w.heap.size, 0, none⟩ = some (.slice A m.ps.length c) from hr1.out.cell 0 rfl))
    refine (hby.out _).mono ?_
    rintro e w4 ⟨A4, c4, rfl, hb4, hE8⟩
    have hE9 := hE7 w1 hE5.out (Nat.le_refl _)
    have hE10 := hE9.trans hE8
    have z0 := hE10.cell (show w1.cell? ⟨w.heap.size, 0, none⟩ = some (.slice A m.ps.length c) from hr1.out.cell 0 rfl)
    have hb5 := hb3.ext hE8
    have hs4 := hE10.size
    clear y0 hb2 hbm2 hs2
    go_wp2_with (at_builtin; refine wpList_buf elemB hb5 hb4.cells (.tmp 28) (.tmp 33) rfl rfl rfl rfl rfl (by rw [List.length_map]) (bytes_one _) (by simp only [List.length_cons, List.length_nil]; omega) hs4 (fun A6 c6 w6 hb6 _ hE11 _ => ?_))
    have hE12 := hide (hE2.out.trans (hE11 w1 hE10 (Nat.le_refl _)))
    have v0 := (hE11 w1 hE10 (Nat.le_refl _)).cell (show w1.cell? ⟨w.heap.size, 0, none⟩ = some (.slice A m.ps.length c) from hr1.out.cell 0 rfl)
    have hb7 : Buf w6 w1.heap.size 5 A6 (encI m 0).length c6 ((encI m 0).map B8) := by
      rw [encI_zero, List.map_append, List.map_append, List.length_append, List.length_append]
      exact hb6
    have hE13 := hide (hE11 w1 hE10 (Nat.le_refl _))
    have hv0 := hide (show w1.cell? ⟨w.heap.size, 0, none⟩ = some (.slice A m.ps.length c) from hr1.out.cell 0 rfl)
    obtain ⟨n6, hn6⟩ : ∃ n6, n6 = (encI m 0).length := ⟨_, rfl⟩
    have hln : ([.int .u8 76, .int .u8 71, .int .u8 77, .int .u8 49] : List Value).length + (vall [m.floor, m.done, m.log, m.next, m.now]).length + (vb m.ps.length).length = n6 := by rw [hn6, encI_zero]; simp only [List.length_append, List.length_cons, List.length_nil]
    rw [← hn6] at hb7
    have hsv : ∀ x, Value.slice A6 (([.int .u8 76, .int .u8 71, .int .u8 77, .int .u8 49] : List Value).length + (vall [m.floor, m.done, m.log, m.next, m.now]).length + (vb m.ps.length).length) x = .slice A6 n6 x := fun x => by rw [hln]
    replace hb7 := hide hb7
    replace hn6 := hide hn6
    replace hsv := hide hsv
    clear hb6 hb5 hb4 hE10 hE8 hE11 hb3 hE7 z0 v0 hE9 hs4 hln hlen2 hvl
    go_wp2_with fail
    go_loopw [5, 6] (fun s5 s6 wr => ∃ (i : Nat) (A4 : Option Addr) (n4 c4 : Nat), s6 = .int .i64 i ∧ i ≤ m.ps.length ∧ s5 = .slice A4 n4 c4 ∧ Hid (n4 = (encI m i).length) ∧ Hid (Buf wr w1.heap.size 5 A4 n4 c4 ((encI m i).map B8)) ∧ Hid (Ext w1 wr)) (fun _ s6 _ => m.ps.length - (intOf s6).toNat)
    case atStart => exact ⟨0, A6, n6, c6, rfl, by omega, hsv.out _, hn6, hb7, hE13⟩
    case round =>
      obtain ⟨i, A4, n4, c4, rfl, hi, rfl, hn4, hb5, hE9⟩ := hrel
      have hl4 := hle.out i hi
      have hn4b : n4 ≤ 64 + 60 * i := by rw [hn4.out]; exact hl4
      have v0 := hE9.out.cell hv0.out
      have hEw := hide (hE2.out.trans hE9.out)
      have hwsz := hE9.out.size
      clear hl4
      by_cases hik : i < m.ps.length
      · obtain ⟨g, o, p, rfl, hpi, hpo, k0, k1, k2, k3, k4, k5, k6⟩ := (hp.out.ext hEw.out).at_ hik
        have hsu := encI_succ hpi
        have hcx : Ext wr ((wr.alloc (.cells #[.int .i64 p.id, .int .i64 p.st, .int .i64 p.lo, .int .i64 p.hi, .int .i64 p.fi, .int .i64 p.la, .int .i64 p.n] 40)).alloc (.cells #[.int .i64 p.id, .int .i64 p.st, .int .i64 p.lo, .int .i64 p.hi, .int .i64 p.fi, .int .i64 p.la] 3)) := ((Ext.refl wr).alloc _).alloc _
        have hpa := rall_any (some ⟨wr.heap.size + 1, 0, none⟩) 6 6 (pnums p) ((wr.alloc (.cells #[.int .i64 p.id, .int .i64 p.st, .int .i64 p.lo, .int .i64 p.hi, .int .i64 p.fi, .int .i64 p.la, .int .i64 p.n] 40)).alloc (.cells #[.int .i64 p.id, .int .i64 p.st, .int .i64 p.lo, .int .i64 p.hi, .int .i64 p.fi, .int .i64 p.la] 3)) rfl (.inr ⟨wr.heap.size + 1, 0, rfl, fun i v hv => by
          have hn := heap_alloc_new (wr.alloc (.cells #[.int .i64 p.id, .int .i64 p.st, .int .i64 p.lo, .int .i64 p.hi, .int .i64 p.fi, .int .i64 p.la, .int .i64 p.n] 40)) (.cells #[.int .i64 p.id, .int .i64 p.st, .int .i64 p.lo, .int .i64 p.hi, .int .i64 p.fi, .int .i64 p.la] 3)
          rw [show (wr.alloc (.cells #[.int .i64 p.id, .int .i64 p.st, .int .i64 p.lo, .int .i64 p.hi, .int .i64 p.fi, .int .i64 p.la, .int .i64 p.n] 40)).heap.size = wr.heap.size + 1 by simp] at hn
          rw [Nat.zero_add, cell_of_row _ _ _ _ _ _ hn]
          simpa [pnums] using hv⟩) (by omega) (pnums_ok hpo)
        have hvp := vall_len _ (pnums_ok hpo)
        rw [show (pnums p).length = 6 from rfl] at hvp
        have hgl : g < wr.heap.size := World.block_lt_of_cell? wr _ k0
        have hi0 : (0 : Int) ≤ i := by omega
        replace hpa := hide hpa
        replace hcx := hide hcx
        replace hsu := hide hsu
        clear hpi hpo
        go_wp2_with fail
        refine hpa.out.mono ?_
        rintro e w5 ⟨A5, c5, rfl, hb6, hE10⟩
        have hE11 := hE9.out.trans (hcx.out.trans hE10)
        have hb7 := hb5.out.ext (hcx.out.trans hE10)
        have hws5 := hE11.size
        go_wp2_with (at_builtin; refine wpList_buf elemB hb7 hb6.cells (.tmp 47) (.tmp 61) rfl rfl rfl rfl rfl (by rw [List.length_map]) (bytes_one _) (by omega) hws5 (fun A8 c8 w8 hb8 _ hE12 _ => ?_))
        go_roundw
        case rel => exact ⟨i + 1, A8, _, c8, by go_num, by omega, rfl, hide (by rw [hsu.out, List.length_append, ← hn4.out]), hide (by rw [hsu.out, List.map_append]; exact hb8), hide (hE12 w1 hE11 (Nat.le_refl _))⟩
        case measure => simp [intOf]; omega
      · obtain rfl : i = m.ps.length := by omega
        rw [encI_all] at hn4 hb5
        have hof := hide (of_any A4 n4 c4 (encB m) wr wr hb5.out.in8 (Ext.refl wr) (by omega))
        have hlt := cnext_lt 0 (encB m)
        have h4 := le4_B8 hlt
        have hl4 : (le4 (cnext 0 (encB m))).length = 4 := rfl
        have hfin : encM m = encB m ++ le4 (cnext 0 (encB m)) := rfl
        obtain ⟨z, hz⟩ : ∃ z, z = cnext 0 (encB m) := ⟨_, rfl⟩
        rw [← hz] at hof hlt h4 hl4 hfin
        replace h4 := hide h4
        replace hl4 := hide hl4
        replace hfin := hide hfin
        clear hz
        go_wp2_with fail
        refine hof.out.mono ?_
        rintro e w5 ⟨rfl, rfl⟩
        go_wp2_with (at_builtin; refine wpList_bufN elemB hb5.out (.tmp 65) (.tmp 77) rfl rfl rfl rfl (one_of rfl) (by simp only [List.length_cons, List.length_nil]; omega) hwsz (fun A8 c8 w8 hb8 hE12 => ?_))
        go_ret2
        have hlm : (encM m).length = n4 + 4 := by rw [hfin.out, List.length_append, ← hn4.out, hl4.out]
        have hmm : (encM m).map B8 = (encB m).map B8 ++ [.int .u8 ((z : Int) % 256), .int .u8 ((z : Int) / 256 % 256), .int .u8 ((z : Int) / 65536 % 256), .int .u8 ((z : Int) / 16777216)] := by rw [hfin.out, List.map_append, h4.out]
        refine ⟨hE2.out.trans (hE12 w1 hE9.out (Nat.le_refl _)), fun _ => ⟨A8, c8, by rw [hlm]; rfl, by rw [hmm, hlm]; exact hb8.lower hE2.out.size⟩, fun h => absurd hc'.out h⟩
  · have hcn : ((checkP m : Int) != 0) = true := by simp; omega
    obtain ⟨k, hk⟩ : ∃ k, k = checkP m := ⟨_, rfl⟩
    rw [← hk] at hck hcn
    replace hk := hide hk
    replace hrow := hide hrow
    replace hE0 := hide hE0
    clear hp h hin
    go_enter Tryd.func9, Tryd.ntmps9
    go_wp2_with fail
    refine (hck.out _ hE0.out).mono ?_
    rintro e w1 ⟨rfl, hE1⟩
    go_wp2_with fail
    go_ret2
    exact ⟨hE0.out.trans hE1, fun h => absurd h hc, fun _ => by rw [← hk.out]; rfl⟩
end Go.Proofs.YtijnomopcpgikaaDoor
