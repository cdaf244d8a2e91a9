/- Texts of one proof, joined. -/
import Derived.Test.YtkdcnhnaiknaaaaGreatFD07
import Derived.Test.YtkdcnhnaiknaaaaGreatFD04
import Derived.Lib.AppendZeros
import Derived.Test.YtkdcnhnaiknaaaaGreatFD03
import Derived.Deep.CutRange
import Derived.Deep.DeepCutAuto
import Derived.Test.YtkdcnhnaiknaaaaGreatFD06
import Derived.Test.YtkdcnhnaiknaaaaGreatFD02
import Derived.Test.YtkdcnhnaiknaaaaGreatFD01
set_option linter.unusedSimpArgs false
set_option linter.unusedVariables false
namespace Go.Proofs.YtkdcnhnaiknaaaaGreat
section
open Go.RowKit
def tabA (i : Nat) : Array Value := ((List.range 256).map fun k => if k < i then Value.int .u32 (c8 k : Nat) else .int .u32 0).toArray
theorem tabA_get {i k : Nat} (hk : k < 256) : (tabA i)[k]? = some (if k < i then Value.int .u32 (c8 k : Nat) else .int .u32 0) := by
  unfold tabA
  simp [hk]
theorem tabA_put {i : Nat} (hi : i < 256) : (tabA i).setIfInBounds i (.int .u32 (c8 i : Nat)) = tabA (i + 1) := by
  apply Array.ext_getElem?
  intro k
  rw [Array.getElem?_setIfInBounds]
  by_cases hk : k < 256
  · rw [tabA_get hk, tabA_get hk]
    have hs : i < (tabA i).size := by unfold tabA; simp; omega
    by_cases hik : i = k
    · subst hik
      rw [if_pos rfl, if_pos hs, if_pos (by omega)]
    · rw [if_neg hik]
      by_cases h1 : k < i
      · rw [if_pos h1, if_pos (by omega)]
      · rw [if_neg h1, if_neg (by omega)]
  · have h1 : (tabA i)[k]? = none := by unfold tabA; simp; omega
    have h2 : (tabA (i + 1))[k]? = none := by unfold tabA; simp; omega
    rw [h1, h2, if_neg (by omega)]
set_option maxRecDepth 100000 in
theorem tabA_zero : Tryz.zeroCells286 = tabA 0 := by kernel_rfl
theorem and_one {v : Nat} (h : v < 4294967296) : bits .and .u32 (v : Int) 1 = ((v % 2 : Nat) : Int) := by
  rw [show (1 : Int) = ((1 : Nat) : Int) from rfl, u32_and_nat _ _ h (by omega), Nat.and_one_is_mod]
set_option maxRecDepth 100000 in
set_option maxHeartbeats 2000000 in
theorem table_any (w : World) : Calls Tryz.prog 212 #[] w fun e w' => e = .returned (.pointer (some ⟨w.heap.size, 0, none⟩)) ∧ Row w' w.heap.size 286 (tabA 256) ∧ Ext w w' := by
  have hz : Row (w.alloc (.cells Tryz.zeroCells286 286)) w.heap.size 286 (tabA 0) := by rw [tabA_zero]; exact Row.new w _ _
  have hE0 : Ext w (w.alloc (.cells Tryz.zeroCells286 286)) := (Ext.refl w).alloc _
  replace hz := hide hz
  replace hE0 := hide hE0
  go_enter Tryz.func212, Tryz.ntmps212
  go_wp2_with fail
  go_loopw [2, 3, 4, 5] (fun _ _ _ s5 wr => ∃ (i : Nat), s5 = .int .i64 i ∧ i ≤ 256 ∧ Hid (Row wr w.heap.size 286 (tabA i)) ∧ Hid (Ext w wr)) (fun _ _ _ s5 _ => 256 - (intOf s5).toNat)
  case atStart => exact ⟨0, rfl, by omega, hz, hE0⟩
  case round =>
    obtain ⟨i, rfl, hi, hr, hE⟩ := hrel
    by_cases hin : i < 256
    · obtain ⟨z, hz8⟩ : ∃ z, z = c8 i := ⟨_, rfl⟩
      have hz9 := hide hz8
      rw [citer8] at hz8
      replace hz8 := hide hz8
      obtain ⟨wo, rfl⟩ : ∃ wo : World, wo = wr := ⟨_, rfl⟩
      go_wp2_with fail
      go_loop [3, 4, 10] (fun s3 _ s10 => ∃ (j v : Nat), s10 = .int .i64 j ∧ j ≤ 8 ∧ s3 = .int .u32 v ∧ v < 4294967296 ∧ Hid (z = citer (8 - j) v)) (fun _ _ s10 => 8 - (intOf s10).toNat)
      case atStart => exact ⟨0, i, rfl, by omega, by go_num, by omega, hz8⟩
      case round =>
        obtain ⟨j, v, rfl, hj, rfl, hv, hzv⟩ := hrel
        by_cases hj8 : j < 8
        · have hn := citer_step hzv.out hj8
          have hcl := cstep_lt hv
          have hand := and_one hv
          obtain ⟨q, hq⟩ : ∃ q, q = v % 2 := ⟨_, rfl⟩
          obtain ⟨d, hd⟩ : ∃ d, d = v / 2 := ⟨_, rfl⟩
          have hdv : (v : Int) / 2 = (d : Int) := by omega
          have hd32 : d < 4294967296 := by omega
          have hxp := xor_poly hd32
          rw [← hq] at hand
          rcases (show q = 0 ∨ q = 1 by omega) with rfl | rfl
          · rw [cstep_even hq.symm, ← hd] at hn
            replace hn := hide hn
            clear hq hd hzv hcl
            go_wp2_with fail
            go_round
            case rel => exact ⟨j + 1, d, by go_num, by omega, rfl, hd32, hn⟩
            case measure => simp [intOf]; omega
          · rw [cstep_odd hq.symm, ← hd] at hn hcl
            obtain ⟨y, hy⟩ : ∃ y, y = d ^^^ 3988292384 := ⟨_, rfl⟩
            rw [← hy] at hn hcl hxp
            replace hn := hide hn
            clear hq hd hzv hy
            go_wp2_with fail
            go_round
            case rel => exact ⟨j + 1, y, by go_num, by omega, rfl, hcl, hn⟩
            case measure => simp [intOf]; omega
        · have hn := citer_end hzv.out (by omega)
          have hcell := hr.out.cell i (tabA_get hin)
          have hfr := hr.out.free i
          have hlt := hr.out.lt
          rw [if_neg (by omega)] at hcell
          have hp := hr.out.put i (.int .u32 (v : Nat))
          rw [← hn, hz9.out, tabA_put hin] at hp
          have hn' := hide (hz9.out.symm.trans hn)
          replace hp := hide hp
          have hEs := hide (hE.out.setCell (p := ⟨w.heap.size, i, none⟩) (Nat.le_refl _) (.int .u32 ((c8 i : Nat) : Int)))
          clear hzv hn
          go_wp2_with fail
          go_roundw
          case rel => exact ⟨i + 1, by go_num, by omega, by rw [← hn'.out]; exact hp, by rw [← hn'.out]; exact hEs⟩
          case measure => simp [intOf]; omega
    · obtain rfl : i = 256 := by omega
      go_wp2_with fail
      go_ret
      exact ⟨rfl, hr.out, hE.out⟩
end
section
open Go.RowKit
theorem con_parts (v : Nat) (c : UInt8) : con v c = c8 ((v % 256) ^^^ c.toNat) ^^^ (v / 256) := by
  rw [con_table]
  congr 2
  have h := Nat.xor_mod_two_pow (a := v) (b := c.toNat) (n := 8)
  have hc := c.toNat_lt
  rw [show (2 : Nat) ^ 8 = 256 from rfl, Nat.mod_eq_of_lt (a := c.toNat) (by omega)] at h
  exact h
set_option maxRecDepth 100000 in
set_option maxHeartbeats 1000000 in
theorem next_any (A : Option Addr) (s n c : Nat) (l : List UInt8) (w0 w : World) (hb : In8 w0 A n c l) (hw : Ext w0 w) (hs : s < 4294967296) (hle : n ≤ 1000000000) :
    Calls Tryz.prog 184 #[.int .u32 s, .slice A n c] w fun e w' => e = .returned (.int .u32 (cnext s l : Nat)) ∧ Ext w w' := by
  have htab := hide (table_any w)
  have hnot := bits_not32 s hs
  have hcl : cnot s < 4294967296 := by unfold cnot; omega
  rw [show 4294967295 - s = cnot s from rfl] at hnot
  obtain ⟨y, hy⟩ : ∃ y, y = cnot s := ⟨_, rfl⟩
  rw [← hy] at hnot hcl
  have hr : cnext s l = 4294967295 - l.foldl con y := by unfold cnext; rw [← hy]; rfl
  replace hr := hide hr
  clear hy
  replace hb := hide hb
  go_enter Tryz.func184, Tryz.ntmps184
  go_wp2_with fail
  refine htab.out.mono ?_
  rintro e w1 ⟨rfl, hrow, hE1⟩
  replace hrow := hide hrow
  replace hE1 := hide hE1
  go_wp2_with fail
  go_loop [6, 8, 14] (fun s6 _ s14 => ∃ (i v : Nat), s14 = .int .i64 i ∧ i ≤ n ∧ s6 = .int .u32 v ∧ v < 4294967296 ∧ Hid (l.foldl con y = (l.drop i).foldl con v)) (fun _ _ s14 => n - (intOf s14).toNat)
  case atStart => exact ⟨0, y, rfl, by omega, rfl, hcl, rfl⟩
  case round =>
    obtain ⟨i, v, rfl, hi, rfl, hv, hf⟩ := hrel
    by_cases hin : i < n
    · have hil : i < l.length := by rw [← hb.out.len]; omega
      obtain ⟨g, o, rfl, hc⟩ := hb.out.bytes.at_ (by omega)
      have hcell := (hw.trans hE1.out).cell (hc i hil)
      have hn : l.foldl con y = (l.drop (i + 1)).foldl con (con v l[i]) := by rw [hf.out, List.drop_eq_getElem_cons hil]; rfl
      have hcl2 := con_lt l[i] hv
      have hcp := con_parts v l[i]
      obtain ⟨x, hx⟩ : ∃ x, x = l[i].toNat := ⟨_, rfl⟩
      have hx8 : x < 256 := by rw [hx]; exact l[i].toNat_lt
      rw [← hx] at hcell hcp
      obtain ⟨z, hz⟩ : ∃ z, z = con v l[i] := ⟨_, rfl⟩
      rw [← hz] at hn hcl2 hcp
      obtain ⟨m, hm⟩ : ∃ m, m = v % 256 := ⟨_, rfl⟩
      have hmv : (v : Int) % 256 = (m : Int) := by omega
      have hm8 : m < 256 := by omega
      have hx2 := u8_xor_nat m x hm8 hx8
      rw [← hm] at hcp
      have hk8 : m ^^^ x < 256 := Nat.xor_lt_two_pow (n := 8) hm8 hx8
      obtain ⟨k, hk⟩ : ∃ k, k = m ^^^ x := ⟨_, rfl⟩
      rw [← hk] at hcp hx2 hk8
      have htc := hrow.out.cell k (tabA_get hk8)
      rw [if_pos hk8] at htc
      obtain ⟨t, ht⟩ : ∃ t, t = c8 k := ⟨_, rfl⟩
      have ht32 : t < 4294967296 := by rw [ht]; exact c8_lt (by omega)
      rw [← ht] at htc hcp
      obtain ⟨d, hd⟩ : ∃ d, d = v / 256 := ⟨_, rfl⟩
      have hdv : (v : Int) / 256 = (d : Int) := by omega
      have hx3 := u32_xor_nat t d ht32 (by omega)
      rw [← hd] at hcp
      rw [← hcp] at hx3
      replace hn := hide hn
      clear hc hf hx hz hm hk ht hd hcp
      go_wp2_with fail
      go_round
      case rel => exact ⟨i + 1, z, by go_num, by omega, rfl, hcl2, hn⟩
      case measure => simp [intOf]; omega
    · have hf2 : l.foldl con y = v := by rw [hf.out, List.drop_of_length_le (by rw [← hb.out.len]; omega)]; rfl
      have hnv := bits_not32 v hv
      replace hf2 := hide hf2
      clear hf
      go_wp2_with fail
      go_ret
      exact ⟨ret_int (by rw [hr.out, hf2.out]), hE1.out⟩
def csum (s : Nat) (ls : List (List UInt8)) : Nat := ls.foldl cnext s
set_option maxRecDepth 100000 in
set_option maxHeartbeats 1000000 in
theorem sum_any (B : Option Addr) (k c2 : Nat) (ps : List (Option Addr × Nat × List UInt8)) (w : World) (hk : k = ps.length) (hB : Cells w B (ps.map fun p => .slice p.1 p.2.2.length p.2.1)) (hin : ∀ p ∈ ps, In8 w p.1 p.2.2.length p.2.1 p.2.2) (hle : ∀ p ∈ ps, p.2.2.length ≤ 1000000000) (hk9 : k ≤ 1000000) :
    Calls Tryz.prog 148 #[.slice B k c2] w fun e w' => e = .returned (.int .u32 (csum 0 (ps.map fun p => p.2.2) : Nat)) ∧ Ext w w' := by
  replace hk := hide hk
  replace hin := hide hin
  replace hle := hide hle
  go_enter Tryz.func148, Tryz.ntmps148
  go_wp2_with fail
  go_loopw [3, 5, 8] (fun s3 _ s8 wr => ∃ (i v : Nat), s8 = .int .i64 i ∧ i ≤ k ∧ s3 = .int .u32 v ∧ v < 4294967296 ∧ Hid (csum 0 (ps.map fun p => p.2.2) = csum v ((ps.drop i).map fun p => p.2.2)) ∧ Hid (Ext w wr)) (fun _ _ s8 _ => k - (intOf s8).toNat)
  case atStart => exact ⟨0, 0, rfl, by omega, rfl, by omega, hide rfl, hide (Ext.refl w)⟩
  case round =>
    obtain ⟨i, v, rfl, hi, rfl, hv, hf, hE⟩ := hrel
    by_cases hik : i < k
    · have hil : i < ps.length := by rw [← hk.out]; omega
      obtain ⟨g, o, rfl, hc⟩ := hB.at_ (by rw [List.length_map]; omega)
      have hcell := hE.out.cell (hc i _ (by rw [List.getElem?_map, List.getElem?_eq_getElem hil]; rfl))
      have hn : csum 0 (ps.map fun p => p.2.2) = csum (cnext v ps[i].2.2) ((ps.drop (i + 1)).map fun p => p.2.2) := by rw [hf.out, List.drop_eq_getElem_cons hil]; rfl
      have hnx := next_any ps[i].1 v ps[i].2.2.length ps[i].2.1 ps[i].2.2 w wr (hin.out _ (List.getElem_mem hil)) hE.out hv (hle.out _ (List.getElem_mem hil))
      have hcl := cnext_lt v ps[i].2.2
      obtain ⟨p, hp⟩ : ∃ p, p = ps[i] := ⟨_, rfl⟩
      rw [← hp] at hcell hn hnx hcl
      obtain ⟨z, hz⟩ : ∃ z, z = cnext v p.2.2 := ⟨_, rfl⟩
      rw [← hz] at hn hnx hcl
      replace hn := hide hn
      replace hnx := hide hnx
      clear hp hc hf hz
      go_wp2_with fail
      refine hnx.out.mono ?_
      rintro e w1 ⟨rfl, hE1⟩
      go_wp2_with fail
      go_roundw
      case rel => exact ⟨i + 1, z, by go_num, by omega, rfl, hcl, hn, hide (hE.out.trans hE1)⟩
      case measure => simp [intOf]; omega
    · have hf2 : csum 0 (ps.map fun p => p.2.2) = v := by rw [hf.out, List.drop_of_length_le (by rw [← hk.out]; omega)]; rfl
      replace hf2 := hide hf2
      clear hf
      go_wp2_with fail
      go_ret
      exact ⟨by rw [hf2.out]; rfl, hE.out⟩
end
section
open Go.RowKit
set_option maxRecDepth 100000 in
set_option maxHeartbeats 1000000 in
theorem grow_any (n : Nat) (w : World) (hn : n ≤ 1000000000) : Calls Tryz.prog 185 #[.slice none 0 0, .int .i64 n] w fun e w' => ∃ A c, e = .returned (.slice A 0 c) ∧ Buf w' w.heap.size 5 A 0 c [] ∧ Ext w w' := by
  have hn0 : ¬ (n : Int) < 0 := by omega
  rcases Nat.eq_zero_or_pos n with rfl | hpos
  · go_enter Tryz.func185, Tryz.ntmps185
    go_wp2_with fail
    go_ret
    exact ⟨none, 0, rfl, Buf.nil _ _ _, Ext.refl w⟩
  · have hpos' : (0 : Int) < n := by omega
    obtain ⟨i, z, hi, hz, h3, h4, h5⟩ := elemB.hi
    have hrun := fun W ty => Lib.run_append_nil_zeros (P := Tryz.prog) W 25 3 ty 5 i z .i64 .i64 Tryz.underlying25 Tryz.underlying3 hi hz n hpos (by omega) (by omega) (by rw [h4]; omega)
    have hge := grownCap_ge w n 0 5
    obtain ⟨cur, hcur⟩ : ∃ cur, cur = Builtin.zeroCells z.cells n ++ Builtin.zeroCells z.cells (grownCap w n 0 5 - n) := ⟨_, rfl⟩
    have hcs : cur.size = grownCap w n 0 5 := by rw [hcur, Array.size_append, size_zeroCells, size_zeroCells, h5]; omega
    have hh0 := fun W => run_head1 (n := 0) (c := 0) (k := 0) (A := none) (Nat.le_refl _) nofun W
    have hh1 := fun W => run_head1 (n := n) (c := grownCap w n 0 5) (k := 0) (A := some ⟨w.heap.size, 0, none⟩) (by omega) (fun a ha => by cases ha; rfl) W
    obtain ⟨C, hC⟩ : ∃ C, C = grownCap w n 0 5 := ⟨_, rfl⟩
    rw [← hC] at hge hh1
    have hrun1 := fun ty => hrun w ty
    rw [← hcur, ← hC] at hrun1
    rw [← hC] at hcs
    replace hrun1 := hide hrun1
    clear hrun hC hcur h5 h4 h3 hz hi
    go_enter Tryz.func185, Tryz.ntmps185
    go_wp2_with (at_builtin; refine Lib.wpList_append_run _ rfl (.tmp 20) (.tmp 21) 25 3 rfl (.slice none 0 0) (.int .i64 n) rfl rfl _ _ (hrun1.out _) ?_)
    go_ret
    refine ⟨some ⟨w.heap.size, 0, none⟩, C, rfl, ⟨rfl, Nat.zero_le _, .inr ⟨w.heap.size, cur, rfl, Nat.le_refl _, heap_alloc_new w _, by omega, by simp⟩⟩, ?_⟩
    exact ((Ext.refl w).alloc _).drew
def catL (ps : List (Option Addr × Nat × List UInt8)) : List UInt8 := ps.flatMap fun p => p.2.2
theorem catL_take {ps : List (Option Addr × Nat × List UInt8)} {i : Nat} (h : i < ps.length) : catL (ps.take (i + 1)) = catL (ps.take i) ++ ps[i].2.2 := by
  unfold catL
  rw [List.take_succ_eq_append_getElem h, List.flatMap_append]
  simp
theorem catL_take_len (ps : List (Option Addr × Nat × List UInt8)) (i : Nat) : (catL (ps.take i)).length ≤ (catL ps).length := by
  have h : catL ps = catL (ps.take i) ++ catL (ps.drop i) := by
    unfold catL
    rw [← List.flatMap_append, List.take_append_drop]
  rw [h, List.length_append]
  omega
set_option maxRecDepth 100000 in
set_option maxHeartbeats 2000000 in
theorem concat_any (B : Option Addr) (k c2 : Nat) (ps : List (Option Addr × Nat × List UInt8)) (w : World) (hk : k = ps.length) (hB : Cells w B (ps.map fun p => .slice p.1 p.2.2.length p.2.1)) (hin : ∀ p ∈ ps, In8 w p.1 p.2.2.length p.2.1 p.2.2) (hle : (catL ps).length ≤ 1000000000) (hk9 : k ≤ 1000000) :
    Calls Tryz.prog 149 #[.slice B k c2] w fun e w' => NewB w (catL ps) e w' := by
  have hctl := catL_take_len ps
  obtain ⟨T, hT⟩ : ∃ T, T = (catL ps).length := ⟨_, rfl⟩
  rw [← hT] at hle hctl
  replace hk := hide hk
  replace hin := hide hin
  replace hctl := hide hctl
  replace hT := hide hT
  go_enter Tryz.func149, Tryz.ntmps149
  go_wp2_with fail
  go_loopw [3, 5, 11] (fun s3 _ s11 wr => ∃ (i v : Nat), s11 = .int .i64 (i : Int) ∧ i ≤ k ∧ s3 = .int .i64 (v : Int) ∧ v ≤ T ∧ Hid (v = (catL (ps.take i)).length) ∧ wr = w) (fun _ _ s11 _ => k - (intOf s11).toNat)
  case atStart => exact ⟨0, 0, rfl, by omega, rfl, by omega, hide (by simp [catL]), rfl⟩
  case round =>
    obtain ⟨i, v, rfl, hi, rfl, hv, hvl, rfl⟩ := hrel
    by_cases hik : i < k
    · have hil : i < ps.length := by rw [← hk.out]; omega
      obtain ⟨g, o, rfl, hc⟩ := hB.at_ (by rw [List.length_map]; omega)
      have hcell := hc i _ (by rw [List.getElem?_map, List.getElem?_eq_getElem hil]; rfl)
      have htk := catL_take hil
      have htl := hctl.out (i + 1)
      obtain ⟨p, hp⟩ : ∃ p, p = ps[i] := ⟨_, rfl⟩
      rw [← hp] at hcell htk
      have hvn : v + p.2.2.length = (catL (ps.take (i + 1))).length := by rw [htk, List.length_append, hvl.out]
      have hvT : v + p.2.2.length ≤ T := by omega
      have hnn : ¬ ((v : Int) + (p.2.2.length : Int)) < 0 := by omega
      have hi0 : (0 : Int) ≤ i := by omega
      have hi1 : (i : Int) < k := by omega
      replace hvn := hide hvn
      clear hp hc htk htl
      go_wp2_with fail
      go_roundw
      case rel => exact ⟨i + 1, v + p.2.2.length, by go_num, by omega, by go_num, hvT, hvn, trivial⟩
      case measure => simp [intOf]; omega
    · have hall : ps.take i = ps := List.take_of_length_le (by rw [← hk.out]; omega)
      have hgr := hide (grow_any v wr (by omega))
      rw [hall] at hvl
      go_wp2_with fail
      refine hgr.out.mono ?_
      rintro e w1 ⟨A1, c1, rfl, hb1, hE1⟩
      replace hb1 := hide hb1
      obtain ⟨wo, hwo⟩ : ∃ wo, wo = wr := ⟨_, rfl⟩
      rw [← hwo] at hE1 hB hin hb1
      have hgoal : ∀ e w', NewB wo (catL ps) e w' → NewB wr (catL ps) e w' := fun e w' h => by rw [← hwo]; exact h
      replace hgoal := hide hgoal
      replace hwo := hide hwo
      go_wp2_with fail
      go_loopw [6, 8, 27] (fun s6 _ s27 wz => ∃ (i n4 c4 : Nat) (A4 : Option Addr), s27 = .int .i64 (i : Int) ∧ i ≤ k ∧ s6 = .slice A4 n4 c4 ∧ n4 ≤ T ∧ Hid (n4 = (catL (ps.take i)).length) ∧ Hid (Buf wz wo.heap.size 5 A4 n4 c4 ((catL (ps.take i)).map B8)) ∧ Hid (Ext wo wz)) (fun _ _ s27 _ => k - (intOf s27).toNat)
      case atStart => exact ⟨0, 0, c1, A1, rfl, by omega, rfl, by omega, hide (by simp [catL]), hide (by simpa [catL] using hb1.out), hide hE1⟩
      case round =>
        obtain ⟨j, n4, c4, A4, rfl, hj, rfl, hn4, hnl, hb4, hE⟩ := hrel
        by_cases hjk : j < k
        · have hil : j < ps.length := by rw [← hk.out]; omega
          obtain ⟨g, o, rfl, hc⟩ := hB.at_ (by rw [List.length_map]; omega)
          have hcell := hE.out.cell (hc j _ (by rw [List.getElem?_map, List.getElem?_eq_getElem hil]; rfl))
          have htk := catL_take hil
          have htl := hctl.out (j + 1)
          have hpin := (hin.out _ (List.getElem_mem hil)).ext hE.out
          obtain ⟨p, hp⟩ : ∃ p, p = ps[j] := ⟨_, rfl⟩
          rw [← hp] at hcell htk hpin
          have hvn : n4 + p.2.2.length = (catL (ps.take (j + 1))).length := by rw [htk, List.length_append, hnl.out]
          have hvT : n4 + p.2.2.length ≤ T := by omega
          have hmap : (catL (ps.take (j + 1))).map B8 = (catL (ps.take j)).map B8 ++ p.2.2.map B8 := by rw [htk, List.map_append]
          have hi0 : (0 : Int) ≤ j := by omega
          have hi1 : (j : Int) < k := by omega
          have hszr : wo.heap.size ≤ (‹World›).heap.size := hE.out.size
          replace hvn := hide hvn
          replace hmap := hide hmap
          clear hp hc htk htl
          go_wp2_with (at_builtin; refine wpList_buf elemB hb4.out hpin.bytes (.tmp 31) (.tmp 32) rfl rfl rfl rfl rfl (by rw [List.length_map]) (fun u hu => by obtain ⟨x, _, rfl⟩ := List.mem_map.1 hu; rfl) (by omega) hszr (fun A5 c5 w5 hb5 hg5 hE5 _ => ?_))
          refine ⟨⟨j + 1, n4 + p.2.2.length, c5, A5, by go_num, by omega, rfl, hvT, hvn, hide (by rw [hmap.out]; exact hb5), hide (hE5 _ hE.out (Nat.le_refl _))⟩, ?_⟩
          simp [intOf]
          omega
        · have hall : ps.take j = ps := List.take_of_length_le (by rw [← hk.out]; omega)
          rw [hall] at hnl hb4
          have hfin : ∀ wz, Ext wo wz → Buf wz wo.heap.size 5 A4 n4 c4 ((catL ps).map B8) → NewB wo (catL ps) (.returned (.slice A4 n4 c4)) wz := fun wz h1 h2 => ⟨A4, c4, by rw [← hnl.out], by rw [← hnl.out]; exact h2, h1⟩
          replace hfin := hide hfin
          go_wp2_with fail
          go_ret
          exact hgoal.out _ _ (hfin.out _ hE.out hb4.out)
end
section
open Go.RowKit
def be4 (s : Nat) : List UInt8 := [UInt8.ofNat (s / 16777216 % 256), UInt8.ofNat (s / 65536 % 256), UInt8.ofNat (s / 256 % 256), UInt8.ofNat (s % 256)]
def be (l : List UInt8) : Nat := l.foldl (fun s x => s * 256 + x.toNat) 0
theorem be_be4 {s : Nat} (h : s < 4294967296) : be (be4 s) = s := by
  have h1 : ∀ k, (UInt8.ofNat (k % 256)).toNat = k % 256 := fun k => by rw [UInt8.toNat_ofNat']; omega
  unfold be be4
  simp only [List.foldl_cons, List.foldl_nil, h1]
  omega
theorem cnot_cnot {x : Nat} (h : x < 4294967296) : cnot (cnot x) = x := by unfold cnot; omega
theorem cnext_app (a b : List UInt8) : cnext (cnext 0 a) b = cnext 0 (a ++ b) := by
  unfold cnext
  rw [cnot_cnot (fold_lt a (by unfold cnot; omega)), List.foldl_append]
def frameL (p : List UInt8) : List UInt8 := vb p.length ++ be4 (cnext 0 (vb p.length ++ p)) ++ p
def getF (l : List UInt8) : Except Nat (List UInt8 × List UInt8) := match getV 0 l with
  | .error k => if k = 6 then .error 41 else .error 40
  | .ok (n, r) => if 16777216 < n then .error 40 else if r.length < 4 + n then .error 41 else
    if cnext 0 (l.take (l.length - r.length) ++ (r.drop 4).take n) = be (r.take 4) then .ok ((r.drop 4).take n, r.drop (4 + n)) else .error 40
theorem getF_put {p : List UInt8} (h : p.length ≤ 16777216) (r : List UInt8) : getF (frameL p ++ r) = .ok (p, r) := by
  have hb4 : ∀ s, (be4 s).length = 4 := fun _ => rfl
  unfold getF frameL
  rw [List.append_assoc, List.append_assoc, getV_put (by omega)]
  simp only
  rw [if_neg (by omega), if_neg (by rw [List.length_append, List.length_append, hb4]; omega)]
  obtain ⟨B, hB⟩ : ∃ B, B = be4 (cnext 0 (vb p.length ++ p)) := ⟨_, rfl⟩
  have hBl : B.length = 4 := by rw [hB]; rfl
  have hBv : be B = cnext 0 (vb p.length ++ p) := by rw [hB]; exact be_be4 (cnext_lt _ _)
  rw [← hB]
  have e1 : (vb p.length ++ (B ++ (p ++ r))).length - (B ++ (p ++ r)).length = (vb p.length).length := by rw [List.length_append]; omega
  have e2 : (B ++ (p ++ r)).drop 4 = p ++ r := List.drop_left' hBl
  have e3 : (B ++ (p ++ r)).take 4 = B := List.take_left' hBl
  have e4 : (B ++ (p ++ r)).drop (4 + p.length) = r := by rw [← List.drop_drop, e2]; exact List.drop_left' rfl
  rw [e1, e2, e3, e4, List.take_left' rfl, List.take_left' rfl, hBv, if_pos rfl]
theorem getV_other : ∀ (l : List UInt8) (i n : Nat) (r r' : List UInt8), getV i l = .ok (n, r) → ∃ p, l = p ++ r ∧ getV i (p ++ r') = .ok (n, r')
  | [], i, n, r, r', h => by unfold getV at h; cases h
  | x :: l, i, n, r, r', h => by
    unfold getV at h
    split at h
    · cases h
    · rename_i h1
      split at h
      · cases h
      · rename_i h2
        split at h
        · rename_i h3
          injection h with h
          injection h with e1 e2
          refine ⟨[x], by rw [← e2]; rfl, ?_⟩
          show getV i (x :: r') = _
          unfold getV
          rw [if_neg h1, if_neg h2, if_pos h3, e1]
        · rename_i h3
          split at h
          · rename_i m r1 hg
            injection h with h
            injection h with e1 e2
            obtain ⟨p, hp, hq⟩ := getV_other l (i + 1) m r1 r' hg
            refine ⟨x :: p, by rw [hp, ← e2]; rfl, ?_⟩
            show getV i (x :: (p ++ r')) = _
            unfold getV
            rw [if_neg h1, if_neg h2, if_neg h3, hq]
            simp only
            rw [e1]
          · cases h
theorem getF_other {l p r : List UInt8} (h : getF l = .ok (p, r)) (r' : List UInt8) : ∃ f, l = f ++ r ∧ f ≠ [] ∧ getF (f ++ r') = .ok (p, r') := by
  unfold getF at h
  split at h
  · split at h <;> cases h
  · rename_i n r0 hg
    split at h
    · cases h
    · rename_i h1
      split at h
      · cases h
      · rename_i h2
        split at h
        · rename_i h3
          injection h with h
          injection h with e1 e2
          obtain ⟨v, hv, hq⟩ := getV_other l 0 n r0 (r0.take (4 + n) ++ r') hg
          have hvn : v ≠ [] := by
            obtain ⟨_, _, q, hq2, hqn⟩ := getV_lt l 0 n r0 hg
            rw [hv] at hq2
            rw [List.append_cancel_right hq2]
            exact hqn
          refine ⟨v ++ r0.take (4 + n), by rw [hv, ← e2, List.append_assoc, List.take_append_drop], by simp [hvn], ?_⟩
          unfold getF
          rw [List.append_assoc, hq]
          simp only
          have hl4 : (r0.take (4 + n)).length = 4 + n := by rw [List.length_take]; omega
          rw [if_neg h1, if_neg (by rw [List.length_append, hl4]; omega)]
          have e3 : (v ++ (r0.take (4 + n) ++ r')).length - (r0.take (4 + n) ++ r').length = v.length := by rw [List.length_append]; omega
          have e4 : l.length - r0.length = v.length := by rw [hv, List.length_append]; omega
          have e5 : ((r0.take (4 + n) ++ r').drop 4).take n = (r0.drop 4).take n := by
            rw [List.drop_append_of_le_length (by omega), List.take_append_of_le_length (by rw [List.length_drop]; omega), List.drop_take, List.take_take]
            congr 1
            omega
          have e6 : (r0.take (4 + n) ++ r').take 4 = r0.take 4 := by
            rw [List.take_append_of_le_length (by omega), List.take_take]
            congr 1
            omega
          have e7 : (r0.take (4 + n) ++ r').drop (4 + n) = r' := List.drop_left' hl4
          rw [e4, hv, List.take_left' rfl] at h3
          rw [e3, List.take_left' rfl, e5, e6, e7, if_pos h3, e1]
        · cases h
theorem getF_less {l p r : List UInt8} (h : getF l = .ok (p, r)) : r.length < l.length ∧ p.length ≤ 16777216 ∧ p.length ≤ l.length := by
  obtain ⟨f, hf, hne, _⟩ := getF_other h []
  have hpos := List.length_pos_iff.2 hne
  refine ⟨by rw [hf, List.length_append]; omega, ?_⟩
  unfold getF at h
  split at h
  · split at h <;> cases h
  · rename_i n r0 hg
    obtain ⟨_, _, q, hq, _⟩ := getV_lt l 0 n r0 hg
    split at h
    · cases h
    · split at h
      · cases h
      · split at h
        · injection h with h
          injection h with e1 e2
          rw [← e1, List.length_take, List.length_drop, hq, List.length_append]
          omega
        · cases h
theorem getF_code {l : List UInt8} {k : Nat} (h : getF l = .error k) : k = 40 ∨ k = 41 := by
  unfold getF at h
  split at h
  · split at h <;> (injection h with h; omega)
  · split at h
    · injection h with h; omega
    · split at h
      · injection h with h; omega
      · split at h
        · cases h
        · injection h with h; omega
end
section
open Go.RowKit
theorem u8_mod (k : Nat) : B8 (UInt8.ofNat (k % 256)) = .int .u8 ((k % 256 : Nat) : Int) := by
  unfold B8
  rw [UInt8.toNat_ofNat']
  congr 2
  omega
theorem be4_B8 {s : Nat} (h : s < 4294967296) : [.int .u8 ((s : Int) / 16777216), .int .u8 ((s : Int) / 65536 % 256), .int .u8 ((s : Int) / 256 % 256), .int .u8 ((s : Int) % 256)] = (be4 s).map B8 := by
  unfold be4
  rw [List.map_cons, List.map_cons, List.map_cons, List.map_cons, List.map_nil, u8_mod, u8_mod, u8_mod, u8_mod]
  congr 2
  · omega
theorem wrap_u64' {m : Nat} (h : m < 18446744073709551616) : IntKind.u64.wrap (m : Int) = (m : Int) := by
  simp [IntKind.wrap, IntKind.bits, IntKind.signed]
  omega
def PutP (w : World) (l : List UInt8) (e : Ending) (w' : World) : Prop := ∃ A c, e = .returned (.tuple #[.slice A l.length c, .int .i64 0]) ∧ Buf w' w.heap.size 5 A l.length c (l.map B8) ∧ Ext w w'
set_option maxRecDepth 100000 in
set_option maxHeartbeats 2000000 in
theorem fput_any (A : Option Addr) (n c : Nat) (l : List UInt8) (B : Option Addr) (m d : Nat) (p : List UInt8) (w : World) (hl : In8 w A n c l) (hp : In8 w B m d p) (hn : n ≤ 900000000) (hm : m ≤ 16777216) :
    Calls Tryz.prog 87 #[.slice A n c, .slice B m d] w fun e w' => PutP w (l ++ frameL p) e w' := by
  have hpt := hide (put_any none 0 0 m [] w rfl (.inl rfl) (fun _ => rfl) (by omega) (by omega))
  have hml := hp.len
  have hnl := hl.len
  have h10 := vb_len10 (n := m) (by omega)
  have hwm := wrap_u64' (m := m) (by omega)
  have hm' : ¬ (16777216 : Int) < m := by omega
  obtain ⟨V, hV⟩ : ∃ V, V = vb m := ⟨_, rfl⟩
  rw [List.nil_append, ← hV] at hpt
  rw [← hV] at h10
  have hfr : l ++ frameL p = l ++ (V ++ (be4 (cnext 0 (V ++ p)) ++ p)) := by unfold frameL; rw [← hml, ← hV, List.append_assoc]
  have hlt := cnext_lt 0 (V ++ p)
  have hcs : csum 0 [V, p] = cnext 0 (V ++ p) := cnext_app V p
  obtain ⟨s, hs⟩ : ∃ s, s = cnext 0 (V ++ p) := ⟨_, rfl⟩
  rw [← hs] at hfr hlt hcs
  rw [hfr]
  obtain ⟨R, hR⟩ : ∃ R, R = l ++ (V ++ (be4 s ++ p)) := ⟨_, rfl⟩
  rw [← hR]
  replace hR := hide hR
  have hb4 := be4_B8 hlt
  replace hml := hide hml
  replace hnl := hide hnl
  replace hV := hide hV
  clear hs hfr
  go_enter Tryz.func87, Tryz.ntmps87
  go_wp2_with fail
  refine hpt.out.mono ?_
  rintro e w1 ⟨A1, c1, rfl, hb1, hE1⟩
  have hin1 := hb1.in8
  obtain ⟨w2, hw2⟩ : ∃ w2, w2 = w1.alloc (.cells #[.slice A1 V.length c1, .slice B m d] 25) := ⟨_, rfl⟩
  have hE2 : Ext w1 w2 := by rw [hw2]; exact (Ext.refl w1).alloc _
  have hr2 : Row w2 w1.heap.size 25 #[.slice A1 V.length c1, .slice B m d] := by rw [hw2]; exact Row.new w1 _ _
  have hsm := sum_any (some ⟨w1.heap.size, 0, none⟩) 2 2 [(A1, c1, V), (B, d, p)] w2 rfl (.inr ⟨w1.heap.size, 0, rfl, fun i v hv => by
      rw [Nat.zero_add]
      exact hr2.cell i (by rw [hml.out]; simpa using hv)⟩) (fun q hq => by
      rcases List.mem_cons.1 hq with rfl | hq
      · exact hin1.ext hE2
      · rw [List.mem_singleton.1 hq]
        have := (hp.ext hE1).ext hE2
        rw [hml.out] at this
        exact this) (fun q hq => by
      rcases List.mem_cons.1 hq with rfl | hq
      · simp only; omega
      · rw [List.mem_singleton.1 hq]; simp only; have := hml.out; omega) (by omega)
  rw [show ([(A1, c1, V), (B, d, p)].map fun p : Option Addr × Nat × List UInt8 => p.2.2) = [V, p] from rfl, hcs] at hsm
  replace hsm := hide hsm
  replace hw2 := hide hw2
  replace hb4 := hide hb4
  replace hin1 := hide hin1
  clear hb1 hcs hr2
  go_wp2_with fail
  rw [← hw2.out]
  refine hsm.out.mono ?_
  rintro e w3 ⟨rfl, hE3⟩
  go_wp2_with fail
  obtain ⟨g, hg⟩ : ∃ g, g = w3.heap.size := ⟨_, rfl⟩
  obtain ⟨w4, hw4⟩ : ∃ w4, w4 = w3.alloc (.cells #[.int .u8 ((s : Int) / 16777216), .int .u8 ((s : Int) / 65536 % 256), .int .u8 ((s : Int) / 256 % 256), .int .u8 ((s : Int) % 256)] 5) := ⟨_, rfl⟩
  have hE4 : Ext w3 w4 := by rw [hw4]; exact (Ext.refl w3).alloc _
  have hb : Buf w4 g 5 (some ⟨g, 0, none⟩) 4 4 ((be4 s).map B8) := by
    have h := buf_new w3 [.int .u8 ((s : Int) / 16777216), .int .u8 ((s : Int) / 65536 % 256), .int .u8 ((s : Int) / 256 % 256), .int .u8 ((s : Int) % 256)] 5 (by simp)
    rw [hw4, hg, ← hb4.out]
    exact h
  have hs4 : w4.heap.size = g + 1 := by rw [hw4, hg]; simp
  obtain ⟨w5, hw5⟩ : ∃ w5, w5 = w4.alloc (.cells #[.slice A n c, .slice A1 V.length c1, .slice (some ⟨g, 0, none⟩) 4 4, .slice B m d] 25) := ⟨_, rfl⟩
  have hE5 : Ext w4 w5 := by rw [hw5]; exact (Ext.refl w4).alloc _
  have hr5 : Row w5 (g + 1) 25 #[.slice A n c, .slice A1 V.length c1, .slice (some ⟨g, 0, none⟩) 4 4, .slice B m d] := by rw [hw5, ← hs4]; exact Row.new w4 _ _
  have hEw3 := ((hE1.trans hE2).trans hE3)
  have hcc := concat_any (some ⟨g + 1, 0, none⟩) 4 4 [(A, c, l), (A1, c1, V), (some ⟨g, 0, none⟩, 4, be4 s), (B, d, p)] w5 rfl (.inr ⟨g + 1, 0, rfl, fun i v hv => by
      rw [Nat.zero_add]
      refine hr5.cell i ?_
      have e4 : (be4 s).length = 4 := rfl
      rw [hml.out, hnl.out]
      simpa [e4] using hv⟩) (fun q hq => by
      have e4 : (be4 s).length = 4 := rfl
      simp only [List.mem_cons, List.not_mem_nil, or_false] at hq
      rcases hq with rfl | rfl | rfl | rfl
      · have := (hl.ext hEw3).ext (hE4.trans hE5)
        rw [hnl.out] at this
        exact this
      · exact hin1.out.ext ((hE2.trans hE3).trans (hE4.trans hE5))
      · exact hb.in8.ext hE5
      · have := (hp.ext hEw3).ext (hE4.trans hE5)
        rw [hml.out] at this
        exact this) (by
      have e4 : (be4 s).length = 4 := rfl
      unfold catL
      simp only [List.flatMap_cons, List.flatMap_nil, List.length_append, List.length_nil, e4]
      have := hml.out
      have := hnl.out
      omega) (by omega)
  have hcat : catL [(A, c, l), (A1, c1, V), (some ⟨g, 0, none⟩, 4, be4 s), (B, d, p)] = l ++ (V ++ (be4 s ++ p)) := by unfold catL; simp
  rw [hcat] at hcc
  rw [← hR.out] at hcc
  have hE05 := hEw3.trans (hE4.trans hE5)
  rw [hw5, hw4, hg] at hcc hE05
  replace hE05 := hide hE05
  refine hcc.mono ?_
  rintro e w6 ⟨A6, c6, rfl, hb6, hE6⟩
  replace hb6 := hide (hb6.lower hE05.out.size)
  have hE06 := hide (hE05.out.trans hE6)
  clear hE6 hcc hcat hw4 hw5 hs4 hg hr5 hb
  go_wp2_with fail
  go_ret2
  exact ⟨A6, c6, rfl, hb6.out, hE06.out⟩
end
section
open Go.RowKit
def joinL (ps : List (List UInt8)) : List UInt8 := ps.flatMap frameL
theorem frameL_len {p : List UInt8} (h : p.length ≤ 16777216) : (frameL p).length ≤ p.length + 20 := by
  have h1 := vb_len10 (n := p.length) (by omega)
  have h2 : (be4 (cnext 0 (vb p.length ++ p))).length = 4 := rfl
  unfold frameL
  rw [List.length_append, List.length_append, h2]
  omega
theorem joinL_len : ∀ {ps : List (List UInt8)}, (∀ p ∈ ps, p.length ≤ 16777216) → (joinL ps).length ≤ 16777236 * ps.length
  | [], _ => by simp [joinL]
  | p :: ps, h => by
    have h1 := frameL_len (h p (List.mem_cons_self ..))
    have h2 := joinL_len (ps := ps) fun q hq => h q (List.mem_cons_of_mem _ hq)
    have h3 := h p (List.mem_cons_self ..)
    show (frameL p ++ joinL ps).length ≤ _
    rw [List.length_append, List.length_cons]
    omega
theorem joinL_snoc {ps : List (List UInt8)} {i : Nat} {p : List UInt8} (h : ps[i]? = some p) : joinL (ps.take (i + 1)) = joinL (ps.take i) ++ frameL p := by
  unfold joinL
  rw [List.take_add_one, h, List.flatMap_append]
  simp
def OkB' (w : World) (l : List UInt8) (e : Ending) (w' : World) : Prop := ∃ A c, e = .returned (.tuple #[.slice A l.length c, .int .i64 0]) ∧ Own8 w' w.heap.size A l.length c l ∧ Ext w w'
set_option maxRecDepth 100000 in
set_option maxHeartbeats 1000000 in
theorem fjoin_any (B : Option Addr) (k c2 : Nat) (ps : List (Option Addr × Nat × List UInt8)) (w : World) (hk : k = ps.length) (hB : Cells w B (ps.map fun p => .slice p.1 p.2.2.length p.2.1)) (hin : ∀ p ∈ ps, In8 w p.1 p.2.2.length p.2.1 p.2.2 ∧ p.2.2.length ≤ 16777216) (hk9 : k ≤ 50) :
    Calls Tryz.prog 43 #[.slice B k c2] w fun e w' => OkB' w (joinL (ps.map (·.2.2))) e w' := by
  have hput := hide (fun A n c l B m d p W h1 h2 h3 h4 => fput_any A n c l B m d p W h1 h2 h3 h4)
  obtain ⟨P, hP⟩ : ∃ P, P = ps.map (·.2.2) := ⟨_, rfl⟩
  rw [← hP]
  have hPs : ∀ p ∈ P, p.length ≤ 16777216 := fun p hp => by
    rw [hP] at hp
    obtain ⟨q, hq, rfl⟩ := List.mem_map.1 hp
    exact (hin q hq).2
  have hPl : P.length = k := by rw [hP, List.length_map, hk]
  replace hk := hide hk
  replace hB := hide hB
  replace hin := hide hin
  replace hP := hide hP
  replace hPs := hide hPs
  replace hPl := hide hPl
  go_enter Tryz.func43, Tryz.ntmps43
  go_wp2_with fail
  go_loopw [4, 11] (fun s4 s11 wr => ∃ (i n c : Nat) (A : Option Addr), s4 = .slice A n c ∧ s11 = .int .i64 (i : Int) ∧ i ≤ k ∧ n ≤ 16777236 * i ∧ Hid (Own8 wr w.heap.size A n c (joinL (P.take i))) ∧ Hid (Ext w wr)) (fun _ s11 _ => k - (intOf s11).toNat)
  case atStart => exact ⟨0, 0, 0, none, rfl, rfl, by omega, by omega, hide ⟨rfl, Buf.nil _ _ _⟩, hide (Ext.refl w)⟩
  case round =>
    obtain ⟨i, n, c, A, rfl, rfl, hi, hn, ho, hE⟩ := hrel
    by_cases hik : i < k
    · obtain ⟨x, hx⟩ : ∃ x, ps[i]? = some x := ⟨_, List.getElem?_eq_getElem (by rw [← hk.out]; exact hik)⟩
      obtain ⟨g, o, hA, hcl⟩ := hB.out.at_ (by rw [List.length_map, ← hk.out]; omega)
      subst hA
      have hld := hE.out.cell (hcl i _ (by rw [List.getElem?_map, hx]; rfl))
      have hxi := hin.out x (List.mem_of_getElem? hx)
      have hPx : P[i]? = some x.2.2 := by rw [hP.out, List.getElem?_map, hx]; rfl
      have hsn := joinL_snoc hPx
      obtain ⟨XA, xc, xl⟩ := x
      simp only at hld hxi hsn
      have hfl := frameL_len hxi.2
      have hjl := joinL_len (ps := P.take (i + 1)) fun p hp => hPs.out p (List.mem_of_mem_take hp)
      have htl : (P.take (i + 1)).length = i + 1 := by rw [List.length_take, hPl.out]; omega
      rw [htl] at hjl
      obtain ⟨L2, hL2⟩ : ∃ L2, L2 = joinL (P.take (i + 1)) := ⟨_, rfl⟩
      rw [← hL2] at hsn hjl
      have hcp := hput.out A n c (joinL (P.take i)) XA xl.length xc xl wr (by have := ho.out.2.in8; rwa [ho.out.1] at this ⊢) (hxi.1.ext hE.out) (by omega) hxi.2
      rw [← hsn] at hcp
      obtain ⟨m, hm⟩ : ∃ m, m = xl.length := ⟨_, rfl⟩
      rw [← hm] at hcp hld
      have hszw := hE.out.size
      replace hcp := hide hcp
      replace hm := hide hm
      replace hx := hide hx
      replace hxi := hide hxi
      replace hPx := hide hPx
      replace hsn := hide hsn
      replace hL2 := hide hL2
      clear hcl hfl htl
      go_wp2_with fail
      refine hcp.out.mono ?_
      rintro e w2 ⟨A2, c3, rfl, hB2, hE2⟩
      have ho2 : Hid (Own8 w2 w.heap.size A2 L2.length c3 (joinL (P.take (i + 1)))) := hide (by rw [← hL2.out]; exact ⟨rfl, hB2.lower hszw⟩)
      obtain ⟨n2, hn2⟩ : ∃ n2, n2 = L2.length := ⟨_, rfl⟩
      rw [← hn2] at ho2 hjl ⊢
      replace hn2 := hide hn2
      replace hE2 := hide (hE.out.trans hE2)
      clear hB2
      go_wp2_with fail
      exact ⟨⟨i + 1, n2, c3, A2, rfl, rfl, by omega, by omega, ho2, hE2⟩, by simp only [intOf]; omega⟩
    · obtain rfl : i = k := by omega
      have ho2 := ho.out
      rw [List.take_of_length_le (by rw [hPl.out]; exact Nat.le_refl _)] at ho2
      replace ho2 := hide ho2
      go_wp2_with fail
      go_ret2
      have hl := ho2.out.1
      subst hl
      exact ⟨A, c, rfl, ho2.out, hE.out⟩
set_option maxRecDepth 100000 in
set_option maxHeartbeats 1000000 in
theorem evPut_yes (A : Option Addr) (n c : Nat) (l : List UInt8) (e : Ev) (B : Option Addr) (d : Nat) (w : World) (hn : n = l.length) (hl : Bs w A l) (hz : A = none → c = 0) (hle : n ≤ 100000000) (h : e.Ok w B) (hk : checkE e.fs = 0) (ha : I64ok' e.at_) :
    Calls Tryz.prog 133 #[.slice A n c, e.val B d] w fun en w' => OkB' w (l ++ putE e) en w' := by
  obtain ⟨W1, hW1⟩ : ∃ W1, W1 = w.alloc (.cells #[.int .i64 e.at_, .slice B e.fs.length d] 37) := ⟨_, rfl⟩
  obtain ⟨g, hg⟩ : ∃ g, g = w.heap.size := ⟨_, rfl⟩
  have hr : Row W1 g 37 #[.int .i64 e.at_, .slice B e.fs.length d] := by rw [hW1, hg]; exact Row.new w _ _
  have hE1 : Ext w W1 := by rw [hW1]; exact (Ext.refl w).alloc _
  have hck := hide (echeck_any e B d W1 (h.ext hE1))
  rw [hk] at hck
  have hput := hide (fun W (hE : Ext w W) => evput_any A n c l e B d W hn (hl.ext hE) hz hle (h.ext hE) hk ha)
  obtain ⟨L, hL⟩ : ∃ L, L = l ++ putE e := ⟨_, rfl⟩
  rw [← hL] at hput ⊢
  unfold Ev.val at hck hput ⊢
  have k0 := hr.cell 0 rfl
  have k1 := hr.cell 1 rfl
  replace hr := hide hr
  replace hE1 := hide hE1
  replace hW1 := hide hW1
  replace hg := hide hg
  replace hL := hide hL
  replace hk := hide hk
  replace h := hide h
  replace hn := hide hn
  replace hl := hide hl
  clear hz
  go_enter Tryz.func133, Tryz.ntmps133
  go_upto_region 1 with (fail)
  rw [← hW1.out, ← hg.out]
  go_wp2_with fail
  refine hck.out.mono ?_
  rintro en w2 ⟨rfl, hE2⟩
  have r2 := hr.out.ext hE2
  have q0 := r2.cell 0 rfl
  have q1 := r2.cell 1 rfl
  replace r2 := hide r2
  replace hE2 := hide (hE1.out.trans hE2)
  go_wp2_with fail
  refine (hput.out w2 hE2.out).mono ?_
  rintro en w3 hNB
  obtain ⟨A3, c3, rfl, hB3, hE3⟩ := hNB
  have ho := hide (show Own8 w3 w.heap.size A3 L.length c3 L from ⟨rfl, hB3.lower hE2.out.size⟩)
  replace hE3 := hide (hE2.out.trans hE3)
  clear hB3
  go_wp2_with fail
  go_ret2
  exact ⟨A3, c3, rfl, ho.out, hE3.out⟩
end
section
open Go.RowKit
def timesD : Int → List Dc → List UInt8
  | _, [] => []
  | a, d :: t => vb (zig (wrap64 (d.2.at_ - a))) ++ timesD d.2.at_ t
def lastAt : Int → List Dc → Int
  | a, [] => a
  | _, d :: t => lastAt d.2.at_ t
def lowD : Int → List Dc → Int
  | m, [] => m
  | m, d :: t => lowD (min m d.2.at_) t
def highD : Int → List Dc → Int
  | m, [] => m
  | m, d :: t => highD (max m d.2.at_) t
def partD : List Dc → List Int
  | [] => [0, 0, 0, 0, 0]
  | d :: t => [lowD d.2.at_ (d :: t), highD d.2.at_ (d :: t), d.1, lastD d.1 t, ((d :: t).length : Int)]
def pairsD : Nat → List Dc → List (List UInt8 × Po)
  | _, [] => []
  | i, d :: t => (termsL d.2).map (fun p => (p.1, ((i : Int), p.2))) ++ pairsD (i + 1) t
def rowsD (l : List Dc) : List (List UInt8 × List Po) := grp (pairsD 0 l)
def enOf : Nat → List (List UInt8 × List Po) → List En
  | _, [] => []
  | o, r :: t => ⟨r.1, o, (encPs r.2).length, r.2.length⟩ :: enOf (o + (encPs r.2).length) t
def postB (rs : List (List UInt8 × List Po)) : List UInt8 := rs.flatMap fun r => encPs r.2
def framesD (l : List Dc) : List (List UInt8) := [encDs l, timesD 0 l, postB (rowsD l), encEs (enOf 0 (rowsD l)), ofB ((rowsD l).map (·.1)), vall (partD l)]
def segL (l : List Dc) : List UInt8 := [76, 83, 69, 71] ++ joinL (framesD l)
theorem timesD_app : ∀ (a b : List Dc) (x : Int), timesD x (a ++ b) = timesD x a ++ timesD (lastAt x a) b
  | [], b, x => rfl
  | d :: t, b, x => by
    show _ ++ timesD d.2.at_ (t ++ b) = (_ ++ timesD d.2.at_ t) ++ _
    rw [timesD_app t b, List.append_assoc]
    rfl
theorem lastAt_app : ∀ (a b : List Dc) (x : Int), lastAt x (a ++ b) = lastAt (lastAt x a) b
  | [], b, x => rfl
  | d :: t, b, x => lastAt_app t b d.2.at_
theorem lowD_app : ∀ (a b : List Dc) (x : Int), lowD x (a ++ b) = lowD (lowD x a) b
  | [], b, x => rfl
  | d :: t, b, x => lowD_app t b _
theorem highD_app : ∀ (a b : List Dc) (x : Int), highD x (a ++ b) = highD (highD x a) b
  | [], b, x => rfl
  | d :: t, b, x => highD_app t b _
theorem pairsD_app : ∀ (a b : List Dc) (i : Nat), pairsD i (a ++ b) = pairsD i a ++ pairsD (i + a.length) b
  | [], b, i => rfl
  | d :: t, b, i => by
    show _ ++ pairsD (i + 1) (t ++ b) = (_ ++ pairsD (i + 1) t) ++ _
    rw [pairsD_app t b, List.append_assoc, List.length_cons, show i + 1 + t.length = i + (t.length + 1) by omega]
theorem enOf_app : ∀ (a b : List (List UInt8 × List Po)) (o : Nat), enOf o (a ++ b) = enOf o a ++ enOf (o + (postB a).length) b
  | [], b, o => rfl
  | r :: t, b, o => by
    show _ :: enOf _ (t ++ b) = _ :: enOf _ t ++ _
    rw [enOf_app t b]
    unfold postB
    rw [List.flatMap_cons, List.length_append, Nat.add_assoc]
    rfl
theorem postB_app (a b : List (List UInt8 × List Po)) : postB (a ++ b) = postB a ++ postB b := by unfold postB; rw [List.flatMap_append]
theorem wrap_rng (n : Int) : -9223372036854775808 ≤ wrap64 n ∧ wrap64 n ≤ 9223372036854775807 := by
  unfold wrap64; omega
theorem timesD_len : ∀ (l : List Dc) (a : Int), (timesD a l).length ≤ 10 * l.length
  | [], a => by simp [timesD]
  | d :: t, a => by
    have h1 := timesD_len t d.2.at_
    have h2 := zig_lt (wrap_rng (d.2.at_ - a)).1 (wrap_rng (d.2.at_ - a)).2
    have h3 := vb_len10 h2
    unfold timesD
    rw [List.length_append, List.length_cons]
    omega
end
section
open Go.RowKit
attribute [local go_sem] Oper.semAt_some wide_depth wide_fn
def KpT (B : Nat) (W W' : World) : Prop := (∀ w0 : World, w0.heap.size ≤ B → Ext w0 W → Ext w0 W') ∧ ∀ g t cs, t ≠ 148 → t ≠ 150 → Row W g t cs → Row W' g t cs
theorem KpT.trans (B : Nat) (A C D : World) (h : KpT B A C) (k : KpT B C D) : KpT B A D := ⟨fun w0 h0 he => k.1 w0 h0 (h.1 w0 h0 he), fun g t cs h1 h2 hr => k.2 g t cs h1 h2 (h.2 g t cs h1 h2 hr)⟩
theorem KpT.alike {B X : Nat} (hX : B ≤ X) (A C : World) (h : Alike X A C) : KpT B A C := ⟨fun _ hs he => h.ext he (by omega), fun _ _ _ _ _ hr => h.row hr⟩
theorem KpT.ext {B : Nat} {A C : World} (h : Ext A C) : KpT B A C := ⟨fun _ _ he => he.trans h, fun _ _ _ _ _ hr => hr.ext h⟩
def fdV (f : Fd) : Value := .agg #[.string ⟨f.1.toArray⟩, .string ⟨f.2.toArray⟩]
def BsIter (fs : List Fd) (B b0 : Nat) (w : World) : Prop :=
  Iter Tryz.prog 175 #[.pointer (some ⟨b0, 0, none⟩)] (fun x : Nat × Fd => #[.int .i64 (x.1 : Int), fdV x.2]) Ext (fun pre x _ => fs[pre.length]? = some x.2 ∧ x.1 = baseT 0 (fs.take pre.length)) (KpT B) (fun xs A C => xs.length = fs.length ∧ Ext A C) w
set_option maxRecDepth 100000 in
theorem based_any (at_ : Int) (A : Option Addr) (n c : Nat) (w : World) :
    Calls Tryz.prog 134 #[.agg #[.int .i64 at_, .slice A n c]] w fun e w' => ∃ b0, e = .returned (.func (.func 175) #[] #[.pointer (some ⟨b0, 0, none⟩)]) ∧ Row w' b0 37 #[.int .i64 at_, .slice A n c] ∧ w.heap.size ≤ b0 ∧ Ext w w' := by
  go_enter Tryz.func134, Tryz.ntmps134
  go_wp2_with fail
  go_ret
  exact ⟨w.heap.size, rfl, Row.new w _ _, Nat.le_refl _, (Ext.refl w).alloc _⟩
set_option maxRecDepth 100000 in
set_option maxHeartbeats 4000000 in
theorem based_iter (at_ : Int) (fs : List Fd) (A : Option Addr) (n c b0 B : Nat) (w0 w : World) (hn : n = fs.length) (hc : Cells w0 A (fcells fs)) (hB : w0.heap.size ≤ B) (hw : Ext w0 w) (hn9 : n ≤ 1000) (hl9 : ∀ f ∈ fs, f.2.length ≤ 1000000)
    (hb0 : Row w b0 37 #[.int .i64 at_, .slice A n c]) : BsIter fs B b0 w := by
  intro l J W hE hst hY h0
  have htk := hide (fun l W h => tokens_any l W h)
  replace hb0 := hide (hb0.ext hE)
  replace hw := hide (hw.trans hE)
  clear hE
  replace hY := hide hY
  replace hst := hide hst
  replace h0 := hide h0
  replace hn := hide hn
  replace hc := hide hc
  replace hl9 := hide hl9
  refine (callsIn_wide (n := 0)).1 ?_
  refine callsIn_of_wp Tryz.func175 rfl trivial ?_
  simp only [Tryz.ntmps175, List.size_toArray, List.length_cons, List.length_nil, Nat.reduceAdd, Nat.reduceSub, Array.replicate_succ, Array.replicate_zero, List.push_toArray, List.append_toArray, List.nil_append, List.cons_append]
  have k0 := hb0.out.cell 0 rfl
  have k1 := hb0.out.cell 1 rfl
  gi_wp2_with fail
  gi_loopw [3, 9] (fun s3 s9 wr => ∃ (i bs : Nat) (pre : List (Nat × Fd)), s3 = .int .i64 (bs : Int) ∧ s9 = .int .i64 (i : Int) ∧ i ≤ n ∧ bs ≤ i * 1000100 ∧ Hid (pre.length = i) ∧ Hid (bs = baseT 0 (fs.take i)) ∧ Hid (J pre wr) ∧ Hid (Ext w0 wr)) (fun _ s9 _ => n - (intOf s9).toNat)
  case atStart => exact ⟨0, 0, [], rfl, rfl, by omega, by omega, hide rfl, hide rfl, h0, hw⟩
  case round =>
    obtain ⟨i, bs, pre, rfl, rfl, hi, hbs, hpl, hbe, hJ, hE⟩ := hrel
    by_cases hin : i < n
    · obtain ⟨f, hf⟩ : ∃ f, fs[i]? = some f := ⟨_, List.getElem?_eq_getElem (by rw [← hn.out]; exact hin)⟩
      obtain ⟨g, o, hA, x0, x1⟩ := fcells_at (hc.out.ext hE.out) hf
      subst hA
      have hf9 := hl9.out f (List.mem_of_getElem? hf)
      obtain ⟨W2, hW2⟩ : ∃ W2, W2 = wr.alloc (.cells #[.string ⟨f.1.toArray⟩, .string ⟨f.2.toArray⟩] 105) := ⟨_, rfl⟩
      have hE2 : Ext wr W2 := by rw [hW2]; exact (Ext.refl wr).alloc _
      have r2 : Row W2 wr.heap.size 105 #[.string ⟨f.1.toArray⟩, .string ⟨f.2.toArray⟩] := by rw [hW2]; exact Row.new wr _ _
      obtain ⟨gd, hgd⟩ : ∃ gd, gd = wr.heap.size := ⟨_, rfl⟩
      rw [← hgd] at r2
      have p0 := r2.cell 0 rfl
      have p1 := r2.cell 1 rfl
      have hyx := hY.out pre (bs, f) W2 (hst.out _ _ _ hJ.out hE2) ⟨by rw [hpl.out]; exact hf, by rw [hpl.out]; exact hbe.out⟩
      obtain ⟨fn, tmps, assign, body, hy, hRn⟩ := hyx
      simp only [fdV] at hy hRn
      have htl := tokL_len f.2
      have hbn : baseT 0 (fs.take (i + 1)) = bs + (64 + (tokL f.2).length) := by
        rw [List.take_add_one, hf, baseT_app, ← hbe.out]
        rfl
      obtain ⟨nm, tx⟩ := f
      simp only at x0 x1 hf9 hW2 r2 p0 p1 hy htl hbn
      unfold strV at x0 x1
      obtain ⟨nt, hnt⟩ : ∃ nt, nt = (tokL tx).length := ⟨_, rfl⟩
      rw [← hnt] at htl hbn
      rw [hW2] at hy
      replace hf := hide hf
      replace hW2 := hide hW2
      replace hgd := hide hgd
      replace r2 := hide r2
      replace hE2 := hide (hE.out.trans hE2)
      replace hnt := hide hnt
      replace hbn := hide hbn
      clear hY
      gi_wp2_with fail
      rw [← hW2.out, ← hgd.out]
      refine hRn.mono ?_
      rintro e W3 ⟨rfl, hJ3, hk3⟩
      have r3 := hk3.2 _ _ _ (by decide) (by decide) r2.out
      have q1 := r3.cell 1 rfl
      have hE3 := hide (hk3.1 w0 hB hE2.out)
      have hct := hide (htk.out tx W3 (by omega))
      replace hJ3 := hide hJ3
      gi_wp2_with fail
      refine (callsIn_wide.2 hct.out).mono ?_
      rintro e w4 hT
      obtain ⟨A4, c4, rfl, _, hE4⟩ := hT
      rw [← hnt.out]
      gi_wp2_with fail
      exact ⟨⟨i + 1, bs + (64 + nt), pre ++ [(bs, (nm, tx))], by first | rfl | (congr 1; omega), by go_num, by omega, by omega, hide (by rw [List.length_append, hpl.out]; rfl), hide hbn.out.symm, hide (hst.out _ _ _ hJ3.out hE4), hide (hE3.out.trans hE4)⟩, by simp only [intOf]; omega⟩
    · gi_wp2_with fail
      go_end0
      exact ⟨⟨_, rfl⟩, pre, _, hJ.out, by rw [hpl.out, ← hn.out]; omega, Ext.refl _⟩
end
section
open Go.RowKit
section
variable {β : Type}
def Srt (l : List (List UInt8 × β)) : Prop := l.Pairwise fun x y => ¬ y.1 < x.1
structure Stb (l m : List (List UInt8 × β)) : Prop where
  perm : m.Perm l
  vals : ∀ s, valsOf m s = valsOf l s
theorem Stb.refl (l : List (List UInt8 × β)) : Stb l l := ⟨List.Perm.refl _, fun _ => rfl⟩
variable {l m k A B A1 A2 B1 B2 M1 M2 : List (List UInt8 × β)}
theorem Stb.trans (h : Stb l m) (h2 : Stb m k) : Stb l k := ⟨h2.perm.trans h.perm, fun s => (h2.vals s).trans (h.vals s)⟩
theorem Stb.app (h : Stb A M1) (h2 : Stb B M2) : Stb (A ++ B) (M1 ++ M2) := ⟨h.perm.append h2.perm, fun s => by rw [valsOf_append, valsOf_append, h.vals, h2.vals]⟩
theorem Stb.mem (h : Stb l m) {x : List UInt8 × β} (hx : x ∈ m) : x ∈ l := h.perm.mem_iff.1 hx
theorem Stb.len (h : Stb l m) : m.length = l.length := h.perm.length_eq
theorem vals_none {l : List (List UInt8 × β)} {s : List UInt8} (h : ∀ x ∈ l, ¬ x.1 = s) : valsOf l s = [] := by
  unfold valsOf
  rw [List.filter_eq_nil_iff.2 fun x hx => by simpa using h x hx]
  rfl
theorem Stb.swap (h : ∀ x ∈ A, ∀ y ∈ B, ¬ x.1 = y.1) : Stb (A ++ B) (B ++ A) := by
  refine ⟨List.perm_append_comm, fun s => ?_⟩
  rw [valsOf_append, valsOf_append]
  by_cases hA : ∃ x ∈ A, x.1 = s
  · obtain ⟨x, hx, rfl⟩ := hA
    rw [vals_none fun y hy e => h x hx y hy e.symm, List.nil_append, List.append_nil]
  · rw [vals_none fun x hx e => hA ⟨x, hx, e⟩, List.nil_append, List.append_nil]
theorem nlt_trans {a b c : List UInt8} (h : ¬ b < a) (k : ¬ c < b) : ¬ c < a := fun hh => h (by
  by_cases e : c = b
  · rw [← e]; exact hh
  · exact List.lt_trans (key_lt k e) hh)
theorem lt_nlt {a b c : List UInt8} (h : a < b) (k : ¬ c < b) : a < c := by
  by_cases e : c = b
  · rw [e]; exact h
  · exact List.lt_trans h (key_lt k e)
theorem nlt_lt {a b c : List UInt8} (h : ¬ b < a) (k : b < c) : a < c := by
  by_cases e : b = a
  · rw [← e]; exact k
  · exact List.lt_trans (key_lt h e) k
theorem nlt_of {a b : List UInt8} (h : a < b) : ¬ b < a := fun k => List.lt_irrefl _ (List.lt_trans h k)
theorem Srt.left (h : Srt (A ++ B)) : Srt A := (List.pairwise_append.1 h).1
theorem Srt.right (h : Srt (A ++ B)) : Srt B := (List.pairwise_append.1 h).2.1
theorem sym_step (hA : Srt (A1 ++ A2)) (hB : Srt (B1 ++ B2)) (h1 : ∀ x ∈ A1, ∀ y ∈ B2, ¬ y.1 < x.1) (h2 : ∀ x ∈ B1, ∀ y ∈ A2, x.1 < y.1) (s1 : Stb (A1 ++ B1) M1) (r1 : Srt M1) (s2 : Stb (A2 ++ B2) M2) (r2 : Srt M2) :
    Srt (M1 ++ M2) ∧ Stb ((A1 ++ A2) ++ (B1 ++ B2)) (M1 ++ M2) := by
  constructor
  · refine List.pairwise_append.2 ⟨r1, r2, fun x hx y hy => ?_⟩
    have hx := List.mem_append.1 (s1.mem hx)
    have hy := List.mem_append.1 (s2.mem hy)
    rcases hx with hx | hx
    · rcases hy with hy | hy
      · exact (List.pairwise_append.1 hA).2.2 x hx y hy
      · exact h1 x hx y hy
    · rcases hy with hy | hy
      · exact nlt_of (h2 x hx y hy)
      · exact (List.pairwise_append.1 hB).2.2 x hx y hy
  · have hs : Stb (A2 ++ B1) (B1 ++ A2) := Stb.swap fun x hx y hy e => by
      have := h2 y hy x hx
      rw [e] at this
      exact List.lt_irrefl _ this
    have h3 : Stb ((A1 ++ A2) ++ (B1 ++ B2)) ((A1 ++ B1) ++ (A2 ++ B2)) := by
      have := ((Stb.refl A1).app hs).app (Stb.refl B2)
      simpa only [List.append_assoc] using this
    exact h3.trans (s1.app s2)
theorem Srt.take_le (h : Srt l) {i : Nat} {z : List UInt8 × β} (hz : l[i]? = some z) : ∀ x ∈ l.take (i + 1), ¬ z.1 < x.1 := by
  intro x hx
  obtain ⟨j, hj⟩ := List.getElem?_of_mem hx
  rw [List.getElem?_take] at hj
  split at hj
  · rename_i hji
    obtain ⟨hi, hiz⟩ := List.getElem?_eq_some_iff.1 hz
    obtain ⟨hjl, hjx⟩ := List.getElem?_eq_some_iff.1 hj
    by_cases e : j = i
    · subst e
      rw [← hiz, ← hjx]
      exact List.lt_irrefl _
    · have := List.pairwise_iff_getElem.1 h j i hjl hi (by omega)
      rw [hjx, hiz] at this
      exact this
  · cases hj
theorem Srt.drop_ge (h : Srt l) {i : Nat} {z : List UInt8 × β} (hz : l[i]? = some z) : ∀ x ∈ l.drop i, ¬ x.1 < z.1 := by
  intro x hx
  obtain ⟨j, hj⟩ := List.getElem?_of_mem hx
  rw [List.getElem?_drop] at hj
  obtain ⟨hi, hiz⟩ := List.getElem?_eq_some_iff.1 hz
  obtain ⟨hjl, hjx⟩ := List.getElem?_eq_some_iff.1 hj
  by_cases e : j = 0
  · subst e
    rw [← hiz, ← hjx]
    exact List.lt_irrefl _
  · have := List.pairwise_iff_getElem.1 h i (i + j) hi hjl (by omega)
    rw [hjx, hiz] at this
    exact this
structure CutP (A B : List (List UInt8 × β)) (i j : Nat) : Prop where
  ile : i ≤ A.length
  jle : j ≤ B.length
  lo : i = 0 ∨ j = B.length ∨ ∃ x y, A[i - 1]? = some x ∧ B[j]? = some y ∧ ¬ y.1 < x.1
  hi : i = A.length ∨ j = 0 ∨ ∃ x y, A[i]? = some x ∧ B[j - 1]? = some y ∧ y.1 < x.1
theorem CutP.le {i j : Nat} (h : CutP A B i j) (hA : Srt A) (hB : Srt B) : (∀ x ∈ A.take i, ∀ y ∈ B.drop j, ¬ y.1 < x.1) ∧ (∀ x ∈ B.take j, ∀ y ∈ A.drop i, x.1 < y.1) := by
  constructor
  · intro x hx y hy
    rcases h.lo with e | e | ⟨u, v, hu, hv, huv⟩
    · rw [e] at hx; cases hx
    · rw [e, List.drop_length] at hy; cases hy
    · by_cases e : i = 0
      · rw [e] at hx; cases hx
      · have h1 := hA.take_le hu x (by rw [show i - 1 + 1 = i by omega]; exact hx)
        have h2 := hB.drop_ge hv y hy
        exact nlt_trans h1 (nlt_trans huv h2)
  · intro x hx y hy
    rcases h.hi with e | e | ⟨u, v, hu, hv, huv⟩
    · rw [e, List.drop_length] at hy; cases hy
    · rw [e] at hx; cases hx
    · by_cases e : j = 0
      · rw [e] at hx; cases hx
      · have h1 := hB.take_le hv x (by rw [show j - 1 + 1 = j by omega]; exact hx)
        have h2 := hA.drop_ge hu y hy
        exact nlt_lt h1 (lt_nlt huv h2)
def Mrg (A B M : List (List UInt8 × β)) : Prop := Srt M ∧ Stb (A ++ B) M
theorem CutP.mrg {i j : Nat} (h : CutP A B i j) (hA : Srt A) (hB : Srt B) (m1 : Mrg (A.take i) (B.take j) M1) (m2 : Mrg (A.drop i) (B.drop j) M2) : Mrg A B (M1 ++ M2) := by
  have hle := h.le hA hB
  have hA' := hA
  have hB' := hB
  rw [← List.take_append_drop i A] at hA'
  rw [← List.take_append_drop j B] at hB'
  have := sym_step hA' hB' hle.1 hle.2 m1.2 m1.1 m2.2 m2.1
  rw [List.take_append_drop, List.take_append_drop] at this
  exact this
theorem Mrg.nil_left (hB : Srt B) : Mrg [] B B := ⟨hB, Stb.refl _⟩
theorem Mrg.nil_right (hA : Srt A) : Mrg A [] A := ⟨hA, by rw [List.append_nil]; exact Stb.refl _⟩
theorem one_left {i : Nat} {x : List UInt8 × β} (hB : Srt B) (hlt : ∀ y ∈ B.take i, y.1 < x.1) (hge : ∀ y ∈ B.drop i, ¬ y.1 < x.1) : Mrg [x] B (B.take i ++ x :: B.drop i) := by
  have hB' := hB
  rw [← List.take_append_drop i B] at hB'
  have hs : Srt ([] ++ [x] : List (List UInt8 × β)) := List.pairwise_singleton ..
  have := sym_step (A1 := []) (A2 := [x]) hs hB' (by simp) (fun y hy z hz => by rw [List.mem_singleton.1 hz]; exact hlt y hy) (M1 := B.take i) (by rw [List.nil_append]; exact Stb.refl _) hB'.left (M2 := x :: B.drop i) (Stb.refl _)
    (List.pairwise_cons.2 ⟨fun y hy => hge y hy, hB'.right⟩)
  rw [List.take_append_drop] at this
  exact this
theorem one_right {i : Nat} {y : List UInt8 × β} (hA : Srt A) (hle : ∀ x ∈ A.take i, ¬ y.1 < x.1) (hgt : ∀ x ∈ A.drop i, y.1 < x.1) : Mrg A [y] (A.take i ++ y :: A.drop i) := by
  have hA' := hA
  rw [← List.take_append_drop i A] at hA'
  have hs : Srt ([y] ++ [] : List (List UInt8 × β)) := List.pairwise_singleton ..
  have := sym_step (B1 := [y]) (B2 := []) hA' hs (by simp) (fun x hx z hz => by rw [List.mem_singleton.1 hx]; exact hgt z hz) (M1 := A.take i ++ [y]) (Stb.refl _)
    (List.pairwise_append.2 ⟨hA'.left, List.pairwise_singleton .., fun x hx z hz => by rw [List.mem_singleton.1 hz]; exact hle x hx⟩) (M2 := A.drop i) (by rw [List.append_nil]; exact Stb.refl _) hA'.right
  rw [List.take_append_drop] at this
  unfold Mrg
  simpa only [List.append_assoc, List.singleton_append] using this
def Std (l m : List (List UInt8 × β)) : Prop := Srt m ∧ Stb l m
theorem Std.mrg {l l' A B M : List (List UInt8 × β)} (h : Std l A) (h2 : Std l' B) (hm : Mrg A B M) : Std (l ++ l') M := ⟨hm.1, (h.2.app h2.2).trans hm.2⟩
end
end
section
open Go.RowKit
abbrev TmV := List UInt8 × (Option Addr × Nat × Nat)
def tcell (x : TmV) : List Value := [.string ⟨x.1.toArray⟩, .slice x.2.1 x.2.2.1 x.2.2.2]
def tcs (D : List TmV) : List Value := D.flatMap tcell
theorem tcs_len (D : List TmV) : (tcs D).length = D.length * 2 := flat_len_of (cellsA := tcell) (k := 2) (fun _ => rfl) D
theorem tcs_get {D : List TmV} {i : Nat} {x : TmV} (h : D[i]? = some x) {j : Nat} (hj : j < 2) : (tcs D)[i * 2 + j]? = (tcell x)[j]? := flat_get_of (cellsA := tcell) (k := 2) (fun _ => rfl) D i x j h hj
def TR (w : World) (g : Nat) (D : List TmV) : Prop := ∃ cs : Array Value, Row w g 150 cs ∧ ∀ (i : Nat) (v : Value), (tcs D)[i]? = some v → cs[i]? = some v
section
variable {w w1 : World} {g : Nat} {D : List TmV}
theorem TR.lt (h : TR w g D) : g < w.heap.size := by obtain ⟨cs, hr, _⟩ := h; exact hr.lt
theorem TR.free (h : TR w g D) (i : Nat) : w.frozen? ⟨g, i, none⟩ = false := by obtain ⟨cs, hr, _⟩ := h; exact hr.free i
theorem TR.at_ (h : TR w g D) {i : Nat} {x : TmV} (hx : D[i]? = some x) : w.cell? ⟨g, i * 2, none⟩ = some (.string ⟨x.1.toArray⟩) ∧ w.cell? ⟨g, i * 2 + 1, none⟩ = some (.slice x.2.1 x.2.2.1 x.2.2.2) := by
  obtain ⟨cs, hr, hc⟩ := h
  exact ⟨hr.cell (i * 2) (hc _ _ (by have := tcs_get hx (j := 0) (by omega); rw [Nat.add_zero] at this; rw [this]; rfl)), hr.cell (i * 2 + 1) (hc _ _ (by rw [tcs_get hx (j := 1) (by omega)]; rfl))⟩
theorem TR.ext (h : TR w g D) (hE : Ext w w1) : TR w1 g D := by obtain ⟨cs, hr, hc⟩ := h; exact ⟨cs, hr.ext hE, hc⟩
theorem TR.drew (h : TR w g D) : TR w.drew g D := h.ext (Ext.refl w).drew
theorem tcs_set (D : List TmV) (i : Nat) (y : TmV) (hi : i < D.length) (k : Nat) : (tcs (D.set i y))[k]? = if k = i * 2 then some (.string ⟨y.1.toArray⟩) else if k = i * 2 + 1 then some (.slice y.2.1 y.2.2.1 y.2.2.2) else (tcs D)[k]? := by
  have hk : k = k / 2 * 2 + k % 2 := by omega
  by_cases hkl : k / 2 < D.length
  · have hx : D[k / 2]? = some D[k / 2] := List.getElem?_eq_getElem hkl
    by_cases he : k / 2 = i
    · have h1 : (D.set i y)[k / 2]? = some y := by rw [List.getElem?_set, if_pos he.symm, if_pos (by omega)]
      rw [hk, tcs_get h1 (Nat.mod_lt _ (by omega))]
      rcases Nat.mod_two_eq_zero_or_one k with h0 | h0
      · rw [h0, if_pos (by omega)]; rfl
      · rw [h0, if_neg (by omega), if_pos (by omega)]; rfl
    · have h1 : (D.set i y)[k / 2]? = some D[k / 2] := by rw [List.getElem?_set, if_neg (fun e => he e.symm), hx]
      rw [hk, tcs_get h1 (Nat.mod_lt _ (by omega)), tcs_get hx (Nat.mod_lt _ (by omega)), if_neg (by omega), if_neg (by omega)]
  · rw [if_neg (by omega), if_neg (by omega), List.getElem?_eq_none (by rw [tcs_len, List.length_set]; omega), List.getElem?_eq_none (by rw [tcs_len]; omega)]
abbrev setT (w : World) (g i : Nat) (y : TmV) : World := (w.setCell ⟨g, i * 2, none⟩ (.string ⟨y.1.toArray⟩)).setCell ⟨g, i * 2 + 1, none⟩ (.slice y.2.1 y.2.2.1 y.2.2.2)
theorem TR.put (h : TR w g D) {i : Nat} (hi : i < D.length) (y : TmV) : TR (setT w g i y) g (D.set i y) := by
  obtain ⟨cs, hr, hc⟩ := h
  refine ⟨_, (hr.put (i * 2) _).put (i * 2 + 1) _, fun k v hv => ?_⟩
  have hx : D[i]? = some D[i] := List.getElem?_eq_getElem hi
  have hs0 : i * 2 < cs.size := by
    have h0 := hc (i * 2) _ (by have := tcs_get hx (j := 0) (by omega); rw [Nat.add_zero] at this; exact this)
    exact (Array.getElem?_eq_some_iff.1 h0).1
  have hs1 : i * 2 + 1 < cs.size := (Array.getElem?_eq_some_iff.1 (hc (i * 2 + 1) _ (tcs_get hx (j := 1) (by omega)))).1
  rw [tcs_set D i y hi] at hv
  rw [Array.getElem?_setIfInBounds, Array.getElem?_setIfInBounds]
  split at hv
  · rename_i he
    subst he
    rw [if_neg (by omega), if_pos rfl, if_pos hs0]
    exact hv
  · split at hv
    · rename_i hne he
      subst he
      rw [if_pos rfl, if_pos (by rw [Array.size_setIfInBounds]; exact hs1)]
      exact hv
    · rename_i h1 h2
      rw [if_neg (by omega), if_neg (by omega)]
      exact hc k v hv
theorem setT_chg (w : World) (g i : Nat) (y : TmV) : Chg (fun k => k = g) w (setT w g i y) :=
  (Chg.of_set (S := fun k => k = g) w (a := ⟨g, i * 2, none⟩) _ rfl).trans (Chg.of_set (S := fun k => k = g) _ (a := ⟨g, i * 2 + 1, none⟩) _ rfl) fun _ _ h => h
end
def SwK (D D' : List TmV) (a b k : Nat) : Prop := D'.length = D.length ∧ ∀ i, D'[i]? = if a ≤ i ∧ i < a + k then D[i - a + b]? else if b ≤ i ∧ i < b + k then D[i - b + a]? else D[i]?
theorem SwK.zero (D : List TmV) (a b : Nat) : SwK D D a b 0 := ⟨rfl, fun i => by rw [if_neg (by omega), if_neg (by omega)]⟩
theorem SwK.next {D D' : List TmV} {a b k n : Nat} {x y : TmV} (h : SwK D D' a b k) (hk : k < n) (hab : a + n ≤ b) (hx : D'[a + k]? = some x) (hy : D'[b + k]? = some y) : SwK D ((D'.set (a + k) y).set (b + k) x) a b (k + 1) := by
  obtain ⟨hl, hg⟩ := h
  refine ⟨by rw [List.length_set, List.length_set, hl], fun i => ?_⟩
  have ha := hg (a + k)
  rw [if_neg (by omega), if_neg (by omega), hx] at ha
  have hb := hg (b + k)
  rw [if_neg (by omega), if_neg (by omega), hy] at hb
  have hla := (List.getElem?_eq_some_iff.1 hx).1
  have hlb := (List.getElem?_eq_some_iff.1 hy).1
  rw [List.getElem?_set, List.getElem?_set, List.length_set]
  by_cases e1 : b + k = i
  · subst e1
    rw [if_pos rfl, if_pos hlb, if_neg (by omega), if_pos (by omega), show b + k - b + a = a + k by omega]
    exact ha
  · rw [if_neg e1]
    by_cases e2 : a + k = i
    · subst e2
      rw [if_pos rfl, if_pos hla, if_pos (by omega), show a + k - a + b = b + k by omega]
      exact hb
    · rw [if_neg e2, hg i]
      by_cases c1 : a ≤ i ∧ i < a + k
      · rw [if_pos c1, if_pos (show a ≤ i ∧ i < a + (k + 1) by omega)]
      · rw [if_neg c1, if_neg (show ¬ (a ≤ i ∧ i < a + (k + 1)) by omega)]
        by_cases c2 : b ≤ i ∧ i < b + k
        · rw [if_pos c2, if_pos (show b ≤ i ∧ i < b + (k + 1) by omega)]
        · rw [if_neg c2, if_neg (show ¬ (b ≤ i ∧ i < b + (k + 1)) by omega)]
set_option maxRecDepth 100000 in
set_option maxHeartbeats 1000000 in
theorem swaprange_any (g c a b n : Nat) (D : List TmV) (f : Value) (w : World) (h : TR w g D) (hab : a + n ≤ b) (hb : b + n ≤ D.length) (hD : D.length ≤ 1073741824) :
    Calls Tryz.prog 226 #[.slice (some ⟨g, 0, none⟩) D.length c, .int .i64 (a : Int), .int .i64 (b : Int), .int .i64 (n : Int), f] w fun e w' => e = .returned (.tuple #[]) ∧ ∃ D', SwK D D' a b n ∧ TR w' g D' ∧ Chg (fun k => k = g) w w' := by
  obtain ⟨dl, hdl⟩ : ∃ n, n = D.length := ⟨_, rfl⟩
  rw [← hdl] at hb hD ⊢
  replace h := hide h
  replace hdl := hide hdl
  go_enter Tryz.func226, Tryz.ntmps226
  go_wp2_with fail
  go_loopw [10] (fun s10 wr => ∃ (k : Nat) (E : List TmV), s10 = .int .i64 (k : Int) ∧ k ≤ n ∧ Hid (SwK D E a b k ∧ TR wr g E ∧ Chg (fun k => k = g) w wr)) (fun s10 _ => n - (intOf s10).toNat)
  case atStart => exact ⟨0, D, rfl, by omega, hide ⟨SwK.zero D a b, h.out, Chg.refl _ _⟩⟩
  case round =>
    obtain ⟨k, E, rfl, hk, hI⟩ := hrel
    by_cases hkn : k < n
    · have hl := hI.out.1.1
      have hdl' := hdl.out
      obtain ⟨x, hx⟩ : ∃ x, E[a + k]? = some x := ⟨_, List.getElem?_eq_getElem (by omega)⟩
      obtain ⟨y, hy⟩ : ∃ y, E[b + k]? = some y := ⟨_, List.getElem?_eq_getElem (by omega)⟩
      have hx2 := hI.out.2.1.at_ hx
      have hy2 := hI.out.2.1.at_ hy
      have x0 := hx2.1
      have x1 := hx2.2
      have y0 := hy2.1
      have y1 := hy2.2
      have fr := hI.out.2.1.free
      clear hl hdl' hx2 hy2
      replace hx := hide hx
      replace hy := hide hy
      go_wp2_with fail
      refine wp_region_text follows (by kernel_rfl) (by kernel_rfl) (fun K hK => ?_)
      go_wp2_with fail
      refine ⟨by kernel_rfl, ?_⟩
      go_wp2_with fail
      have hx' := hx.out
      have hy' := hy.out
      have hN := hI.out.1.next hkn hab hx' hy'
      have h1 := hI.out.2.1.put (i := a + k) (List.getElem?_eq_some_iff.1 hx').1 y
      have h2 := h1.put (i := b + k) (by rw [List.length_set]; exact (List.getElem?_eq_some_iff.1 hy').1) x
      have hc := (hI.out.2.2.trans (setT_chg wr g (a + k) y) fun _ _ h => h).trans (setT_chg _ g (b + k) x) fun _ _ h => h
      go_roundw
      case rel => exact ⟨k + 1, _, by go_num, by omega, hide ⟨hN, h2.drew, hc.trans (Chg.of_ext (Ext.refl _).drew _) fun _ _ h => h⟩⟩
      case measure => simp [intOf]; omega
    · go_wp2_with fail
      go_end0
      obtain rfl : k = n := by omega
      exact ⟨rfl, E, hI.out⟩
end
section
open Go.RowKit
theorem swk_eq {E E' P X Y Z Q : List TmV} {a b n : Nat} (h : SwK E E' a b n) (hE : E = P ++ (X ++ (Y ++ (Z ++ Q)))) (hX : X.length = n) (hZ : Z.length = n) (ha : a = P.length) (hb : b = P.length + X.length + Y.length) : E' = P ++ (Z ++ (Y ++ (X ++ Q))) := by
  refine List.ext_getElem? fun i => ?_
  rw [h.2 i, hE]
  simp only [List.getElem?_append]
  subst ha hb
  by_cases h1 : i < P.length
  · rw [if_neg (show ¬ (P.length ≤ i ∧ i < P.length + n) by omega), if_neg (show ¬ (P.length + X.length + Y.length ≤ i ∧ i < P.length + X.length + Y.length + n) by omega)]
    simp only [if_pos h1]
  · by_cases h2 : i - P.length < n
    · rw [if_pos (show P.length ≤ i ∧ i < P.length + n by omega)]
      simp only [if_neg h1, hX, hZ, if_pos h2]
      rw [if_neg (by omega), if_neg (by omega), if_neg (by omega), if_pos (by omega)]
      congr 1; omega
    · rw [if_neg (show ¬ (P.length ≤ i ∧ i < P.length + n) by omega)]
      by_cases h3 : i - P.length - n < Y.length
      · rw [if_neg (show ¬ (P.length + X.length + Y.length ≤ i ∧ i < P.length + X.length + Y.length + n) by omega)]
        simp only [if_neg h1, hX, hZ, if_neg h2, if_pos h3]
      · by_cases h4 : i - P.length - n - Y.length < n
        · rw [if_pos (show P.length + X.length + Y.length ≤ i ∧ i < P.length + X.length + Y.length + n by omega)]
          simp only [if_neg h1, hX, hZ, if_neg h2, if_neg h3, if_pos h4]
          rw [if_neg (by omega), if_pos (by omega)]
          congr 1; omega
        · rw [if_neg (show ¬ (P.length + X.length + Y.length ≤ i ∧ i < P.length + X.length + Y.length + n) by omega)]
          simp only [if_neg h1, hX, hZ, if_neg h2, if_neg h3, if_neg h4]
structure RotI (T E : List TmV) (m i j : Nat) : Prop where
  ex : ∃ P U V Q : List TmV, E = P ++ (U ++ (V ++ Q)) ∧ P.length + i = m ∧ U.length = i ∧ V.length = j ∧ T = P ++ (V ++ (U ++ Q))
  i0 : 0 < i
  j0 : 0 < j
theorem RotI.len {T E : List TmV} {m i j : Nat} (h : RotI T E m i j) : i ≤ m ∧ m + j ≤ E.length ∧ E.length = T.length := by
  obtain ⟨P, U, V, Q, hE, hP, hU, hV, hT⟩ := h.ex
  rw [hE, hT]
  simp only [List.length_append]
  omega
theorem RotI.left {T E E' : List TmV} {m i j : Nat} (h : RotI T E m i j) (hij : j < i) (hs : SwK E E' (m - i) m j) : RotI T E' m (i - j) j := by
  obtain ⟨P, U, V, Q, hE, hP, hU, hV, hT⟩ := h.ex
  have hs' := swk_eq (P := P) (X := U.take j) (Y := U.drop j) (Z := V) (Q := Q) hs (by rw [hE, ← List.append_assoc (U.take j), List.take_append_drop]) (by rw [List.length_take]; omega) hV (by omega) (by rw [List.length_take, List.length_drop]; omega)
  refine ⟨⟨P ++ V, U.drop j, U.take j, Q, ?_, ?_, ?_, ?_, ?_⟩, by omega, h.j0⟩
  · rw [hs']; simp only [List.append_assoc]
  · rw [List.length_append]; omega
  · rw [List.length_drop]; omega
  · rw [List.length_take]; omega
  · rw [hT, List.append_assoc, ← List.append_assoc (U.take j), List.take_append_drop]
theorem RotI.right {T E E' : List TmV} {m i j : Nat} (h : RotI T E m i j) (hij : i < j) (hs : SwK E E' (m - i) (m + j - i) i) : RotI T E' m i (j - i) := by
  obtain ⟨P, U, V, Q, hE, hP, hU, hV, hT⟩ := h.ex
  have hs' := swk_eq (P := P) (X := U) (Y := V.take (j - i)) (Z := V.drop (j - i)) (Q := Q) hs (by rw [hE, ← List.append_assoc (V.take (j - i)), List.take_append_drop]) hU (by rw [List.length_drop]; omega) (by omega) (by rw [List.length_take]; omega)
  refine ⟨⟨P, V.drop (j - i), V.take (j - i), U ++ Q, ?_, hP, ?_, ?_, ?_⟩, h.i0, by omega⟩
  · rw [hs']
  · rw [List.length_drop]; omega
  · rw [List.length_take]; omega
  · rw [hT, ← List.append_assoc (V.take (j - i)), List.take_append_drop]
theorem RotI.last {T E E' : List TmV} {m i : Nat} (h : RotI T E m i i) (hs : SwK E E' (m - i) m i) : E' = T := by
  obtain ⟨P, U, V, Q, hE, hP, hU, hV, hT⟩ := h.ex
  have hs' := swk_eq (P := P) (X := U) (Y := []) (Z := V) (Q := Q) hs (by rw [hE]; rfl) hU hV (by omega) (by simp; omega)
  rw [hs', hT]; rfl
set_option maxRecDepth 100000 in
set_option maxHeartbeats 1000000 in
theorem rotate_any (g c a m b : Nat) (D T : List TmV) (f : Value) (w : World) (h : TR w g D) (hR : RotI T D m (m - a) (b - m)) (ham : a < m) (hmb : m < b) (hD : D.length ≤ 1073741824) :
    Calls Tryz.prog 218 #[.slice (some ⟨g, 0, none⟩) D.length c, .int .i64 (a : Int), .int .i64 (m : Int), .int .i64 (b : Int), f] w fun e w' => e = .returned (.tuple #[]) ∧ TR w' g T ∧ Chg (fun k => k = g) w w' := by
  have hlen := hR.len
  obtain ⟨dl, hdl⟩ : ∃ n, n = D.length := ⟨_, rfl⟩
  rw [← hdl] at hD hlen ⊢
  have hsw : ∀ (a b n : Nat) (E : List TmV) (x : World), TR x g E → E.length = dl → a + n ≤ b → b + n ≤ dl → Calls Tryz.prog 226 #[.slice (some ⟨g, 0, none⟩) dl c, .int .i64 (a : Int), .int .i64 (b : Int), .int .i64 (n : Int), f] x fun e w' => e = .returned (.tuple #[]) ∧ ∃ D', SwK E D' a b n ∧ TR w' g D' ∧ Chg (fun k => k = g) x w' := fun a b n E x hx hE hab hb => by
    have := swaprange_any g c a b n E f x hx hab (by omega) (by omega)
    rw [hE] at this
    exact this
  have hT : T.length = dl := hlen.2.2.symm
  have hmd : m ≤ 1073741824 := by omega
  have hbd : b ≤ 1073741824 := by omega
  have hbm : ((b : Int) - (m : Int)) = ((b - m : Nat) : Int) := by omega
  have hma : ((m : Int) - (a : Int)) = ((m - a : Nat) : Int) := by omega
  replace h := hide h
  replace hR := hide hR
  replace hsw := hide hsw
  replace hdl := hide hdl
  replace hlen := hide hlen
  replace hT := hide hT
  replace hbm := hide hbm
  replace hma := hide hma
  go_enter Tryz.func218, Tryz.ntmps218
  go_wp2_with fail
  rw [hma.out, hbm.out]
  go_loopw [10, 11] (fun s10 s11 wr => ∃ (i j : Nat) (E : List TmV), s10 = .int .i64 (i : Int) ∧ s11 = .int .i64 (j : Int) ∧ i ≤ 1073741824 ∧ j ≤ 1073741824 ∧ Hid (RotI T E m i j ∧ TR wr g E ∧ Chg (fun k => k = g) w wr)) (fun s10 s11 _ => (intOf s10).toNat + (intOf s11).toNat)
  case atStart => exact ⟨m - a, b - m, D, rfl, rfl, by omega, by omega, hide ⟨hR.out, h.out, Chg.refl _ _⟩⟩
  case round =>
    obtain ⟨i, j, E, rfl, rfl, hi, hj, hI⟩ := hrel
    have hl := hI.out.1.len
    have hi0 := hI.out.1.i0
    have hj0 := hI.out.1.j0
    have hEl : E.length = dl := by have := hT.out; omega
    have hmi : ((m : Int) - (i : Int)) = ((m - i : Nat) : Int) := by omega
    have hmj : ((m : Int) + (j : Int) - (i : Int)) = ((m + j - i : Nat) : Int) := by omega
    by_cases hij : i = j
    · subst hij
      have hs := hide (hsw.out (m - i) m i E wr hI.out.2.1 hEl (by omega) (by omega))
      replace hmi := hide hmi
      replace hmj := hide hmj
      replace hEl := hide hEl
      go_wp2_with fail
      rw [hmi.out]
      refine hs.out.mono ?_
      rintro e w1 ⟨rfl, E', hk, hr, hc⟩
      obtain rfl := hI.out.1.last hk
      go_wp2_with fail
      go_end0
      exact ⟨rfl, hr, hI.out.2.2.trans hc fun _ _ h => h⟩
    · have hne : ¬ (i : Int) = (j : Int) := by omega
      by_cases hlt : j < i
      · have hs := hide (hsw.out (m - i) m j E wr hI.out.2.1 hEl (by omega) (by omega))
        have hij2 : ((i : Int) - (j : Int)) = ((i - j : Nat) : Int) := by omega
        replace hmi := hide hmi
        replace hmj := hide hmj
        replace hEl := hide hEl
        replace hij2 := hide hij2
        go_wp2_with fail
        rw [hmi.out]
        refine hs.out.mono ?_
        rintro e w1 ⟨rfl, E', hk, hr, hc⟩
        have hN := hI.out.1.left hlt hk
        replace hk := hide hk
        go_wp2_with fail
        go_roundw
        case rel => exact ⟨i - j, j, E', by rw [hij2.out], rfl, by omega, hj, hide ⟨hN, hr, hI.out.2.2.trans hc fun _ _ h => h⟩⟩
        case measure => simp [intOf]; omega
      · have hs := hide (hsw.out (m - i) (m + j - i) i E wr hI.out.2.1 hEl (by omega) (by omega))
        have hij2 : ((j : Int) - (i : Int)) = ((j - i : Nat) : Int) := by omega
        replace hmi := hide hmi
        replace hmj := hide hmj
        replace hEl := hide hEl
        replace hij2 := hide hij2
        go_wp2_with fail
        rw [hmi.out, hmj.out]
        refine hs.out.mono ?_
        rintro e w1 ⟨rfl, E', hk, hr, hc⟩
        have hN := hI.out.1.right (by omega) hk
        replace hk := hide hk
        go_wp2_with fail
        go_roundw
        case rel => exact ⟨i, j - i, E', rfl, by rw [hij2.out], hi, by omega, hide ⟨hN, hr, hI.out.2.2.trans hc fun _ _ h => h⟩⟩
        case measure => simp [intOf]; omega
end
end Go.Proofs.YtkdcnhnaiknaaaaGreat
