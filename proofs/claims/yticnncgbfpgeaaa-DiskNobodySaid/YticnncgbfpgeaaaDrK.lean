/- loggiaref06: Rename. -/
import Derived.Test.YticnncgbfpgeaaaDrI
import Derived.Deep.RegionHeld3
namespace Go.Proofs.Yticnncgbfpgeaaa
open Go.RowKit Go.Maps

set_option maxRecDepth 100000 in
set_option maxHeartbeats 4000000 in
theorem rrename_any (N : Nat → Prop) (A : Option Addr) (n c : Nat) (P : PD) (R : List RE) (s t : List UInt8) (w : World) (h : RS w N A n c R) (hP : R.map RE.pl = P.L) (hN : ∀ k, N k → k < w.heap.size) (hs : s.length ≤ 9223372036854775807) (ht : t.length ≤ 9223372036854775807) (ha : P.armed ≤ 9223372036854775807) :
    Calls Try.prog 35 #[rdisk A n c P.quota P.armed P.stopped, str s, str t] w (RNext N (renameM P s t) w) := by
  obtain ⟨q, hq⟩ : ∃ q, q = P.quota := ⟨_, rfl⟩
  obtain ⟨a, ha'⟩ : ∃ q, q = P.armed := ⟨_, rfl⟩
  obtain ⟨st, hst⟩ : ∃ q, q = P.stopped := ⟨_, rfl⟩
  rw [← hq, ← ha', ← hst]
  rw [← ha'] at ha
  obtain ⟨W, hW⟩ : ∃ W, W = (w.alloc (.cells #[.slice A n c, .int .i64 q, .int .i64 a, .bool st] 36)).alloc (.cells #[.slice none 0 0, .int .i64 0, .int .i64 0, .bool false] 36) := ⟨_, rfl⟩
  have hE : Ext w W := by rw [hW]; exact ((Ext.refl w).alloc _).alloc _
  have hWs : W.heap.size = w.heap.size + 2 := by rw [hW, size_alloc, size_alloc]
  have hd : Row W w.heap.size 36 #[.slice A n c, .int .i64 q, .int .i64 a, .bool st] := by rw [hW]; exact (Row.new w _ _).alloc _
  have hr2 : Row W (w.heap.size + 1) 36 #[.slice none 0 0, .int .i64 0, .int .i64 0, .bool false] := by
    have := Row.new (w.alloc (.cells #[.slice A n c, .int .i64 q, .int .i64 a, .bool st] 36)) 36 #[.slice none 0 0, .int .i64 0, .int .i64 0, .bool false]
    rw [size_alloc] at this
    rw [hW]
    exact this
  have hnm := rnamed_any s W hs
  have hnt := rnamed_any t W ht
  have hfa := rfind_any N A n c q a st R s W (h.ext hE)
  have hWx := hide hW.symm
  have d0 : W.cell? ⟨w.heap.size, 0, none⟩ = some (.slice A n c) := hd.cell 0 rfl
  have d1 : W.cell? ⟨w.heap.size, 1, none⟩ = some (.int .i64 q) := hd.cell 1 rfl
  have d2 : W.cell? ⟨w.heap.size, 2, none⟩ = some (.int .i64 a) := hd.cell 2 rfl
  have d3 : W.cell? ⟨w.heap.size, 3, none⟩ = some (.bool st) := hd.cell 3 rfl
  have r0 : W.cell? ⟨w.heap.size + 1, 0, none⟩ = some (.slice none 0 0) := hr2.cell 0 rfl
  have r1 : W.cell? ⟨w.heap.size + 1, 1, none⟩ = some (.int .i64 0) := hr2.cell 1 rfl
  have r2 : W.cell? ⟨w.heap.size + 1, 2, none⟩ = some (.int .i64 0) := hr2.cell 2 rfl
  have r3 : W.cell? ⟨w.heap.size + 1, 3, none⟩ = some (.bool false) := hr2.cell 3 rfl
  have f0 := hr2.free 0
  have f1 := hr2.free 1
  have f2 := hr2.free 2
  have f3 := hr2.free 3
  have same : ∀ (k : Nat) (wf : World), renameM P s t = (P, k) → Ext w wf → RNext N (renameM P s t) w (.returned (.tuple #[.agg #[.slice A n c, .int .i64 q, .int .i64 a, .bool st], .int .i64 k])) wf := by
    intro k wf hk hEf
    rw [hk, hq, ha', hst]
    exact rnext_same h hP hEf
  replace same := hide same
  unfold rdisk str at *
  clear hW
  replace hWs := hide hWs
  replace hfa := hide hfa
  by_cases hb0 : namedM s = false
  · have hres : renameM P s t = (P, 60) := by unfold renameM writesM; simp [hb0]
    rw [hb0] at hnm
    replace hnm := hide hnm
    replace hres := hide hres
    replace hq := hide hq
    replace ha' := hide ha'
    replace hst := hide hst
    go_enter Try.func35, Try.ntmps35
    go_wp2_with fail
    rw [hWx.out]
    refine hnm.out.mono ?_
    rintro e w1 ⟨rfl, hw1⟩
    replace hw1 := hw1.symm
    subst hw1
    go_wp2_with fail
    have hfin := tup_out hr2 hE (Nat.le_succ _) (A := A) (n := n) (c := c) (q := q) (a := a) (st := st)
    obtain ⟨wf, hwf⟩ : ∃ wf, wf = ((((W.setCell ⟨w.heap.size + 1, 0, none⟩ (.slice A n c)).setCell ⟨w.heap.size + 1, 1, none⟩ (.int .i64 q)).setCell ⟨w.heap.size + 1, 2, none⟩ (.int .i64 a)).setCell ⟨w.heap.size + 1, 3, none⟩ (.bool st)) := ⟨_, rfl⟩
    rw [← hwf] at hfin ⊢
    obtain ⟨z0, z1, z2, z3, hEf, _⟩ := hfin
    exact bodyPost_ret (v := .tuple #[.agg #[.slice A n c, .int .i64 q, .int .i64 a, .bool st], .int .i64 60]) (by simp [results, Try.results35, go_sem, z0, z1, z2, z3]) rfl (same.out 60 wf hres.out hEf)
  by_cases hb1 : namedM t = false
  · have hres : renameM P s t = (P, 60) := by unfold renameM writesM; simp [hb1]
    have hnmd : namedM s = true := by simpa using hb0
    rw [hnmd] at hnm
    rw [hb1] at hnt
    replace hnm := hide hnm
    replace hnt := hide hnt
    replace hres := hide hres
    replace hq := hide hq
    replace ha' := hide ha'
    replace hst := hide hst
    go_enter Try.func35, Try.ntmps35
    go_wp2_with fail
    rw [hWx.out]
    refine hnm.out.mono ?_
    rintro e w1 ⟨rfl, hw1⟩
    replace hw1 := hw1.symm
    subst hw1
    go_wp2_with fail
    refine hnt.out.mono ?_
    rintro e w1 ⟨rfl, hw1⟩
    replace hw1 := hw1.symm
    subst hw1
    go_wp2_with fail
    have hfin := tup_out hr2 hE (Nat.le_succ _) (A := A) (n := n) (c := c) (q := q) (a := a) (st := st)
    obtain ⟨wf, hwf⟩ : ∃ wf, wf = ((((W.setCell ⟨w.heap.size + 1, 0, none⟩ (.slice A n c)).setCell ⟨w.heap.size + 1, 1, none⟩ (.int .i64 q)).setCell ⟨w.heap.size + 1, 2, none⟩ (.int .i64 a)).setCell ⟨w.heap.size + 1, 3, none⟩ (.bool st)) := ⟨_, rfl⟩
    rw [← hwf] at hfin ⊢
    obtain ⟨z0, z1, z2, z3, hEf, _⟩ := hfin
    exact bodyPost_ret (v := .tuple #[.agg #[.slice A n c, .int .i64 q, .int .i64 a, .bool st], .int .i64 60]) (by simp [results, Try.results35, go_sem, z0, z1, z2, z3]) rfl (same.out 60 wf hres.out hEf)
  have hnmd : namedM s = true := by simpa using hb0
  have hnmt : namedM t = true := by simpa using hb1
  rw [hnmd] at hnm
  rw [hnmt] at hnt
  replace hnm := hide hnm
  replace hnt := hide hnt
  cases st with
  | true =>
    have hres : renameM P s t = (P, 63) := by unfold renameM writesM; simp only [List.all_cons, List.all_nil, hnmd, hnmt, Bool.and_self, if_true]; rw [← hst]; rfl
    replace hres := hide hres
    replace hq := hide hq
    replace ha' := hide ha'
    replace hst := hide hst
    go_enter Try.func35, Try.ntmps35
    go_wp2_with fail
    rw [hWx.out]
    refine hnm.out.mono ?_
    rintro e w1 ⟨rfl, hw1⟩
    replace hw1 := hw1.symm
    subst hw1
    go_wp2_with fail
    refine hnt.out.mono ?_
    rintro e w1 ⟨rfl, hw1⟩
    replace hw1 := hw1.symm
    subst hw1
    go_wp2_with fail
    have hfin := tup_out hr2 hE (Nat.le_succ _) (A := A) (n := n) (c := c) (q := q) (a := a) (st := true)
    obtain ⟨wf, hwf⟩ : ∃ wf, wf = ((((W.setCell ⟨w.heap.size + 1, 0, none⟩ (.slice A n c)).setCell ⟨w.heap.size + 1, 1, none⟩ (.int .i64 q)).setCell ⟨w.heap.size + 1, 2, none⟩ (.int .i64 a)).setCell ⟨w.heap.size + 1, 3, none⟩ (.bool true)) := ⟨_, rfl⟩
    rw [← hwf] at hfin ⊢
    obtain ⟨z0, z1, z2, z3, hEf, _⟩ := hfin
    exact bodyPost_ret (v := .tuple #[.agg #[.slice A n c, .int .i64 q, .int .i64 a, .bool true], .int .i64 63]) (by simp [results, Try.results35, go_sem, z0, z1, z2, z3]) rfl (same.out 63 wf hres.out hEf)
  | false =>
    rcases rfind_pl hP s with ⟨i, r, hf, hr, hn, hfd⟩ | ⟨hf, hfd⟩
    · have hfa2 := hfa.out
      rw [hf] at hfa2
      simp only [Option.getD_some, Option.isSome_some] at hfa2
      replace hfa2 := hide hfa2
      have hin : i < n := by rw [h.len]; exact (List.getElem?_eq_some_iff.1 hr).1
      obtain ⟨g, o, r', hAg, hr', k0, k1, k2⟩ := (h.ext hE).at_ hin
      obtain rfl : r' = r := by rw [hr] at hr'; cases hr'; rfl
      subst hAg
      have hrm := List.mem_of_getElem? hr
      have hok := h.ok r' hrm
      have hcl := rcall_any (some ⟨g, o, none⟩) n c q a
      unfold rdisk at hcl
      unfold str at k0
      have hcl2 := hide hcl
      clear hcl
      have hgl := World.block_lt_of_cell? W ⟨g, o + i * 3, none⟩ k0
      have hmany := h.many
      have hst' := hide hst
      clear hst
      replace hf := hide hf
      replace hr := hide hr
      replace hn := hide hn
      replace hfd := hide hfd
      clear hr'
      by_cases h1 : a = 1
      · have hda : decide (a = 1) = true := decide_eq_true h1
        have hres : renameM P s t = (P.stops, 63) := by unfold renameM writesM; simp only [List.all_cons, List.all_nil, hnmd, hnmt, Bool.and_self, if_true]; rw [← hst'.out, hfd.out]; show (if P.armed = 1 then _ else _) = _; rw [← ha', if_pos h1]
        obtain ⟨a1, ha1⟩ : ∃ a1, a1 = a - 1 := ⟨_, rfl⟩
        have ha10 : a1 = 0 := by omega
        replace ha10 := hide ha10
        replace h1 := hide h1
        replace hres := hide hres
        replace hq := hide hq
        replace ha' := hide ha'
        go_enter Try.func35, Try.ntmps35
        go_wp2_with fail
        rw [hWx.out]
        refine hnm.out.mono ?_
        rintro e w1 ⟨rfl, hw1⟩
        replace hw1 := hw1.symm
        subst hw1
        go_wp2_with fail
        refine hnt.out.mono ?_
        rintro e w1 ⟨rfl, hw1⟩
        replace hw1 := hw1.symm
        subst hw1
        go_wp2_with fail
        refine hfa2.out.mono ?_
        rintro e w1 ⟨rfl, hE1⟩
        have d0' := hE1.cell d0
        have d1' := hE1.cell d1
        have d2' := hE1.cell d2
        have d3' := hE1.cell d3
        have hcl3 := hcl2.out w1 ha
        rw [hda, ← ha1] at hcl3
        replace hcl3 := hide hcl3
        replace ha1 := hide ha1
        go_wp2_with fail
        refine hcl3.out.mono ?_
        rintro e w2 ⟨rfl, hE2⟩
        have hE3 := ((hE.trans hE1).trans hE2).alloc (.cells #[.slice (some ⟨g, o, none⟩) n c, .int .i64 q, .int .i64 a1, .bool true] 36)
        have hr3 := ((hr2.ext hE1).ext hE2).alloc (.cells #[.slice (some ⟨g, o, none⟩) n c, .int .i64 q, .int .i64 a1, .bool true] 36)
        have x0 := hr3.cell 0 rfl
        have x1 := hr3.cell 1 rfl
        have x2 := hr3.cell 2 rfl
        have x3 := hr3.cell 3 rfl
        have y0 := hr3.free 0
        have y1 := hr3.free 1
        have y2 := hr3.free 2
        have y3 := hr3.free 3
        go_wp2_with fail
        have hfin := tup_out hr3 hE3 (Nat.le_succ _) (A := some ⟨g, o, none⟩) (n := n) (c := c) (q := q) (a := a1) (st := true)
        obtain ⟨wf, hwf⟩ : ∃ wf, wf = (((((w2.alloc (.cells #[.slice (some ⟨g, o, none⟩) n c, .int .i64 q, .int .i64 a1, .bool true] 36)).setCell ⟨w.heap.size + 1, 0, none⟩ (.slice (some ⟨g, o, none⟩) n c)).setCell ⟨w.heap.size + 1, 1, none⟩ (.int .i64 q)).setCell ⟨w.heap.size + 1, 2, none⟩ (.int .i64 a1)).setCell ⟨w.heap.size + 1, 3, none⟩ (.bool true)) := ⟨_, rfl⟩
        rw [← hwf] at hfin ⊢
        obtain ⟨z0, z1, z2, z3, hEf, _⟩ := hfin
        refine bodyPost_ret (v := .tuple #[.agg #[.slice (some ⟨g, o, none⟩) n c, .int .i64 q, .int .i64 a1, .bool true], .int .i64 63]) (by simp [results, Try.results35, go_sem, z0, z1, z2, z3]) rfl ?_
        rw [hres.out, hq.out, ha10.out]
        exact ⟨some ⟨g, o, none⟩, n, c, R, rfl, h.ext hEf, hP, hEf⟩
      · have hda : decide (a = 1) = false := decide_eq_false h1
        have hres : renameM P s t = (P.goes (withG fname (t, r'.pl.2.1, r'.pl.2.2) (withoutG fname s P.L)), 0) := by unfold renameM writesM; simp only [List.all_cons, List.all_nil, hnmd, hnmt, Bool.and_self, if_true]; rw [← hst'.out, hfd.out]; show (if P.armed = 1 then _ else _) = _; rw [← ha', if_neg h1]
        have hLp : (withG RE.name { r' with name := t } (withoutG RE.name s R)).map RE.pl = withG fname (t, r'.pl.2.1, r'.pl.2.2) (withoutG fname s P.L) := by
          rw [map_with (nm := RE.name) (nm' := fname) (g := RE.pl) (fun _ => rfl), map_without (nm := RE.name) (nm' := fname) (g := RE.pl) (fun _ => rfl), hP]
          rfl
        obtain ⟨N2, hN2⟩ : ∃ N2 : Nat → Prop, N2 = fun k => N k ∨ (w.heap.size ≤ k ∧ k < w.heap.size + 2) := ⟨_, rfl⟩
        have hsub : ∀ k, k < w.heap.size → N2 k → N k := by
          intro k hk hn
          rw [hN2] at hn
          rcases hn with hn | hn
          · exact hn
          · omega
        have hN2s : ∀ k, N2 k → k < W.heap.size := by
          intro k hn
          rw [hN2] at hn
          rcases hn with hn | hn
          · have := hN k hn
            have := hE.size
            omega
          · rw [hWs.out]; omega
        obtain ⟨a1, ha1⟩ : ∃ a1, a1 = a - 1 := ⟨_, rfl⟩
        replace hres := hide hres
        replace hLp := hide hLp
        replace hq := hide hq
        replace ha' := hide ha'
        replace hN2 := hN2
        go_enter Try.func35, Try.ntmps35
        go_wp2_with fail
        rw [hWx.out]
        refine hnm.out.mono ?_
        rintro e w1 ⟨rfl, hw1⟩
        replace hw1 := hw1.symm
        subst hw1
        go_wp2_with fail
        refine hnt.out.mono ?_
        rintro e w1 ⟨rfl, hw1⟩
        replace hw1 := hw1.symm
        subst hw1
        go_wp2_with fail
        refine hfa2.out.mono ?_
        rintro e w1 ⟨rfl, hE1⟩
        have d0' := hE1.cell d0
        have d1' := hE1.cell d1
        have d2' := hE1.cell d2
        have d3' := hE1.cell d3
        have hcl3 := hcl2.out w1 ha
        rw [hda, ← ha1] at hcl3
        replace hcl3 := hide hcl3
        replace ha1 := hide ha1
        go_wp2_with fail
        refine hcl3.out.mono ?_
        rintro e w2 ⟨rfl, hE2⟩
        have hE12 := hE1.trans hE2
        have hE02 := hE.trans hE12
        have hR2 : RS w2 N2 (some ⟨g, o, none⟩) n c R := h.chg (Chg.of_ext hE02 (fun _ => False)) (fun _ _ h => h.elim) hsub
        have hok2 : ROk w2 N2 r' := hok.chg (Chg.of_ext hE02 (fun _ => False)) (fun _ _ h => h.elim) hsub
        have e0 := hE12.cell d0
        have m0 := hE12.cell k0
        have m1 := hE12.cell k1
        have m2 := hE12.cell k2
        have hgl2 : g < w2.heap.size := Nat.lt_of_lt_of_le hgl hE12.size
        have hdl : w.heap.size < w2.heap.size := Nat.lt_of_lt_of_le (by rw [hWs.out]; omega) hE12.size
        have hN3 : ∀ k, N2 k → k < w2.heap.size := fun k hk => Nat.lt_of_lt_of_le (hN2s k hk) hE12.size
        have hrw := hr2.ext hE12
        obtain ⟨W4, hW4⟩ : ∃ W4, W4 = (w2.alloc (.cells #[.slice (some ⟨g, o, none⟩) n c, .int .i64 q, .int .i64 a1, .bool false] 36)).alloc (.cells #[.string ⟨t.toArray⟩, .slice r'.A r'.b.length r'.c, .int .i64 r'.sure] 53) := ⟨_, rfl⟩
        have hE4 : Ext w2 W4 := by rw [hW4]; exact ((Ext.refl w2).alloc _).alloc _
        have hok4 : ROk W4 N2 { r' with name := t } := by
          have := hok2.ext hE4
          exact ⟨this.bytes, this.cap, this.nil, this.away, this.sure, ht, this.len⟩
        have hnx4 : Row W4 w2.heap.size 36 #[.slice (some ⟨g, o, none⟩) n c, .int .i64 q, .int .i64 a1, .bool false] := by
          rw [hW4]
          exact (Row.new w2 _ _).alloc _
        have hfx4 : Row W4 (w2.heap.size + 1) 53 #[.string ⟨t.toArray⟩, .slice r'.A r'.b.length r'.c, .int .i64 r'.sure] := by
          have := Row.new (w2.alloc (.cells #[.slice (some ⟨g, o, none⟩) n c, .int .i64 q, .int .i64 a1, .bool false] 36)) 53 #[.string ⟨t.toArray⟩, .slice r'.A r'.b.length r'.c, .int .i64 r'.sure]
          rw [size_alloc] at this
          rw [hW4]
          exact this
        have hwo := rwithout_any N2 (some ⟨g, o, none⟩) n c q a1 false R s W4.drew ((hR2.ext hE4).ext (Ext.refl W4).drew) (fun k hk => Nat.lt_of_lt_of_le (hN3 k hk) hE4.size)
        have hwi : ∀ (w5 : World) (A5 : Option Addr) (n5 c5 : Nat), Ext W4.drew w5 → RS w5 N2 A5 n5 c5 (withoutG RE.name s R) → _ := fun w5 A5 n5 c5 h5 hR5 => rwith_any N2 A5 n5 c5 q a1 false (withoutG RE.name s R) { r' with name := t } w5 hR5 (hok4.ext ((Ext.refl W4).drew.trans h5)) (fun k hk => Nat.lt_of_lt_of_le (hN3 k hk) (Nat.le_trans hE4.size h5.size)) (by
          have h1 := len_with_le (nm := RE.name) { r' with name := t } (withoutG RE.name s R)
          have h2 := len_without_lt (nm := RE.name) hrm hn.out
          rw [← h.len] at h2
          omega)
        have hSk : ∀ w5, Ext W4.drew w5 → (fun w' => w'.cell? ⟨w2.heap.size, 0, none⟩ = some (.slice (some ⟨g, o, none⟩) n c) ∧ w'.cell? ⟨w2.heap.size, 1, none⟩ = some (.int .i64 q) ∧ w'.cell? ⟨w2.heap.size, 2, none⟩ = some (.int .i64 a1) ∧ w'.cell? ⟨w2.heap.size, 3, none⟩ = some (.bool false) ∧ w'.cell? ⟨w2.heap.size + 1, 0, none⟩ = some (.string ⟨t.toArray⟩) ∧ w'.cell? ⟨w2.heap.size + 1, 1, none⟩ = some (.slice r'.A r'.b.length r'.c) ∧ w'.cell? ⟨w2.heap.size + 1, 2, none⟩ = some (.int .i64 r'.sure)) w5 := fun w5 h5 => by
          have ha := (hnx4.drew.ext h5)
          have hb := (hfx4.drew.ext h5)
          exact ⟨ha.cell 0 rfl, ha.cell 1 rfl, ha.cell 2 rfl, ha.cell 3 rfl, hb.cell 0 rfl, hb.cell 1 rfl, hb.cell 2 rfl⟩
        have hSs : ∀ (w5 : World) (A5 : Option Addr) (n5 c5 : Nat), Ext W4.drew w5 → (fun w' => w'.cell? ⟨w2.heap.size, 0, none⟩ = some (.slice (some ⟨g, o, none⟩) n c) ∧ w'.cell? ⟨w2.heap.size, 1, none⟩ = some (.int .i64 q) ∧ w'.cell? ⟨w2.heap.size, 2, none⟩ = some (.int .i64 a1) ∧ w'.cell? ⟨w2.heap.size, 3, none⟩ = some (.bool false) ∧ w'.cell? ⟨w2.heap.size + 1, 0, none⟩ = some (.string ⟨t.toArray⟩) ∧ w'.cell? ⟨w2.heap.size + 1, 1, none⟩ = some (.slice r'.A r'.b.length r'.c) ∧ w'.cell? ⟨w2.heap.size + 1, 2, none⟩ = some (.int .i64 r'.sure)) ((((w5.setCell ⟨w.heap.size + 1, 0, none⟩ (.slice A5 n5 c5)).setCell ⟨w.heap.size + 1, 1, none⟩ (.int .i64 q)).setCell ⟨w.heap.size + 1, 2, none⟩ (.int .i64 a1)).setCell ⟨w.heap.size + 1, 3, none⟩ (.bool false)) := fun w5 A5 n5 c5 h5 => by
          have hbw : w.heap.size + 1 < w2.heap.size := Nat.lt_of_lt_of_le (by rw [hWs.out]; omega) hE12.size
          have hc := (tup_out (w0 := w) ((hrw.ext hE4).ext ((Ext.refl W4).drew.trans h5)) ((hE02.trans hE4).trans ((Ext.refl W4).drew.trans h5)) (Nat.le_succ _) (A := A5) (n := n5) (c := c5) (q := q) (a := a1) (st := false)).2.2.2.2.2
          have ha := hc.row (hnx4.drew.ext h5) (by show ¬ (w2.heap.size = w.heap.size + 1); omega)
          have hb := hc.row (hfx4.drew.ext h5) (by show ¬ (w2.heap.size + 1 = w.heap.size + 1); omega)
          exact ⟨ha.cell 0 rfl, ha.cell 1 rfl, ha.cell 2 rfl, ha.cell 3 rfl, hb.cell 0 rfl, hb.cell 1 rfl, hb.cell 2 rfl⟩
        have hrows : ∀ w5, Ext W4.drew w5 → Row w5 (w.heap.size + 1) 36 #[.slice none 0 0, .int .i64 0, .int .i64 0, .bool false] := fun w5 h5 => (hrw.ext hE4).ext ((Ext.refl W4).drew.trans h5)
        unfold rdisk str at hwo
        unfold rdisk RE.agg str at hwi
        have hW4x := hide hW4.symm
        clear hW4
        have hS0 := hSk W4.drew (Ext.refl _)
        simp only [] at hS0
        replace hwo := hide hwo
        replace hwi := hide hwi
        replace hSk := hide hSk
        replace hSs := hide hSs
        replace hrows := hide hrows
        replace hS0 := hide hS0
        clear hnx4 hfx4
        go_upto_region 13 with (fail)
        rw [hW4x.out]
        go_region_held3 (fun w' => w'.cell? ⟨w2.heap.size, 0, none⟩ = some (.slice (some ⟨g, o, none⟩) n c) ∧ w'.cell? ⟨w2.heap.size, 1, none⟩ = some (.int .i64 q) ∧ w'.cell? ⟨w2.heap.size, 2, none⟩ = some (.int .i64 a1) ∧ w'.cell? ⟨w2.heap.size, 3, none⟩ = some (.bool false) ∧ w'.cell? ⟨w2.heap.size + 1, 0, none⟩ = some (.string ⟨t.toArray⟩) ∧ w'.cell? ⟨w2.heap.size + 1, 1, none⟩ = some (.slice r'.A r'.b.length r'.c) ∧ w'.cell? ⟨w2.heap.size + 1, 2, none⟩ = some (.int .i64 r'.sure)) (first | exact hS0.out | exact ‹_› | exact Hid.out ‹_›) (first | (go_at_call 58; refine hwo.out.mono ?_; rintro e w5 ⟨A5, n5, c5, rfl, hR5, hE5⟩; have hS5 := hide (hSk.out w5 hE5); have hwi2 := hide (hwi.out w5 A5 n5 c5 hE5 hR5)) | (go_at_call 57; refine hwi2.out.mono ?_; rintro e w6 ⟨A6, n6, c6, rfl, hR6, hE6⟩; have hS6 := hide (hSk.out w6 (hE5.trans hE6)); have hS7 := hide (hSs.out w6 A6 n6 c6 (hE5.trans hE6)); have hr6 := hrows.out w6 (hE5.trans hE6); have x0 := hr6.cell 0 rfl; have x1 := hr6.cell 1 rfl; have x2 := hr6.cell 2 rfl; have x3 := hr6.cell 3 rfl; have y0 := hr6.free 0; have y1 := hr6.free 1; have y2 := hr6.free 2; have y3 := hr6.free 3))
        go_wp2_with fail
        have hE06 := (((hE02.trans hE4).trans (Ext.refl W4).drew).trans hE5).trans hE6
        have hfin := tup_out hr6 hE06 (Nat.le_succ _) (A := A6) (n := n6) (c := c6) (q := q) (a := a1) (st := false)
        obtain ⟨wf, hwf⟩ : ∃ wf, wf = ((((w6.setCell ⟨w.heap.size + 1, 0, none⟩ (.slice A6 n6 c6)).setCell ⟨w.heap.size + 1, 1, none⟩ (.int .i64 q)).setCell ⟨w.heap.size + 1, 2, none⟩ (.int .i64 a1)).setCell ⟨w.heap.size + 1, 3, none⟩ (.bool false)) := ⟨_, rfl⟩
        rw [← hwf] at hfin ⊢
        obtain ⟨z0, z1, z2, z3, hEf, hcf⟩ := hfin
        refine bodyPost_ret (v := .tuple #[.agg #[.slice A6 n6 c6, .int .i64 q, .int .i64 a1, .bool false], .int .i64 0]) (by simp [results, Try.results35, go_sem, z0, z1, z2, z3]) rfl ?_
        rw [hres.out]
        exact ⟨A6, n6, c6, _, by rw [hq.out, ha1.out, ha'.out, hst'.out]; rfl, hR6.chg hcf (fun k _ hk => by rw [hN2, hk]; exact .inr ⟨Nat.le_succ _, by omega⟩) (fun k _ hk => by rw [hN2]; exact .inl hk), hLp.out, hEf⟩
    · have hfa2 := hfa.out
      rw [hf] at hfa2
      simp only [Option.getD_none, Option.isSome_none] at hfa2
      have hres : renameM P s t = (P, 61) := by unfold renameM writesM; simp only [List.all_cons, List.all_nil, hnmd, hnmt, Bool.and_self, if_true]; rw [← hst, hfd]; rfl
      replace hfa2 := hide hfa2
      replace hres := hide hres
      replace hq := hide hq
      replace ha' := hide ha'
      replace hst := hide hst
      go_enter Try.func35, Try.ntmps35
      go_wp2_with fail
      rw [hWx.out]
      refine hnm.out.mono ?_
      rintro e w1 ⟨rfl, hw1⟩
      replace hw1 := hw1.symm
      subst hw1
      go_wp2_with fail
      refine hnt.out.mono ?_
      rintro e w1 ⟨rfl, hw1⟩
      replace hw1 := hw1.symm
      subst hw1
      go_wp2_with fail
      refine hfa2.out.mono ?_
      rintro e w1 ⟨rfl, hE1⟩
      have hr3 := hr2.ext hE1
      have hE3 := hE.trans hE1
      have d0' := hE1.cell d0
      have d1' := hE1.cell d1
      have d2' := hE1.cell d2
      have d3' := hE1.cell d3
      have x0 := hr3.cell 0 rfl
      have x1 := hr3.cell 1 rfl
      have x2 := hr3.cell 2 rfl
      have x3 := hr3.cell 3 rfl
      have y0 := hr3.free 0
      have y1 := hr3.free 1
      have y2 := hr3.free 2
      have y3 := hr3.free 3
      go_wp2_with fail
      have hfin := tup_out hr3 hE3 (Nat.le_succ _) (A := A) (n := n) (c := c) (q := q) (a := a) (st := false)
      obtain ⟨wf, hwf⟩ : ∃ wf, wf = ((((w1.setCell ⟨w.heap.size + 1, 0, none⟩ (.slice A n c)).setCell ⟨w.heap.size + 1, 1, none⟩ (.int .i64 q)).setCell ⟨w.heap.size + 1, 2, none⟩ (.int .i64 a)).setCell ⟨w.heap.size + 1, 3, none⟩ (.bool false)) := ⟨_, rfl⟩
      rw [← hwf] at hfin ⊢
      obtain ⟨z0, z1, z2, z3, hEf, _⟩ := hfin
      exact bodyPost_ret (v := .tuple #[.agg #[.slice A n c, .int .i64 q, .int .i64 a, .bool false], .int .i64 61]) (by simp [results, Try.results35, go_sem, z0, z1, z2, z3]) rfl (same.out 61 wf hres.out hEf)
end Go.Proofs.Yticnncgbfpgeaaa
