/- loggiaref06: Remove. -/
import Derived.Test.YtohphanbnhiodaaGreatM09
import Derived.Deep.RegionHeld3
import Derived.Test.YtohphanbnhiodaaGreatM07
import Derived.Test.YtohphanbnhiodaaGreatM04
import Derived.Deep.CutRange
import Derived.Deep.DeepCutAuto
import Derived.Deep.QuietTactic
import Derived.BigQuiet
set_option linter.unusedSimpArgs false
set_option linter.unusedVariables false
namespace Go.Proofs.YtohphanbnhiodaaGreat
open Go.RowKit Go.Maps

set_option maxRecDepth 100000 in
set_option maxHeartbeats 4000000 in
theorem rremove_any (N : Nat → Prop) (A : Option Addr) (n c : Nat) (P : PD) (R : List RE) (s : List UInt8) (w : World) (h : RS w N A n c R) (hP : R.map RE.pl = P.L) (hN : ∀ k, N k → k < w.heap.size) (hs : s.length ≤ 9223372036854775807) (ha : P.armed ≤ 9223372036854775807) :
    Calls Tryz.prog 49 #[rdisk A n c P.quota P.armed P.stopped, str s] w (RNext N (removeM P s) w) := by
  obtain ⟨q, hq⟩ : ∃ q, q = P.quota := ⟨_, rfl⟩
  obtain ⟨a, ha'⟩ : ∃ q, q = P.armed := ⟨_, rfl⟩
  obtain ⟨st, hst⟩ : ∃ q, q = P.stopped := ⟨_, rfl⟩
  rw [← hq, ← ha', ← hst]
  rw [← ha'] at ha
  obtain ⟨W, hW⟩ : ∃ W, W = (w.alloc (.cells #[.slice A n c, .int .i64 q, .int .i64 a, .bool st] 29)).alloc (.cells #[.slice none 0 0, .int .i64 0, .int .i64 0, .bool false] 29) := ⟨_, rfl⟩
  have hE : Ext w W := by rw [hW]; exact ((Ext.refl w).alloc _).alloc _
  have hWs : W.heap.size = w.heap.size + 2 := by rw [hW, size_alloc, size_alloc]
  have hd : Row W w.heap.size 29 #[.slice A n c, .int .i64 q, .int .i64 a, .bool st] := by rw [hW]; exact (Row.new w _ _).alloc _
  have hr2 : Row W (w.heap.size + 1) 29 #[.slice none 0 0, .int .i64 0, .int .i64 0, .bool false] := by
    have := Row.new (w.alloc (.cells #[.slice A n c, .int .i64 q, .int .i64 a, .bool st] 29)) 29 #[.slice none 0 0, .int .i64 0, .int .i64 0, .bool false]
    rw [size_alloc] at this
    rw [hW]
    exact this
  have hnm := rnamed_any s W hs
  have hfa := rfind_any N A n c q a st R s W (h.ext hE)
  have hWx := hide hW.symm
  have d0 : W.cell? ⟨w.heap.size, 0, none⟩ = some (.slice A n c) := hd.cell 0 rfl
  have d1 : W.cell? ⟨w.heap.size, 1, none⟩ = some (.int .i64 q) := hd.cell 1 rfl
  have d2 : W.cell? ⟨w.heap.size, 2, none⟩ = some (.int .i64 a) := hd.cell 2 rfl
  have d3 : W.cell? ⟨w.heap.size, 3, none⟩ = some (.bool st) := hd.cell 3 rfl
  have r0 : W.cell? ⟨w.heap.size + 1, 0, none⟩ = some (.slice none 0 0) := hr2.cell 0 rfl
  have r1 : W.cell? ⟨w.heap.size + 1, 1, none⟩ = some (.int .i64 0) := hr2.cell 1 rfl
  have r2 : W.cell? ⟨w.heap.size + 1, 2, none⟩ = some (.int .i64 0) := hr2.cell 2 rfl
  have r3 : W.cell? ⟨w.heap.size + 1, 3, none⟩ = some (.bool false) := hr2.cell 3 rfl
  have f0 := hr2.free 0
  have f1 := hr2.free 1
  have f2 := hr2.free 2
  have f3 := hr2.free 3
  have same : ∀ (k : Nat) (wf : World), removeM P s = (P, k) → Ext w wf → RNext N (removeM P s) w (.returned (.tuple #[.agg #[.slice A n c, .int .i64 q, .int .i64 a, .bool st], .int .i64 k])) wf := by
    intro k wf hk hEf
    rw [hk, hq, ha', hst]
    exact rnext_same h hP hEf
  replace same := hide same
  unfold rdisk str at *
  clear hW
  replace hWs := hide hWs
  replace hfa := hide hfa
  by_cases hb0 : namedM s = false
  · have hres : removeM P s = (P, 60) := by unfold removeM writesM; simp [hb0]
    rw [hb0] at hnm
    replace hnm := hide hnm
    replace hres := hide hres
    replace hq := hide hq
    replace ha' := hide ha'
    replace hst := hide hst
    go_enter Tryz.func49, Tryz.ntmps49
    go_wp2_with fail
    rw [hWx.out]
    refine hnm.out.mono ?_
    rintro e w1 ⟨rfl, hw1⟩
    replace hw1 := hw1.symm
    subst hw1
    go_wp2_with fail
    have hfin := tup_out hr2 hE (Nat.le_succ _) (A := A) (n := n) (c := c) (q := q) (a := a) (st := st)
    obtain ⟨wf, hwf⟩ : ∃ wf, wf = ((((W.setCell ⟨w.heap.size + 1, 0, none⟩ (.slice A n c)).setCell ⟨w.heap.size + 1, 1, none⟩ (.int .i64 q)).setCell ⟨w.heap.size + 1, 2, none⟩ (.int .i64 a)).setCell ⟨w.heap.size + 1, 3, none⟩ (.bool st)) := ⟨_, rfl⟩
    rw [← hwf] at hfin ⊢
    obtain ⟨z0, z1, z2, z3, hEf, _⟩ := hfin
    exact bodyPost_ret (v := .tuple #[.agg #[.slice A n c, .int .i64 q, .int .i64 a, .bool st], .int .i64 60]) (by simp [results, Tryz.results49, go_sem, z0, z1, z2, z3]) rfl (same.out 60 wf hres.out hEf)
  have hnmd : namedM s = true := by simpa using hb0
  rw [hnmd] at hnm
  replace hnm := hide hnm
  cases st with
  | true =>
    have hres : removeM P s = (P, 63) := by unfold removeM writesM; simp only [List.all_cons, List.all_nil, hnmd, Bool.and_self, if_true]; rw [← hst]; rfl
    replace hres := hide hres
    replace hq := hide hq
    replace ha' := hide ha'
    replace hst := hide hst
    go_enter Tryz.func49, Tryz.ntmps49
    go_wp2_with fail
    rw [hWx.out]
    refine hnm.out.mono ?_
    rintro e w1 ⟨rfl, hw1⟩
    replace hw1 := hw1.symm
    subst hw1
    go_wp2_with fail
    have hfin := tup_out hr2 hE (Nat.le_succ _) (A := A) (n := n) (c := c) (q := q) (a := a) (st := true)
    obtain ⟨wf, hwf⟩ : ∃ wf, wf = ((((W.setCell ⟨w.heap.size + 1, 0, none⟩ (.slice A n c)).setCell ⟨w.heap.size + 1, 1, none⟩ (.int .i64 q)).setCell ⟨w.heap.size + 1, 2, none⟩ (.int .i64 a)).setCell ⟨w.heap.size + 1, 3, none⟩ (.bool true)) := ⟨_, rfl⟩
    rw [← hwf] at hfin ⊢
    obtain ⟨z0, z1, z2, z3, hEf, _⟩ := hfin
    exact bodyPost_ret (v := .tuple #[.agg #[.slice A n c, .int .i64 q, .int .i64 a, .bool true], .int .i64 63]) (by simp [results, Tryz.results49, go_sem, z0, z1, z2, z3]) rfl (same.out 63 wf hres.out hEf)
  | false =>
    rcases rfind_pl hP s with ⟨i, r, hf, hr, hn, hfd⟩ | ⟨hf, hfd⟩
    · have hfa2 := hfa.out
      rw [hf] at hfa2
      simp only [Option.getD_some, Option.isSome_some] at hfa2
      replace hfa2 := hide hfa2
      have hin : i < n := by rw [h.len]; exact (List.getElem?_eq_some_iff.1 hr).1
      obtain ⟨g, o, r', hAg, hr', k0, k1, k2⟩ := (h.ext hE).at_ hin
      obtain rfl : r' = r := by rw [hr] at hr'; cases hr'; rfl
      subst hAg
      have hrm := List.mem_of_getElem? hr
      have hok := h.ok r' hrm
      have hcl := rcall_any (some ⟨g, o, none⟩) n c q a
      unfold rdisk at hcl
      unfold str at k0
      have hcl2 := hide hcl
      clear hcl
      have hgl := World.block_lt_of_cell? W ⟨g, o + i * 3, none⟩ k0
      have hmany := h.many
      have hst' := hide hst
      clear hst
      replace hf := hide hf
      replace hr := hide hr
      replace hn := hide hn
      replace hfd := hide hfd
      clear hr'
      by_cases h1 : a = 1
      · have hda : decide (a = 1) = true := decide_eq_true h1
        have hres : removeM P s = (P.stops, 63) := by unfold removeM writesM; simp only [List.all_cons, List.all_nil, hnmd, Bool.and_self, if_true]; rw [← hst'.out, hfd.out]; show (if P.armed = 1 then _ else _) = _; rw [← ha', if_pos h1]
        obtain ⟨a1, ha1⟩ : ∃ a1, a1 = a - 1 := ⟨_, rfl⟩
        have ha10 : a1 = 0 := by omega
        replace ha10 := hide ha10
        replace h1 := hide h1
        replace hres := hide hres
        replace hq := hide hq
        replace ha' := hide ha'
        go_enter Tryz.func49, Tryz.ntmps49
        go_wp2_with fail
        rw [hWx.out]
        refine hnm.out.mono ?_
        rintro e w1 ⟨rfl, hw1⟩
        replace hw1 := hw1.symm
        subst hw1
        go_wp2_with fail
        refine hfa2.out.mono ?_
        rintro e w1 ⟨rfl, hE1⟩
        have d0' := hE1.cell d0
        have d1' := hE1.cell d1
        have d2' := hE1.cell d2
        have d3' := hE1.cell d3
        have hcl3 := hcl2.out w1 ha
        rw [hda, ← ha1] at hcl3
        replace hcl3 := hide hcl3
        replace ha1 := hide ha1
        go_wp2_with fail
        refine hcl3.out.mono ?_
        rintro e w2 ⟨rfl, hE2⟩
        have hE3 := ((hE.trans hE1).trans hE2).alloc (.cells #[.slice (some ⟨g, o, none⟩) n c, .int .i64 q, .int .i64 a1, .bool true] 29)
        have hr3 := ((hr2.ext hE1).ext hE2).alloc (.cells #[.slice (some ⟨g, o, none⟩) n c, .int .i64 q, .int .i64 a1, .bool true] 29)
        have x0 := hr3.cell 0 rfl
        have x1 := hr3.cell 1 rfl
        have x2 := hr3.cell 2 rfl
        have x3 := hr3.cell 3 rfl
        have y0 := hr3.free 0
        have y1 := hr3.free 1
        have y2 := hr3.free 2
        have y3 := hr3.free 3
        go_wp2_with fail
        have hfin := tup_out hr3 hE3 (Nat.le_succ _) (A := some ⟨g, o, none⟩) (n := n) (c := c) (q := q) (a := a1) (st := true)
        obtain ⟨wf, hwf⟩ : ∃ wf, wf = (((((w2.alloc (.cells #[.slice (some ⟨g, o, none⟩) n c, .int .i64 q, .int .i64 a1, .bool true] 29)).setCell ⟨w.heap.size + 1, 0, none⟩ (.slice (some ⟨g, o, none⟩) n c)).setCell ⟨w.heap.size + 1, 1, none⟩ (.int .i64 q)).setCell ⟨w.heap.size + 1, 2, none⟩ (.int .i64 a1)).setCell ⟨w.heap.size + 1, 3, none⟩ (.bool true)) := ⟨_, rfl⟩
        rw [← hwf] at hfin ⊢
        obtain ⟨z0, z1, z2, z3, hEf, _⟩ := hfin
        refine bodyPost_ret (v := .tuple #[.agg #[.slice (some ⟨g, o, none⟩) n c, .int .i64 q, .int .i64 a1, .bool true], .int .i64 63]) (by simp [results, Tryz.results49, go_sem, z0, z1, z2, z3]) rfl ?_
        rw [hres.out, hq.out, ha10.out]
        exact ⟨some ⟨g, o, none⟩, n, c, R, rfl, h.ext hEf, hP, hEf⟩
      · have hda : decide (a = 1) = false := decide_eq_false h1
        have hres : removeM P s = (P.goes (withoutG fname s P.L), 0) := by unfold removeM writesM; simp only [List.all_cons, List.all_nil, hnmd, Bool.and_self, if_true]; rw [← hst'.out, hfd.out]; show (if P.armed = 1 then _ else _) = _; rw [← ha', if_neg h1]
        have hLp : (withoutG RE.name s R).map RE.pl = withoutG fname s P.L := by
          rw [map_without (nm := RE.name) (nm' := fname) (g := RE.pl) (fun _ => rfl), hP]
        obtain ⟨N2, hN2⟩ : ∃ N2 : Nat → Prop, N2 = fun k => N k ∨ (w.heap.size ≤ k ∧ k < w.heap.size + 2) := ⟨_, rfl⟩
        have hsub : ∀ k, k < w.heap.size → N2 k → N k := by
          intro k hk hn
          rw [hN2] at hn
          rcases hn with hn | hn
          · exact hn
          · omega
        have hN2s : ∀ k, N2 k → k < W.heap.size := by
          intro k hn
          rw [hN2] at hn
          rcases hn with hn | hn
          · have := hN k hn
            have := hE.size
            omega
          · rw [hWs.out]; omega
        obtain ⟨a1, ha1⟩ : ∃ a1, a1 = a - 1 := ⟨_, rfl⟩
        replace hres := hide hres
        replace hLp := hide hLp
        replace hq := hide hq
        replace ha' := hide ha'
        replace hN2 := hN2
        go_enter Tryz.func49, Tryz.ntmps49
        go_wp2_with fail
        rw [hWx.out]
        refine hnm.out.mono ?_
        rintro e w1 ⟨rfl, hw1⟩
        replace hw1 := hw1.symm
        subst hw1
        go_wp2_with fail
        refine hfa2.out.mono ?_
        rintro e w1 ⟨rfl, hE1⟩
        have d0' := hE1.cell d0
        have d1' := hE1.cell d1
        have d2' := hE1.cell d2
        have d3' := hE1.cell d3
        have hcl3 := hcl2.out w1 ha
        rw [hda, ← ha1] at hcl3
        replace hcl3 := hide hcl3
        replace ha1 := hide ha1
        go_wp2_with fail
        refine hcl3.out.mono ?_
        rintro e w2 ⟨rfl, hE2⟩
        have hE12 := hE1.trans hE2
        have hE02 := hE.trans hE12
        have hR2 : RS w2 N2 (some ⟨g, o, none⟩) n c R := h.chg (Chg.of_ext hE02 (fun _ => False)) (fun _ _ h => h.elim) hsub
        have hok2 : ROk w2 N2 r' := hok.chg (Chg.of_ext hE02 (fun _ => False)) (fun _ _ h => h.elim) hsub
        have e0 := hE12.cell d0
        have m0 := hE12.cell k0
        have m1 := hE12.cell k1
        have m2 := hE12.cell k2
        have hgl2 : g < w2.heap.size := Nat.lt_of_lt_of_le hgl hE12.size
        have hdl : w.heap.size < w2.heap.size := Nat.lt_of_lt_of_le (by rw [hWs.out]; omega) hE12.size
        have hN3 : ∀ k, N2 k → k < w2.heap.size := fun k hk => Nat.lt_of_lt_of_le (hN2s k hk) hE12.size
        have hrw := hr2.ext hE12
        obtain ⟨W4, hW4⟩ : ∃ W4, W4 = w2.alloc (.cells #[.slice (some ⟨g, o, none⟩) n c, .int .i64 q, .int .i64 a1, .bool false] 29) := ⟨_, rfl⟩
        have hE4 : Ext w2 W4 := by rw [hW4]; exact (Ext.refl w2).alloc _
        have hwi := rwithout_any N2 (some ⟨g, o, none⟩) n c q a1 false R s W4 (hR2.ext hE4) (fun k hk => Nat.lt_of_lt_of_le (hN3 k hk) hE4.size)
        unfold rdisk str at hwi
        have hW4x := hide hW4.symm
        clear hW4
        replace hwi := hide hwi
        go_wp2_with fail
        rw [hW4x.out]
        refine hwi.out.mono ?_
        rintro e w5 ⟨A5, n5, c5, rfl, hR5, hE5⟩
        have hr5 := (hrw.ext hE4).ext hE5
        have hE05 := (hE02.trans hE4).trans hE5
        have x0 := hr5.cell 0 rfl
        have x1 := hr5.cell 1 rfl
        have x2 := hr5.cell 2 rfl
        have x3 := hr5.cell 3 rfl
        have y0 := hr5.free 0
        have y1 := hr5.free 1
        have y2 := hr5.free 2
        have y3 := hr5.free 3
        go_wp2_with fail
        have hfin := tup_out hr5 hE05 (Nat.le_succ _) (A := A5) (n := n5) (c := c5) (q := q) (a := a1) (st := false)
        obtain ⟨wf, hwf⟩ : ∃ wf, wf = ((((w5.setCell ⟨w.heap.size + 1, 0, none⟩ (.slice A5 n5 c5)).setCell ⟨w.heap.size + 1, 1, none⟩ (.int .i64 q)).setCell ⟨w.heap.size + 1, 2, none⟩ (.int .i64 a1)).setCell ⟨w.heap.size + 1, 3, none⟩ (.bool false)) := ⟨_, rfl⟩
        rw [← hwf] at hfin ⊢
        obtain ⟨z0, z1, z2, z3, hEf, hcf⟩ := hfin
        refine bodyPost_ret (v := .tuple #[.agg #[.slice A5 n5 c5, .int .i64 q, .int .i64 a1, .bool false], .int .i64 0]) (by simp [results, Tryz.results49, go_sem, z0, z1, z2, z3]) rfl ?_
        rw [hres.out]
        exact ⟨A5, n5, c5, _, by rw [hq.out, ha1.out, ha'.out, hst'.out]; rfl, hR5.chg hcf (fun k _ hk => by rw [hN2, hk]; exact .inr ⟨Nat.le_succ _, by omega⟩) (fun k _ hk => by rw [hN2]; exact .inl hk), hLp.out, hEf⟩
    · have hfa2 := hfa.out
      rw [hf] at hfa2
      simp only [Option.getD_none, Option.isSome_none] at hfa2
      have hres : removeM P s = (P, 61) := by unfold removeM writesM; simp only [List.all_cons, List.all_nil, hnmd, Bool.and_self, if_true]; rw [← hst, hfd]; rfl
      replace hfa2 := hide hfa2
      replace hres := hide hres
      replace hq := hide hq
      replace ha' := hide ha'
      replace hst := hide hst
      go_enter Tryz.func49, Tryz.ntmps49
      go_wp2_with fail
      rw [hWx.out]
      refine hnm.out.mono ?_
      rintro e w1 ⟨rfl, hw1⟩
      replace hw1 := hw1.symm
      subst hw1
      go_wp2_with fail
      refine hfa2.out.mono ?_
      rintro e w1 ⟨rfl, hE1⟩
      have hr3 := hr2.ext hE1
      have hE3 := hE.trans hE1
      have d0' := hE1.cell d0
      have d1' := hE1.cell d1
      have d2' := hE1.cell d2
      have d3' := hE1.cell d3
      have x0 := hr3.cell 0 rfl
      have x1 := hr3.cell 1 rfl
      have x2 := hr3.cell 2 rfl
      have x3 := hr3.cell 3 rfl
      have y0 := hr3.free 0
      have y1 := hr3.free 1
      have y2 := hr3.free 2
      have y3 := hr3.free 3
      go_wp2_with fail
      have hfin := tup_out hr3 hE3 (Nat.le_succ _) (A := A) (n := n) (c := c) (q := q) (a := a) (st := false)
      obtain ⟨wf, hwf⟩ : ∃ wf, wf = ((((w1.setCell ⟨w.heap.size + 1, 0, none⟩ (.slice A n c)).setCell ⟨w.heap.size + 1, 1, none⟩ (.int .i64 q)).setCell ⟨w.heap.size + 1, 2, none⟩ (.int .i64 a)).setCell ⟨w.heap.size + 1, 3, none⟩ (.bool false)) := ⟨_, rfl⟩
      rw [← hwf] at hfin ⊢
      obtain ⟨z0, z1, z2, z3, hEf, _⟩ := hfin
      exact bodyPost_ret (v := .tuple #[.agg #[.slice A n c, .int .i64 q, .int .i64 a, .bool false], .int .i64 61]) (by simp [results, Tryz.results49, go_sem, z0, z1, z2, z3]) rfl (same.out 61 wf hres.out hEf)
end Go.Proofs.YtohphanbnhiodaaGreat

/- loggiaref15: Append. -/
namespace Go.Proofs.YtohphanbnhiodaaGreat
open Go.RowKit Go.Maps

/-- What Append of batches makes of a disk, plainly. -/
def wappM (P : PD) (nm : List UInt8) (m : Nat) (Z : Except Nat (List UInt8)) : PD × Nat := match Z with
  | .error k => (P, k)
  | .ok bs => if m = 0 then (P, 0) else appendM P nm bs
set_option maxRecDepth 100000 in
set_option maxHeartbeats 8000000 in
theorem rwappend_any (N : Nat → Prop) (A : Option Addr) (n c : Nat) (P : PD) (R : List RE) (k : Nat) (l : List BtC) (B : Option Addr) (cB : Nat) (w : World) (h : RS w N A n c R) (hP : R.map RE.pl = P.L) (hN : ∀ k, N k → k < w.heap.size) (hk : k ≤ 99999999) (ha : P.armed ≤ 9223372036854775807) (hqb : P.quota ≤ 9223372036854775807)
    (hl : BsOk w B l) (hints : ∀ x ∈ l, ∀ y ∈ x.l, I64ok' y.e.at_) (hlen : l.length ≤ 1000) :
    Calls Tryz.prog 11 #[rdisk A n c P.quota P.armed P.stopped, .int .i64 (k : Int), .slice B l.length cB] w (RNext N (wappM P (nameW k) l.length (appB (l.map BtC.bt) [])) w) := by
  have hnm := fun w1 => rname_yes k w1 hk
  have hcall := fun (N2 : Nat → Prop) (bs : List UInt8) (C : Option Addr) (q cc : Nat) w1 (h2 : RS w1 N2 A n c R) (hN2 : ∀ k, N2 k → k < w1.heap.size) (hb : Bs w1 C bs) (hbn : q = bs.length) (hbn2 : q ≤ 1073741824) => rappend_any N2 A n c P R (nameW k) bs C q cc w1 h2 hP hN2 (by rw [nameW_len]; omega) ha hb hbn hbn2 hqb
  obtain ⟨Z, hZ⟩ : ∃ Z, Z = appB (l.map BtC.bt) [] := ⟨_, rfl⟩
  rw [← hZ]
  obtain ⟨nm, hnn⟩ : ∃ nm, nm = nameW k := ⟨_, rfl⟩
  simp only [← hnn] at hnm hcall ⊢
  obtain ⟨m, hm⟩ : ∃ m, m = l.length := ⟨_, rfl⟩
  rw [← hm] at hlen ⊢
  obtain ⟨q, hq⟩ : ∃ q, q = P.quota := ⟨_, rfl⟩
  obtain ⟨a, ha'⟩ : ∃ q, q = P.armed := ⟨_, rfl⟩
  obtain ⟨st, hst⟩ : ∃ q, q = P.stopped := ⟨_, rfl⟩
  obtain ⟨W, hW⟩ : ∃ W, W = (w.alloc (.cells #[.slice A n c, .int .i64 q, .int .i64 a, .bool st] 29)).alloc (.cells #[.slice none 0 0, .int .i64 0, .int .i64 0, .bool false] 29) := ⟨_, rfl⟩
  have hE : Ext w W := by rw [hW]; exact ((Ext.refl w).alloc _).alloc _
  have hd : Row W w.heap.size 29 #[.slice A n c, .int .i64 q, .int .i64 a, .bool st] := by rw [hW]; exact (Row.new w _ _).alloc _
  have hr2 : Row W (w.heap.size + 1) 29 #[.slice none 0 0, .int .i64 0, .int .i64 0, .bool false] := by
    have := Row.new (w.alloc (.cells #[.slice A n c, .int .i64 q, .int .i64 a, .bool st] 29)) 29 #[.slice none 0 0, .int .i64 0, .int .i64 0, .bool false]
    rw [size_alloc] at this
    rw [hW]
    exact this
  rw [← hq, ← ha', ← hst]
  obtain ⟨N2, hN2⟩ : ∃ N2 : Nat → Prop, N2 = fun k => N k ∨ (w.heap.size ≤ k ∧ k < W.heap.size) := ⟨_, rfl⟩
  have hap := fun (bs : List UInt8) (C : Option Addr) (q0 cc : Nat) w1 (hE1 : Ext W w1) (hb : Bs w1 C bs) (hbn : q0 = bs.length) (hbn2 : q0 ≤ 1073741824) => hcall N2 bs C q0 cc w1 ((away2 h hE hN2).ext hE1) (away2_lt hN hE hN2 hE1) hb hbn hbn2
  have hwlt2 := hide (show w.heap.size + 1 < W.heap.size from hr2.lt)
  clear hcall
  simp only [← hq, ← ha', ← hst] at hap
  unfold RNext rdisk str at hap
  unfold rdisk
  replace hnm := hide hnm
  replace hap := hide hap
  replace hZ := hide hZ
  replace hm := hide hm
  replace hnn := hide hnn
  replace hW := hide hW
  replace hq := hide hq
  replace ha' := hide ha'
  replace hst := hide hst
  replace hl := hide hl
  go_enter Tryz.func11, Tryz.ntmps11
  go_wp2_with fail
  rw [← hW.out]
  go_loopw [8, 9] (fun s8 s9 wr => ∃ (i q0 cc : Nat) (C : Option Addr) (bs : List UInt8), s8 = .slice C q0 cc ∧ s9 = .int .i64 (i : Int) ∧ i ≤ m ∧ q0 ≤ i * 100100 ∧ Hid (q0 = bs.length) ∧ Hid (Z = appB ((l.drop i).map BtC.bt) bs) ∧ Hid (Buf wr W.heap.size 5 C q0 cc (bs.map B8)) ∧ Hid (Ext W wr)) (fun _ s9 _ => m - (intOf s9).toNat)
  case atStart => exact ⟨0, 0, 0, none, [], rfl, rfl, by omega, by omega, hide rfl, hide hZ.out, hide (Buf.nil _ _ _), hide (Ext.refl _)⟩
  case round =>
    obtain ⟨i, q0, cc, C, bs, rfl, rfl, hi, hq0, hqb0, hz, hbuf, hEr⟩ := hrel
    by_cases him : i < m
    · obtain ⟨x, hx⟩ : ∃ x, l[i]? = some x := ⟨_, List.getElem?_eq_getElem (by have := hm.out; omega)⟩
      obtain ⟨g, o, hA, k0, k1⟩ := bcells_at (hl.out.ext (hE.trans hEr.out)).cells hx
      have hxm := List.mem_of_getElem? hx
      subst hA
      have hzz := hz.out
      rw [drop_oneB hx, List.map_cons, appB] at hzz
      have hxok := (hl.out.ext (hE.trans hEr.out)).each x hxm
      have hxi := hints x hxm
      obtain ⟨sq, xl, xA, xc⟩ := x
      simp only at k0 k1
      have henc := rencode_any ⟨sq, xl, xA, xc⟩ wr hxok hxi
      obtain ⟨bt, hbt⟩ : ∃ bt, bt = BtC.bt ⟨sq, xl, xA, xc⟩ := ⟨_, rfl⟩
      rw [← hbt] at henc hzz
      have hela : checkB bt = 0 → (encB bt).length ≤ 100000 := fun h => encB_len h (by
        rw [hbt]
        intro e he
        obtain ⟨y, hy, rfl⟩ := List.mem_map.1 he
        exact hxi y hy)
      unfold EncP BtC.val at henc
      simp only at henc
      obtain ⟨xn, hxn⟩ : ∃ xn, xn = xl.length := ⟨_, rfl⟩
      rw [← hxn] at henc k1
      replace hxn := hide hxn
      replace hbt := hide hbt
      replace henc := hide henc
      clear hx hxm hxok
      by_cases hck : checkB bt = 0
      · rw [if_pos hck] at hzz
        have hlb := hela hck
        replace hzz := hide hzz
        replace hlb := hide hlb
        clear hela
        go_wp2_with fail
        refine henc.out.mono ?_
        rintro e w6 ⟨hE6, ⟨_, A6, c6, rfl, hb6⟩ | ⟨hno, _⟩⟩
        case inr => exact absurd hck hno
        obtain ⟨p, hp⟩ : ∃ p, p = encB bt := ⟨_, rfl⟩
        have hlb' := hlb.out
        have hzz' := hzz.out
        rw [← hp] at hb6 hlb' hzz' ⊢
        replace hp := hide hp
        have hfl := frameL_len p hlb'
        have hfr := rframe_any A6 p.length c6 p w6 hb6.in8 (by omega)
        have hbuf6 := hbuf.out.ext hE6
        obtain ⟨f, hf⟩ : ∃ f, f = frameL p := ⟨_, rfl⟩
        rw [← hf] at hfr hfl hzz'
        obtain ⟨bs2, hbs2⟩ : ∃ bs2, bs2 = bs ++ f := ⟨_, rfl⟩
        rw [← hbs2] at hzz'
        replace hfr := hide hfr
        replace hzz' := hide hzz'
        replace hf := hide hf
        replace hbs2 := hide hbs2
        have hE06 := hEr.out.trans hE6
        clear hzz hlb hck hb6 k0 k1
        go_wp2_with fail
        refine hfr.out.mono ?_
        rintro e w7 ⟨A7, c7, rfl, hb7, hE7⟩
        have hbx := hbuf6.ext hE7
        have hEx := hE06.trans hE7
        have hsx := hEx.size
        go_wp2_with (at_builtin; refine wpList_buf elemB hbx hb7.cells (.tmp 34) (.tmp 36) rfl rfl rfl rfl rfl (by rw [List.length_map]) (bytes_one _) (by omega) hsx (fun A8 c8 w8 hb8 hg8 hE8 _ => ?_); have hW8 := hide (hE8 W hEx (Nat.le_refl _)); replace hb8 := hide hb8; clear hE8 hg8)
        exact ⟨⟨i + 1, q0 + f.length, c8, A8, bs2, rfl, by go_num, by omega, by omega, hide (by rw [hbs2.out, List.length_append, ← hqb0.out]), hzz', hide (by rw [hbs2.out, List.map_append]; exact hb8.out), hW8⟩, by simp [intOf]; omega⟩
      · rw [if_neg hck] at hzz
        have hk0 : ¬ (checkB bt : Int) = 0 := by omega
        replace hzz := hide hzz
        obtain ⟨er, her⟩ : ∃ er, er = checkB bt := ⟨_, rfl⟩
        rw [← her] at henc hk0 hck
        clear hela
        go_wp2_with fail
        refine henc.out.mono ?_
        rintro e w6 ⟨hE6, ⟨hyes, _⟩ | ⟨_, rfl⟩⟩
        case inl => exact absurd hyes hck
        have hEw6 := hEr.out.trans hE6
        replace her := hide her
        clear k0 k1 hck
        have hdz := hd.ext (hEw6)
        have hrz := hr2.ext (hEw6)
        obtain ⟨hrf, hEff⟩ := tup_set hrz w (hE.trans (hEw6)) (Nat.le_succ _) (.slice A n c) (.int .i64 q) (.int .i64 a) (.bool st)
        have hfin : RNext N (P, er) w (.returned (.tuple #[.agg #[.slice A n c, .int .i64 q, .int .i64 a, .bool st], .int .i64 (er : Nat)])) ((((w6.setCell ⟨w.heap.size + 1, 0, none⟩ (.slice A n c)).setCell ⟨w.heap.size + 1, 1, none⟩ (.int .i64 q)).setCell ⟨w.heap.size + 1, 2, none⟩ (.int .i64 a)).setCell ⟨w.heap.size + 1, 3, none⟩ (.bool st)) := by
          have := rnext_same (k := er) h hP hEff
          unfold rdisk at this
          rw [← hq.out, ← ha'.out, ← hst.out] at this
          exact this
        replace hfin := hide hfin
        have e0 : (w6).cell? ⟨w.heap.size, 0, none⟩ = some (.slice A n c) := (hdz).cell 0 rfl
        have e1 : (w6).cell? ⟨w.heap.size, 1, none⟩ = some (.int .i64 q) := (hdz).cell 1 rfl
        have e2 : (w6).cell? ⟨w.heap.size, 2, none⟩ = some (.int .i64 a) := (hdz).cell 2 rfl
        have e3 : (w6).cell? ⟨w.heap.size, 3, none⟩ = some (.bool st) := (hdz).cell 3 rfl
        have g0 : (w6).cell? ⟨w.heap.size + 1, 0, none⟩ = some (.slice none 0 0) := (hrz).cell 0 rfl
        have g1 : (w6).cell? ⟨w.heap.size + 1, 1, none⟩ = some (.int .i64 0) := (hrz).cell 1 rfl
        have g2 : (w6).cell? ⟨w.heap.size + 1, 2, none⟩ = some (.int .i64 0) := (hrz).cell 2 rfl
        have g3 : (w6).cell? ⟨w.heap.size + 1, 3, none⟩ = some (.bool false) := (hrz).cell 3 rfl
        have f0 := (hrz).free 0
        have f1 := (hrz).free 1
        have f2 := (hrz).free 2
        have f3 := (hrz).free 3
        clear hdz hrz
        go_wp2_with fail
        obtain ⟨wf, hwf⟩ : ∃ wf, wf = ((((w6.setCell ⟨w.heap.size + 1, 0, none⟩ (.slice A n c)).setCell ⟨w.heap.size + 1, 1, none⟩ (.int .i64 q)).setCell ⟨w.heap.size + 1, 2, none⟩ (.int .i64 a)).setCell ⟨w.heap.size + 1, 3, none⟩ (.bool st)) := ⟨_, rfl⟩
        rw [← hwf] at hfin hrf ⊢
        have z0 := hrf.cell 0 rfl
        have z1 := hrf.cell 1 rfl
        have z2 := hrf.cell 2 rfl
        have z3 := hrf.cell 3 rfl
        rw [hzz.out, ← her.out]
        exact bodyPost_ret (v := .tuple #[.agg #[.slice A n c, .int .i64 q, .int .i64 a, .bool st], .int .i64 (er : Nat)]) (by simp [results, Tryz.results11, go_sem, z0, z1, z2, z3]) rfl hfin.out
    · obtain rfl : i = m := by omega
      have hzz := hz.out
      rw [List.drop_of_length_le (by have := hm.out; omega)] at hzz
      unfold List.map appB at hzz
      replace hzz := hide hzz
      by_cases h0 : i = 0
      · have h0i : (i : Int) = 0 := by omega
        replace h0 := hide h0
        have hEwr := hEr.out
        have hdz := hd.ext (hEwr)
        have hrz := hr2.ext (hEwr)
        obtain ⟨hrf, hEff⟩ := tup_set hrz w (hE.trans (hEwr)) (Nat.le_succ _) (.slice A n c) (.int .i64 q) (.int .i64 a) (.bool st)
        have hfin : RNext N (P, 0) w (.returned (.tuple #[.agg #[.slice A n c, .int .i64 q, .int .i64 a, .bool st], .int .i64 (0 : Nat)])) ((((wr.setCell ⟨w.heap.size + 1, 0, none⟩ (.slice A n c)).setCell ⟨w.heap.size + 1, 1, none⟩ (.int .i64 q)).setCell ⟨w.heap.size + 1, 2, none⟩ (.int .i64 a)).setCell ⟨w.heap.size + 1, 3, none⟩ (.bool st)) := by
          have := rnext_same (k := 0) h hP hEff
          unfold rdisk at this
          rw [← hq.out, ← ha'.out, ← hst.out] at this
          exact this
        replace hfin := hide hfin
        have e0 : (wr).cell? ⟨w.heap.size, 0, none⟩ = some (.slice A n c) := (hdz).cell 0 rfl
        have e1 : (wr).cell? ⟨w.heap.size, 1, none⟩ = some (.int .i64 q) := (hdz).cell 1 rfl
        have e2 : (wr).cell? ⟨w.heap.size, 2, none⟩ = some (.int .i64 a) := (hdz).cell 2 rfl
        have e3 : (wr).cell? ⟨w.heap.size, 3, none⟩ = some (.bool st) := (hdz).cell 3 rfl
        have g0 : (wr).cell? ⟨w.heap.size + 1, 0, none⟩ = some (.slice none 0 0) := (hrz).cell 0 rfl
        have g1 : (wr).cell? ⟨w.heap.size + 1, 1, none⟩ = some (.int .i64 0) := (hrz).cell 1 rfl
        have g2 : (wr).cell? ⟨w.heap.size + 1, 2, none⟩ = some (.int .i64 0) := (hrz).cell 2 rfl
        have g3 : (wr).cell? ⟨w.heap.size + 1, 3, none⟩ = some (.bool false) := (hrz).cell 3 rfl
        have f0 := (hrz).free 0
        have f1 := (hrz).free 1
        have f2 := (hrz).free 2
        have f3 := (hrz).free 3
        clear hdz hrz
        go_wp2_with fail
        obtain ⟨wf, hwf⟩ : ∃ wf, wf = ((((wr.setCell ⟨w.heap.size + 1, 0, none⟩ (.slice A n c)).setCell ⟨w.heap.size + 1, 1, none⟩ (.int .i64 q)).setCell ⟨w.heap.size + 1, 2, none⟩ (.int .i64 a)).setCell ⟨w.heap.size + 1, 3, none⟩ (.bool st)) := ⟨_, rfl⟩
        rw [← hwf] at hfin hrf ⊢
        have z0 := hrf.cell 0 rfl
        have z1 := hrf.cell 1 rfl
        have z2 := hrf.cell 2 rfl
        have z3 := hrf.cell 3 rfl
        rw [hzz.out]
        unfold wappM
        simp only
        rw [if_pos h0.out]
        exact bodyPost_ret (v := .tuple #[.agg #[.slice A n c, .int .i64 q, .int .i64 a, .bool st], .int .i64 (0 : Nat)]) (by simp [results, Tryz.results11, go_sem, z0, z1, z2, z3]) rfl hfin.out
      · have h0i : ¬ (i : Int) = 0 := by omega
        replace h0 := hide h0
        have hdr := hd.ext hEr.out
        have happ := fun w1 (h1 : Ext wr w1) => hap.out bs C q0 cc w1 (hEr.out.trans h1) (hbuf.out.ext h1).in8.bytes hqb0.out (by omega)
        obtain ⟨ZZ, hZZ⟩ : ∃ ZZ, ZZ = appendM P nm bs := ⟨_, rfl⟩
        rw [← hZZ] at happ
        obtain ⟨P2, z⟩ := ZZ
        have hzf : Hid (wappM P nm i Z = (P2, z)) := hide (by
          rw [hzz.out]
          unfold wappM
          simp only
          rw [if_neg h0.out]
          exact hZZ.symm)
        replace happ := hide happ
        replace hZZ := hide hZZ
        clear hdr
        go_wp2_with fail
        refine (hnm.out wr).mono ?_
        rintro e w1 ⟨rfl, hE1⟩
        have d0 : (w1).cell? ⟨w.heap.size, 0, none⟩ = some (.slice A n c) := (hd.ext (hEr.out.trans hE1)).cell 0 rfl
        have d1 : (w1).cell? ⟨w.heap.size, 1, none⟩ = some (.int .i64 q) := (hd.ext (hEr.out.trans hE1)).cell 1 rfl
        have d2 : (w1).cell? ⟨w.heap.size, 2, none⟩ = some (.int .i64 a) := (hd.ext (hEr.out.trans hE1)).cell 2 rfl
        have d3 : (w1).cell? ⟨w.heap.size, 3, none⟩ = some (.bool st) := (hd.ext (hEr.out.trans hE1)).cell 3 rfl
        go_wp2_with fail
        refine (happ.out w1 hE1).mono ?_
        rintro e w2 ⟨A1, n1, c1, R1, rfl, hR1, hP1, hE2⟩
        obtain ⟨W3, hW3⟩ : ∃ W3, W3 = w2.alloc (.cells #[.slice A1 n1 c1, .int .i64 P2.quota, .int .i64 P2.armed, .bool P2.stopped] 29) := ⟨_, rfl⟩
        have hE3 : Ext w2 W3 := by rw [hW3]; exact (Ext.refl w2).alloc _
        have hEW3 := ((hEr.out.trans hE1).trans hE2).trans hE3
        have hr3 := hr2.ext hEW3
        obtain ⟨hrf, hEff⟩ := tup_set hr3 w (hE.trans hEW3) (Nat.le_succ _) (.slice A1 n1 c1) (.int .i64 P2.quota) (.int .i64 P2.armed) (.bool P2.stopped)
        have hfin : RNext N (P2, z) w (.returned (.tuple #[.agg #[.slice A1 n1 c1, .int .i64 P2.quota, .int .i64 P2.armed, .bool P2.stopped], .int .i64 z])) ((((W3.setCell ⟨w.heap.size + 1, 0, none⟩ (.slice A1 n1 c1)).setCell ⟨w.heap.size + 1, 1, none⟩ (.int .i64 P2.quota)).setCell ⟨w.heap.size + 1, 2, none⟩ (.int .i64 P2.armed)).setCell ⟨w.heap.size + 1, 3, none⟩ (.bool P2.stopped)) :=
          ⟨A1, n1, c1, R1, rfl, back2 (hR1.ext hE3) hN2 (Nat.le_succ _) hwlt2.out rfl, hP1, hEff⟩
        replace hfin := hide hfin
        have hd3 : Row W3 w2.heap.size 29 #[.slice A1 n1 c1, .int .i64 P2.quota, .int .i64 P2.armed, .bool P2.stopped] := by rw [hW3]; exact Row.new w2 _ _
        rw [hW3] at hd3 hr3
        have e0 : (w2.alloc (.cells #[.slice A1 n1 c1, .int .i64 P2.quota, .int .i64 P2.armed, .bool P2.stopped] 29)).cell? ⟨w2.heap.size, 0, none⟩ = some (.slice A1 n1 c1) := (hd3).cell 0 rfl
        have e1 : (w2.alloc (.cells #[.slice A1 n1 c1, .int .i64 P2.quota, .int .i64 P2.armed, .bool P2.stopped] 29)).cell? ⟨w2.heap.size, 1, none⟩ = some (.int .i64 P2.quota) := (hd3).cell 1 rfl
        have e2 : (w2.alloc (.cells #[.slice A1 n1 c1, .int .i64 P2.quota, .int .i64 P2.armed, .bool P2.stopped] 29)).cell? ⟨w2.heap.size, 2, none⟩ = some (.int .i64 P2.armed) := (hd3).cell 2 rfl
        have e3 : (w2.alloc (.cells #[.slice A1 n1 c1, .int .i64 P2.quota, .int .i64 P2.armed, .bool P2.stopped] 29)).cell? ⟨w2.heap.size, 3, none⟩ = some (.bool P2.stopped) := (hd3).cell 3 rfl
        have g0 : (w2.alloc (.cells #[.slice A1 n1 c1, .int .i64 P2.quota, .int .i64 P2.armed, .bool P2.stopped] 29)).cell? ⟨w.heap.size + 1, 0, none⟩ = some (.slice none 0 0) := (hr3).cell 0 rfl
        have g1 : (w2.alloc (.cells #[.slice A1 n1 c1, .int .i64 P2.quota, .int .i64 P2.armed, .bool P2.stopped] 29)).cell? ⟨w.heap.size + 1, 1, none⟩ = some (.int .i64 0) := (hr3).cell 1 rfl
        have g2 : (w2.alloc (.cells #[.slice A1 n1 c1, .int .i64 P2.quota, .int .i64 P2.armed, .bool P2.stopped] 29)).cell? ⟨w.heap.size + 1, 2, none⟩ = some (.int .i64 0) := (hr3).cell 2 rfl
        have g3 : (w2.alloc (.cells #[.slice A1 n1 c1, .int .i64 P2.quota, .int .i64 P2.armed, .bool P2.stopped] 29)).cell? ⟨w.heap.size + 1, 3, none⟩ = some (.bool false) := (hr3).cell 3 rfl
        have f0 := (hr3).free 0
        have f1 := (hr3).free 1
        have f2 := (hr3).free 2
        have f3 := (hr3).free 3
        clear d0 d1 d2 d3 hR1 hP1 hd3 hr3
        replace hW3 := hide hW3
        go_wp2_with fail
        rw [← hW3.out]
        obtain ⟨wf, hwf⟩ : ∃ wf, wf = ((((W3.setCell ⟨w.heap.size + 1, 0, none⟩ (.slice A1 n1 c1)).setCell ⟨w.heap.size + 1, 1, none⟩ (.int .i64 P2.quota)).setCell ⟨w.heap.size + 1, 2, none⟩ (.int .i64 P2.armed)).setCell ⟨w.heap.size + 1, 3, none⟩ (.bool P2.stopped)) := ⟨_, rfl⟩
        rw [← hwf] at hfin hrf ⊢
        have z0 := hrf.cell 0 rfl
        have z1 := hrf.cell 1 rfl
        have z2 := hrf.cell 2 rfl
        have z3 := hrf.cell 3 rfl
        rw [hzf.out]
        exact bodyPost_ret (v := .tuple #[.agg #[.slice A1 n1 c1, .int .i64 P2.quota, .int .i64 P2.armed, .bool P2.stopped], .int .i64 z]) (by simp [results, Tryz.results11, go_sem, z0, z1, z2, z3]) rfl hfin.out
end Go.Proofs.YtohphanbnhiodaaGreat

/- loggialaw15: few. -/
namespace Go.Proofs.YtohphanbnhiodaaGreat
open Go.RowKit Go.Maps

/-- An event that came in; its fields' slice may be cut. -/
structure EvX (w : World) (x : EvC) : Prop where
  ok : x.e.Ok w x.A
  at_ : I64ok' x.e.at_
  cap : x.e.fs.length ≤ x.c
  spot : x.e.fs ≠ [] → ∀ a, x.A = some a → a.spot = none
/-- Batches of a call's own; their events' fields came in. -/
structure FewP (w0 : World) (bs : Nat) (w : World) (A : Option Addr) (c : Nat) (l : List BtC) : Prop where
  own : w.ownsRow bs 80 2 (.slice A l.length c) l.length (bcells l)
  few : l.length ≤ 10
  each : ∀ x ∈ l, w.ownsRow bs 89 2 (.slice x.A x.l.length x.c) x.l.length (ecells x.l) ∧ x.l.length ≤ 70 ∧ I64ok' x.seq ∧ ∀ y ∈ x.l, y.e.Ok w0 y.A ∧ I64ok' y.e.at_
theorem FewP.ext {w0 w w1 : World} {bs : Nat} {A : Option Addr} {c : Nat} {l : List BtC} (h : FewP w0 bs w A c l) (hE : Ext w w1) : FewP w0 bs w1 A c l := ⟨hE.owns h.own, h.few, fun x hx => ⟨hE.owns (h.each x hx).1, (h.each x hx).2⟩⟩
theorem FewP.ok {w0 w : World} {bs : Nat} {A : Option Addr} {c : Nat} {l : List BtC} (h : FewP w0 bs w A c l) (hE : Ext w0 w) : BsOk w A l :=
  ⟨Cells.of_own h.own, fun x hx => by
    obtain ⟨h1, h2, h3, h4⟩ := h.each x hx
    exact ⟨⟨Cells.of_own h1, fun y hy => (h4 y hy).1.ext hE⟩, by omega, h3⟩⟩
theorem FewP.ints {w0 w : World} {bs : Nat} {A : Option Addr} {c : Nat} {l : List BtC} (h : FewP w0 bs w A c l) : ∀ x ∈ l, ∀ y ∈ x.l, I64ok' y.e.at_ := fun x hx y hy => ((h.each x hx).2.2.2 y hy).2
theorem FewP.disk {w0 w w' : World} {bs b0 c d : Nat} {A : Option Addr} {l : List BtC} {P : PD} {F : Nat → Prop} (h : FewP w0 bs w A c l) (hD : DS w b0 d P F) (hc : Chg F w w') : FewP w0 bs w' A c l :=
  ⟨owns_disk h.own hD hc (by decide), h.few, fun x hx => ⟨owns_disk (h.each x hx).1 hD hc (by decide), (h.each x hx).2⟩⟩
/-- The batch that is being made: its block bk, its events so far. -/
structure FwI (w0 wo wi : World) (bk k dd : Nat) (sq : Int) (C : Option Addr) (xs : List EvC) : Prop where
  row : Row wi bk 80 #[.int .i64 sq, .slice C k dd]
  evs : wi.ownsRow wo.heap.size 89 2 (.slice C k dd) k (ecells xs)
  len : xs.length = k
  each : ∀ y ∈ xs, y.e.Ok w0 y.A ∧ I64ok' y.e.at_
  low : wo.heap.size ≤ bk
  ext : Ext wo wi
theorem FwI.start (w0 w : World) (sq : Int) : FwI w0 w (w.alloc (.cells #[.int .i64 sq, .slice none 0 0] 80)) w.heap.size 0 0 sq none [] :=
  ⟨Row.new w _ _, ⟨rfl, .inl ⟨rfl, rfl⟩⟩, rfl, nofun, Nat.le_refl _, (Ext.refl w).alloc _⟩
theorem FwI.mid {w0 wo wi w5 w8 : World} {bk k dd : Nat} {sq : Int} {C : Option Addr} {xs : List EvC} (h : FwI w0 wo wi bk k dd sq C xs) (hE5 : Ext wi w5) (hg8 : w5.grownBy w8 (Value.slice C k dd).ownBlock) : Row w8 bk 80 #[.int .i64 sq, .slice C k dd] := by
  refine Row.grown (h.row.ext hE5) hg8 fun e => ?_
  obtain ⟨cs, hr, _⟩ := owns_row h.evs e.symm
  exact Row.unlike h.row hr (by decide) rfl
theorem FwI.step {w0 wo wi w5 w8 : World} {bk k dd c8 : Nat} {sq : Int} {C A8 : Option Addr} {xs : List EvC} {y : EvC} (h : FwI w0 wo wi bk k dd sq C xs) (hE5 : Ext wi w5) (hy : y.e.Ok w0 y.A ∧ I64ok' y.e.at_)
    (ho8 : w8.ownsRow wo.heap.size 89 2 (.slice A8 (k + 1) c8) (k + 1) (ecells xs ++ y.cells)) (hg8 : w5.grownBy w8 (Value.slice C k dd).ownBlock) :
    FwI w0 wo (w8.setCell ⟨bk, 1, none⟩ (.slice A8 (k + 1) c8)) bk (k + 1) c8 sq A8 (xs ++ [y]) := by
  have hr8 := h.mid hE5 hg8
  have hC9 : Chg (fun g => g = bk) w8 (w8.setCell ⟨bk, 1, none⟩ (.slice A8 (k + 1) c8)) := Chg.of_set w8 _ rfl
  refine ⟨?_, ?_, by rw [List.length_append, h.len]; rfl, fun z hz => ?_, h.low, ?_⟩
  · have := Row.put hr8 1 (.slice A8 (k + 1) c8)
    simpa using this
  · rw [ecells_snoc]
    refine hC9.owns ho8 fun g hg hgb => ?_
    obtain ⟨cs, hr, _⟩ := owns_row ho8 hg
    subst hgb
    exact Row.unlike hr hr8 (by decide) rfl
  · rcases List.mem_append.1 hz with hz | hz
    · exact h.each z hz
    · rw [List.mem_singleton.1 hz]; exact hy
  · exact ((h.ext.trans hE5).grown hg8 fun g hgg => (by obtain ⟨_, _, hb⟩ := owns_row h.evs hgg; exact hb)).setCell h.low _
theorem FewP.push {w0 wo wi w8 : World} {bs bk k dd cc c8 : Nat} {sq : Int} {C B A8 : Option Addr} {xs : List EvC} {outs : List BtC} (h : FewP w0 bs wo B cc outs) (hi : FwI w0 wo wi bk k dd sq C xs) (hsq : I64ok' sq) (hk : k ≤ 70) (hm : outs.length < 10)
    (ho : w8.ownsRow bs 80 2 (.slice A8 (outs.length + 1) c8) (outs.length + 1) (bcells outs ++ [.int .i64 sq, .slice C k dd])) (hg : wi.grownBy w8 (Value.slice B outs.length cc).ownBlock) (hw : bs ≤ wo.heap.size) :
    FewP w0 bs w8 A8 c8 (outs ++ [⟨sq, xs, C, dd⟩]) := by
  have hC : Chg (fun g => (Value.slice B outs.length cc).ownBlock = some g) wi w8 := Chg.of_grown hg fun _ _ e => e
  have hne : ∀ {b1 n1 : Nat} {v : Value} {ys : List Value}, wi.ownsRow b1 89 2 v n1 ys → w8.ownsRow b1 89 2 v n1 ys := fun h1 => hC.owns h1 fun g hgg e => by
    obtain ⟨cs, hr, _⟩ := owns_row h1 hgg
    obtain ⟨cs2, hr2, _⟩ := owns_row (hi.ext.owns h.own) e
    exact Row.unlike hr hr2 (by decide) rfl
  refine ⟨?_, by rw [List.length_append]; simp; omega, fun x hx => ?_⟩
  · rw [List.length_append, List.length_singleton, bcells_snoc]
    unfold BtC.cells
    simp only
    rw [hi.len]
    exact ho
  · rcases List.mem_append.1 hx with hx | hx
    · exact ⟨hne (hi.ext.owns (h.each x hx).1), (h.each x hx).2⟩
    · rw [List.mem_singleton.1 hx]
      refine ⟨?_, by simp only; rw [hi.len]; exact hk, hsq, hi.each⟩
      simp only
      rw [hi.len]
      exact owns_lower (hne hi.evs) hw
set_option maxRecDepth 100000 in
theorem run_headF {n c k : Nat} {A : Option Addr} (h : k ≤ c) :
    ∃ A', (∀ W : World, (Instr.sliceAt 87 (.slice A n c) none (some (.int .i64 k)) none).run Tryz.prog W = .ok (.slice A' k c) W) ∧ ((∀ a, A = some a → a.spot = none) → A' = A) := by
  have ht := Tryz.underlying87
  have he : Tryz.prog.elem 87 = 126 := by unfold Program.elem; rw [ht]
  have hs : ∀ W : World, (sizeOf 126).run Tryz.prog W = .ok 2 W := fun W => by kernel_rfl
  refine ⟨if c = 0 then A else A.map fun x => x.add (0 * 2), fun W => ?_, fun hA => ?_⟩
  · rw [run_sliceAt_slice W _ _ _ _ _ (by rw [ht, he]), run_slice_h W _ A n c (by rw [ht, he]) .i64 k (by omega) (by omega), he, hs]
    simp only [Result.andThen_ok]
    congr 1
  · cases A with
    | none => simp
    | some a =>
      obtain ⟨b, o, sp⟩ := a
      obtain rfl : sp = none := hA _ rfl
      simp [Addr.add_lit]
theorem Ev.Ok.take {e : Ev} {w : World} {A A' : Option Addr} (h : e.Ok w A) (k : Nat) (hA : e.fs ≠ [] → A' = A) : Ev.Ok ⟨e.at_, e.fs.take k⟩ w A' := by
  refine ⟨?_, by have := h.many; simp only [List.length_take]; omega, fun f hf => h.long f (List.mem_of_mem_take hf)⟩
  by_cases hne : e.fs = []
  · left; simp only; rw [hne]; simp [fcells]
  · rw [hA hne]
    rcases h.cells with hc | ⟨g, o, hg, hc⟩
    · left
      have h0 : e.fs.length = 0 := by
        have := congrArg List.length hc
        rw [fcells_len, List.length_nil] at this
        omega
      exact absurd (List.length_eq_zero_iff.1 h0) hne
    · refine .inr ⟨g, o, hg, fun i v hv => hc i v ?_⟩
      simp only at hv
      rw [fcells_take, List.getElem?_take] at hv
      split at hv
      · exact hv
      · cases hv
set_option maxRecDepth 100000 in
set_option maxHeartbeats 8000000 in
theorem few_any (A0 : Option Addr) (c0 : Nat) (l : List BtC) (w0 w : World) (hE0 : Ext w0 w) (h : Cells w0 A0 (bcells l)) (hx : ∀ x ∈ l, x.Ok w0 ∧ ∀ y ∈ x.l, EvX w0 y) :
    Calls Tryz.prog 9 #[.slice A0 l.length c0] w fun e w' => ∃ A c l2, e = .returned (.slice A l2.length c) ∧ FewP w0 w.heap.size w' A c l2 ∧ Ext w w' := by
  obtain ⟨n, hn⟩ : ∃ n, n = l.length := ⟨_, rfl⟩
  rw [← hn]
  replace hn := hide hn
  replace hx := hide hx
  go_enter Tryz.func9, Tryz.ntmps9
  go_wp2_with fail
  go_loopw [3, 4] (fun s3 s4 wr => ∃ (i m cc : Nat) (B : Option Addr) (outs : List BtC), s3 = .slice B m cc ∧ s4 = .int .i64 (i : Int) ∧ i ≤ 10 ∧ m ≤ i ∧ Hid (m = outs.length) ∧ Hid (FewP w0 w.heap.size wr B cc outs) ∧ Hid (Ext w wr)) (fun _ s4 _ => 10 - (intOf s4).toNat)
  case atStart => exact ⟨0, 0, 0, none, [], rfl, rfl, by omega, by omega, hide rfl, hide ⟨⟨rfl, .inl ⟨rfl, rfl⟩⟩, by simp, nofun⟩, hide (Ext.refl _)⟩
  case round =>
    obtain ⟨i, m, cc, B, outs, rfl, rfl, hi, hm, hml, hfp, hE⟩ := hrel
    by_cases hgo : i < n ∧ i < 10
    · obtain ⟨hin, hi10⟩ := hgo
      have hi10i : (i : Int) < 10 := by omega
      obtain ⟨x, hxx⟩ : ∃ x, l[i]? = some x := ⟨_, List.getElem?_eq_getElem (by have := hn.out; omega)⟩
      obtain ⟨hxo, hxe⟩ := hx.out x (List.mem_of_getElem? hxx)
      have hkk : ∀ w1, Ext w0 w1 → ∃ g o, A0 = some ⟨g, o, none⟩ ∧ w1.cell? ⟨g, o + i * 2, none⟩ = some (.int .i64 x.seq) ∧ w1.cell? ⟨g, o + i * 2 + 1, none⟩ = some (.slice x.A x.l.length x.c) := fun w1 h1 => bcells_at (h.ext h1) hxx
      obtain ⟨g, o, hA, k0, k1⟩ := hkk wr (hE0.trans hE.out)
      have hkk2 : ∀ w1, Ext w0 w1 → w1.cell? ⟨g, o + i * 2 + 1, none⟩ = some (.slice x.A x.l.length x.c) := fun w1 h1 => by
        obtain ⟨g', o', hA', _, h3⟩ := hkk w1 h1
        rw [hA] at hA'
        injection hA' with hA'
        injection hA' with e1 e2
        subst e1 e2
        exact h3
      obtain ⟨sq, xl, xA, xc⟩ := x
      simp only at k0 k1 hkk2 hxe
      obtain ⟨xn, hxn⟩ : ∃ xn, xn = xl.length := ⟨_, rfl⟩
      rw [← hxn] at k1 hkk2
      have hxo2 := hide hxo
      replace hkk2 := hide hkk2
      replace hxe := hide hxe
      replace hxn := hide hxn
      have hst := hide (FwI.start w0 wr sq)
      subst hA
      clear hkk hxx hxo
      go_wp2_with fail
      obtain ⟨wo, rfl⟩ : ∃ wo, wo = wr := ⟨_, rfl⟩
      go_loopw [6] (fun s6 wi => ∃ (k dd : Nat) (C : Option Addr) (xs : List EvC), s6 = .int .i64 (k : Int) ∧ k ≤ 70 ∧ Hid (FwI w0 wo wi wo.heap.size k dd sq C xs)) (fun s6 _ => 70 - (intOf s6).toNat)
      case atStart => exact ⟨0, 0, none, [], rfl, by omega, hst⟩
      case round =>
        clear hst
        obtain ⟨k, dd, C, xs, rfl, hk, hfi⟩ := hrel
        have hEi := hide hfi.out.ext
        have hE0i := hide ((hE0.trans hE.out).trans hEi.out)
        obtain ⟨bk, hbk⟩ : ∃ bk, bk = wo.heap.size := ⟨_, rfl⟩
        rw [← hbk] at hfi ⊢
        replace hbk := hide hbk
        have b0 := hfi.out.row.cell 0 rfl
        have b1 := hfi.out.row.cell 1 rfl
        have q1 := hkk2.out wr hE0i.out
        by_cases hk7 : k < xn ∧ k < 70
        · obtain ⟨hkx, hk70⟩ := hk7
          have hk70i : (k : Int) < 70 := by omega
          obtain ⟨y, hyy⟩ : ∃ y, xl[k]? = some y := ⟨_, List.getElem?_eq_getElem (by have := hxn.out; omega)⟩
          have hyx := hxe.out y (List.mem_of_getElem? hyy)
          obtain ⟨g2, o2, hxA, j0, j1⟩ := ecells_at (hxo2.out.evs.cells.ext hE0i.out) hyy
          have hyx2 := hide hyx
          obtain ⟨⟨yat, yfs⟩, fA, fc⟩ := y
          simp only at hxA j0 j1
          have hcap : yfs.length ≤ fc := hyx.cap
          obtain ⟨fn, hfn⟩ : ∃ fn, fn = yfs.length := ⟨_, rfl⟩
          rw [← hfn] at j1 hcap
          obtain ⟨mm, hmm⟩ : ∃ mm : Nat, mm = min fn 20 := ⟨_, rfl⟩
          have hmin := run_min2 (P := Tryz.prog) #[3, 3] 3 (x := (fn : Int)) (y := 20) (m := (mm : Int)) (by omega)
          obtain ⟨fB, hsl, hfB⟩ := run_headF (n := fn) (c := fc) (k := mm) (A := fA) (by omega)
          replace hfB := hide hfB
          replace hmm := hide hmm
          replace hfn := hide hfn
          subst hxA
          clear hyx hyy
          go_upto_region 11 with (fail)
          obtain ⟨w5, hw5⟩ : ∃ w5, w5 = wr.alloc (.cells #[.int .i64 yat, .slice fA fn fc] 89) := ⟨_, rfl⟩
          have hE5 : Ext wr w5 := by rw [hw5]; exact (Ext.refl wr).alloc _
          have hr5 : Row w5 wr.heap.size 89 #[.int .i64 yat, .slice fA fn fc] := by rw [hw5]; exact Row.new wr _ _
          have hlow5 : wr.heap.size ≤ wr.heap.size := Nat.le_refl _
          obtain ⟨ek, hek⟩ : ∃ ek, ek = wr.heap.size := ⟨_, rfl⟩
          rw [← hw5, ← hek]
          rw [← hek] at hr5
          replace hw5 := hide hw5
          replace hek := hide hek
          have e0 := hr5.cell 0 rfl
          have e1 := hr5.cell 1 rfl
          have f1 := hr5.free 1
          clear b0 b1 q1 j0 j1
          go_upto_region 12 with (fail)
          obtain ⟨w6, hw6⟩ : ∃ w6, w6 = w5.setCell ⟨ek, 1, none⟩ (.slice fB mm fc) := ⟨_, rfl⟩
          have hE6 : Ext wr w6 := by rw [hw6]; exact hE5.setCell (by rw [hek.out]; exact Nat.le_refl _) _
          have hr6 : Row w6 ek 89 #[.int .i64 yat, .slice fB mm fc] := by rw [hw6]; exact hr5.put 1 _
          rw [← hw6]
          replace hw6 := hide hw6
          have q1 := hkk2.out w6 (hE0i.out.trans hE6)
          have g1 := hr6.cell 1 rfl
          have h1f := hr6.free 1
          clear e0 e1 f1
          by_cases h5 : 5 < xn
          case' pos =>
            have h5i : (5 : Int) < (xn : Int) := by omega
            go_upto_region 14 with (fail)
            obtain ⟨wz, hwz⟩ : ∃ wz, wz = w6.setCell ⟨ek, 1, none⟩ (.slice none 0 0) := ⟨_, rfl⟩
            rw [← hwz]
            obtain ⟨zA, zn, zc, zfs, hEz, hrz, hzn, hzok⟩ : ∃ (zA : Option Addr) (zn zc : Nat) (zfs : List Fd), Ext wr wz ∧ Row wz ek 89 #[.int .i64 yat, .slice zA zn zc] ∧ zn = zfs.length ∧ (Ev.Ok ⟨yat, zfs⟩ w0 zA ∧ I64ok' yat) :=
              ⟨none, 0, 0, [], by rw [hwz]; exact hE6.setCell (by rw [hek.out]; exact Nat.le_refl _) _, by rw [hwz]; exact hr6.put 1 _, rfl, ⟨.inl rfl, by simp, nofun⟩, hyx2.out.at_⟩
          case' neg =>
            have h5i : ¬ (5 : Int) < (xn : Int) := by omega
            go_upto_region 14 with (fail)
            obtain ⟨wz, hwz⟩ : ∃ wz, wz = w6 := ⟨_, rfl⟩
            rw [← hwz]
            obtain ⟨zA, zn, zc, zfs, hEz, hrz, hzn, hzok⟩ : ∃ (zA : Option Addr) (zn zc : Nat) (zfs : List Fd), Ext wr wz ∧ Row wz ek 89 #[.int .i64 yat, .slice zA zn zc] ∧ zn = zfs.length ∧ (Ev.Ok ⟨yat, zfs⟩ w0 zA ∧ I64ok' yat) :=
              ⟨fB, mm, fc, yfs.take mm, by rw [hwz]; exact hE6, by rw [hwz]; exact hr6, by rw [List.length_take, ← hfn.out]; have := hmm.out; omega, hyx2.out.ok.take mm (fun hne => hfB.out (hyx2.out.spot hne)), hyx2.out.at_⟩
          all_goals
            replace hwz := hide hwz
            have z0 := hrz.cell 0 rfl
            have z1 := hrz.cell 1 rfl
            have b0 := (hfi.out.row.ext hEz).cell 0 rfl
            have b1 := (hfi.out.row.ext hEz).cell 1 rfl
            have hownz := hide (hEz.owns hfi.out.evs)
            have hszz : wo.heap.size ≤ wz.heap.size := (hEi.out.trans hEz).size
            replace hzn := hide hzn
            replace hzok := hide hzok
            replace hEz := hide hEz
            clear q1 g1 h1f hr5 hr6 hE5 hE6 hrz h5i hmin hsl
            go_wp2_with (at_builtin; refine wpList_appZ (us := [.int .i64 yat, .slice zA zn zc]) (m := 1) elemEv hownz.out rfl (.tmp 62) (.tmp 64) rfl rfl rfl rfl rfl (one_of rfl) (by omega) hszz (fun A8 c8 w8 ho8 hg8 hl8 => ?_); have hr8 := hfi.out.mid hEz.out hg8; have q4 : w8.cell? ⟨bk, 1, none⟩ = some (.slice C k dd) := hr8.cell 1 rfl; have qf := hr8.free 1; have hstep := hide (FwI.step (y := ⟨⟨yat, zfs⟩, zA, zc⟩) hfi.out hEz.out hzok.out (by unfold EvC.cells; simp only; rw [← hzn.out]; exact ho8) hg8); clear ho8 hg8 hl8 hr8 z0 z1 b0 b1)
            go_roundw
            case rel => exact ⟨k + 1, c8, A8, _, by go_num, by omega, hstep⟩
            case measure => simp [intOf]; omega
        · have hown0 := hide (hEi.out.owns hfp.out.own)
          have hE2 := hide (hE.out.trans hEi.out)
          have hszz : w.heap.size ≤ wr.heap.size := hE2.out.size
          have hpush : Hid (∀ (A8 : Option Addr) (c8 : Nat) (w8 : World), w8.ownsRow w.heap.size 80 2 (.slice A8 (m + 1) c8) (m + 1) (bcells outs ++ [.int .i64 sq, .slice C k dd]) → wr.grownBy w8 (Value.slice B m cc).ownBlock → FewP w0 w.heap.size w8 A8 c8 (outs ++ [⟨sq, xs, C, dd⟩])) :=
            hide fun A8 c8 w8 ho hg => FewP.push hfp.out hfi.out hxo2.out.seq hk (by have := hml.out; omega) (by rw [← hml.out]; exact ho) (by rw [← hml.out]; exact hg) hE.out.size
          rw [← hml.out] at hown0
          by_cases hkx : k < xn
          case' pos => have hk70 : ¬ (k : Int) < 70 := by omega
          all_goals
            clear hk7
            go_wp2_with (at_builtin; refine wpList_appZ (us := [.int .i64 sq, .slice C k dd]) (m := 1) elemBt hown0.out rfl (.tmp 67) (.tmp 69) rfl rfl rfl rfl rfl (one_of rfl) (by omega) hszz (fun A8 c8 w8 ho8 hg8 hl8 => ?_); have hstep := hide (hpush.out _ _ _ ho8 hg8); have hE8 := hide (hE2.out.grown hg8 (fun g hg => by obtain ⟨_, _, hb⟩ := owns_row hown0.out hg; exact hb)); clear ho8 hg8 hl8)
            go_roundw
            case rel => exact ⟨i + 1, m + 1, c8, A8, _, rfl, by go_num, by omega, by omega, hide (by rw [List.length_append, ← hml.out]; rfl), hstep, hE8⟩
            case measure => simp [intOf]; omega
    · by_cases hin : i < n
      case' pos => have hi10 : ¬ (i : Int) < 10 := by omega
      all_goals
        clear hgo
        go_wp2_with fail
        go_ret
        exact ⟨B, cc, outs, by rw [← hml.out]; rfl, hfp.out, hE.out⟩
end Go.Proofs.YtohphanbnhiodaaGreat

/- loggiaref06: Read; what is answered may be read as bytes that came in. -/
namespace Go.Proofs.YtohphanbnhiodaaGreat
open Go.RowKit Go.Maps

/-- What the document's Read answers. -/
def RRead8 (P : PD) (s : List UInt8) (fr n : Int) (w : World) (e : Ending) (w' : World) : Prop :=
  ∃ A k c, e = .returned (.tuple #[.slice A k c, .int .i64 (readM P s fr n).2]) ∧ In8 w' A k c (readM P s fr n).1 ∧ Ext w w'
theorem rread8_err {P : PD} {s : List UInt8} {fr n : Int} {w w' : World} {k : Nat} (h : readM P s fr n = ([], k)) (he : Ext w w') : RRead8 P s fr n w (.returned (.tuple #[.slice none 0 0, .int .i64 k])) w' := by
  unfold RRead8
  rw [h]
  exact ⟨none, 0, 0, rfl, ⟨rfl, .inl rfl, Nat.le_refl _, fun _ => rfl, nofun⟩, he⟩
set_option maxRecDepth 100000 in
set_option maxHeartbeats 2000000 in
theorem rread8_any (N : Nat → Prop) (A : Option Addr) (n c : Nat) (P : PD) (R : List RE) (s : List UInt8) (fr k : Int) (w : World) (h : RS w N A n c R) (hP : R.map RE.pl = P.L) (hs : s.length ≤ 9223372036854775807) (hf1 : -9223372036854775808 ≤ fr) (hf2 : fr ≤ 9223372036854775807)
    (hn1 : -9223372036854775808 ≤ k) (hn2 : k ≤ 9223372036854775807) :
    Calls Tryz.prog 45 #[rdisk A n c P.quota P.armed P.stopped, str s, .int .i64 fr, .int .i64 k] w (RRead8 P s fr k w) := by
  obtain ⟨q, hq⟩ : ∃ q, q = P.quota := ⟨_, rfl⟩
  obtain ⟨a, ha'⟩ : ∃ q, q = P.armed := ⟨_, rfl⟩
  obtain ⟨st, hst⟩ : ∃ q, q = P.stopped := ⟨_, rfl⟩
  rw [← hq, ← ha', ← hst]
  obtain ⟨W, hW⟩ : ∃ W, W = w.alloc (.cells #[.slice A n c, .int .i64 q, .int .i64 a, .bool st] 29) := ⟨_, rfl⟩
  have hE : Ext w W := by rw [hW]; exact (Ext.refl w).alloc _
  have hd : Row W w.heap.size 29 #[.slice A n c, .int .i64 q, .int .i64 a, .bool st] := by rw [hW]; exact Row.new w _ _
  have hnm := rnamed_any s W hs
  have hfa := rfind_any N A n c q a st R s W (h.ext hE)
  have hWx := hide hW.symm
  clear hW
  have d0 : W.cell? ⟨w.heap.size, 0, none⟩ = some (.slice A n c) := hd.cell 0 rfl
  have d1 : W.cell? ⟨w.heap.size, 1, none⟩ = some (.int .i64 q) := hd.cell 1 rfl
  have d2 : W.cell? ⟨w.heap.size, 2, none⟩ = some (.int .i64 a) := hd.cell 2 rfl
  have d3 : W.cell? ⟨w.heap.size, 3, none⟩ = some (.bool st) := hd.cell 3 rfl
  unfold rdisk str at hfa ⊢
  unfold str at hnm
  replace hfa := hide hfa
  replace hq := hide hq
  replace ha' := hide ha'
  cases hnmd : namedM s with
  | false =>
    have hres : readM P s fr k = ([], 60) := by unfold readM; rw [hnmd]; rfl
    have fin := rread8_err hres hE
    rw [hnmd] at hnm
    replace hnm := hide hnm
    replace fin := hide fin
    replace hst := hide hst
    clear hres hnmd
    go_enter Tryz.func45, Tryz.ntmps45
    go_wp2_with fail
    rw [hWx.out]
    refine hnm.out.mono ?_
    rintro e w1 ⟨rfl, hw1⟩
    replace hw1 := hw1.symm
    subst hw1
    go_wp2_with fail
    go_ret2
    exact fin.out
  | true =>
    rw [hnmd] at hnm
    replace hnm := hide hnm
    cases st with
    | true =>
      have hres : readM P s fr k = ([], 63) := by unfold readM; rw [hnmd, ← hst]; rfl
      have fin := rread8_err hres hE
      replace fin := hide fin
      replace hst := hide hst
      clear hres hnmd
      go_enter Tryz.func45, Tryz.ntmps45
      go_wp2_with fail
      rw [hWx.out]
      refine hnm.out.mono ?_
      rintro e w1 ⟨rfl, hw1⟩
      replace hw1 := hw1.symm
      subst hw1
      go_wp2_with fail
      go_ret2
      exact fin.out
    | false =>
      rcases rfind_pl hP s with ⟨i, r, hf, hr, hn, hfd⟩ | ⟨hf, hfd⟩
      · have hfa2 := hfa.out
        rw [hf] at hfa2
        simp only [Option.getD_some, Option.isSome_some] at hfa2
        replace hfa2 := hide hfa2
        have hin : i < n := by rw [h.len]; exact (List.getElem?_eq_some_iff.1 hr).1
        obtain ⟨g, o, r', hAg, hr', k0, k1, k2⟩ := (h.ext hE).at_ hin
        obtain rfl : r' = r := by rw [hr] at hr'; cases hr'; rfl
        subst hAg
        have hrm := List.mem_of_getElem? hr
        have hok := h.ok r' hrm
        have hgl := World.block_lt_of_cell? W ⟨g, o + i * 3 + 1, none⟩ k1
        have hmany := h.many
        obtain ⟨bl, hbl⟩ : ∃ x, x = r'.b.length := ⟨_, rfl⟩
        have hlen := hok.len
        rw [← hbl] at k1 hlen
        replace hf := hide hf
        replace hr := hide hr
        replace hn := hide hn
        clear hr' k0 k2
        by_cases hbad : fr < 0 ∨ (bl : Int) < fr ∨ k < 0
        · have hres : readM P s fr k = ([], 5) := by
            unfold readM
            rw [hnmd, ← hst, hfd]
            simp only [if_true]
            show (if fr < 0 ∨ (r'.b.length : Int) < fr ∨ k < 0 then _ else _) = _
            rw [← hbl, if_pos hbad]
          have hcs : fr < 0 ∨ (0 ≤ fr ∧ (bl : Int) < fr) ∨ (0 ≤ fr ∧ fr ≤ bl ∧ k < 0) := by omega
          replace hbl := hide hbl
          replace hst := hide hst
          replace hfd := hide hfd
          have fin : ∀ w1, Ext W w1 → RRead8 P s fr k w (.returned (.tuple #[.slice none 0 0, .int .i64 5])) w1 := fun w1 h1 => rread8_err hres (hE.trans h1)
          replace fin := hide fin
          clear hres hnmd hbad
          rcases hcs with h1 | ⟨h0, h1⟩ | ⟨h0, h1, h2⟩
          all_goals
            go_enter Tryz.func45, Tryz.ntmps45
            go_wp2_with fail
            rw [hWx.out]
            refine hnm.out.mono ?_
            rintro e w1 ⟨rfl, hw1⟩
            replace hw1 := hw1.symm
            subst hw1
            go_wp2_with fail
            refine hfa2.out.mono ?_
            rintro e w1 ⟨rfl, hE1⟩
            have d0' := hE1.cell d0
            have k1' := hE1.cell k1
            go_wp2_with fail
            go_ret2
            exact fin.out _ hE1
        · obtain ⟨f, rfl⟩ : ∃ f : Nat, fr = f := ⟨fr.toNat, by omega⟩
          obtain ⟨m, rfl⟩ : ∃ m : Nat, k = m := ⟨k.toNat, by omega⟩
          have hfl : f ≤ bl := by omega
          obtain ⟨k2, hk2⟩ : ∃ k2, k2 = min m (bl - f) := ⟨_, rfl⟩
          have hres : readM P s f m = ((r'.b.drop f).take m, 0) := by
            unfold readM
            rw [hnmd, ← hst, hfd]
            simp only [if_true]
            show (if (f : Int) < 0 ∨ (r'.b.length : Int) < f ∨ (m : Int) < 0 then _ else _) = _
            rw [← hbl, if_neg hbad]
            rfl
          have hmin := run_min2 (P := Tryz.prog) #[3, 3] 3 (x := m) (y := (bl : Int) - f) (m := (k2 : Nat)) (by omega)
          have hcap := hok.cap
          rw [← hbl] at hcap
          have hin : In8 W r'.A bl r'.c r'.b := ⟨hbl, (hok.ext hE).bytes, hcap, hok.nil, fun a ha => ⟨(hok.away a ha).2.2, Nat.lt_of_lt_of_le (hok.away a ha).1 hE.size⟩⟩
          obtain ⟨A', c', hsub, hin'⟩ := In8.subk .i64 .i64 hin (fr := f) (k := k2) (by omega) (z0 := (f : Int)) (z := (f : Int) + (k2 : Int)) rfl rfl
          have hl2 : ((r'.b.drop f).take k2).length = k2 := by rw [List.length_take, List.length_drop, ← hbl]; omega
          have htk : (r'.b.drop f).take k2 = (r'.b.drop f).take m := by
            by_cases hc : m ≤ bl - f
            · rw [hk2, Nat.min_eq_left hc]
            · rw [hk2, Nat.min_eq_right (by omega), List.take_of_length_le (i := bl - f) (by rw [List.length_drop, ← hbl]; omega), List.take_of_length_le (i := m) (by rw [List.length_drop, ← hbl]; omega)]
          have fin : ∀ w1, Ext W w1 → RRead8 P s f m w (.returned (.tuple #[.slice A' k2 c', .int .i64 0])) w1 := fun w1 h1 => by
            unfold RRead8
            rw [hres, ← htk]
            exact ⟨A', k2, c', rfl, hin'.ext h1, hE.trans h1⟩
          have hk2b : (f : Int) + k2 ≤ bl := by omega
          replace fin := hide fin
          replace hbl := hide hbl
          replace hst := hide hst
          replace hfd := hide hfd
          clear hres hnmd htk hl2 hk2 hin hin'
          go_enter Tryz.func45, Tryz.ntmps45
          go_wp2_with fail
          rw [hWx.out]
          refine hnm.out.mono ?_
          rintro e w1 ⟨rfl, hw1⟩
          replace hw1 := hw1.symm
          subst hw1
          go_wp2_with fail
          refine hfa2.out.mono ?_
          rintro e w1 ⟨rfl, hE1⟩
          have d0' := hE1.cell d0
          have k1' := hE1.cell k1
          go_wp2_with fail
          go_ret2
          exact fin.out _ hE1
      · have hfa2 := hfa.out
        rw [hf] at hfa2
        simp only [Option.getD_none, Option.isSome_none] at hfa2
        have hres : readM P s fr k = ([], 61) := by unfold readM; rw [hnmd, ← hst, hfd]; rfl
        replace hfa2 := hide hfa2
        replace hst := hide hst
        go_enter Tryz.func45, Tryz.ntmps45
        go_wp2_with fail
        rw [hWx.out]
        refine hnm.out.mono ?_
        rintro e w1 ⟨rfl, hw1⟩
        replace hw1 := hw1.symm
        subst hw1
        go_wp2_with fail
        refine hfa2.out.mono ?_
        rintro e w1 ⟨rfl, hE1⟩
        have fin := rread8_err hres (hE.trans hE1)
        replace fin := hide fin
        clear hres
        go_wp2_with fail
        go_ret2
        exact fin.out
end Go.Proofs.YtohphanbnhiodaaGreat

/- loggialaw15: sameDisk. -/
namespace Go.Proofs.YtohphanbnhiodaaGreat
open Go.RowKit Go.Maps

theorem DS.short {w : World} {base d : Nat} {P : PD} {F : Nat → Prop} (h : DS w base d P F) : ∀ s ∈ listM P, s.length ≤ 9223372036854775807 := fun s hs => by
  obtain ⟨m, E, hD, hF⟩ := h
  unfold listM at hs
  split at hs
  · cases hs
  · rw [← hD.pl, List.map_map] at hs
    obtain ⟨e, he, rfl⟩ := List.mem_map.1 hs
    exact hD.fs.short e he
set_option maxRecDepth 100000 in
set_option maxHeartbeats 8000000 in
theorem samedisk_any (base d : Nat) (P : PD) (F : Nat → Prop) (N : Nat → Prop) (A : Option Addr) (n c : Nat) (R : List RE) (w : World) (h : DS w base d P F) (hR : RS w N A n c R) (hP : R.map RE.pl = P.L) :
    Calls Tryz.prog 28 #[.pointer (some ⟨d, 0, none⟩), rdisk A n c P.quota P.armed P.stopped] w fun e w' => e = .returned (.bool true) ∧ Ext w w' := by
  obtain ⟨q, hq⟩ : ∃ q, q = P.quota := ⟨_, rfl⟩
  obtain ⟨ar, har⟩ : ∃ q, q = P.armed := ⟨_, rfl⟩
  obtain ⟨st, hst⟩ : ∃ q, q = P.stopped := ⟨_, rfl⟩
  obtain ⟨W, hW⟩ : ∃ W, W = w.alloc (.cells #[.slice A n c, .int .i64 q, .int .i64 ar, .bool st] 29) := ⟨_, rfl⟩
  have hEW : Ext w W := by rw [hW]; exact (Ext.refl w).alloc _
  obtain ⟨b, hb⟩ : ∃ b, b = w.heap.size := ⟨_, rfl⟩
  have hd : Row W b 29 #[.slice A n c, .int .i64 q, .int .i64 ar, .bool st] := by rw [hW, hb]; exact Row.new w _ _
  have hli : ∀ w0, (w0.cell? ⟨b, 0, none⟩ = some (.slice A n c) ∧ w0.cell? ⟨b, 1, none⟩ = some (.int .i64 q) ∧ w0.cell? ⟨b, 2, none⟩ = some (.int .i64 ar) ∧ w0.cell? ⟨b, 3, none⟩ = some (.bool st) ∧ Ext W w0) → Calls Tryz.prog 62 #[.pointer (some ⟨d, 0, none⟩)] w0 fun e w' => ∃ A5 n5 c5, e = .returned (.slice A5 n5 c5) ∧ Hid (n5 = (listM P).length ∧ n5 ≤ 1024 ∧ Cells w' A5 ((listM P).map str)) ∧ Ext w0 w' := fun w0 h0 =>
    (list_any base d P F w0 (h.ext (hEW.trans h0.2.2.2.2))).mono (by rintro e w' ⟨A5, n5, c5, rfl, h1, h2, h3, h4, h5, h6⟩; exact ⟨A5, n5, c5, rfl, hide ⟨h1, h4, h2⟩, h6⟩)
  have hrli : ∀ w0, (w0.cell? ⟨b, 0, none⟩ = some (.slice A n c) ∧ w0.cell? ⟨b, 1, none⟩ = some (.int .i64 q) ∧ w0.cell? ⟨b, 2, none⟩ = some (.int .i64 ar) ∧ w0.cell? ⟨b, 3, none⟩ = some (.bool st) ∧ Ext W w0) → Calls Tryz.prog 63 #[rdisk A n c q ar st] w0 fun e w' => ∃ A5 n5 c5, e = .returned (.slice A5 n5 c5) ∧ Hid (n5 = (listM P).length ∧ n5 ≤ 1024 ∧ Cells w' A5 ((listM P).map str)) ∧ Ext w0 w' := fun w0 h0 => by
    rw [hq, har, hst]
    exact (rlist_any N A n c P R w0 (hR.ext (hEW.trans h0.2.2.2.2)) hP).mono (by rintro e w' ⟨A5, n5, c5, rfl, h1, h2, h3, h6⟩; exact ⟨A5, n5, c5, rfl, hide ⟨h1, h2, h3⟩, h6⟩)
  have hkp : ∀ w0 w1 : World, (w0.cell? ⟨b, 0, none⟩ = some (.slice A n c) ∧ w0.cell? ⟨b, 1, none⟩ = some (.int .i64 q) ∧ w0.cell? ⟨b, 2, none⟩ = some (.int .i64 ar) ∧ w0.cell? ⟨b, 3, none⟩ = some (.bool st) ∧ Ext W w0) → Ext w0 w1 → (w1.cell? ⟨b, 0, none⟩ = some (.slice A n c) ∧ w1.cell? ⟨b, 1, none⟩ = some (.int .i64 q) ∧ w1.cell? ⟨b, 2, none⟩ = some (.int .i64 ar) ∧ w1.cell? ⟨b, 3, none⟩ = some (.bool st) ∧ Ext W w1) := fun w0 w1 h1 h3 => ⟨h3.cell h1.1, h3.cell h1.2.1, h3.cell h1.2.2.1, h3.cell h1.2.2.2.1, h1.2.2.2.2.trans h3⟩
  have hS0 : W.drew.cell? ⟨b, 0, none⟩ = some (.slice A n c) ∧ W.drew.cell? ⟨b, 1, none⟩ = some (.int .i64 q) ∧ W.drew.cell? ⟨b, 2, none⟩ = some (.int .i64 ar) ∧ W.drew.cell? ⟨b, 3, none⟩ = some (.bool st) ∧ Ext W W.drew := ⟨hd.cell 0 rfl, hd.cell 1 rfl, hd.cell 2 rfl, hd.cell 3 rfl, (Ext.refl W).drew⟩
  have hS1 : W.cell? ⟨b, 0, none⟩ = some (.slice A n c) ∧ W.cell? ⟨b, 1, none⟩ = some (.int .i64 q) ∧ W.cell? ⟨b, 2, none⟩ = some (.int .i64 ar) ∧ W.cell? ⟨b, 3, none⟩ = some (.bool st) ∧ Ext W W := ⟨hd.cell 0 rfl, hd.cell 1 rfl, hd.cell 2 rfl, hd.cell 3 rfl, Ext.refl W⟩
  have hdl := hide h.short
  rw [← hq, ← har, ← hst]
  unfold rdisk at hrli ⊢
  replace hkp := hide hkp
  replace hS0 := hide hS0
  replace hS1 := hide hS1
  replace hli := hide hli
  replace hrli := hide hrli
  replace hW := hide hW
  replace hb := hide hb
  replace hq := hide hq
  replace har := hide har
  replace hst := hide hst
  replace hd := hide hd
  replace hP := hide hP
  go_enter Tryz.func28, Tryz.ntmps28
  go_wp2_with fail
  rw [← hW.out, ← hb.out]
  have d0 := hS1.out.1
  have d1 := hS1.out.2.1
  have d2 := hS1.out.2.2.1
  have d3 := hS1.out.2.2.2.1
  go_region_held3 (fun x => x.cell? ⟨b, 0, none⟩ = some (.slice A n c) ∧ x.cell? ⟨b, 1, none⟩ = some (.int .i64 q) ∧ x.cell? ⟨b, 2, none⟩ = some (.int .i64 ar) ∧ x.cell? ⟨b, 3, none⟩ = some (.bool st) ∧ Ext W x) (first | exact hS0.out | exact hS1.out | exact ‹_› | exact hkp.out _ _ ‹_› ‹_›) (first
      | (go_at_call 62; refine (hli.out _ ‹_›).mono ?_; rintro e w5 ⟨A5, n5, c5, rfl, hL5, hE5⟩)
      | (go_at_call 63; refine (hrli.out _ ‹_›).mono ?_; rintro e w6 ⟨A6, n6, c6, rfl, hL6, hE6⟩))
  go_wp2_with fail
  have hEd := ((Ext.refl W).drew.trans hE5).trans hE6
  have hL5' := hL5.out
  have hL6' := hL6.out
  have hsn := rsame_any A5 A6 n5 n6 c5 c6 (listM P) (listM P) w6 hL5'.1 hL6'.1 (hL5'.2.2.ext hE6) hL6'.2.2 hL5'.2.1 hL6'.2.1
  rw [decide_eq_true rfl] at hsn
  have hL5c := hide (hL5'.2.2.ext hE6)
  have hn5 := hide hL5'.1
  have hn5b := hL5'.2.1
  obtain ⟨L, hL⟩ : ∃ L, L = listM P := ⟨_, rfl⟩
  rw [← hL] at hL5c hn5 hdl
  replace hL := hide hL
  replace hsn := hide hsn
  have hEd' := hide hEd
  clear hL5 hL6 hL5' hL6' hEd d0 d1 d2 d3
  refine hsn.out.mono ?_
  rintro e w7 ⟨rfl, hE7⟩
  have hE07 := hide (hEd'.out.trans hE7)
  have hL7 := hide (hL5c.out.ext hE7)
  clear hsn hL5c
  go_wp2_with fail
  go_loopw [7] (fun s7 wr => ∃ i : Nat, s7 = .int .i64 (i : Int) ∧ i ≤ n5 ∧ Hid (Ext w7 wr)) (fun s7 _ => n5 - (intOf s7).toNat)
  case atStart => exact ⟨0, rfl, by omega, hide (Ext.refl _)⟩
  case round =>
    obtain ⟨i, rfl, hi, hE⟩ := hrel
    by_cases hin : i < n5
    · obtain ⟨s, hs⟩ : ∃ s, L[i]? = some s := ⟨_, List.getElem?_eq_getElem (by have := hn5.out; omega)⟩
      obtain ⟨g, o, rfl, hc⟩ := (hL7.out.ext hE.out).at_ (by rw [List.length_map]; have := hn5.out; omega)
      have k0 : wr.cell? ⟨g, o + i, none⟩ = some (.string ⟨s.toArray⟩) := hc i (str s) (by rw [List.getElem?_map, hs]; rfl)
      have hsl := hdl.out s (List.mem_of_getElem? hs)
      have hE0 := hide (hE07.out.trans hE.out)
      have hEw := hEW.trans hE0.out
      have hrd := read_any base d P F s 0 67108864 wr (h.ext hEw) hsl (by omega) (by omega) (by omega) (by omega)
      have hrr : ∀ x, (x.cell? ⟨b, 0, none⟩ = some (.slice A n c) ∧ x.cell? ⟨b, 1, none⟩ = some (.int .i64 q) ∧ x.cell? ⟨b, 2, none⟩ = some (.int .i64 ar) ∧ x.cell? ⟨b, 3, none⟩ = some (.bool st) ∧ x.cell? ⟨g, o + i, none⟩ = some (.string ⟨s.toArray⟩) ∧ Ext W x) → Calls Tryz.prog 45 #[rdisk A n c q ar st, str s, .int .i64 0, .int .i64 67108864] x fun e w' => RRead8 P s 0 67108864 x e w' := fun x hx => by
        rw [hq.out, har.out, hst.out]
        exact rread8_any N A n c P R s 0 67108864 x (hR.ext (hEW.trans hx.2.2.2.2.2)) hP.out hsl (by omega) (by omega) (by omega) (by omega)
      have hdu : ∀ x, (x.cell? ⟨b, 0, none⟩ = some (.slice A n c) ∧ x.cell? ⟨b, 1, none⟩ = some (.int .i64 q) ∧ x.cell? ⟨b, 2, none⟩ = some (.int .i64 ar) ∧ x.cell? ⟨b, 3, none⟩ = some (.bool st) ∧ x.cell? ⟨g, o + i, none⟩ = some (.string ⟨s.toArray⟩) ∧ Ext W x) → Calls Tryz.prog 65 #[.pointer (some ⟨d, 0, none⟩), str s] x fun e w' => e = .returned (.int .i64 (durM P s)) ∧ w' = x := fun x hx => durable_any base d P F s x (h.ext (hEW.trans hx.2.2.2.2.2)) hsl
      have hrdu : ∀ x, (x.cell? ⟨b, 0, none⟩ = some (.slice A n c) ∧ x.cell? ⟨b, 1, none⟩ = some (.int .i64 q) ∧ x.cell? ⟨b, 2, none⟩ = some (.int .i64 ar) ∧ x.cell? ⟨b, 3, none⟩ = some (.bool st) ∧ x.cell? ⟨g, o + i, none⟩ = some (.string ⟨s.toArray⟩) ∧ Ext W x) → Calls Tryz.prog 66 #[rdisk A n c q ar st, str s] x fun e w' => e = .returned (.int .i64 (durM P s)) ∧ Ext x w' := fun x hx => by
        rw [hq.out, har.out, hst.out]
        exact rdurable_any N A n c P R s x (hR.ext (hEW.trans hx.2.2.2.2.2)) hP.out
      have hkt : ∀ w0 w1 : World, (w0.cell? ⟨b, 0, none⟩ = some (.slice A n c) ∧ w0.cell? ⟨b, 1, none⟩ = some (.int .i64 q) ∧ w0.cell? ⟨b, 2, none⟩ = some (.int .i64 ar) ∧ w0.cell? ⟨b, 3, none⟩ = some (.bool st) ∧ w0.cell? ⟨g, o + i, none⟩ = some (.string ⟨s.toArray⟩) ∧ Ext W w0) → Ext w0 w1 → (w1.cell? ⟨b, 0, none⟩ = some (.slice A n c) ∧ w1.cell? ⟨b, 1, none⟩ = some (.int .i64 q) ∧ w1.cell? ⟨b, 2, none⟩ = some (.int .i64 ar) ∧ w1.cell? ⟨b, 3, none⟩ = some (.bool st) ∧ w1.cell? ⟨g, o + i, none⟩ = some (.string ⟨s.toArray⟩) ∧ Ext W w1) := fun w0 w1 h1 h3 => ⟨h3.cell h1.1, h3.cell h1.2.1, h3.cell h1.2.2.1, h3.cell h1.2.2.2.1, h3.cell h1.2.2.2.2.1, h1.2.2.2.2.2.trans h3⟩
      have hTr : wr.cell? ⟨b, 0, none⟩ = some (.slice A n c) ∧ wr.cell? ⟨b, 1, none⟩ = some (.int .i64 q) ∧ wr.cell? ⟨b, 2, none⟩ = some (.int .i64 ar) ∧ wr.cell? ⟨b, 3, none⟩ = some (.bool st) ∧ wr.cell? ⟨g, o + i, none⟩ = some (.string ⟨s.toArray⟩) ∧ Ext W wr := ⟨(hd.out.ext hE0.out).cell 0 rfl, (hd.out.ext hE0.out).cell 1 rfl, (hd.out.ext hE0.out).cell 2 rfl, (hd.out.ext hE0.out).cell 3 rfl, k0, hE0.out⟩
      unfold ReadPost str at hrd
      unfold RRead8 rdisk str at hrr
      unfold str at hdu
      unfold rdisk str at hrdu
      obtain ⟨RR, hRR⟩ : ∃ RR, RR = readM P s 0 67108864 := ⟨_, rfl⟩
      obtain ⟨D, hD⟩ : ∃ D, D = durM P s := ⟨_, rfl⟩
      simp only [← hRR] at hrd hrr
      simp only [← hD] at hdu hrdu
      obtain ⟨by_, k⟩ := RR
      simp only at hrd hrr
      replace hrd := hide hrd
      replace hrr := hide hrr
      replace hdu := hide hdu
      replace hrdu := hide hrdu
      replace hkt := hide hkt
      replace hTr := hide hTr
      replace hRR := hide hRR
      replace hD := hide hD
      clear hc hs
      go_wp2_with fail
      refine hrd.out.mono ?_
      rintro e w2 ⟨A2, k2, c2, rfl, hb2, hk2, hE2⟩
      have hT2 := hide (hkt.out _ _ hTr.out hE2)
      have hT2d := hide (hkt.out _ _ hT2.out (Ext.refl w2).drew)
      have hx2 := hide hb2.cells
      replace hk2 := hide hk2
      clear k0 hb2
      go_wp2_with fail
      go_region_held3 (fun x => x.cell? ⟨b, 0, none⟩ = some (.slice A n c) ∧ x.cell? ⟨b, 1, none⟩ = some (.int .i64 q) ∧ x.cell? ⟨b, 2, none⟩ = some (.int .i64 ar) ∧ x.cell? ⟨b, 3, none⟩ = some (.bool st) ∧ x.cell? ⟨g, o + i, none⟩ = some (.string ⟨s.toArray⟩) ∧ Ext W x) (first | exact hT2d.out | exact hT2.out | exact ‹_› | exact hkt.out _ _ ‹_› ‹_›) (first
        | (go_at_call 45; refine (hrr.out _ ‹_›).mono ?_; rintro e w3 ⟨A3, k3, c3, rfl, hin3, hE3⟩))
      have hT3 := hide (hkt.out _ _ hT2d.out hE3)
      have hT3d := hide (hkt.out _ _ hT3.out (Ext.refl w3).drew)
      have hb3 := hx2.out.ext ((Ext.refl w2).drew.trans hE3)
      have s1 : ∀ w0, Ext w3 w0 → (convert 34 9 (.slice A2 k2 c2)).run Tryz.prog w0 = .ok (.string ⟨by_.toArray⟩) w0 := fun w0 h0 => run_str (hb3.ext h0) k2 c2 hk2.out
      have s2 : ∀ w0, Ext w3 w0 → (convert 34 9 (.slice A3 k3 c3)).run Tryz.prog w0 = .ok (.string ⟨by_.toArray⟩) w0 := fun w0 h0 => run_str (hin3.bytes.ext h0) k3 c3 hin3.len
      have hxx : (by_ != by_) = false := by simp
      have hE03 := hide ((hE2.trans (Ext.refl w2).drew).trans hE3)
      clear hT2 hT2d hx2 hb3 hin3
      go_wp2_with fail
      go_region_held3 (fun x => (x.cell? ⟨b, 0, none⟩ = some (.slice A n c) ∧ x.cell? ⟨b, 1, none⟩ = some (.int .i64 q) ∧ x.cell? ⟨b, 2, none⟩ = some (.int .i64 ar) ∧ x.cell? ⟨b, 3, none⟩ = some (.bool st) ∧ x.cell? ⟨g, o + i, none⟩ = some (.string ⟨s.toArray⟩) ∧ Ext W x) ∧ Ext w3 x) (first | exact ⟨hT3d.out, (Ext.refl w3).drew⟩ | exact ⟨hT3.out, Ext.refl w3⟩ | exact ‹_› | exact (fun h e => ⟨hkt.out _ _ h.1 e, h.2.trans e⟩ : ∀ {w0 w1 : World}, ((w0.cell? ⟨b, 0, none⟩ = some (.slice A n c) ∧ w0.cell? ⟨b, 1, none⟩ = some (.int .i64 q) ∧ w0.cell? ⟨b, 2, none⟩ = some (.int .i64 ar) ∧ w0.cell? ⟨b, 3, none⟩ = some (.bool st) ∧ w0.cell? ⟨g, o + i, none⟩ = some (.string ⟨s.toArray⟩) ∧ Ext W w0) ∧ Ext w3 w0) → Ext w0 w1 → ((w1.cell? ⟨b, 0, none⟩ = some (.slice A n c) ∧ w1.cell? ⟨b, 1, none⟩ = some (.int .i64 q) ∧ w1.cell? ⟨b, 2, none⟩ = some (.int .i64 ar) ∧ w1.cell? ⟨b, 3, none⟩ = some (.bool st) ∧ w1.cell? ⟨g, o + i, none⟩ = some (.string ⟨s.toArray⟩) ∧ Ext W w1) ∧ Ext w3 w1)) ‹_› ‹_›) (first
        | (go_at_call 65; refine (hdu.out _ (And.left ‹_›)).mono ?_; rintro e w4 ⟨rfl, rfl⟩)
        | (go_at_call 66; refine (hrdu.out _ (And.left ‹_›)).mono ?_; rintro e w5 ⟨rfl, hE5⟩))
      go_wp2_with fail
      go_roundw
      case rel => exact ⟨i + 1, by go_num, by omega, hide (hE.out.trans ((hE03.out.trans (Ext.refl w3).drew).trans hE5))⟩
      case measure => simp [intOf]; omega
    · go_wp2_with fail
      go_ret
      exact ⟨rfl, (hEW.trans hE07.out).trans hE.out⟩
end Go.Proofs.YtohphanbnhiodaaGreat

/- loggiaref15: Truncate. -/
namespace Go.Proofs.YtohphanbnhiodaaGreat
open Go.RowKit Go.Maps

theorem remove_armed (P : PD) (s : List UInt8) : (removeM P s).1.armed ≤ P.armed := by
  unfold removeM writesM
  split
  · split
    · exact Nat.le_refl _
    · split
      · split
        · exact Nat.zero_le _
        · exact Nat.sub_le _ _
      · exact Nat.le_refl _
  · exact Nat.le_refl _
/-- What Truncate answers. -/
def RTruncP (N : Nat → Prop) (Z : PD × Nat × Nat) (w : World) (e : Ending) (w' : World) : Prop :=
  ∃ A1 n1 c1 R1, e = .returned (.tuple #[rdisk A1 n1 c1 Z.1.quota Z.1.armed Z.1.stopped, .int .i64 (Z.2.1 : Nat), .int .i64 (Z.2.2 : Nat)]) ∧ RS w' N A1 n1 c1 R1 ∧ R1.map RE.pl = Z.1.L ∧ Ext w w'
/-- The variables of Truncate: the disk in block b, the answer's block behind it. -/
structure TrS (w : World) (b : Nat) (N : Nat → Prop) (wr : World) (P : PD) (A : Option Addr) (n c : Nat) (R : List RE) : Prop where
  row : Row wr b 29 #[.slice A n c, .int .i64 P.quota, .int .i64 P.armed, .bool P.stopped]
  res : Row wr (b + 1) 29 #[.slice none 0 0, .int .i64 0, .int .i64 0, .bool false]
  rs : RS wr N A n c R
  pl : R.map RE.pl = P.L
  arm : P.armed ≤ 9223372036854775807
  ext : Ext w wr
theorem TrS.ext' {w wr w1 : World} {b n c : Nat} {N : Nat → Prop} {P : PD} {A : Option Addr} {R : List RE} (h : TrS w b N wr P A n c R) (hE : Ext wr w1) : TrS w b N w1 P A n c R :=
  ⟨h.row.ext hE, h.res.ext hE, h.rs.ext hE, h.pl, h.arm, h.ext.trans hE⟩
theorem sets_chg (W : World) (r : Nat) (u0 u1 u2 u3 : Value) : Chg (fun k => k = r) W ((((W.setCell ⟨r, 0, none⟩ u0).setCell ⟨r, 1, none⟩ u1).setCell ⟨r, 2, none⟩ u2).setCell ⟨r, 3, none⟩ u3) :=
  (((Chg.of_set (S := fun k => k = r) W (a := ⟨r, 0, none⟩) _ rfl).trans (Chg.of_set (S := fun k => k = r) _ (a := ⟨r, 1, none⟩) _ rfl) fun _ _ h => h).trans (Chg.of_set (S := fun k => k = r) _ (a := ⟨r, 2, none⟩) _ rfl) fun _ _ h => h).trans (Chg.of_set (S := fun k => k = r) _ (a := ⟨r, 3, none⟩) _ rfl) fun _ _ h => h
/-- The variable takes the next disk. -/
theorem TrS.put {w W4 : World} {ni ci n1 c1 : Nat} {N2 : Nat → Prop} {P P3 : PD} {Ai A1 : Option Addr} {R1 : List RE} (hr : Row W4 w.heap.size 29 #[.slice Ai ni ci, .int .i64 P.quota, .int .i64 P.armed, .bool P.stopped]) (hz : Row W4 (w.heap.size + 1) 29 #[.slice none 0 0, .int .i64 0, .int .i64 0, .bool false])
    (hR : RS W4 N2 A1 n1 c1 R1) (hN : N2 w.heap.size) (hp : R1.map RE.pl = P3.L) (ha : P3.armed ≤ 9223372036854775807) (hE : Ext w W4) :
    TrS w w.heap.size N2 ((((W4.setCell ⟨w.heap.size, 0, none⟩ (.slice A1 n1 c1)).setCell ⟨w.heap.size, 1, none⟩ (.int .i64 P3.quota)).setCell ⟨w.heap.size, 2, none⟩ (.int .i64 P3.armed)).setCell ⟨w.heap.size, 3, none⟩ (.bool P3.stopped)) P3 A1 n1 c1 R1 :=
  ⟨(((hr.put 0 _).put 1 _).put 2 _).put 3 _, (sets_chg W4 w.heap.size _ _ _ _).row hz (by omega), hR.chg (sets_chg W4 w.heap.size _ _ _ _) (fun k _ hk => hk ▸ hN) (fun _ _ h => h), hp, ha, ((((hE.setCell (Nat.le_refl _) _).setCell (Nat.le_refl _) _).setCell (Nat.le_refl _) _).setCell (Nat.le_refl _) _)⟩
theorem TrS.fin {w wz : World} {N2 : Nat → Prop} {P : PD} {A : Option Addr} {n c : Nat} {R : List RE} (h : TrS w w.heap.size N2 wz P A n c R) (hN : N2 (w.heap.size + 1)) :
    RS ((((wz.setCell ⟨w.heap.size + 1, 0, none⟩ (.slice A n c)).setCell ⟨w.heap.size + 1, 1, none⟩ (.int .i64 P.quota)).setCell ⟨w.heap.size + 1, 2, none⟩ (.int .i64 P.armed)).setCell ⟨w.heap.size + 1, 3, none⟩ (.bool P.stopped)) N2 A n c R ∧ Ext w ((((wz.setCell ⟨w.heap.size + 1, 0, none⟩ (.slice A n c)).setCell ⟨w.heap.size + 1, 1, none⟩ (.int .i64 P.quota)).setCell ⟨w.heap.size + 1, 2, none⟩ (.int .i64 P.armed)).setCell ⟨w.heap.size + 1, 3, none⟩ (.bool P.stopped)) ∧ Row ((((wz.setCell ⟨w.heap.size + 1, 0, none⟩ (.slice A n c)).setCell ⟨w.heap.size + 1, 1, none⟩ (.int .i64 P.quota)).setCell ⟨w.heap.size + 1, 2, none⟩ (.int .i64 P.armed)).setCell ⟨w.heap.size + 1, 3, none⟩ (.bool P.stopped)) (w.heap.size + 1) 29 #[.slice A n c, .int .i64 P.quota, .int .i64 P.armed, .bool P.stopped] :=
  ⟨h.rs.chg (sets_chg wz (w.heap.size + 1) _ _ _ _) (fun k _ hk => hk ▸ hN) (fun _ _ h => h), (((h.ext.setCell (Nat.le_succ _) _).setCell (Nat.le_succ _) _).setCell (Nat.le_succ _) _).setCell (Nat.le_succ _) _, (((h.res.put 0 _).put 1 _).put 2 _).put 3 _⟩
set_option maxRecDepth 100000 in
set_option maxHeartbeats 8000000 in
theorem rtrunc_any (N : Nat → Prop) (A : Option Addr) (n c : Nat) (P : PD) (R : List RE) (below : Int) (w : World) (h : RS w N A n c R) (hP : R.map RE.pl = P.L) (hN : ∀ k, N k → k < w.heap.size) (ha : P.armed ≤ 9223372036854775807) (hb : I64ok' below) (hcnt : (logsM P).length ≤ 2000) :
    Calls Tryz.prog 18 #[rdisk A n c P.quota P.armed P.stopped, .int .i64 below] w (RTruncP N (truncM below (logsM P) P 0) w) := by
  obtain ⟨Z, hZ⟩ : ∃ Z, Z = truncM below (logsM P) P 0 := ⟨_, rfl⟩
  rw [← hZ]
  have hlt : ∀ n ∈ logsM P, n ≤ 99999999 := fun n hn => by
    obtain ⟨s, _, hs⟩ := List.mem_filterMap.1 hn
    have := numW_lt hs
    omega
  obtain ⟨W, hW⟩ : ∃ W, W = (w.alloc (.cells #[.slice A n c, .int .i64 P.quota, .int .i64 P.armed, .bool P.stopped] 29)).alloc (.cells #[.slice none 0 0, .int .i64 0, .int .i64 0, .bool false] 29) := ⟨_, rfl⟩
  have hE : Ext w W := by rw [hW]; exact ((Ext.refl w).alloc _).alloc _
  have hd : Row W w.heap.size 29 #[.slice A n c, .int .i64 P.quota, .int .i64 P.armed, .bool P.stopped] := by rw [hW]; exact (Row.new w _ _).alloc _
  have hr2 : Row W (w.heap.size + 1) 29 #[.slice none 0 0, .int .i64 0, .int .i64 0, .bool false] := by
    have := Row.new (w.alloc (.cells #[.slice A n c, .int .i64 P.quota, .int .i64 P.armed, .bool P.stopped] 29)) 29 #[.slice none 0 0, .int .i64 0, .int .i64 0, .bool false]
    rw [size_alloc] at this
    rw [hW]
    exact this
  obtain ⟨N2, hN2⟩ : ∃ N2 : Nat → Prop, N2 = fun k => N k ∨ (w.heap.size ≤ k ∧ k < W.heap.size) := ⟨_, rfl⟩
  have hwl := hr2.lt
  have hN20 : N2 w.heap.size := by rw [hN2]; exact .inr ⟨Nat.le_refl _, by omega⟩
  have hN21 : N2 (w.heap.size + 1) := by rw [hN2]; exact .inr ⟨Nat.le_succ _, hwl⟩
  have hN2lt : ∀ w1, Ext w w1 → W.heap.size ≤ w1.heap.size → ∀ k, N2 k → k < w1.heap.size := fun w1 hE1 hle k hk => by
    rw [hN2] at hk
    have := hE1.size
    rcases hk with hk | hk
    · have := hN k hk; omega
    · omega
  have hback : ∀ {w1 : World} {A1 : Option Addr} {n1 c1 : Nat} {R1 : List RE}, RS w1 N2 A1 n1 c1 R1 → RS w1 N A1 n1 c1 R1 := fun h1 => h1.chg (Chg.refl (fun _ => False) _) (fun _ _ h => h.elim) fun k _ hk => by rw [hN2]; exact .inl hk
  have hs0 := hide (show TrS w w.heap.size N2 W P A n c R from ⟨hd, hr2, away2 h hE hN2, hP, ha, hE⟩)
  have hlogs := hide (rlogs_any N A n c P R W (h.ext hE) hP)
  have d0 : (W).cell? ⟨w.heap.size, 0, none⟩ = some (.slice A n c) := (hd).cell 0 rfl
  have d1 : (W).cell? ⟨w.heap.size, 1, none⟩ = some (.int .i64 P.quota) := (hd).cell 1 rfl
  have d2 : (W).cell? ⟨w.heap.size, 2, none⟩ = some (.int .i64 P.armed) := (hd).cell 2 rfl
  have d3 : (W).cell? ⟨w.heap.size, 3, none⟩ = some (.bool P.stopped) := (hd).cell 3 rfl
  obtain ⟨ns, hns⟩ : ∃ ns, ns = logsM P := ⟨_, rfl⟩
  simp only [← hns] at hZ hlogs hcnt hlt
  obtain ⟨M, hM⟩ : ∃ M, M = ns.length := ⟨_, rfl⟩
  simp only [← hM] at hlogs hcnt
  obtain ⟨hf1, hf2⟩ := hb
  unfold rdisk at hlogs ⊢
  have hWs := hide hwl
  clear hwl
  replace hns := hide hns
  replace hM := hide hM
  replace hZ := hide hZ
  replace hlt := hide hlt
  replace hW := hide hW
  replace hN2lt := hide hN2lt
  replace hN2 := hide hN2
  clear h hP hd hr2 hN
  go_enter Tryz.func18, Tryz.ntmps18
  go_wp2_with fail
  rw [← hW.out]
  refine hlogs.out.mono ?_
  rintro e w1 ⟨A0, c0, rfl, hown, hE1⟩
  have hs1 := hide (hs0.out.ext' hE1)
  have hwl1 := hide (hE1.size)
  replace hown := hide hown
  clear hs0 hlogs d0 d1 d2 d3
  go_wp2_with fail
  go_loopw [8, 9] (fun s8 s9 wr => ∃ (i n : Nat) (Pi : PD) (Ai : Option Addr) (ni ci : Nat) (Ri : List RE), s8 = .int .i64 (n : Int) ∧ s9 = .int .i64 (i : Int) ∧ i ≤ M ∧ n ≤ i ∧ Hid (Z = truncM below (ns.drop i) Pi n) ∧ Hid (TrS w w.heap.size N2 wr Pi Ai ni ci Ri) ∧ Hid (W.heap.size ≤ wr.heap.size) ∧ Hid (wr.ownsRow W.heap.size 3 1 (.slice A0 M c0) M (nats ns))) (fun _ s9 _ => M - (intOf s9).toNat)
  case atStart => exact ⟨0, 0, P, A, n, c, R, rfl, rfl, by omega, by omega, hide hZ.out, hs1, hwl1, hown⟩
  case round =>
    clear hs1 hown hwl1
    obtain ⟨i, n, Pi, Ai, ni, ci, Ri, rfl, rfl, hi, hni, hz, hs, hle, hown⟩ := hrel
    have hI0 := hs.out
    have b0 : (wr).cell? ⟨w.heap.size, 0, none⟩ = some (.slice Ai ni ci) := (hI0.row).cell 0 rfl
    have b1 : (wr).cell? ⟨w.heap.size, 1, none⟩ = some (.int .i64 Pi.quota) := (hI0.row).cell 1 rfl
    have b2 : (wr).cell? ⟨w.heap.size, 2, none⟩ = some (.int .i64 Pi.armed) := (hI0.row).cell 2 rfl
    have b3 : (wr).cell? ⟨w.heap.size, 3, none⟩ = some (.bool Pi.stopped) := (hI0.row).cell 3 rfl
    have r0 : (wr).cell? ⟨w.heap.size + 1, 0, none⟩ = some (.slice none 0 0) := (hI0.res).cell 0 rfl
    have r1 : (wr).cell? ⟨w.heap.size + 1, 1, none⟩ = some (.int .i64 0) := (hI0.res).cell 1 rfl
    have r2 : (wr).cell? ⟨w.heap.size + 1, 2, none⟩ = some (.int .i64 0) := (hI0.res).cell 2 rfl
    have r3 : (wr).cell? ⟨w.heap.size + 1, 3, none⟩ = some (.bool false) := (hI0.res).cell 3 rfl
    have f0 := (hI0.res).free 0
    have f1 := (hI0.res).free 1
    have f2 := (hI0.res).free 2
    have f3 := (hI0.res).free 3
    clear hI0
    by_cases hin : i < M
    · obtain ⟨k, hk⟩ : ∃ k, ns[i]? = some k := ⟨_, List.getElem?_eq_getElem (by have := hM.out; omega)⟩
      obtain ⟨ga, o, hA, hc⟩ := Cells.at_ (xs := nats ns) (Cells.of_own hown.out) (by unfold nats; rw [List.length_map]; have := hM.out; omega)
      have hcell := hc i (.int .i64 (k : Int)) (by unfold nats; rw [List.getElem?_map, hk]; rfl)
      subst hA
      have hzz := hz.out
      rw [drop_oneN hk, truncM] at hzz
      have hk9 := hlt.out k (List.mem_of_getElem? hk)
      clear hc hk
      by_cases hlow : (k : Int) < below
      · rw [if_pos hlow] at hzz
        have hnm := hide (rname_yes k wr hk9)
        have hrm := fun w3 (hE3 : Ext wr w3) => rremove_any N2 Ai ni ci Pi Ri (nameW k) w3 (hs.out.rs.ext hE3) hs.out.pl (hN2lt.out w3 (hs.out.ext.trans hE3) (Nat.le_trans hle.out hE3.size)) (by rw [nameW_len]; omega) hs.out.arm
        have harm := remove_armed Pi (nameW k)
        obtain ⟨RR, hRR⟩ : ∃ RR, RR = removeM Pi (nameW k) := ⟨_, rfl⟩
        obtain ⟨nm, hnn⟩ : ∃ nm, nm = nameW k := ⟨_, rfl⟩
        rw [← hRR] at hzz harm
        simp only [← hRR] at hrm
        rw [← hnn] at hnm
        simp only [← hnn] at hrm
        obtain ⟨P3, z⟩ := RR
        simp only at hzz hrm harm
        unfold RNext rdisk str at hrm
        have hrm2 := hide hrm
        have harm2 := hide (show P3.armed ≤ 9223372036854775807 by have := hs.out.arm; omega)
        replace hRR := hide hRR
        replace hnn := hide hnn
        clear hrm harm r0 r1 r2 r3 f0 f1 f2 f3 b0 b1 b2 b3
        go_wp2_with fail
        refine hnm.out.mono ?_
        rintro e w3 ⟨rfl, hE3⟩
        have hI := hs.out.ext' hE3
        have d0 : (w3).cell? ⟨w.heap.size, 0, none⟩ = some (.slice Ai ni ci) := (hI.row).cell 0 rfl
        have d1 : (w3).cell? ⟨w.heap.size, 1, none⟩ = some (.int .i64 Pi.quota) := (hI.row).cell 1 rfl
        have d2 : (w3).cell? ⟨w.heap.size, 2, none⟩ = some (.int .i64 Pi.armed) := (hI.row).cell 2 rfl
        have d3 : (w3).cell? ⟨w.heap.size, 3, none⟩ = some (.bool Pi.stopped) := (hI.row).cell 3 rfl
        clear hI
        go_wp2_with fail
        refine (hrm2.out w3 hE3).mono ?_
        rintro e w4 ⟨A1, n1, c1, R1, rfl, hR1, hP1, hE4⟩
        obtain ⟨W4, hW4⟩ : ∃ W4, W4 = w4.alloc (.cells #[.slice A1 n1 c1, .int .i64 P3.quota, .int .i64 P3.armed, .bool P3.stopped] 29) := ⟨_, rfl⟩
        have hE5 : Ext w4 W4 := by rw [hW4]; exact (Ext.refl w4).alloc _
        have hs4 := hs.out.ext' ((hE3.trans hE4).trans hE5)
        have hput := hide (TrS.put hs4.row hs4.res (hR1.ext hE5) hN20 hP1 harm2.out hs4.ext)
        have hown4 := hide (((hE3.trans hE4).trans hE5).owns hown.out)
        have hle4 := hide (Nat.le_trans hle.out ((hE3.trans hE4).trans hE5).size)
        have hx : Row W4 w4.heap.size 29 #[.slice A1 n1 c1, .int .i64 P3.quota, .int .i64 P3.armed, .bool P3.stopped] := by rw [hW4]; exact Row.new w4 _ _
        have hrow := hs4.row
        have hres := hs4.res
        rw [hW4] at hx hrow hres
        have e0 : (w4.alloc (.cells #[.slice A1 n1 c1, .int .i64 P3.quota, .int .i64 P3.armed, .bool P3.stopped] 29)).cell? ⟨w4.heap.size, 0, none⟩ = some (.slice A1 n1 c1) := (hx).cell 0 rfl
        have e1 : (w4.alloc (.cells #[.slice A1 n1 c1, .int .i64 P3.quota, .int .i64 P3.armed, .bool P3.stopped] 29)).cell? ⟨w4.heap.size, 1, none⟩ = some (.int .i64 P3.quota) := (hx).cell 1 rfl
        have e2 : (w4.alloc (.cells #[.slice A1 n1 c1, .int .i64 P3.quota, .int .i64 P3.armed, .bool P3.stopped] 29)).cell? ⟨w4.heap.size, 2, none⟩ = some (.int .i64 P3.armed) := (hx).cell 2 rfl
        have e3 : (w4.alloc (.cells #[.slice A1 n1 c1, .int .i64 P3.quota, .int .i64 P3.armed, .bool P3.stopped] 29)).cell? ⟨w4.heap.size, 3, none⟩ = some (.bool P3.stopped) := (hx).cell 3 rfl
        have b0 : (w4.alloc (.cells #[.slice A1 n1 c1, .int .i64 P3.quota, .int .i64 P3.armed, .bool P3.stopped] 29)).cell? ⟨w.heap.size, 0, none⟩ = some (.slice Ai ni ci) := (hrow).cell 0 rfl
        have b1 : (w4.alloc (.cells #[.slice A1 n1 c1, .int .i64 P3.quota, .int .i64 P3.armed, .bool P3.stopped] 29)).cell? ⟨w.heap.size, 1, none⟩ = some (.int .i64 Pi.quota) := (hrow).cell 1 rfl
        have b2 : (w4.alloc (.cells #[.slice A1 n1 c1, .int .i64 P3.quota, .int .i64 P3.armed, .bool P3.stopped] 29)).cell? ⟨w.heap.size, 2, none⟩ = some (.int .i64 Pi.armed) := (hrow).cell 2 rfl
        have b3 : (w4.alloc (.cells #[.slice A1 n1 c1, .int .i64 P3.quota, .int .i64 P3.armed, .bool P3.stopped] 29)).cell? ⟨w.heap.size, 3, none⟩ = some (.bool Pi.stopped) := (hrow).cell 3 rfl
        have y0 := (hrow).free 0
        have y1 := (hrow).free 1
        have y2 := (hrow).free 2
        have y3 := (hrow).free 3
        have r0 : (w4.alloc (.cells #[.slice A1 n1 c1, .int .i64 P3.quota, .int .i64 P3.armed, .bool P3.stopped] 29)).cell? ⟨w.heap.size + 1, 0, none⟩ = some (.slice none 0 0) := (hres).cell 0 rfl
        have r1 : (w4.alloc (.cells #[.slice A1 n1 c1, .int .i64 P3.quota, .int .i64 P3.armed, .bool P3.stopped] 29)).cell? ⟨w.heap.size + 1, 1, none⟩ = some (.int .i64 0) := (hres).cell 1 rfl
        have r2 : (w4.alloc (.cells #[.slice A1 n1 c1, .int .i64 P3.quota, .int .i64 P3.armed, .bool P3.stopped] 29)).cell? ⟨w.heap.size + 1, 2, none⟩ = some (.int .i64 0) := (hres).cell 2 rfl
        have r3 : (w4.alloc (.cells #[.slice A1 n1 c1, .int .i64 P3.quota, .int .i64 P3.armed, .bool P3.stopped] 29)).cell? ⟨w.heap.size + 1, 3, none⟩ = some (.bool false) := (hres).cell 3 rfl
        have f0 := (hres).free 0
        have f1 := (hres).free 1
        have f2 := (hres).free 2
        have f3 := (hres).free 3
        clear d0 d1 d2 d3 hx hrow hres hs4 hR1 hP1
        replace hW4 := hide hW4
        by_cases hz0 : z = 0
        · rw [if_pos hz0] at hzz
          subst hz0
          replace hzz := hide hzz
          go_wp2_with fail
          rw [← hW4.out]
          have hown5 := hide ((sets_chg W4 w.heap.size (.slice A1 n1 c1) (.int .i64 P3.quota) (.int .i64 P3.armed) (.bool P3.stopped)).owns hown4.out fun g hg e => by
            obtain ⟨_, _, hb⟩ := owns_row hown4.out hg
            have := hWs.out
            omega)
          exact ⟨⟨i + 1, n + 1, P3, A1, n1, c1, R1, by go_num, by go_num, by omega, by omega, hzz, hput, hide (Nat.le_trans hle4.out (sets_chg W4 w.heap.size _ _ _ _).size), hown5⟩, by simp [intOf]; omega⟩
        · rw [if_neg hz0] at hzz
          have hz0i : ¬ (z : Int) = 0 := by omega
          replace hzz := hide hzz
          go_upto_if 46 with (fail)
          rw [← hW4.out]
          obtain ⟨W5, hW5⟩ : ∃ W5, W5 = ((((W4.setCell ⟨w.heap.size, 0, none⟩ (.slice A1 n1 c1)).setCell ⟨w.heap.size, 1, none⟩ (.int .i64 P3.quota)).setCell ⟨w.heap.size, 2, none⟩ (.int .i64 P3.armed)).setCell ⟨w.heap.size, 3, none⟩ (.bool P3.stopped)) := ⟨_, rfl⟩
          rw [← hW5] at hput ⊢
          replace hW5 := hide hW5
          clear e0 e1 e2 e3 b0 b1 b2 b3 r0 r1 r2 r3 f0 f1 f2 f3 y0 y1 y2 y3
          have hI5 := hput.out
          have b0 : (W5).cell? ⟨w.heap.size, 0, none⟩ = some (.slice A1 n1 c1) := (hI5.row).cell 0 rfl
          have b1 : (W5).cell? ⟨w.heap.size, 1, none⟩ = some (.int .i64 P3.quota) := (hI5.row).cell 1 rfl
          have b2 : (W5).cell? ⟨w.heap.size, 2, none⟩ = some (.int .i64 P3.armed) := (hI5.row).cell 2 rfl
          have b3 : (W5).cell? ⟨w.heap.size, 3, none⟩ = some (.bool P3.stopped) := (hI5.row).cell 3 rfl
          have r0 : (W5).cell? ⟨w.heap.size + 1, 0, none⟩ = some (.slice none 0 0) := (hI5.res).cell 0 rfl
          have r1 : (W5).cell? ⟨w.heap.size + 1, 1, none⟩ = some (.int .i64 0) := (hI5.res).cell 1 rfl
          have r2 : (W5).cell? ⟨w.heap.size + 1, 2, none⟩ = some (.int .i64 0) := (hI5.res).cell 2 rfl
          have r3 : (W5).cell? ⟨w.heap.size + 1, 3, none⟩ = some (.bool false) := (hI5.res).cell 3 rfl
          have f0 := (hI5.res).free 0
          have f1 := (hI5.res).free 1
          have f2 := (hI5.res).free 2
          have f3 := (hI5.res).free 3
          obtain ⟨hf1, hf2, hrf⟩ := hput.out.fin hN21
          have hfin : RTruncP N (P3, n, z) w (.returned (.tuple #[.agg #[.slice A1 n1 c1, .int .i64 P3.quota, .int .i64 P3.armed, .bool P3.stopped], .int .i64 (n : Int), .int .i64 (z : Nat)])) ((((W5.setCell ⟨w.heap.size + 1, 0, none⟩ (.slice A1 n1 c1)).setCell ⟨w.heap.size + 1, 1, none⟩ (.int .i64 P3.quota)).setCell ⟨w.heap.size + 1, 2, none⟩ (.int .i64 P3.armed)).setCell ⟨w.heap.size + 1, 3, none⟩ (.bool P3.stopped)) := ⟨A1, n1, c1, R1, rfl, hback hf1, hput.out.pl, hf2⟩
          replace hfin := hide hfin
          clear hf1 hf2 hI5
          go_wp2_with fail
          obtain ⟨wf, hwf⟩ : ∃ wf, wf = ((((W5.setCell ⟨w.heap.size + 1, 0, none⟩ (.slice A1 n1 c1)).setCell ⟨w.heap.size + 1, 1, none⟩ (.int .i64 P3.quota)).setCell ⟨w.heap.size + 1, 2, none⟩ (.int .i64 P3.armed)).setCell ⟨w.heap.size + 1, 3, none⟩ (.bool P3.stopped)) := ⟨_, rfl⟩
          rw [← hwf] at hfin hrf ⊢
          have z0 := hrf.cell 0 rfl
          have z1 := hrf.cell 1 rfl
          have z2 := hrf.cell 2 rfl
          have z3 := hrf.cell 3 rfl
          rw [hzz.out]
          exact bodyPost_ret (v := .tuple #[.agg #[.slice A1 n1 c1, .int .i64 P3.quota, .int .i64 P3.armed, .bool P3.stopped], .int .i64 (n : Int), .int .i64 (z : Nat)]) (by simp [results, Tryz.results18, go_sem, z0, z1, z2, z3]) rfl hfin.out
      · rw [if_neg hlow] at hzz
        have hlow' : below ≤ (k : Int) := by omega
        replace hzz := hide hzz
        obtain ⟨hf1, hf2, hrf⟩ := hs.out.fin hN21
        have hfin : RTruncP N (Pi, n, 0) w (.returned (.tuple #[.agg #[.slice Ai ni ci, .int .i64 Pi.quota, .int .i64 Pi.armed, .bool Pi.stopped], .int .i64 (n : Int), .int .i64 (0 : Nat)])) ((((wr.setCell ⟨w.heap.size + 1, 0, none⟩ (.slice Ai ni ci)).setCell ⟨w.heap.size + 1, 1, none⟩ (.int .i64 Pi.quota)).setCell ⟨w.heap.size + 1, 2, none⟩ (.int .i64 Pi.armed)).setCell ⟨w.heap.size + 1, 3, none⟩ (.bool Pi.stopped)) := ⟨Ai, ni, ci, Ri, rfl, hback hf1, hs.out.pl, hf2⟩
        replace hfin := hide hfin
        clear hf1 hf2
        go_wp2_with fail
        obtain ⟨wf, hwf⟩ : ∃ wf, wf = ((((wr.setCell ⟨w.heap.size + 1, 0, none⟩ (.slice Ai ni ci)).setCell ⟨w.heap.size + 1, 1, none⟩ (.int .i64 Pi.quota)).setCell ⟨w.heap.size + 1, 2, none⟩ (.int .i64 Pi.armed)).setCell ⟨w.heap.size + 1, 3, none⟩ (.bool Pi.stopped)) := ⟨_, rfl⟩
        rw [← hwf] at hfin hrf ⊢
        have z0 := hrf.cell 0 rfl
        have z1 := hrf.cell 1 rfl
        have z2 := hrf.cell 2 rfl
        have z3 := hrf.cell 3 rfl
        rw [hzz.out]
        exact bodyPost_ret (v := .tuple #[.agg #[.slice Ai ni ci, .int .i64 Pi.quota, .int .i64 Pi.armed, .bool Pi.stopped], .int .i64 (n : Int), .int .i64 (0 : Nat)]) (by simp [results, Tryz.results18, go_sem, z0, z1, z2, z3]) rfl hfin.out
    · obtain rfl : i = M := by omega
      have hzz := hz.out
      rw [List.drop_of_length_le (by have := hM.out; omega), truncM] at hzz
      replace hzz := hide hzz
      obtain ⟨hf1, hf2, hrf⟩ := hs.out.fin hN21
      have hfin : RTruncP N (Pi, n, 0) w (.returned (.tuple #[.agg #[.slice Ai ni ci, .int .i64 Pi.quota, .int .i64 Pi.armed, .bool Pi.stopped], .int .i64 (n : Int), .int .i64 (0 : Nat)])) ((((wr.setCell ⟨w.heap.size + 1, 0, none⟩ (.slice Ai ni ci)).setCell ⟨w.heap.size + 1, 1, none⟩ (.int .i64 Pi.quota)).setCell ⟨w.heap.size + 1, 2, none⟩ (.int .i64 Pi.armed)).setCell ⟨w.heap.size + 1, 3, none⟩ (.bool Pi.stopped)) := ⟨Ai, ni, ci, Ri, rfl, hback hf1, hs.out.pl, hf2⟩
      replace hfin := hide hfin
      clear hf1 hf2
      go_wp2_with fail
      obtain ⟨wf, hwf⟩ : ∃ wf, wf = ((((wr.setCell ⟨w.heap.size + 1, 0, none⟩ (.slice Ai ni ci)).setCell ⟨w.heap.size + 1, 1, none⟩ (.int .i64 Pi.quota)).setCell ⟨w.heap.size + 1, 2, none⟩ (.int .i64 Pi.armed)).setCell ⟨w.heap.size + 1, 3, none⟩ (.bool Pi.stopped)) := ⟨_, rfl⟩
      rw [← hwf] at hfin hrf ⊢
      have z0 := hrf.cell 0 rfl
      have z1 := hrf.cell 1 rfl
      have z2 := hrf.cell 2 rfl
      have z3 := hrf.cell 3 rfl
      rw [hzz.out]
      exact bodyPost_ret (v := .tuple #[.agg #[.slice Ai ni ci, .int .i64 Pi.quota, .int .i64 Pi.armed, .bool Pi.stopped], .int .i64 (n : Int), .int .i64 (0 : Nat)]) (by simp [results, Tryz.results18, go_sem, z0, z1, z2, z3]) rfl hfin.out
end Go.Proofs.YtohphanbnhiodaaGreat

/- loggiaref15: Replay. -/
namespace Go.Proofs.YtohphanbnhiodaaGreat
open Go.RowKit Go.Maps

theorem takeB_stop : ∀ (l : List Bt) (nx : Int), takeB false nx l = (false, nx, [])
  | [], _ => rfl
  | x :: l, nx => by
    rw [takeB, if_neg (by simp)]
    exact takeB_stop l nx
set_option maxRecDepth 100000 in
set_option maxHeartbeats 8000000 in
theorem rreplay_any (K Bd : Nat) (hK4 : K ≤ 4000000000) (hB4 : Bd ≤ 1000000000) (hKB : K * Bd ≤ 4000000000) (Ns : Nat → Prop) (Ad : Option Addr) (nd cd : Nat) (P : PD) (R : List RE) (fr nx0 : Int) (w : World) (h : RS w Ns Ad nd cd R) (hP : R.map RE.pl = P.L) (hf : I64ok' fr) (hx : I64ok' nx0) (hcnt : (logsM P).length ≤ K) (hbytes : ∀ n ∈ logsM P, (readM P (nameW n) 0 67108864).1.length ≤ Bd) :
    Calls Tryz.prog 15 #[rdisk Ad nd cd P.quota P.armed P.stopped, .int .i64 fr, .int .i64 nx0] w fun e w' => ReplP w (replM P fr (logsM P) true nx0 [] (-1)) e w' := by
  obtain ⟨Z, hZ⟩ : ∃ Z, Z = replM P fr (logsM P) true nx0 [] (-1) := ⟨_, rfl⟩
  rw [← hZ]
  have hlt : ∀ n ∈ logsM P, n ≤ 99999999 := fun n hn => by
    obtain ⟨s, _, hs⟩ := List.mem_filterMap.1 hn
    have := numW_lt hs
    omega
  obtain ⟨W, hW⟩ : ∃ W, W = w.alloc (.cells #[.slice Ad nd cd, .int .i64 P.quota, .int .i64 P.armed, .bool P.stopped] 29) := ⟨_, rfl⟩
  have hEW : Ext w W := by rw [hW]; exact (Ext.refl w).alloc _
  have hd : Row W w.heap.size 29 #[.slice Ad nd cd, .int .i64 P.quota, .int .i64 P.armed, .bool P.stopped] := by rw [hW]; exact Row.new w _ _
  have hlogs := rlogs_any Ns Ad nd cd P R W (h.ext hEW) hP
  have d0 : W.cell? ⟨w.heap.size, 0, none⟩ = some (.slice Ad nd cd) := hd.cell 0 rfl
  have d1 : W.cell? ⟨w.heap.size, 1, none⟩ = some (.int .i64 P.quota) := hd.cell 1 rfl
  have d2 : W.cell? ⟨w.heap.size, 2, none⟩ = some (.int .i64 P.armed) := hd.cell 2 rfl
  have d3 : W.cell? ⟨w.heap.size, 3, none⟩ = some (.bool P.stopped) := hd.cell 3 rfl
  obtain ⟨ns, hns⟩ : ∃ ns, ns = logsM P := ⟨_, rfl⟩
  simp only [← hns] at hZ hlogs hcnt hbytes hlt
  obtain ⟨N, hN⟩ : ∃ N, N = ns.length := ⟨_, rfl⟩
  simp only [← hN] at hlogs hcnt
  obtain ⟨hx1, hx2⟩ := hx
  obtain ⟨hf1, hf2⟩ := hf
  unfold rdisk at hlogs ⊢
  replace hns := hide hns
  replace hN := hide hN
  replace hZ := hide hZ
  replace hlogs := hide hlogs
  replace hbytes := hide hbytes
  replace hlt := hide hlt
  replace hW := hide hW
  have hdd := hide hd
  have hP' := hide hP
  clear hd hP
  go_enter Tryz.func15, Tryz.ntmps15
  go_wp2_with fail
  rw [← hW.out]
  refine hlogs.out.mono ?_
  rintro e w2 ⟨A, c, rfl, hown, hE2⟩
  have hcells := hide (Cells.of_own hown)
  have hE02 := hide (hEW.trans hE2)
  have hEW2 := hide hE2
  replace hown := hide hown
  clear d0 d1 d2 d3 hlogs hE2
  go_wp2_with fail
  go_loopw [2, 9, 11, 12, 13] (fun s2 s9 s11 s12 s13 wr => ∃ (i m dd : Nat) (g : Bool) (nx last : Int) (read : List BtC) (B : Option Addr), s2 = .int .i64 nx ∧ s9 = .slice B m dd ∧ s11 = .int .i64 last ∧ s12 = .bool (!g) ∧ s13 = .int .i64 (i : Int) ∧ i ≤ N ∧ m ≤ i * Bd ∧ -9223372036854775808 ≤ nx ∧ nx ≤ 9223372036854775807 ∧ Hid (m = read.length) ∧ Hid (Z = replM P fr (ns.drop i) g nx (read.map BtC.bt) last) ∧ Hid (BtsOwn wr w2.heap.size B dd read) ∧ Hid (Ext w2 wr)) (fun _ _ _ _ s13 _ => N - (intOf s13).toNat)
  case atStart => exact ⟨0, 0, 0, true, nx0, -1, [], none, rfl, rfl, rfl, rfl, rfl, by omega, by omega, by omega, by omega, hide rfl, hide hZ.out, hide (BtsOwn.nil _ _), hide (Ext.refl _)⟩
  case round =>
    obtain ⟨i, m, dd, g, nx, last, read, B, rfl, rfl, rfl, rfl, rfl, hi, hmi, hnx1, hnx2, hm, hz, hbo, hE⟩ := hrel
    by_cases hin : i < N
    · obtain ⟨n, hn⟩ : ∃ n, ns[i]? = some n := ⟨_, List.getElem?_eq_getElem (by have := hN.out; omega)⟩
      obtain ⟨ga, o, hA, hc⟩ := Cells.at_ (xs := nats ns) (hcells.out.ext hE.out) (by unfold nats; rw [List.length_map]; have := hN.out; omega)
      have hcell := hc i (.int .i64 (n : Int)) (by unfold nats; rw [List.getElem?_map, hn]; rfl)
      subst hA
      have hzz := hz.out
      rw [drop_oneN hn] at hzz
      have hmem := List.mem_of_getElem? hn
      have hn9 := hlt.out n hmem
      have hbn := hbytes.out n hmem
      by_cases hlow : (n : Int) < fr
      · have hz2 := hide (repl_low hzz hlow)
        clear hzz hc hn hbn
        have hm1 : m ≤ (i + 1) * Bd := Nat.le_trans hmi (Nat.mul_le_mul_right _ (Nat.le_succ i))
        go_wp2_with fail
        exact ⟨⟨i + 1, m, dd, g, nx, n, read, B, rfl, rfl, rfl, rfl, by go_num, by omega, hm1, hnx1, hnx2, hm, hide hz2.out, hbo, hE⟩, by simp [intOf]; omega⟩
      · have hlow' : fr ≤ (n : Int) := by omega
        have hnm := hide (rname_yes n wr hn9)
        obtain ⟨nm, hnmd⟩ : ∃ nm, nm = nameW n := ⟨_, rfl⟩
        obtain ⟨RR, hR⟩ : ∃ RR, RR = readM P (nameW n) 0 67108864 := ⟨readM P (nameW n) 0 67108864, rfl⟩
        obtain ⟨by_, k⟩ := RR
        have hE0r := hE02.out.trans hE.out
        have hrd := fun w3 (hE3 : Ext wr w3) => rread8_any Ns Ad nd cd P R (nameW n) 0 67108864 w3 (h.ext (hE0r.trans hE3)) hP'.out (by rw [nameW_len]; omega) (by omega) (by omega) (by omega) (by omega)
        unfold RRead8 rdisk str at hrd
        rw [← hR] at hbn hrd
        simp only at hbn hrd
        have hrd2 := hide hrd
        rw [← hnmd] at hnm hrd2
        have hdr := hide (hdd.out.ext (hEW2.out.trans hE.out))
        replace hnmd := hide hnmd
        clear hrd hc hn
        by_cases hk : k = 0
        · subst hk
          have hz2 := hide (repl_go hzz hlow hR.symm)
          replace hR := hide hR
          clear hzz
          go_wp2_with fail
          refine hnm.out.mono ?_
          rintro e w3 ⟨rfl, hE3⟩
          have d0 : w3.cell? ⟨w.heap.size, 0, none⟩ = some (.slice Ad nd cd) := (hdr.out.ext hE3).cell 0 rfl
          have d1 : w3.cell? ⟨w.heap.size, 1, none⟩ = some (.int .i64 P.quota) := (hdr.out.ext hE3).cell 1 rfl
          have d2 : w3.cell? ⟨w.heap.size, 2, none⟩ = some (.int .i64 P.armed) := (hdr.out.ext hE3).cell 2 rfl
          have d3 : w3.cell? ⟨w.heap.size, 3, none⟩ = some (.bool P.stopped) := (hdr.out.ext hE3).cell 3 rfl
          go_wp2_with fail
          refine (hrd2.out w3 hE3).mono ?_
          rintro e w4 ⟨A4, k4, c4, rfl, hin4, hE4⟩
          have hbl : k4 = by_.length := hin4.len
          have hsc := rscan_any A4 k4 c4 by_ w4 hin4 (by omega)
          have hcount := scan_count by_.length none by_
          obtain ⟨S, hS⟩ : ∃ S, S = scanM by_.length none by_ := ⟨scanM by_.length none by_, rfl⟩
          rw [← hS] at hsc hcount
          have hz3 := hz2.out
          rw [← hS] at hz3
          replace hz3 := hide hz3
          replace hsc := hide hsc
          replace hS := hide hS
          have hcb : S.1.length ≤ Bd := by omega
          have hE04 := hide (hE.out.trans (hE3.trans hE4))
          clear hz2 hbl hin4 d0 d1 d2 d3
          go_wp2_with fail
          refine hsc.out.mono ?_
          rintro e w5 ⟨hE5, l, AL, cl, hl, rfl, hbl⟩
          rw [hl] at hcb hz3
          rw [List.length_map] at hcb
          have hE05 := hide (hE04.out.trans hE5)
          have hbk0 : Hid (∀ k, (Value.slice B m dd).ownBlock = some k → k < w4.heap.size ∨ w5.heap.size ≤ k) := hide fun k hk => by
            have ho := hbo.out.own
            rw [← hm.out] at ho
            obtain ⟨cs, hrr, _⟩ := owns_row ho hk
            have := hrr.lt
            have := (hE3.trans hE4).size
            omega
          have hbo5 := hide (hbo.out.ext ((hE3.trans hE4).trans hE5))
          replace hl := hide hl
          replace hbl := hide hbl
          obtain ⟨L, hL⟩ : ∃ L, L = l.length := ⟨_, rfl⟩
          rw [← hL] at hcb ⊢
          replace hL := hide hL
          go_wp2_with fail
          obtain ⟨wo, rfl⟩ : ∃ wo, wo = wr := ⟨_, rfl⟩
          go_loopw [2, 9, 12, 21] (fun s2 s9 s12 s21 wi => ∃ (j m2 d2 : Nat) (g2 : Bool) (nx2 : Int) (read2 : List BtC) (B2 : Option Addr), s2 = .int .i64 nx2 ∧ s9 = .slice B2 m2 d2 ∧ s12 = .bool (!g2) ∧ s21 = .int .i64 (j : Int) ∧ j ≤ L ∧ m2 ≤ m + j ∧ -9223372036854775808 ≤ nx2 ∧ nx2 ≤ 9223372036854775807 ∧ Hid (m2 = read2.length) ∧
            Hid (Z = replM P fr (ns.drop (i + 1)) (takeB g2 nx2 ((l.drop j).map BtC.bt)).1 (takeB g2 nx2 ((l.drop j).map BtC.bt)).2.1 (read2.map BtC.bt ++ (takeB g2 nx2 ((l.drop j).map BtC.bt)).2.2) n) ∧ Hid (BtsOwn wi w2.heap.size B2 d2 read2) ∧
            Hid (Chg (fun k => k < w4.heap.size ∨ w5.heap.size ≤ k) w5 wi) ∧ Hid (Ext w2 wi) ∧ Hid (∀ k, (Value.slice B2 m2 d2).ownBlock = some k → k < w4.heap.size ∨ w5.heap.size ≤ k)) (fun _ _ _ s21 _ => L - (intOf s21).toNat)
          case atStart => exact ⟨0, m, dd, g, nx, read, B, rfl, rfl, rfl, rfl, by omega, by omega, hnx1, hnx2, hm, hide hz3.out, hbo5, hide (Chg.of_ext (Ext.refl _) _), hE05, hbk0⟩
          case round =>
            obtain ⟨j, m2, d2, g2, nx2, read2, B2, rfl, rfl, rfl, rfl, hj, hm2, hy1, hy2, hml, hzi, hboi, hch, hEi, hbk⟩ := hrel
            have hbli := (hbl.out.chg hch.out (fun g hg1 hg2 h => by omega))
            by_cases hjl : j < L
            · cases g2 with
              | false =>
                have hzz := hzi.out
                rw [takeB_stop] at hzz
                simp only [List.append_nil] at hzz
                replace hzz := hide hzz
                have hm1 : m2 ≤ (i + 1) * Bd := by rw [Nat.add_mul]; exact Nat.le_trans hm2 (Nat.add_le_add hmi (by omega))
                go_wp2_with fail
                exact ⟨⟨i + 1, m2, d2, false, nx2, n, read2, B2, rfl, rfl, rfl, rfl, by go_num, by omega, hm1, hy1, hy2, hml, hide hzz.out, hboi, hEi⟩, by simp [intOf]; omega⟩
              | true =>
                obtain ⟨x, hxx⟩ : ∃ x, l[j]? = some x := ⟨_, List.getElem?_eq_getElem (by have := hL.out; omega)⟩
                obtain ⟨gb, ob, hAL, k0, k1⟩ := bcells_at hbli.ok.cells hxx
                have hxo := hbli.each x (List.mem_of_getElem? hxx)
                have hzz := hzi.out
                rw [drop_oneB hxx, List.map_cons, takeB] at hzz
                obtain ⟨sq, xl, xA, xc⟩ := x
                simp only at k0 k1 hxo
                obtain ⟨bt, hbt⟩ : ∃ bt, bt = BtC.bt ⟨sq, xl, xA, xc⟩ := ⟨_, rfl⟩
                rw [← hbt] at hzz
                have hbs : bt.seq = sq := by rw [hbt]; rfl
                have hbe : bt.es.length = xl.length := by rw [hbt]; exact List.length_map _
                rw [hbs, hbe] at hzz
                subst hAL
                obtain ⟨xn, hxn⟩ : ∃ xn, xn = xl.length := ⟨_, rfl⟩
                rw [← hxn] at k1 hzz
                have hx1 := hxo.2.1
                have hx2 := hxo.2.2.1
                have hx3 := hxo.2.2.2
                rw [← hxn] at hx1
                replace hxn := hide hxn
                by_cases hgo : sq = nx2
                · subst hgo
                  rw [if_pos ⟨rfl, rfl⟩] at hzz
                  replace hzz := hide hzz
                  have hown6o : wr.ownsRow w2.heap.size 80 2 (.slice B2 m2 d2) m2 (bcells read2) := by have := hboi.out.own; rw [← hml.out] at this; exact this
                  have hbase6 : w2.heap.size ≤ wr.heap.size := hEi.out.size
                  have hgb : w4.heap.size ≤ gb ∧ gb < w5.heap.size := by
                    rcases hbl.out.own.2 with ⟨hv, h0⟩ | ⟨g3, cap, cur, hv, hb3, hr3, _⟩
                    · cases hv
                    · injection hv with hv _ _
                      injection hv with hv
                      injection hv with hv _ _
                      rw [hv]
                      exact ⟨hb3, Row.lt hr3⟩
                  have hcl : ∀ w8, wr.grownBy w8 (Value.slice B2 m2 d2).ownBlock → w8.cell? ⟨gb, ob + j * 2 + 1, none⟩ = some (.slice xA xn xc) := fun w8 hg8 =>
                    (Chg.of_grown (S := fun k => k < w4.heap.size ∨ w5.heap.size ≤ k) hg8 fun k _ hk => hbk.out k hk).cell k1 fun h => by
                      have h2 : gb < w4.heap.size ∨ w5.heap.size ≤ gb := h
                      omega
                  have hm4 : m2 + 1 ≤ m + (j + 1) := by omega
                  have hm5 : m2 + 1 ≤ 4000000000 := by have := Nat.mul_le_mul_right Bd (show i + 1 ≤ K by omega); have := Nat.add_mul i 1 Bd; omega
                  have hxb := hide hxo
                  have hown6 := hide hown6o
                  replace hbt := hide hbt
                  have hcl2 := hide hcl
                  clear hxx hxo hown6o hbs hbe hcl
                  go_wp2_with (at_builtin; refine wpList_appZ (us := [.int .i64 sq, .slice xA xn xc]) (m := 1) elemBt hown6.out rfl (.tmp 74) (.tmp 79) rfl rfl rfl rfl rfl (one_of rfl) (by omega) hbase6 (fun A8 c8 w8 ho8 hg8 hl8 => ?_); have k1q := hcl2.out w8 hg8; replace ho8 := hide ho8; replace hg8 := hide hg8; replace hl8 := hide hl8; clear k0 k1)
                  have hwr : IntKind.i64.wrap (sq + (xn : Int)) = sq + (xn : Int) := by
                    simp [IntKind.wrap, IntKind.bits, IntKind.signed]
                    omega
                  have hs42 : w2.heap.size ≤ w4.heap.size := hE04.out.size
                  have hch8 := hch.out.trans (Chg.of_grown hg8.out (S := fun k => k < w4.heap.size ∨ w5.heap.size ≤ k) fun k _ hk => hbk.out k hk) (fun _ _ h => h)
                  have hE8 : Ext w2 w8 := hEi.out.grown hg8.out fun k hk => (by obtain ⟨_, _, hb⟩ := owns_row hown6.out hk; exact hb)
                  have hbk8 : ∀ k, (Value.slice A8 (m2 + 1) c8).ownBlock = some k → k < w4.heap.size ∨ w5.heap.size ≤ k := fun k hk => by
                    rcases hl8.out with h | h
                    · exact hbk.out k (h.symm.trans hk)
                    · rw [h] at hk
                      injection hk with hk
                      have := hch.out.size
                      omega
                  have hxx2 := hxb.out
                  have hz9 := hzz.out
                  rw [hbt.out] at hz9
                  have ho9 := ho8.out
                  have hg9 := hg8.out
                  obtain rfl : m2 = read2.length := hml.out
                  obtain rfl : xn = xl.length := hxn.out
                  exact ⟨⟨j + 1, read2.length + 1, c8, true, sq + (xl.length : Int), read2 ++ [⟨sq, xl, xA, xc⟩], A8, by first | rfl | rw [hwr], rfl, rfl, by go_num, by omega, hm4, by omega, by omega, hide (by rw [List.length_append]; rfl), hide (by rw [List.map_append, List.append_assoc]; exact hz9), hide (BtsOwn.snoc (x := ⟨sq, xl, xA, xc⟩) hboi.out ⟨hxx2.1.lower hs42, hxx2.2⟩ (Ext.refl wr) hg9 ho9), hide hch8, hide hE8, hide hbk8⟩, by simp [intOf]; omega⟩
                · rw [if_neg (fun hh => hgo hh.2), takeB_stop] at hzz
                  simp only [List.append_nil] at hzz
                  replace hzz := hide hzz
                  have hne : (sq == nx2) = false := by rw [beq_eq_false_iff_ne]; exact hgo
                  have hm3 : m2 ≤ m + (j + 1) := by omega
                  go_wp2_with fail
                  exact ⟨⟨j + 1, m2, d2, false, nx2, read2, B2, rfl, rfl, rfl, by go_num, by omega, hm3, hy1, hy2, hml, hide (by rw [takeB_stop, List.append_nil]; exact hzz.out), hboi, hch, hEi, hbk⟩, by simp [intOf]; omega⟩
            · obtain rfl : j = L := by omega
              have hzz := hzi.out
              rw [show l.drop j = [] from List.drop_of_length_le (by have := hL.out; omega), List.map_nil, show takeB g2 nx2 [] = (g2, nx2, []) from rfl] at hzz
              simp only [List.append_nil] at hzz
              replace hzz := hide hzz
              have hm1 : m2 ≤ (i + 1) * Bd := by rw [Nat.add_mul]; exact Nat.le_trans hm2 (Nat.add_le_add hmi (by omega))
              go_wp2_with fail
              exact ⟨⟨i + 1, m2, d2, g2, nx2, n, read2, B2, rfl, rfl, rfl, rfl, by go_num, by omega, hm1, hy1, hy2, hml, hide hzz.out, hboi, hEi⟩, by simp [intOf]; omega⟩
        · have hki : ¬ (k : Int) = 0 := by omega
          have hz2 := hide (repl_err hzz hlow hR.symm hk)
          replace hR := hide hR
          clear hzz
          go_wp2_with fail
          refine hnm.out.mono ?_
          rintro e w3 ⟨rfl, hE3⟩
          have d0 : w3.cell? ⟨w.heap.size, 0, none⟩ = some (.slice Ad nd cd) := (hdr.out.ext hE3).cell 0 rfl
          have d1 : w3.cell? ⟨w.heap.size, 1, none⟩ = some (.int .i64 P.quota) := (hdr.out.ext hE3).cell 1 rfl
          have d2 : w3.cell? ⟨w.heap.size, 2, none⟩ = some (.int .i64 P.armed) := (hdr.out.ext hE3).cell 2 rfl
          have d3 : w3.cell? ⟨w.heap.size, 3, none⟩ = some (.bool P.stopped) := (hdr.out.ext hE3).cell 3 rfl
          go_wp2_with fail
          refine (hrd2.out w3 hE3).mono ?_
          rintro e w4 ⟨A4, k4, c4, rfl, hin4, hE4⟩
          go_wp2_with fail
          go_ret3
          exact ReplP.no (hE0r.trans (hE3.trans hE4)) hz2.out
    · obtain rfl : i = N := by omega
      have hzz := hz.out
      rw [List.drop_of_length_le (by have := hN.out; omega)] at hzz
      have hz2 := hide (repl_end hzz)
      clear hzz
      go_wp2_with fail
      go_ret3
      exact ReplP.yes (hE02.out.trans hE.out) hz2.out hm.out (hbo.out.lower hE02.out.size)
end Go.Proofs.YtohphanbnhiodaaGreat

