/- loggiaref06: Sync. -/
import Derived.Test.YticnncgbfpgeaaaDrB
import Derived.Test.YticnncgbfpgeaaaDrG
import Derived.Test.YticnncgbfpgeaaaDrH
namespace Go.Proofs.Yticnncgbfpgeaaa
open Go.RowKit Go.Maps

theorem tup_out {w0 wr : World} {r n c q a : Nat} {A : Option Addr} {st : Bool} {v0 v1 v2 v3 : Value} (hrr : Row wr r 36 #[v0, v1, v2, v3]) (hE : Ext w0 wr) (hbr : w0.heap.size ≤ r) {wf : World}
    (hwf : wf = ((((wr.setCell ⟨r, 0, none⟩ (.slice A n c)).setCell ⟨r, 1, none⟩ (.int .i64 q)).setCell ⟨r, 2, none⟩ (.int .i64 a)).setCell ⟨r, 3, none⟩ (.bool st)) := by rfl) :
    wf.cell? ⟨r, 0, none⟩ = some (.slice A n c) ∧ wf.cell? ⟨r, 1, none⟩ = some (.int .i64 q) ∧ wf.cell? ⟨r, 2, none⟩ = some (.int .i64 a) ∧ wf.cell? ⟨r, 3, none⟩ = some (.bool st) ∧ Ext w0 wf ∧ Chg (fun k => k = r) wr wf := by
  have hr : Row wf r 36 #[.slice A n c, .int .i64 q, .int .i64 a, .bool st] := by
    rw [hwf]
    exact (((hrr.put 0 _).put 1 _).put 2 _).put 3 _
  refine ⟨hr.cell 0 rfl, hr.cell 1 rfl, hr.cell 2 rfl, hr.cell 3 rfl, ?_, ?_⟩
  · rw [hwf]
    exact (((hE.setCell (p := ⟨r, 0, none⟩) hbr _).setCell (p := ⟨r, 1, none⟩) hbr _).setCell (p := ⟨r, 2, none⟩) hbr _).setCell (p := ⟨r, 3, none⟩) hbr _
  · rw [hwf]
    exact (((Chg.of_set (S := fun k => k = r) wr (a := ⟨r, 0, none⟩) _ rfl).trans (Chg.of_set (S := fun k => k = r) _ (a := ⟨r, 1, none⟩) _ rfl) fun _ _ h => h).trans (Chg.of_set (S := fun k => k = r) _ (a := ⟨r, 2, none⟩) _ rfl) fun _ _ h => h).trans (Chg.of_set (S := fun k => k = r) _ (a := ⟨r, 3, none⟩) _ rfl) fun _ _ h => h
/-- What a call of the document's answers. -/
def RNext (N : Nat → Prop) (P : PD × Nat) (w : World) (e : Ending) (w' : World) : Prop :=
  ∃ A1 n1 c1 R1, e = .returned (.tuple #[rdisk A1 n1 c1 P.1.quota P.1.armed P.1.stopped, .int .i64 P.2]) ∧ RS w' N A1 n1 c1 R1 ∧ R1.map RE.pl = P.1.L ∧ Ext w w'
theorem rnext_same {N : Nat → Prop} {P : PD} {k : Nat} {w w' : World} {A : Option Addr} {n c : Nat} {R : List RE} (h : RS w N A n c R) (hP : R.map RE.pl = P.L) (hE : Ext w w') : RNext N (P, k) w (.returned (.tuple #[rdisk A n c P.quota P.armed P.stopped, .int .i64 k])) w' :=
  ⟨A, n, c, R, rfl, h.ext hE, hP, hE⟩
set_option maxRecDepth 100000 in
set_option maxHeartbeats 4000000 in
theorem rsync_any (N : Nat → Prop) (A : Option Addr) (n c : Nat) (P : PD) (R : List RE) (s : List UInt8) (w : World) (h : RS w N A n c R) (hP : R.map RE.pl = P.L) (hN : ∀ k, N k → k < w.heap.size) (hs : s.length ≤ 9223372036854775807) (ha : P.armed ≤ 9223372036854775807) :
    Calls Try.prog 34 #[rdisk A n c P.quota P.armed P.stopped, str s] w (RNext N (syncM P s) w) := by
  obtain ⟨q, hq⟩ : ∃ q, q = P.quota := ⟨_, rfl⟩
  obtain ⟨a, ha'⟩ : ∃ q, q = P.armed := ⟨_, rfl⟩
  obtain ⟨st, hst⟩ : ∃ q, q = P.stopped := ⟨_, rfl⟩
  rw [← hq, ← ha', ← hst]
  rw [← ha'] at ha
  obtain ⟨W, hW⟩ : ∃ W, W = (w.alloc (.cells #[.slice A n c, .int .i64 q, .int .i64 a, .bool st] 36)).alloc (.cells #[.slice none 0 0, .int .i64 0, .int .i64 0, .bool false] 36) := ⟨_, rfl⟩
  have hE : Ext w W := by rw [hW]; exact ((Ext.refl w).alloc _).alloc _
  have hWs : W.heap.size = w.heap.size + 2 := by rw [hW, size_alloc, size_alloc]
  have hd : Row W w.heap.size 36 #[.slice A n c, .int .i64 q, .int .i64 a, .bool st] := by rw [hW]; exact (Row.new w _ _).alloc _
  have hr2 : Row W (w.heap.size + 1) 36 #[.slice none 0 0, .int .i64 0, .int .i64 0, .bool false] := by
    have := Row.new (w.alloc (.cells #[.slice A n c, .int .i64 q, .int .i64 a, .bool st] 36)) 36 #[.slice none 0 0, .int .i64 0, .int .i64 0, .bool false]
    rw [size_alloc] at this
    rw [hW]
    exact this
  have hnm := rnamed_any s W hs
  have hfa := rfind_any N A n c q a st R s W (h.ext hE)
  have hWx := hide hW.symm
  have d0 : W.cell? ⟨w.heap.size, 0, none⟩ = some (.slice A n c) := hd.cell 0 rfl
  have d1 : W.cell? ⟨w.heap.size, 1, none⟩ = some (.int .i64 q) := hd.cell 1 rfl
  have d2 : W.cell? ⟨w.heap.size, 2, none⟩ = some (.int .i64 a) := hd.cell 2 rfl
  have d3 : W.cell? ⟨w.heap.size, 3, none⟩ = some (.bool st) := hd.cell 3 rfl
  have r0 : W.cell? ⟨w.heap.size + 1, 0, none⟩ = some (.slice none 0 0) := hr2.cell 0 rfl
  have r1 : W.cell? ⟨w.heap.size + 1, 1, none⟩ = some (.int .i64 0) := hr2.cell 1 rfl
  have r2 : W.cell? ⟨w.heap.size + 1, 2, none⟩ = some (.int .i64 0) := hr2.cell 2 rfl
  have r3 : W.cell? ⟨w.heap.size + 1, 3, none⟩ = some (.bool false) := hr2.cell 3 rfl
  have f0 := hr2.free 0
  have f1 := hr2.free 1
  have f2 := hr2.free 2
  have f3 := hr2.free 3
  have same : ∀ (k : Nat) (wf : World), syncM P s = (P, k) → Ext w wf → RNext N (syncM P s) w (.returned (.tuple #[.agg #[.slice A n c, .int .i64 q, .int .i64 a, .bool st], .int .i64 k])) wf := by
    intro k wf hk hEf
    rw [hk, hq, ha', hst]
    exact rnext_same h hP hEf
  replace same := hide same
  unfold rdisk str at *
  clear hW
  replace hWs := hide hWs
  replace hfa := hide hfa
  by_cases hb0 : namedM s = false
  · have hres : syncM P s = (P, 60) := by unfold syncM writesM; simp [hb0]
    rw [hb0] at hnm
    replace hnm := hide hnm
    replace hres := hide hres
    replace hq := hide hq
    replace ha' := hide ha'
    replace hst := hide hst
    go_enter Try.func34, Try.ntmps34
    go_wp2_with fail
    rw [hWx.out]
    refine hnm.out.mono ?_
    rintro e w1 ⟨rfl, hw1⟩
    replace hw1 := hw1.symm
    subst hw1
    go_wp2_with fail
    have hfin := tup_out hr2 hE (Nat.le_succ _) (A := A) (n := n) (c := c) (q := q) (a := a) (st := st)
    obtain ⟨wf, hwf⟩ : ∃ wf, wf = ((((W.setCell ⟨w.heap.size + 1, 0, none⟩ (.slice A n c)).setCell ⟨w.heap.size + 1, 1, none⟩ (.int .i64 q)).setCell ⟨w.heap.size + 1, 2, none⟩ (.int .i64 a)).setCell ⟨w.heap.size + 1, 3, none⟩ (.bool st)) := ⟨_, rfl⟩
    rw [← hwf] at hfin ⊢
    obtain ⟨z0, z1, z2, z3, hEf, _⟩ := hfin
    exact bodyPost_ret (v := .tuple #[.agg #[.slice A n c, .int .i64 q, .int .i64 a, .bool st], .int .i64 60]) (by simp [results, Try.results34, go_sem, z0, z1, z2, z3]) rfl (same.out 60 wf hres.out hEf)
  have hnmd : namedM s = true := by simpa using hb0
  rw [hnmd] at hnm
  replace hnm := hide hnm
  cases st with
  | true =>
    have hres : syncM P s = (P, 63) := by unfold syncM writesM; simp only [List.all_cons, List.all_nil, hnmd, Bool.and_self, if_true]; rw [← hst]; rfl
    replace hres := hide hres
    replace hq := hide hq
    replace ha' := hide ha'
    replace hst := hide hst
    go_enter Try.func34, Try.ntmps34
    go_wp2_with fail
    rw [hWx.out]
    refine hnm.out.mono ?_
    rintro e w1 ⟨rfl, hw1⟩
    replace hw1 := hw1.symm
    subst hw1
    go_wp2_with fail
    have hfin := tup_out hr2 hE (Nat.le_succ _) (A := A) (n := n) (c := c) (q := q) (a := a) (st := true)
    obtain ⟨wf, hwf⟩ : ∃ wf, wf = ((((W.setCell ⟨w.heap.size + 1, 0, none⟩ (.slice A n c)).setCell ⟨w.heap.size + 1, 1, none⟩ (.int .i64 q)).setCell ⟨w.heap.size + 1, 2, none⟩ (.int .i64 a)).setCell ⟨w.heap.size + 1, 3, none⟩ (.bool true)) := ⟨_, rfl⟩
    rw [← hwf] at hfin ⊢
    obtain ⟨z0, z1, z2, z3, hEf, _⟩ := hfin
    exact bodyPost_ret (v := .tuple #[.agg #[.slice A n c, .int .i64 q, .int .i64 a, .bool true], .int .i64 63]) (by simp [results, Try.results34, go_sem, z0, z1, z2, z3]) rfl (same.out 63 wf hres.out hEf)
  | false =>
    rcases rfind_pl hP s with ⟨i, r, hf, hr, hn, hfd⟩ | ⟨hf, hfd⟩
    · have hfa2 := hfa.out
      rw [hf] at hfa2
      simp only [Option.getD_some, Option.isSome_some] at hfa2
      replace hfa2 := hide hfa2
      have hin : i < n := by rw [h.len]; exact (List.getElem?_eq_some_iff.1 hr).1
      obtain ⟨g, o, r', hAg, hr', k0, k1, k2⟩ := (h.ext hE).at_ hin
      obtain rfl : r' = r := by rw [hr] at hr'; cases hr'; rfl
      subst hAg
      have hrm := List.mem_of_getElem? hr
      have hok := h.ok r' hrm
      have hcl := rcall_any (some ⟨g, o, none⟩) n c q a
      unfold rdisk at hcl
      unfold str at k0
      have hcl2 := hide hcl
      clear hcl
      have hgl := World.block_lt_of_cell? W ⟨g, o + i * 3, none⟩ k0
      have hmany := h.many
      have hst' := hide hst
      clear hst
      replace hf := hide hf
      replace hr := hide hr
      replace hn := hide hn
      replace hfd := hide hfd
      clear hr'
      by_cases h1 : a = 1
      · have hda : decide (a = 1) = true := decide_eq_true h1
        have hres : syncM P s = (P.stops, 63) := by unfold syncM writesM; simp only [List.all_cons, List.all_nil, hnmd, Bool.and_self, if_true]; rw [← hst'.out, hfd.out]; show (if P.armed = 1 then _ else _) = _; rw [← ha', if_pos h1]
        obtain ⟨a1, ha1⟩ : ∃ a1, a1 = a - 1 := ⟨_, rfl⟩
        have ha10 : a1 = 0 := by omega
        replace ha10 := hide ha10
        replace h1 := hide h1
        replace hres := hide hres
        replace hq := hide hq
        replace ha' := hide ha'
        go_enter Try.func34, Try.ntmps34
        go_wp2_with fail
        rw [hWx.out]
        refine hnm.out.mono ?_
        rintro e w1 ⟨rfl, hw1⟩
        replace hw1 := hw1.symm
        subst hw1
        go_wp2_with fail
        refine hfa2.out.mono ?_
        rintro e w1 ⟨rfl, hE1⟩
        have d0' := hE1.cell d0
        have d1' := hE1.cell d1
        have d2' := hE1.cell d2
        have d3' := hE1.cell d3
        have hcl3 := hcl2.out w1 ha
        rw [hda, ← ha1] at hcl3
        replace hcl3 := hide hcl3
        replace ha1 := hide ha1
        go_wp2_with fail
        refine hcl3.out.mono ?_
        rintro e w2 ⟨rfl, hE2⟩
        have hE3 := ((hE.trans hE1).trans hE2).alloc (.cells #[.slice (some ⟨g, o, none⟩) n c, .int .i64 q, .int .i64 a1, .bool true] 36)
        have hr3 := ((hr2.ext hE1).ext hE2).alloc (.cells #[.slice (some ⟨g, o, none⟩) n c, .int .i64 q, .int .i64 a1, .bool true] 36)
        have x0 := hr3.cell 0 rfl
        have x1 := hr3.cell 1 rfl
        have x2 := hr3.cell 2 rfl
        have x3 := hr3.cell 3 rfl
        have y0 := hr3.free 0
        have y1 := hr3.free 1
        have y2 := hr3.free 2
        have y3 := hr3.free 3
        go_wp2_with fail
        have hfin := tup_out hr3 hE3 (Nat.le_succ _) (A := some ⟨g, o, none⟩) (n := n) (c := c) (q := q) (a := a1) (st := true)
        obtain ⟨wf, hwf⟩ : ∃ wf, wf = (((((w2.alloc (.cells #[.slice (some ⟨g, o, none⟩) n c, .int .i64 q, .int .i64 a1, .bool true] 36)).setCell ⟨w.heap.size + 1, 0, none⟩ (.slice (some ⟨g, o, none⟩) n c)).setCell ⟨w.heap.size + 1, 1, none⟩ (.int .i64 q)).setCell ⟨w.heap.size + 1, 2, none⟩ (.int .i64 a1)).setCell ⟨w.heap.size + 1, 3, none⟩ (.bool true)) := ⟨_, rfl⟩
        rw [← hwf] at hfin ⊢
        obtain ⟨z0, z1, z2, z3, hEf, _⟩ := hfin
        refine bodyPost_ret (v := .tuple #[.agg #[.slice (some ⟨g, o, none⟩) n c, .int .i64 q, .int .i64 a1, .bool true], .int .i64 63]) (by simp [results, Try.results34, go_sem, z0, z1, z2, z3]) rfl ?_
        rw [hres.out, hq.out, ha10.out]
        exact ⟨some ⟨g, o, none⟩, n, c, R, rfl, h.ext hEf, hP, hEf⟩
      · have hda : decide (a = 1) = false := decide_eq_false h1
        have hres : syncM P s = (P.goes (withG fname (r'.pl.1, r'.pl.2.1, r'.pl.2.1.length) P.L), 0) := by unfold syncM writesM; simp only [List.all_cons, List.all_nil, hnmd, Bool.and_self, if_true]; rw [← hst'.out, hfd.out]; show (if P.armed = 1 then _ else _) = _; rw [← ha', if_neg h1]
        have hLp : (withG RE.name { r' with sure := r'.b.length } R).map RE.pl = withG fname (r'.pl.1, r'.pl.2.1, r'.pl.2.1.length) P.L := by
          rw [map_with (nm := RE.name) (nm' := fname) (g := RE.pl) (fun _ => rfl), hP]
          rfl
        obtain ⟨N2, hN2⟩ : ∃ N2 : Nat → Prop, N2 = fun k => N k ∨ (w.heap.size ≤ k ∧ k < w.heap.size + 2) := ⟨_, rfl⟩
        have hsub : ∀ k, k < w.heap.size → N2 k → N k := by
          intro k hk hn
          rw [hN2] at hn
          rcases hn with hn | hn
          · exact hn
          · omega
        have hN2s : ∀ k, N2 k → k < W.heap.size := by
          intro k hn
          rw [hN2] at hn
          rcases hn with hn | hn
          · have := hN k hn
            have := hE.size
            omega
          · rw [hWs.out]; omega
        obtain ⟨a1, ha1⟩ : ∃ a1, a1 = a - 1 := ⟨_, rfl⟩
        replace hres := hide hres
        replace hLp := hide hLp
        replace hq := hide hq
        replace ha' := hide ha'
        replace hN2 := hN2
        go_enter Try.func34, Try.ntmps34
        go_wp2_with fail
        rw [hWx.out]
        refine hnm.out.mono ?_
        rintro e w1 ⟨rfl, hw1⟩
        replace hw1 := hw1.symm
        subst hw1
        go_wp2_with fail
        refine hfa2.out.mono ?_
        rintro e w1 ⟨rfl, hE1⟩
        have d0' := hE1.cell d0
        have d1' := hE1.cell d1
        have d2' := hE1.cell d2
        have d3' := hE1.cell d3
        have hcl3 := hcl2.out w1 ha
        rw [hda, ← ha1] at hcl3
        replace hcl3 := hide hcl3
        replace ha1 := hide ha1
        go_wp2_with fail
        refine hcl3.out.mono ?_
        rintro e w2 ⟨rfl, hE2⟩
        have hE12 := hE1.trans hE2
        have hE02 := hE.trans hE12
        have hR2 : RS w2 N2 (some ⟨g, o, none⟩) n c R := h.chg (Chg.of_ext hE02 (fun _ => False)) (fun _ _ h => h.elim) hsub
        have hok2 : ROk w2 N2 r' := hok.chg (Chg.of_ext hE02 (fun _ => False)) (fun _ _ h => h.elim) hsub
        have e0 := hE12.cell d0
        have m0 := hE12.cell k0
        have m1 := hE12.cell k1
        have m2 := hE12.cell k2
        have hgl2 : g < w2.heap.size := Nat.lt_of_lt_of_le hgl hE12.size
        have hdl : w.heap.size < w2.heap.size := Nat.lt_of_lt_of_le (by rw [hWs.out]; omega) hE12.size
        have hN3 : ∀ k, N2 k → k < w2.heap.size := fun k hk => Nat.lt_of_lt_of_le (hN2s k hk) hE12.size
        have hrw := hr2.ext hE12
        obtain ⟨W4, hW4⟩ : ∃ W4, W4 = (w2.alloc (.cells #[.slice (some ⟨g, o, none⟩) n c, .int .i64 q, .int .i64 a1, .bool false] 36)).alloc (.cells #[.string ⟨r'.name.toArray⟩, .slice r'.A r'.b.length r'.c, .int .i64 r'.b.length] 53) := ⟨_, rfl⟩
        have hE4 : Ext w2 W4 := by rw [hW4]; exact ((Ext.refl w2).alloc _).alloc _
        have hok4 : ROk W4 N2 { r' with sure := r'.b.length } := by
          have := hok2.ext hE4
          exact ⟨this.bytes, this.cap, this.nil, this.away, Nat.le_refl _, this.name, this.len⟩
        have hwi := rwith_any N2 (some ⟨g, o, none⟩) n c q a1 false R { r' with sure := r'.b.length } W4 (hR2.ext hE4) hok4 (fun k hk => Nat.lt_of_lt_of_le (hN3 k hk) hE4.size) (Nat.le_trans (len_with_in hrm rfl) (by rw [← h.len]; exact hmany))
        unfold rdisk RE.agg str at hwi
        have hW4x := hide hW4.symm
        clear hW4
        replace hwi := hide hwi
        go_wp2_with fail
        rw [hW4x.out]
        refine hwi.out.mono ?_
        rintro e w5 ⟨A5, n5, c5, rfl, hR5, hE5⟩
        have hr5 := (hrw.ext hE4).ext hE5
        have hE05 := (hE02.trans hE4).trans hE5
        have x0 := hr5.cell 0 rfl
        have x1 := hr5.cell 1 rfl
        have x2 := hr5.cell 2 rfl
        have x3 := hr5.cell 3 rfl
        have y0 := hr5.free 0
        have y1 := hr5.free 1
        have y2 := hr5.free 2
        have y3 := hr5.free 3
        go_wp2_with fail
        have hfin := tup_out hr5 hE05 (Nat.le_succ _) (A := A5) (n := n5) (c := c5) (q := q) (a := a1) (st := false)
        obtain ⟨wf, hwf⟩ : ∃ wf, wf = ((((w5.setCell ⟨w.heap.size + 1, 0, none⟩ (.slice A5 n5 c5)).setCell ⟨w.heap.size + 1, 1, none⟩ (.int .i64 q)).setCell ⟨w.heap.size + 1, 2, none⟩ (.int .i64 a1)).setCell ⟨w.heap.size + 1, 3, none⟩ (.bool false)) := ⟨_, rfl⟩
        rw [← hwf] at hfin ⊢
        obtain ⟨z0, z1, z2, z3, hEf, hcf⟩ := hfin
        refine bodyPost_ret (v := .tuple #[.agg #[.slice A5 n5 c5, .int .i64 q, .int .i64 a1, .bool false], .int .i64 0]) (by simp [results, Try.results34, go_sem, z0, z1, z2, z3]) rfl ?_
        rw [hres.out]
        exact ⟨A5, n5, c5, _, by rw [hq.out, ha1.out, ha'.out, hst'.out]; rfl, hR5.chg hcf (fun k _ hk => by rw [hN2, hk]; exact .inr ⟨Nat.le_succ _, by omega⟩) (fun k _ hk => by rw [hN2]; exact .inl hk), hLp.out, hEf⟩
    · have hfa2 := hfa.out
      rw [hf] at hfa2
      simp only [Option.getD_none, Option.isSome_none] at hfa2
      have hres : syncM P s = (P, 61) := by unfold syncM writesM; simp only [List.all_cons, List.all_nil, hnmd, Bool.and_self, if_true]; rw [← hst, hfd]; rfl
      replace hfa2 := hide hfa2
      replace hres := hide hres
      replace hq := hide hq
      replace ha' := hide ha'
      replace hst := hide hst
      go_enter Try.func34, Try.ntmps34
      go_wp2_with fail
      rw [hWx.out]
      refine hnm.out.mono ?_
      rintro e w1 ⟨rfl, hw1⟩
      replace hw1 := hw1.symm
      subst hw1
      go_wp2_with fail
      refine hfa2.out.mono ?_
      rintro e w1 ⟨rfl, hE1⟩
      have hr3 := hr2.ext hE1
      have hE3 := hE.trans hE1
      have d0' := hE1.cell d0
      have d1' := hE1.cell d1
      have d2' := hE1.cell d2
      have d3' := hE1.cell d3
      have x0 := hr3.cell 0 rfl
      have x1 := hr3.cell 1 rfl
      have x2 := hr3.cell 2 rfl
      have x3 := hr3.cell 3 rfl
      have y0 := hr3.free 0
      have y1 := hr3.free 1
      have y2 := hr3.free 2
      have y3 := hr3.free 3
      go_wp2_with fail
      have hfin := tup_out hr3 hE3 (Nat.le_succ _) (A := A) (n := n) (c := c) (q := q) (a := a) (st := false)
      obtain ⟨wf, hwf⟩ : ∃ wf, wf = ((((w1.setCell ⟨w.heap.size + 1, 0, none⟩ (.slice A n c)).setCell ⟨w.heap.size + 1, 1, none⟩ (.int .i64 q)).setCell ⟨w.heap.size + 1, 2, none⟩ (.int .i64 a)).setCell ⟨w.heap.size + 1, 3, none⟩ (.bool false)) := ⟨_, rfl⟩
      rw [← hwf] at hfin ⊢
      obtain ⟨z0, z1, z2, z3, hEf, _⟩ := hfin
      exact bodyPost_ret (v := .tuple #[.agg #[.slice A n c, .int .i64 q, .int .i64 a, .bool false], .int .i64 61]) (by simp [results, Try.results34, go_sem, z0, z1, z2, z3]) rfl (same.out 61 wf hres.out hEf)
end Go.Proofs.Yticnncgbfpgeaaa
