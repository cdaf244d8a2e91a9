/- loggia/segment: none, Len, Terms, May; segments that nobody made. -/
import Derived.Test.YtkdcnhnaiknaaaaGreatNB20
import Derived.Test.YtkdcnhnaiknaaaaGreatNB17
import Derived.Test.YtkdcnhnaiknaaaaGreatNB06
set_option linter.unusedSimpArgs false
set_option linter.unusedVariables false
namespace Go.Proofs.YtkdcnhnaiknaaaaGreat
open Go.RowKit Go.Maps

/-- A segment that nobody made. -/
def NobS (w : World) (s : Value) : Prop := s = .pointer none ∨ ∃ g, s = .pointer (some ⟨g, 0, none⟩) ∧ Row w g 87 #[.slice none 0 0, .int .i64 0, .int .i64 0, .int .i64 0, .int .i64 0, .int .i64 0, .int .i64 0, .int .i64 0, .pointer none, .slice none 0 0, .pointer none]
theorem NobS.ext {w w1 : World} {s : Value} (h : NobS w s) (hE : Ext w w1) : NobS w1 s := by
  rcases h with h | ⟨g, h, hr⟩
  · exact .inl h
  · exact .inr ⟨g, h, hr.ext hE⟩
theorem SegR.ext {w w1 : World} {g : Nat} {P : List Dc} (h : SegR w g P) (hE : Ext w w1) : SegR w1 g P := by
  obtain ⟨ds, A, c, lo, hi, fi, la, B, cB, gd, gf, h1, h2, h3, h4, h5, h6, h7⟩ := h
  exact ⟨ds, A, c, lo, hi, fi, la, B, cB, gd, gf, h1.ext hE, h2, h3, h4.ext hE, h5.ext hE, h6.ext hE, h7.ext hE⟩
set_option maxRecDepth 100000 in
theorem none_yes (s : Value) (w : World) (h : NobS w s) : Calls Tryz.prog 57 #[s] w fun e w' => e = .returned (.bool true) ∧ w' = w := by
  rcases h with rfl | ⟨g, rfl, hr⟩
  · go_enter Tryz.func57, Tryz.ntmps57
    go_wp2_with fail
    go_ret
    exact ⟨rfl, rfl⟩
  · have k0 := hr.cell 0 rfl
    go_enter Tryz.func57, Tryz.ntmps57
    go_wp2_with fail
    go_ret
    exact ⟨rfl, rfl⟩
set_option maxRecDepth 100000 in
theorem none_no (g n c : Nat) (A : Option Addr) (w : World) (h : w.cell? ⟨g, 0, none⟩ = some (.slice A n c)) (hn : 0 < n) (hn9 : n ≤ 1000000000) : Calls Tryz.prog 57 #[.pointer (some ⟨g, 0, none⟩)] w fun e w' => e = .returned (.bool false) ∧ w' = w := by
  have hne : ((n : Int) == 0) = false := by simp; omega
  go_enter Tryz.func57, Tryz.ntmps57
  go_wp2_with fail
  go_ret
  exact ⟨by simp, rfl⟩
set_option maxRecDepth 100000 in
theorem slen_no (s : Value) (w : World) (h : NobS w s) : Calls Tryz.prog 31 #[s] w fun e w' => e = .returned (.int .i64 0) ∧ w' = w := by
  have hn := hide (none_yes s w h)
  go_enter Tryz.func31, Tryz.ntmps31
  go_wp2_with fail
  refine hn.out.mono ?_
  rintro e w1 ⟨rfl, rfl⟩
  go_wp2_with fail
  go_ret
  exact ⟨rfl, rfl⟩
set_option maxRecDepth 100000 in
theorem slen_yes (g : Nat) (P : List Dc) (w : World) (h : SegR w g P) (hP : 0 < P.length) (hP9 : P.length ≤ 1000000000) : Calls Tryz.prog 31 #[.pointer (some ⟨g, 0, none⟩)] w fun e w' => e = .returned (.int .i64 (P.length : Int)) ∧ w' = w := by
  obtain ⟨ds, A, c, lo, hi, fi, la, B, cB, gd, gf, h1, h2, _⟩ := h
  have hl : P.length = ds.length := by rw [← h2]; exact List.length_map ..
  rw [hl] at hP hP9 ⊢
  have k0 := h1.cell 0 rfl
  have hn := hide (none_no g ds.length c A w k0 hP hP9)
  replace h1 := hide h1
  replace hl := hide hl
  replace h2 := hide h2
  go_enter Tryz.func31, Tryz.ntmps31
  go_wp2_with fail
  refine hn.out.mono ?_
  rintro e w1 ⟨rfl, rfl⟩
  go_wp2_with fail
  go_ret
  exact ⟨rfl, rfl⟩
set_option maxRecDepth 100000 in
theorem sterms_no (s : Value) (w : World) (h : NobS w s) : Calls Tryz.prog 34 #[s] w fun e w' => e = .returned (.int .i64 0) ∧ w' = w := by
  have hn := hide (none_yes s w h)
  go_enter Tryz.func34, Tryz.ntmps34
  go_wp2_with fail
  refine hn.out.mono ?_
  rintro e w1 ⟨rfl, rfl⟩
  go_wp2_with fail
  go_ret
  exact ⟨rfl, rfl⟩
end Go.Proofs.YtkdcnhnaiknaaaaGreat

/- loggia/segment: what nobody's segments have: nothing. -/
namespace Go.Proofs.YtkdcnhnaiknaaaaGreat
open Go.RowKit Go.Maps

set_option maxRecDepth 100000 in
theorem sposts_no (s : Value) (t : ByteArray) (w : World) (h : NobS w s) : Calls Tryz.prog 14 #[s, .string t] w fun e w' => e = .returned (.slice none 0 0) ∧ w' = w := by
  have hn := hide (none_yes s w h)
  go_enter Tryz.func14, Tryz.ntmps14
  go_wp2_with fail
  refine hn.out.mono ?_
  rintro e w1 ⟨rfl, rfl⟩
  go_wp2_with fail
  go_ret
  exact ⟨rfl, rfl⟩
set_option maxRecDepth 100000 in
theorem sprefix_no (s : Value) (t : ByteArray) (w : World) (h : NobS w s) : Calls Tryz.prog 28 #[s, .string t] w fun e w' => e = .returned (.slice none 0 0) ∧ w' = w := by
  have hn := hide (none_yes s w h)
  go_enter Tryz.func28, Tryz.ntmps28
  go_wp2_with fail
  refine hn.out.mono ?_
  rintro e w1 ⟨rfl, rfl⟩
  go_wp2_with fail
  go_ret
  exact ⟨rfl, rfl⟩
set_option maxRecDepth 100000 in
theorem smay_no (s : Value) (t : ByteArray) (w : World) (h : NobS w s) : Calls Tryz.prog 16 #[s, .string t] w fun e w' => e = .returned (.bool false) ∧ w' = w := by
  have hn := hide (none_yes s w h)
  go_enter Tryz.func16, Tryz.ntmps16
  go_wp2_with fail
  refine hn.out.mono ?_
  rintro e w1 ⟨rfl, rfl⟩
  go_wp2_with fail
  go_ret
  exact ⟨rfl, rfl⟩
set_option maxRecDepth 100000 in
theorem sdocs_no (s : Value) (w : World) (h : NobS w s) : Calls Tryz.prog 21 #[s] w fun e w' => e = .returned (.slice none 0 0) ∧ w' = w := by
  have hn := hide (slen_no s w h)
  go_enter Tryz.func21, Tryz.ntmps21
  go_wp2_with fail
  refine hn.out.mono ?_
  rintro e w1 ⟨rfl, rfl⟩
  go_wp2_with fail
  go_loopw [3, 7] (fun s1 s0 wr => s1 = .slice none 0 0 ∧ s0 = .int .i64 0 ∧ wr = w1) (fun _ _ _ => 0)
  case atStart => exact ⟨rfl, rfl, rfl⟩
  case round =>
    obtain ⟨rfl, rfl, rfl⟩ := hrel
    go_wp2_with fail
    go_ret
    exact ⟨rfl, rfl⟩
set_option maxRecDepth 100000 in
theorem srange_no (s : Value) (f t : Int) (w : World) (h : NobS w s) : Calls Tryz.prog 35 #[s, .int .i64 f, .int .i64 t] w fun e w' => e = .returned (.slice none 0 0) ∧ w' = w := by
  have hn := hide (slen_no s w h)
  go_enter Tryz.func35, Tryz.ntmps35
  go_wp2_with fail
  refine hn.out.mono ?_
  rintro e w1 ⟨rfl, rfl⟩
  go_wp2_with fail
  go_loopw [7, 12] (fun s1 s0 wr => s1 = .slice none 0 0 ∧ s0 = .int .i64 0 ∧ wr = w1) (fun _ _ _ => 0)
  case atStart => exact ⟨rfl, rfl, rfl⟩
  case round =>
    obtain ⟨rfl, rfl, rfl⟩ := hrel
    go_wp2_with fail
    go_ret
    exact ⟨rfl, rfl⟩
set_option maxRecDepth 100000 in
theorem spart_no (s : Value) (w : World) (h : NobS w s) : Calls Tryz.prog 32 #[s] w fun e w' => e = .returned (.agg #[.int .i64 0, .int .i64 0, .int .i64 0, .int .i64 0, .int .i64 0, .int .i64 0, .int .i64 0]) ∧ Ext w w' := by
  have hn := hide (fun W (hE : Ext w W) => none_yes s W (h.ext hE))
  have hEa : Ext w (w.alloc (Obj.cells #[.int .i64 0, .int .i64 0, .int .i64 0, .int .i64 0, .int .i64 0, .int .i64 0, .int .i64 0] 74)) := (Ext.refl w).alloc _
  have hr : Row (w.alloc (Obj.cells #[.int .i64 0, .int .i64 0, .int .i64 0, .int .i64 0, .int .i64 0, .int .i64 0, .int .i64 0] 74)) w.heap.size 74 #[.int .i64 0, .int .i64 0, .int .i64 0, .int .i64 0, .int .i64 0, .int .i64 0, .int .i64 0] := Row.new w _ _
  go_enter Tryz.func32, Tryz.ntmps32
  go_wp2_with fail
  refine (hn.out _ hEa).mono ?_
  rintro e w1 ⟨rfl, rfl⟩
  go_wp2_with fail
  exact bodyPost_ret (results_row1 rfl _ _ w.heap.size #[.int .i64 0, .int .i64 0, .int .i64 0, .int .i64 0, .int .i64 0, .int .i64 0, .int .i64 0] rfl (run_loadVar_row _ w.heap.size 74 74 _ (0, 0) _ hr Tryz.underlying74 rfl (by kernel_rfl))) rfl ⟨rfl, hEa⟩
end Go.Proofs.YtkdcnhnaiknaaaaGreat

/- loggia/segment: Terms, May, Part, Posts of a segment that was opened. -/
namespace Go.Proofs.YtkdcnhnaiknaaaaGreat
open Go.RowKit Go.Maps

/-- A segment's docs are small, there are some. -/
structure SegP (P : List Dc) : Prop where
  sm : SmP P
  ne : 0 < P.length
theorem SegP.few {P : List Dc} (h : SegP P) : P.length ≤ 1000000000 := by have := h.sm.seg.n; omega
theorem SegR.none {w : World} {g : Nat} {P : List Dc} (h : SegR w g P) (hP : SegP P) : Calls Tryz.prog 57 #[.pointer (some ⟨g, 0, none⟩)] w fun e w' => e = .returned (.bool false) ∧ w' = w := by
  have hf := hP.few
  have hn := hP.ne
  obtain ⟨ds, A, c, lo, hi, fi, la, B, cB, gd, gf, h1, h2, _⟩ := h
  have hl : P.length = ds.length := by rw [← h2]; exact List.length_map ..
  exact none_no g ds.length c A w (h1.cell 0 rfl) (by omega) (by omega)
set_option maxRecDepth 100000 in
theorem sterms_yes (g : Nat) (P : List Dc) (w : World) (h : SegR w g P) (hP : SegP P) : Calls Tryz.prog 34 #[.pointer (some ⟨g, 0, none⟩)] w fun e w' => e = .returned (.int .i64 ((rowsD P).length : Int)) ∧ w' = w := by
  have hn := hide (h.none hP)
  obtain ⟨ds, A, c, lo, hi, fi, la, B, cB, gd, gf, h1, h2, h3, h4, h5, _⟩ := h
  have k8 := h1.cell 8 rfl
  have hd := dlen_any gd _ w h5
  rw [enOf_len] at hd
  replace hd := hide hd
  replace h1 := hide h1
  clear h2 h3 h4 h5
  go_enter Tryz.func34, Tryz.ntmps34
  go_wp2_with fail
  refine hn.out.mono ?_
  rintro e w1 ⟨rfl, rfl⟩
  go_wp2_with fail
  refine hd.out.mono ?_
  rintro e w2 ⟨rfl, rfl⟩
  go_wp2_with fail
  go_ret
  exact ⟨rfl, rfl⟩
set_option maxRecDepth 100000 in
theorem smay_yes (g : Nat) (P : List Dc) (t : List UInt8) (w : World) (h : SegR w g P) (hP : SegP P) (ht : t.length ≤ 1000000000) : Calls Tryz.prog 16 #[.pointer (some ⟨g, 0, none⟩), .string ⟨t.toArray⟩] w fun e w' => e = .returned (.bool (mayB (ofB ((rowsD P).map (·.1))) t)) ∧ Ext w w' := by
  have hn := hide (h.none hP)
  have hb := hP.sm.seg.bits
  obtain ⟨ds, A, c, lo, hi, fi, la, B, cB, gd, gf, h1, h2, h3, h4, h5, h6, h7⟩ := h
  have k10 := h1.cell 10 rfl
  have hm := hide (may_any gf _ t w h7 (Nat.lt_of_lt_of_le (by decide) hb.1) hb.2 ht)
  obtain ⟨mb, hmb⟩ : ∃ mb, mb = mayB (ofB ((rowsD P).map (·.1))) t := ⟨_, rfl⟩
  rw [← hmb] at hm ⊢
  replace hmb := hide hmb
  replace h1 := hide h1
  clear h2 h3 h4 h5 h6 h7 hb
  go_enter Tryz.func16, Tryz.ntmps16
  go_wp2_with fail
  refine hn.out.mono ?_
  rintro e w1 ⟨rfl, rfl⟩
  go_wp2_with fail
  refine hm.out.mono ?_
  rintro e w2 ⟨rfl, hE⟩
  go_wp2_with fail
  go_ret
  exact ⟨rfl, hE⟩
set_option maxRecDepth 100000 in
theorem spart_yes (g : Nat) (P : List Dc) (w : World) (h : SegR w g P) (hP : SegP P) : Calls Tryz.prog 32 #[.pointer (some ⟨g, 0, none⟩)] w fun e w' => e = .returned (.agg (prtA (partD P))) ∧ Ext w w' := by
  have hn := hide (fun W (hE : Ext w W) => (h.ext hE).none hP)
  obtain ⟨ds, A, c, lo, hi, fi, la, B, cB, gd, gf, h1, h2, h3, h4, h5, h6, h7⟩ := h
  obtain ⟨W, hW⟩ : ∃ W, W = w.alloc (Obj.cells #[.int .i64 0, .int .i64 0, .int .i64 0, .int .i64 0, .int .i64 0, .int .i64 0, .int .i64 0] 74) := ⟨_, rfl⟩
  have hEa : Ext w W := by rw [hW]; exact (Ext.refl w).alloc _
  have hr : Row W w.heap.size 74 #[.int .i64 0, .int .i64 0, .int .i64 0, .int .i64 0, .int .i64 0, .int .i64 0, .int .i64 0] := by rw [hW]; exact Row.new w _ _
  have h1W := h1.ext hEa
  have k1 := h1W.cell 1 rfl
  have k2 := h1W.cell 2 rfl
  have k3 := h1W.cell 3 rfl
  have k4 := h1W.cell 4 rfl
  have k5 := h1W.cell 5 rfl
  have k6 := h1W.cell 6 rfl
  have k7 := h1W.cell 7 rfl
  have f0 := hr.free 0
  have f1 := hr.free 1
  have f2 := hr.free 2
  have f3 := hr.free 3
  have f4 := hr.free 4
  have f5 := hr.free 5
  have f6 := hr.free 6
  have c0 := hr.cell 0 rfl
  have c1 := hr.cell 1 rfl
  have c2 := hr.cell 2 rfl
  have c3 := hr.cell 3 rfl
  have c4 := hr.cell 4 rfl
  have c5 := hr.cell 5 rfl
  have c6 := hr.cell 6 rfl
  replace h1 := hide h1
  replace h1W := hide h1W
  replace hr := hide hr
  replace h3 := hide h3
  replace hW := hide hW
  clear h4 h5 h6 h7
  obtain ⟨bg, hbg⟩ : ∃ bg, bg = w.heap.size := ⟨_, rfl⟩
  rw [← hbg] at hr f0 f1 f2 f3 f4 f5 f6 c0 c1 c2 c3 c4 c5 c6
  have hbw : w.heap.size ≤ bg := Nat.le_of_eq hbg.symm
  replace hbg := hide hbg
  obtain ⟨nn, hnn⟩ : ∃ nn : Int, nn = (ds.length : Int) := ⟨_, rfl⟩
  rw [← hnn] at k7
  replace hnn := hide hnn
  go_enter Tryz.func32, Tryz.ntmps32
  go_wp2_with fail
  rw [← hW.out, ← hbg.out]
  refine (hn.out _ hEa).mono ?_
  rintro e w1 ⟨rfl, hw1⟩
  subst hw1
  go_wp2_with fail
  have hrf := ((((((hr.out.put 0 (.int .i64 0)).put 1 (.int .i64 0)).put 2 (.int .i64 lo)).put 3 (.int .i64 hi)).put 4 (.int .i64 fi)).put 5 (.int .i64 la)).put 6 (.int .i64 nn)
  have hEf := ((((((hEa.setCell (p := ⟨bg, 0, none⟩) hbw (.int .i64 0)).setCell (p := ⟨bg, 1, none⟩) hbw (.int .i64 0)).setCell (p := ⟨bg, 2, none⟩) hbw (.int .i64 lo)).setCell (p := ⟨bg, 3, none⟩) hbw (.int .i64 hi)).setCell (p := ⟨bg, 4, none⟩) hbw (.int .i64 fi)).setCell (p := ⟨bg, 5, none⟩) hbw (.int .i64 la)).setCell (p := ⟨bg, 6, none⟩) hbw (.int .i64 nn)
  refine bodyPost_ret (results_row1 rfl _ _ bg #[.int .i64 0, .int .i64 0, .int .i64 lo, .int .i64 hi, .int .i64 fi, .int .i64 la, .int .i64 nn] rfl (run_loadVar_row _ bg 74 74 _ (0, 0) _ hrf Tryz.underlying74 rfl (by kernel_rfl))) rfl ⟨?_, hEf⟩
  rw [h3.out, ← hnn.out]
  rfl
end Go.Proofs.YtkdcnhnaiknaaaaGreat

/- loggia/segment: Posts of a segment that was opened. -/
namespace Go.Proofs.YtkdcnhnaiknaaaaGreat
open Go.RowKit Go.Maps

theorem enOf_at : ∀ (rs : List (List UInt8 × List Po)) (pre : List (List UInt8 × List Po)) (e : En), e ∈ enOf (postB pre).length rs → ∃ r ∈ rs, e.t = r.1 ∧ e.len = (encPs r.2).length ∧ e.off + e.len ≤ (postB (pre ++ rs)).length ∧ ((postB (pre ++ rs)).drop e.off).take e.len = encPs r.2
  | [], pre, e, h => by cases h
  | r :: t, pre, e, h => by
    unfold enOf at h
    have hp1 : postB (pre ++ r :: t) = postB pre ++ (encPs r.2 ++ postB t) := by rw [postB_app]; rfl
    rcases List.mem_cons.1 h with rfl | h
    · refine ⟨r, List.mem_cons_self .., rfl, rfl, by rw [hp1]; simp only [List.length_append]; omega, ?_⟩
      simp only [hp1]
      rw [List.drop_left, List.take_left]
    · have hpl : (postB (pre ++ [r])).length = (postB pre).length + (encPs r.2).length := by rw [postB_app, List.length_append]; congr 1; unfold postB; simp
      rw [← hpl] at h
      obtain ⟨r', hr', h1, h2, h3, h4⟩ := enOf_at t (pre ++ [r]) e h
      rw [List.append_assoc, List.singleton_append] at h3 h4
      exact ⟨r', List.mem_cons_of_mem _ hr', h1, h2, h3, h4⟩
/-- A term's posts. -/
def PostsR (P : List Dc) (t : List UInt8) (w : World) (e : Ending) (w' : World) : Prop := Ext w w' ∧ ((∃ r ∈ rowsD P, r.1 = t ∧ ∃ (ps : List PoC) (A : Option Addr) (c : Nat), psP ps = r.2 ∧ e = .returned (.slice A r.2.length c) ∧ PosOk w' A ps) ∨ ((∀ r ∈ rowsD P, r.1 ≠ t) ∧ e = .returned (.slice none 0 0)))
set_option maxRecDepth 100000 in
set_option maxHeartbeats 2000000 in
theorem sposts_yes (g : Nat) (P : List Dc) (t : List UInt8) (w : World) (h : SegR w g P) (hP : SegP P) : Calls Tryz.prog 14 #[.pointer (some ⟨g, 0, none⟩), .string ⟨t.toArray⟩] w fun e w' => PostsR P t w e w' := by
  have hn := hide (h.none hP)
  have hB := hP.sm.seg
  obtain ⟨ds, A, c, lo, hi, fi, la, B, cB, gd, gf, h1, h2, h3, h4, h5, h6, h7⟩ := h
  have k8 := h1.cell 8 rfl
  have hg := hide (dget_any gd _ t w h5 hB.ens)
  obtain ⟨nB, hnB⟩ : ∃ nB, nB = (postB (rowsD P)).length := ⟨_, rfl⟩
  rw [← hnB] at h1 h6
  have hpb := hB.posts
  rw [← hnB] at hpb
  replace h1 := hide h1
  replace h6 := hide h6
  replace hnB := hide hnB
  replace hB := hide hB
  clear h2 h3 h4 h5 h7
  go_enter Tryz.func14, Tryz.ntmps14
  go_wp2_with fail
  refine hn.out.mono ?_
  rintro e w1 ⟨rfl, rfl⟩
  go_wp2_with fail
  refine hg.out.mono ?_
  rintro e w2 ⟨hE2, hres⟩
  rcases hres with ⟨x, hx, hxt, rfl⟩ | ⟨hno, rfl⟩
  · obtain ⟨r, hr, hr1, hr2, hr3, hr4⟩ := enOf_at (rowsD P) [] x hx
    rw [List.nil_append] at hr3 hr4
    rw [← hnB.out] at hr3
    obtain ⟨xo, hxo⟩ : ∃ xo, xo = x.off := ⟨_, rfl⟩
    obtain ⟨xn, hxn⟩ : ∃ xn, xn = x.len := ⟨_, rfl⟩
    rw [← hxo, ← hxn] at hr3 hr4 ⊢
    have hea := hB.out.each r hr
    obtain ⟨A5, c5, hsl, hin⟩ := (h6.out.ext hE2).subk .i64 .i64 (fr := xo) (k := xn) hr3 (z0 := (xo : Int)) (z := (xo : Int) + (xn : Int)) rfl rfl
    rw [hr4] at hin
    have hdec := fun W (hE : Ext w2 W) => poDecode_any A5 xn c5 (encPs r.2) W r.2 (hin.ext hE) hea.1 rfl hea.2.2.2.1
    have hwr : wrap64 ((xo : Int) + (xn : Int)) = (xo : Int) + (xn : Int) := by unfold wrap64; omega
    replace hxo := hide hxo
    replace hxn := hide hxn
    replace hdec := hide hdec
    replace hea := hide hea
    replace hin := hide hin
    replace hr := hide hr
    have h1w := h1.out.ext hE2
    have k9 := h1w.cell 9 rfl
    have hglt := h1w.lt
    replace h1w := hide h1w
    clear hr4 hx
    replace hxt := hide hxt
    replace hr1 := hide hr1
    replace hr2 := hide hr2
    go_wp2_with fail
    obtain ⟨W5, hW5⟩ : ∃ W5, W5 = w2.alloc (Obj.cells #[.string ⟨x.t.toArray⟩, .int .i64 (xo : Int), .int .i64 (xn : Int), .int .i64 (x.n : Int)] 97) := ⟨_, rfl⟩
    rw [← hW5]
    have hE5 : Ext w2 W5 := by rw [hW5]; exact (Ext.refl w2).alloc _
    have r5 : Row W5 w2.heap.size 97 #[.string ⟨x.t.toArray⟩, .int .i64 (xo : Int), .int .i64 (xn : Int), .int .i64 (x.n : Int)] := by rw [hW5]; exact Row.new w2 _ _
    obtain ⟨g5, hg5⟩ : ∃ g5, g5 = w2.heap.size := ⟨_, rfl⟩
    rw [← hg5] at r5 ⊢
    have y1 := r5.cell 1 rfl
    have y2 := r5.cell 2 rfl
    have k95 := hE5.cell k9
    replace r5 := hide r5
    replace hW5 := hide hW5
    replace hg5 := hide hg5
    refine wp_region_text follows (by kernel_rfl) (by kernel_rfl) (fun K hK => ?_)
    go_wp2_with fail
    refine (hdec.out W5.drew hE5.drew).mono ?_
    rintro e w6 ⟨ps, A6, c6, hps, rfl, hpo, _, _, hE6⟩
    go_wp2_with fail
    refine ⟨by kernel_rfl, ?_⟩
    go_wp2_with fail
    go_ret
    exact ⟨hE2.trans (hE5.drew.trans hE6), .inl ⟨r, hr.out, hr1.out.symm.trans hxt.out, ps, A6, c6, hps, rfl, hpo⟩⟩
  · have hno2 : ∀ r ∈ rowsD P, r.1 ≠ t := fun r hr e => by
      have key : ∀ (rs : List (List UInt8 × List Po)) (o : Nat), r ∈ rs → ∃ x ∈ enOf o rs, x.t = r.1 := by
        intro rs
        induction rs with
        | nil => intro o h; cases h
        | cons q qs ih =>
          intro o h
          unfold enOf
          rcases List.mem_cons.1 h with rfl | h
          · exact ⟨_, List.mem_cons_self .., rfl⟩
          · obtain ⟨x, hx, hxr⟩ := ih _ h
            exact ⟨x, List.mem_cons_of_mem _ hx, hxr⟩
      obtain ⟨x, hx, hxr⟩ := key _ 0 hr
      exact hno x hx (hxr.trans e)
    unfold noEn
    replace hno2 := hide hno2
    clear hno
    go_wp2_with fail
    go_ret
    exact ⟨hE2.alloc _, .inr ⟨hno2.out, rfl⟩⟩
end Go.Proofs.YtkdcnhnaiknaaaaGreat

/- A segment's bytes are opened as its docs, plainly. -/
namespace Go.Proofs.YtkdcnhnaiknaaaaGreat
open Go.RowKit

theorem openD_seg {P : List Dc} (hP : SegP P) (hsm : ∀ p ∈ framesD P, p.length ≤ 16777216) (ha : ∀ d ∈ P, I64ok' d.2.at_) : openD (segL P) = some P := by
  have h1 : (segL P).take 4 = [76, 83, 69, 71] := rfl
  have h2 : (segL P).drop 4 = joinL (framesD P) := rfl
  have h3 := decDs_of hP.sm.ok ha (by have := hP.sm.sz; omega)
  unfold openD
  rw [if_pos h1, h2, splitF_join _ hsm, if_pos ⟨rfl, rfl⟩]
  show (match decDs (encDs P) with | some Q => if 0 < Q.length ∧ segL Q = segL P then some Q else none | none => none) = some P
  rw [h3]
  show (if 0 < P.length ∧ segL P = segL P then some P else none) = some P
  rw [if_pos ⟨hP.ne, rfl⟩]
/-- What was opened is a segment's bytes. -/
theorem openD_inv {b : List UInt8} {P : List Dc} (h : openD b = some P) : 0 < P.length ∧ segL P = b ∧ okDs P = true := by
  unfold openD at h
  split at h
  · split at h
    · split at h
      · rename_i Q hQ
        split at h
        · rename_i hc
          injection h with h
          subst h
          exact ⟨hc.1, hc.2, (decDs_enc hQ).1⟩
        · cases h
      · cases h
    · cases h
  · cases h
/-- Bytes that are few tell small docs. -/
theorem few_small {b : List UInt8} (hb : b.length ≤ 60000) (P : List Dc) (h : decDs ((splitF (b.drop 4)).1.headD []) = some P) : (blockD 0 P).length ≤ 70000 := by
  have h1 := decDs_enc h
  have h2 : ((splitF (b.drop 4)).1.headD []).length ≤ b.length := by
    cases hs : (splitF (b.drop 4)).1 with
    | nil => simp
    | cons p t =>
      have := (splitF_small (l := b.drop 4) (p := p) (by rw [hs]; exact List.mem_cons_self ..)).2
      rw [List.length_drop] at this
      simp only [List.headD_cons]
      omega
  rw [← h1.2] at h2
  unfold encDs at h2
  simp only [List.length_append] at h2
  omega
end Go.Proofs.YtkdcnhnaiknaaaaGreat

/- The two docs that awake looks at, plainly. -/
namespace Go.Proofs.YtkdcnhnaiknaaaaGreat
open Go.RowKit

def aw1 : List Dc := [(1, ⟨7, [([109, 115, 103], [120])]⟩)]
def aw2 : List Dc := [(4, ⟨0, []⟩)]
theorem aw1_ok : okDs aw1 = true := by kernel_rfl
theorem aw2_ok : okDs aw2 = true := by kernel_rfl
theorem aw1_len : (blockD 0 aw1).length = 9 := by kernel_rfl
theorem aw2_len : (blockD 0 aw2).length = 3 := by kernel_rfl
theorem aw1_rows : rowsD aw1 = [([109, 115, 103, 58, 120], [(0, [0])])] := by kernel_rfl
theorem aw2_rows : rowsD aw2 = [] := by kernel_rfl
theorem aw1_seg : SegP aw1 := ⟨⟨aw1_ok, by rw [aw1_len]; decide⟩, by decide⟩
theorem aw2_seg : SegP aw2 := ⟨⟨aw2_ok, by rw [aw2_len]; decide⟩, by decide⟩
theorem aw1_part : partD aw1 = [7, 7, 1, 1, 1] := by kernel_rfl
theorem aw1_may : mayB (ofB ((rowsD aw1).map (·.1))) [109, 115, 103, 58, 120] = true := by
  rw [aw1_rows]
  kernel_rfl
theorem aw2_may : mayB (ofB ((rowsD aw2).map (·.1))) [109, 115, 103, 58, 120] = false := by
  rw [aw2_rows]
  kernel_rfl
theorem aw1_fr : (framesD aw1).all (fun p => decide (p.length ≤ 16777216)) = true := by kernel_rfl
theorem aw2_fr : (framesD aw2).all (fun p => decide (p.length ≤ 16777216)) = true := by kernel_rfl
theorem aw1_sl : decide ((segL aw1).length ≤ 60000) = true := by kernel_rfl
theorem aw2_sl : decide ((segL aw2).length ≤ 60000) = true := by kernel_rfl
theorem aw1_open : openD (segL aw1) = some aw1 := openD_seg aw1_seg (fun p hp => of_decide_eq_true (List.all_eq_true.1 aw1_fr p hp)) (fun d hd => by
  unfold aw1 at hd
  rw [List.mem_singleton.1 hd]
  unfold I64ok'
  decide)
theorem aw2_open : openD (segL aw2) = some aw2 := openD_seg aw2_seg (fun p hp => of_decide_eq_true (List.all_eq_true.1 aw2_fr p hp)) (fun d hd => by
  unfold aw2 at hd
  rw [List.mem_singleton.1 hd]
  unfold I64ok'
  decide)
end Go.Proofs.YtkdcnhnaiknaaaaGreat

/- loggialaw13: awake. -/
namespace Go.Proofs.YtkdcnhnaiknaaaaGreat
open Go.RowKit Go.Maps

set_option maxRecDepth 100000 in
theorem fld_part (W : World) : (Instr.field 74 (.agg #[.int .i64 0, .int .i64 0, .int .i64 7, .int .i64 7, .int .i64 1, .int .i64 1, .int .i64 1]) 2).run Tryz.prog W = .ok (.int .i64 7) W := by
  unfold Instr.field
  simp only [Sem.run_bind, run_underlying Tryz.underlying74, Result.andThen_ok]
  kernel_rfl
/-- A doc that a text lays: its segment's bytes, and the segment of them. -/
theorem enc_open (P : List Dc) (hP : SegP P) (ho : openD (segL P) = some P) (hl : (segL P).length ≤ 60000) (A : Option Addr) (c : Nat) (w : World) (h : Own8 w 0 A (segL P).length c (segL P)) :
    Calls Tryz.prog 11 #[.slice A (segL P).length c] w fun e w' => ∃ g, e = .returned (.tuple #[.pointer (some ⟨g, 0, none⟩), .int .i64 0]) ∧ SegR w' g P ∧ Ext w w' := by
  refine (segOpen_any A _ c (segL P) w h.2.in8 (by omega) (fun Q _ hQ => few_small hl Q hQ)).mono ?_
  rintro e w' ⟨hE, hr⟩
  rw [ho] at hr
  obtain ⟨g, rfl, hs⟩ := hr
  exact ⟨g, rfl, hs, hE⟩
set_option maxRecDepth 100000 in
set_option maxHeartbeats 4000000 in
theorem awake13_any (w : World) : Calls Tryz.prog 10 #[] w fun e w' => e = .returned (.bool true) ∧ Ext w w' := by
  obtain ⟨W, hW⟩ : ∃ W, W = (w.alloc (Obj.cells #[.string ⟨#[109, 115, 103]⟩, .string ⟨#[120]⟩] 105)).alloc (Obj.cells #[.int .i64 1, .int .i64 7, .slice (some ⟨w.heap.size, 0, none⟩) 1 1] 39) := ⟨_, rfl⟩
  have hEW : Ext w W := by rw [hW]; exact ((Ext.refl w).alloc _).alloc _
  have hc1 : Cells W (some ⟨w.heap.size, 0, none⟩) (fcells [([109, 115, 103], [120])]) := by
    rw [hW]
    exact (new_cells w [.string ⟨#[109, 115, 103]⟩, .string ⟨#[120]⟩] _).ext ((Ext.refl _).alloc _)
  have hc2 : Cells W (some ⟨w.heap.size + 1, 0, none⟩) (dcells [⟨1, ⟨7, [([109, 115, 103], [120])]⟩, some ⟨w.heap.size, 0, none⟩, 1⟩]) := by
    have h1 := new_cells (w.alloc (Obj.cells #[.string ⟨#[109, 115, 103]⟩, .string ⟨#[120]⟩] 105)) [.int .i64 1, .int .i64 7, .slice (some ⟨w.heap.size, 0, none⟩) 1 1] 39
    rw [World.size_alloc] at h1
    rw [hW]
    exact h1
  have hdo : DocsOk W (some ⟨w.heap.size + 1, 0, none⟩) [⟨1, ⟨7, [([109, 115, 103], [120])]⟩, some ⟨w.heap.size, 0, none⟩, 1⟩] := ⟨hc2, fun x hx => by
    rw [List.mem_singleton.1 hx]
    exact ⟨⟨hc1, by show (1 : Nat) ≤ _; omega, fun f hf => by
      rw [List.mem_singleton.1 hf]
      exact ⟨by show (3 : Nat) ≤ _; omega, by show (1 : Nat) ≤ _; omega⟩⟩, ⟨by show _ ≤ (7 : Int); omega, by show (7 : Int) ≤ _; omega⟩, ⟨by show _ ≤ (1 : Int); omega, by show (1 : Int) ≤ _; omega⟩⟩⟩
  have hen := segEncode_yes [⟨1, ⟨7, [([109, 115, 103], [120])]⟩, some ⟨w.heap.size, 0, none⟩, 1⟩] (some ⟨w.heap.size + 1, 0, none⟩) 1 1 W rfl hdo (fun a ha => by cases ha; rfl) (by omega) aw1_seg.sm (by omega)
  replace hen := hide hen
  replace hW := hide hW
  clear hc1 hc2 hdo
  go_enter Tryz.func10, Tryz.ntmps10
  go_wp2_with fail
  rw [← hW.out]
  refine hen.out.mono ?_
  rintro e w1 ⟨A1, c1, rfl, hO1, hE1⟩
  have hop := enc_open aw1 aw1_seg aw1_open (of_decide_eq_true aw1_sl) A1 c1 w1 ⟨rfl, hO1.2.lower (Nat.zero_le _)⟩
  have hsg : segL (dcs [⟨1, ⟨7, [([109, 115, 103], [120])]⟩, some ⟨w.heap.size, 0, none⟩, 1⟩]) = segL aw1 := rfl
  rw [hsg]
  obtain ⟨n1, hn1⟩ : ∃ n1, n1 = (segL aw1).length := ⟨_, rfl⟩
  rw [← hn1] at hop ⊢
  replace hop := hide hop
  replace hn1 := hide hn1
  go_wp2_with fail
  refine hop.out.mono ?_
  rintro e w2 ⟨g1, rfl, hs1, hE2⟩
  go_wp2_with fail
  obtain ⟨W2, hW2⟩ : ∃ W2, W2 = w2.alloc (Obj.cells #[.int .i64 4, .int .i64 0, .slice none 0 0] 39) := ⟨_, rfl⟩
  rw [← hW2]
  have hEW2 : Ext w2 W2 := by rw [hW2]; exact (Ext.refl w2).alloc _
  have hdo2 : DocsOk W2 (some ⟨w2.heap.size, 0, none⟩) [⟨4, ⟨0, []⟩, none, 0⟩] := ⟨by rw [hW2]; exact new_cells w2 [.int .i64 4, .int .i64 0, .slice none 0 0] _, fun x hx => by
    rw [List.mem_singleton.1 hx]
    exact ⟨⟨.inl rfl, by show (0 : Nat) ≤ _; omega, fun f hf => by cases hf⟩, ⟨by show _ ≤ (0 : Int); omega, by show (0 : Int) ≤ _; omega⟩, ⟨by show _ ≤ (4 : Int); omega, by show (4 : Int) ≤ _; omega⟩⟩⟩
  have hen2 := segEncode_yes [⟨4, ⟨0, []⟩, none, 0⟩] (some ⟨w2.heap.size, 0, none⟩) 1 1 W2 rfl hdo2 (fun a ha => by cases ha; rfl) (by omega) aw2_seg.sm (by omega)
  replace hen2 := hide hen2
  replace hW2 := hide hW2
  clear hdo2
  refine hen2.out.mono ?_
  rintro e w3 ⟨A3, c3, rfl, hO3, hE3⟩
  have hop3 := enc_open aw2 aw2_seg aw2_open (of_decide_eq_true aw2_sl) A3 c3 w3 ⟨rfl, hO3.2.lower (Nat.zero_le _)⟩
  have hsg3 : segL (dcs [⟨4, ⟨0, []⟩, none, 0⟩]) = segL aw2 := rfl
  rw [hsg3]
  obtain ⟨n3, hn3⟩ : ∃ n3, n3 = (segL aw2).length := ⟨_, rfl⟩
  rw [← hn3] at hop3 ⊢
  replace hop3 := hide hop3
  replace hn3 := hide hn3
  go_wp2_with fail
  refine hop3.out.mono ?_
  rintro e w4 ⟨g2, rfl, hs2, hE4⟩
  have hs14 := hs1.ext ((hEW2.trans hE3).trans hE4)
  have hE04 := ((hEW.trans hE1).trans hE2).trans ((hEW2.trans hE3).trans hE4)
  have hpo := sposts_yes g1 aw1 [109, 115, 103, 58, 120] w4 hs14 aw1_seg
  replace hpo := hide hpo
  replace hs14 := hide hs14
  replace hs2 := hide hs2
  go_wp2_with fail
  refine hpo.out.mono ?_
  rintro e w5 ⟨hE5, hres⟩
  rw [aw1_rows] at hres
  rcases hres with ⟨r, hr, hrt, ps, A5, c5, hps, rfl, hpk⟩ | ⟨hno, _⟩
  · rw [List.mem_singleton.1 hr] at hps ⊢
    obtain ⟨x0, hx0, hxd⟩ : ∃ x0 : PoC, ps = [x0] ∧ x0.doc = 0 := by
      cases ps with
      | nil => cases hps
      | cons x0 t =>
        cases t with
        | nil =>
          refine ⟨x0, rfl, ?_⟩
          have h1 : [x0.po] = [((0 : Int), [(0 : Int)])] := hps
          injection h1 with h1
          exact congrArg Prod.fst h1
        | cons y u => exact absurd (congrArg List.length hps) (by simp [psP])
    subst hx0
    obtain ⟨gp, op, hA5, q0, _⟩ := pcells_at hpk.cells (i := 0) (x := x0) rfl
    subst hA5
    rw [hxd, Nat.zero_mul, Nat.add_zero] at q0
    have hpt := hide (fun W (hE : Ext w4 W) => spart_yes g1 aw1 W (hs14.out.ext hE) aw1_seg)
    have hln := hide (fun W (hE : Ext w4 W) => slen_yes g1 aw1 W (hs14.out.ext hE) (by decide) (by decide))
    have hm1 := hide (fun W (hE : Ext w4 W) => smay_yes g1 aw1 [109, 115, 103, 58, 120] W (hs14.out.ext hE) aw1_seg (by decide))
    have htm := hide (fun W (hE : Ext w4 W) => sterms_yes g2 aw2 W (hs2.out.ext hE) aw2_seg)
    have hm2 := hide (fun W (hE : Ext w4 W) => smay_yes g2 aw2 [109, 115, 103, 58, 120] W (hs2.out.ext hE) aw2_seg (by decide))
    have hpr : prtA [7, 7, 1, 1, 1] = #[.int .i64 0, .int .i64 0, .int .i64 7, .int .i64 7, .int .i64 1, .int .i64 1, .int .i64 1] := rfl
    rw [aw1_part, hpr] at hpt
    rw [aw1_may] at hm1
    rw [aw2_may] at hm2
    rw [aw2_rows] at htm
    have hno1 := segEncode_no [] none 0 0 w5 rfl ⟨.inl rfl, nofun⟩ (fun a ha => by cases ha) (by omega) (by omega) (.inr rfl)
    replace hno1 := hide hno1
    go_wp2_with fail
    refine hno1.out.mono ?_
    rintro e w6 ⟨rfl, hE6⟩
    have hE46 := hE5.trans hE6
    have q06 := hE6.cell q0
    replace hpk := hide hpk
    go_wp2_with fail
    refine (hpt.out w6 hE46).mono ?_
    rintro e w7 ⟨rfl, hE7⟩
    have hfd := fld_part w7
    go_wp2_with fail
    refine (hln.out w7 (hE46.trans hE7)).mono ?_
    rintro e w8 ⟨rfl, rfl⟩
    go_wp2_with fail
    refine (hm1.out w8 (hE46.trans hE7)).mono ?_
    rintro e w9 ⟨rfl, hE9⟩
    go_wp2_with fail
    refine (htm.out w9 ((hE46.trans hE7).trans hE9)).mono ?_
    rintro e w10 ⟨rfl, rfl⟩
    go_wp2_with fail
    refine (hm2.out w10 ((hE46.trans hE7).trans hE9)).mono ?_
    rintro e w11 ⟨rfl, hE11⟩
    go_wp2_with fail
    go_ret
    exact ⟨rfl, hE04.trans (((hE46.trans hE7).trans hE9).trans hE11)⟩
  · exact absurd rfl (hno _ (List.mem_singleton.2 rfl))
end Go.Proofs.YtkdcnhnaiknaaaaGreat

/- loggia/segment: Doc of nobody's segments. -/
namespace Go.Proofs.YtkdcnhnaiknaaaaGreat
open Go.RowKit Go.Maps

set_option maxRecDepth 100000 in
theorem sdoc_no (s : Value) (i : Int) (w : World) (h : NobS w s) : Calls Tryz.prog 30 #[s, .int .i64 i] w fun e w' => e = .returned (.tuple #[.agg #[.int .i64 0, .int .i64 0, .slice none 0 0], .bool false]) ∧ Ext w w' := by
  have hn := hide (fun W (hE : Ext w W) => slen_no s W (h.ext hE))
  have hEa : Ext w (w.alloc (Obj.cells #[.int .i64 0, .int .i64 0, .slice none 0 0] 39)) := (Ext.refl w).alloc _
  have hr : Row (w.alloc (Obj.cells #[.int .i64 0, .int .i64 0, .slice none 0 0] 39)) w.heap.size 39 #[.int .i64 0, .int .i64 0, .slice none 0 0] := Row.new w _ _
  by_cases hi : i < 0
  · go_enter Tryz.func30, Tryz.ntmps30
    go_wp2_with fail
    exact bodyPost_ret (results_row_tmp rfl _ _ w.heap.size #[.int .i64 0, .int .i64 0, .slice none 0 0] rfl (run_loadVar_row _ w.heap.size 39 39 _ (0, 0) _ hr Tryz.underlying39 rfl (by kernel_rfl))) rfl ⟨rfl, hEa⟩
  · go_enter Tryz.func30, Tryz.ntmps30
    go_wp2_with fail
    refine (hn.out _ hEa).mono ?_
    rintro e w1 ⟨rfl, rfl⟩
    have hge : (0 : Int) ≤ i := by omega
    go_wp2_with fail
    exact bodyPost_ret (results_row_tmp rfl _ _ w.heap.size #[.int .i64 0, .int .i64 0, .slice none 0 0] rfl (run_loadVar_row _ w.heap.size 39 39 _ (0, 0) _ hr Tryz.underlying39 rfl (by kernel_rfl))) rfl ⟨rfl, hEa⟩
end Go.Proofs.YtkdcnhnaiknaaaaGreat

/- loggialaw13: SegmentNobody walked. -/
namespace Go.Proofs.YtkdcnhnaiknaaaaGreat
open Go.RowKit Go.Maps

set_option maxRecDepth 100000 in
theorem part_same (w : World) : (binOp .neq 74 (.agg #[.int .i64 0, .int .i64 0, .int .i64 0, .int .i64 0, .int .i64 0, .int .i64 0, .int .i64 0]) (.agg #[.int .i64 0, .int .i64 0, .int .i64 0, .int .i64 0, .int .i64 0, .int .i64 0, .int .i64 0])).run Tryz.prog w = .ok (.bool false) w := by kernel_rfl
set_option maxRecDepth 100000 in
set_option maxHeartbeats 4000000 in
theorem nobody13_any (t : ByteArray) (i : Int) (w : World) : Calls Tryz.prog 7 #[.string t, .int .i64 i] w fun e w' => e = .returned (.bool true) ∧ Ext w w' := by
  have hsame := part_same
  have haw := hide (fun W => awake13_any W)
  go_enter Tryz.func7, Tryz.ntmps7
  go_wp2_with fail
  obtain ⟨W0, hW0⟩ : ∃ W0, W0 = (w.alloc (Obj.cells #[.slice none 0 0, .int .i64 0, .int .i64 0, .int .i64 0, .int .i64 0, .int .i64 0, .int .i64 0, .int .i64 0, .pointer none, .slice none 0 0, .pointer none] 87)).alloc (Obj.cells #[.pointer none, .pointer (some ⟨w.heap.size, 0, none⟩)] 30) := ⟨_, rfl⟩
  rw [← hW0]
  have hE0 : Ext w W0 := by rw [hW0]; exact ((Ext.refl w).alloc _).alloc _
  have hb : NobS W0 (.pointer (some ⟨w.heap.size, 0, none⟩)) := .inr ⟨_, rfl, by rw [hW0]; exact (Row.new w _ _).alloc _⟩
  have hcs : Cells W0 (some ⟨w.heap.size + 1, 0, none⟩) [.pointer none, .pointer (some ⟨w.heap.size, 0, none⟩)] := by
    have h1 := new_cells (w.alloc (Obj.cells #[.slice none 0 0, .int .i64 0, .int .i64 0, .int .i64 0, .int .i64 0, .int .i64 0, .int .i64 0, .int .i64 0, .pointer none, .slice none 0 0, .pointer none] 87)) [.pointer none, .pointer (some ⟨w.heap.size, 0, none⟩)] 30
    rw [World.size_alloc] at h1
    rw [hW0]; exact h1
  have hat : ∀ k : Nat, k < 2 → ∃ s, W0.cell? ⟨w.heap.size + 1, k, none⟩ = some s ∧ NobS W0 s := fun k hk => by
    rcases hcs with h | ⟨g, o, hA, hc⟩
    · cases h
    · cases hA
      match k, hk with
      | 0, _ => exact ⟨_, by have := hc 0 _ rfl; simpa using this, .inl rfl⟩
      | 1, _ => exact ⟨_, by have := hc 1 _ rfl; simpa using this, hb⟩
  replace hat := hide hat
  replace hW0 := hide hW0
  replace hE0 := hide hE0
  clear hb hcs
  go_loopw [7, 15] (fun s7 s15 wr => ∃ (k : Nat) (v : Value), s7 = v ∧ s15 = .int .i64 (k : Int) ∧ k ≤ 2 ∧ Hid (Ext W0 wr)) (fun _ s15 _ => 2 - (intOf s15).toNat)
  case atStart => exact ⟨0, _, rfl, rfl, by omega, hide (Ext.refl W0)⟩
  case round =>
    obtain ⟨k, v, rfl, rfl, hk, hEr⟩ := hrel
    by_cases hk2 : k < 2
    · obtain ⟨s, hc, hs⟩ := hat.out k hk2
      have hcr := hEr.out.cell hc
      have hsr := hs.ext hEr.out
      have d1 := hide (sdoc_no s i wr hsr)
      have hall := hide (fun W (hE : Ext wr W) => hsr.ext hE)
      replace hsr := hide hsr
      clear hc
      go_wp2_with fail
      refine d1.out.mono ?_
      rintro e w1 ⟨rfl, hE1⟩
      go_wp2_with fail
      obtain ⟨W2, hW2⟩ : ∃ W2, W2 = w1.alloc (Obj.cells #[.int .i64 0, .int .i64 0, .slice none 0 0] 39) := ⟨_, rfl⟩
      rw [← hW2]
      have hE2 : Ext wr W2 := by rw [hW2]; exact hE1.alloc _
      have hn2 := hall.out W2 hE2
      have e1 := hide (slen_no s W2 hn2)
      have e2 := hide (sdocs_no s W2 hn2)
      have e3 := hide (sposts_no s t W2 hn2)
      have e4 := hide (sprefix_no s t W2 hn2)
      have e5 := hide (sterms_no s W2 hn2)
      have e6 := hide (srange_no s 0 9 W2 hn2)
      have e7 := hide (smay_no s t W2 hn2)
      have e8 := hide (spart_no s W2 hn2)
      replace hW2 := hide hW2
      replace hn2 := hide hn2
      refine e1.out.mono ?_
      rintro e w3 ⟨rfl, rfl⟩
      go_wp2_with fail
      refine e2.out.mono ?_
      rintro e w4 ⟨rfl, rfl⟩
      go_wp2_with fail
      refine e3.out.mono ?_
      rintro e w5 ⟨rfl, rfl⟩
      go_wp2_with fail
      refine e4.out.mono ?_
      rintro e w6 ⟨rfl, rfl⟩
      go_wp2_with fail
      refine e5.out.mono ?_
      rintro e w7 ⟨rfl, rfl⟩
      go_wp2_with fail
      refine e6.out.mono ?_
      rintro e w8 ⟨rfl, rfl⟩
      go_wp2_with fail
      refine e7.out.mono ?_
      rintro e w9 ⟨rfl, rfl⟩
      go_wp2_with fail
      refine e8.out.mono ?_
      rintro e w10 ⟨rfl, hE10⟩
      go_wp2_with fail
      go_roundw
      case rel => exact ⟨k + 1, _, rfl, by first | rfl | (congr 1; omega), by omega, hide ((hEr.out.trans hE2).trans hE10)⟩
      case measure => simp only [intOf]; omega
    · go_wp2_with fail
      refine (haw.out _).mono ?_
      rintro e w1 ⟨rfl, hE1⟩
      go_wp2_with fail
      go_ret
      exact ⟨rfl, (hE0.out.trans hEr.out).trans hE1⟩
end Go.Proofs.YtkdcnhnaiknaaaaGreat

