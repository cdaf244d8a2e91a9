/- loggiaref06: with. -/
import Derived.Test.YticnncgbfpgeaaaDrD
namespace Go.Proofs.Yticnncgbfpgeaaa
open Go.RowKit Go.Maps

/-- The end of a function that answers with a disk whose row of files has been made anew: b is the disk's own cell, r the answer's. -/
theorem rdisk_out2 {w0 wr : World} {b r base n1 c1 q a : Nat} {A1 : Option Addr} {st : Bool} {xs : List Value} {v0 v1 v2 v3 : Value} (hrr : Row wr r 36 #[v0, v1, v2, v3]) (ho : wr.ownsRow base 53 3 (.slice A1 n1 c1) n1 xs)
    (hge : ∀ k, (Value.slice A1 n1 c1).ownBlock = some k → k ≠ b ∧ k ≠ r) (hne : r ≠ b) (hE : Ext w0 wr) (hb : w0.heap.size ≤ b) (hbr : w0.heap.size ≤ r) {wf : World}
    (hwf : wf = (((((wr.setCell ⟨b, 0, none⟩ (.slice A1 n1 c1)).setCell ⟨r, 0, none⟩ (.slice A1 n1 c1)).setCell ⟨r, 1, none⟩ (.int .i64 q)).setCell ⟨r, 2, none⟩ (.int .i64 a)).setCell ⟨r, 3, none⟩ (.bool st)) := by rfl) :
    wf.cell? ⟨r, 0, none⟩ = some (.slice A1 n1 c1) ∧ wf.cell? ⟨r, 1, none⟩ = some (.int .i64 q) ∧ wf.cell? ⟨r, 2, none⟩ = some (.int .i64 a) ∧ wf.cell? ⟨r, 3, none⟩ = some (.bool st) ∧ Ext w0 wf ∧ wf.ownsRow base 53 3 (.slice A1 n1 c1) n1 xs := by
  have hr : Row wf r 36 #[.slice A1 n1 c1, .int .i64 q, .int .i64 a, .bool st] := by
    rw [hwf]
    exact ((((Row.away hrr (p := ⟨b, 0, none⟩) hne _).put 0 _).put 1 _).put 2 _).put 3 _
  refine ⟨hr.cell 0 rfl, hr.cell 1 rfl, hr.cell 2 rfl, hr.cell 3 rfl, ?_, ?_⟩
  · rw [hwf]
    exact ((((hE.setCell (p := ⟨b, 0, none⟩) hb _).setCell (p := ⟨r, 0, none⟩) hbr _).setCell (p := ⟨r, 1, none⟩) hbr _).setCell (p := ⟨r, 2, none⟩) hbr _).setCell (p := ⟨r, 3, none⟩) hbr _
  · rw [hwf]
    have hk1 : ∀ o : Nat, (Value.slice A1 n1 c1).ownBlock ≠ some (⟨b, o, none⟩ : Addr).block := fun o hh => (hge _ hh).1 rfl
    have hk2 : ∀ o : Nat, (Value.slice A1 n1 c1).ownBlock ≠ some (⟨r, o, none⟩ : Addr).block := fun o hh => (hge _ hh).2 rfl
    exact owns_set (owns_set (owns_set (owns_set (owns_set ho (hk1 _) _) (hk2 _) _) (hk2 _) _) (hk2 _) _) (hk2 _) _
/-- Where 'with' has come to: the row l behind the files t, is f in it? -/
def Ins (f : RE) (t l : List RE) (put : Bool) : Prop := if put then l = insG RE.name f t ∧ ∃ x ∈ t, f.name < x.name else l = t ∧ ∀ x ∈ t, ¬ f.name < x.name
theorem ins_append {f x : RE} : ∀ {t : List RE}, (∃ y ∈ t, f.name < y.name) → insG RE.name f (t ++ [x]) = insG RE.name f t ++ [x]
  | [], h => by obtain ⟨y, hy, _⟩ := h; cases hy
  | z :: t, h => by
    unfold insG
    rw [List.cons_append]
    by_cases hz : f.name < z.name
    · simp only [decide_eq_true hz, if_true, List.cons_append]
    · simp only [decide_eq_false hz, Bool.false_eq_true, if_false, List.cons_append]
      rw [ins_append]
      obtain ⟨y, hy, hlt⟩ := h
      rcases List.mem_cons.1 hy with h1 | h1
      · exact (hz (h1 ▸ hlt)).elim
      · exact ⟨y, h1, hlt⟩
theorem ins_at {f x : RE} : ∀ {t : List RE}, (∀ y ∈ t, ¬ f.name < y.name) → f.name < x.name → insG RE.name f (t ++ [x]) = t ++ [f] ++ [x]
  | [], _, h => by unfold insG; simp [h]
  | z :: t, h, hx => by
    unfold insG
    simp only [List.cons_append, decide_eq_false (h z (List.mem_cons_self ..)), Bool.false_eq_true, if_false]
    rw [ins_at (fun y hy => h y (List.mem_cons_of_mem _ hy)) hx]
theorem ins_none {f : RE} : ∀ {t : List RE}, (∀ y ∈ t, ¬ f.name < y.name) → insG RE.name f t = t ++ [f]
  | [], _ => rfl
  | z :: t, h => by
    unfold insG
    simp only [decide_eq_false (h z (List.mem_cons_self ..)), Bool.false_eq_true, if_false]
    rw [ins_none (fun y hy => h y (List.mem_cons_of_mem _ hy))]
    rfl
theorem Ins.later {f x : RE} {t l : List RE} (h : Ins f t l true) : Ins f (t ++ [x]) (l ++ [x]) true := by
  obtain ⟨h1, y, hy, hlt⟩ := h
  exact ⟨by rw [ins_append ⟨y, hy, hlt⟩, h1], y, List.mem_append_left _ hy, hlt⟩
theorem Ins.now {f x : RE} {t l : List RE} (h : Ins f t l false) (hx : f.name < x.name) : Ins f (t ++ [x]) (l ++ [f] ++ [x]) true := by
  obtain ⟨h1, h2⟩ := h
  exact ⟨by rw [ins_at h2 hx, h1], x, by simp, hx⟩
theorem Ins.past {f x : RE} {t l : List RE} (h : Ins f t l false) (hx : ¬ f.name < x.name) : Ins f (t ++ [x]) (l ++ [x]) false := by
  obtain ⟨h1, h2⟩ := h
  refine ⟨by rw [h1], fun y hy => ?_⟩
  rcases List.mem_append.1 hy with h3 | h3
  · exact h2 y h3
  · simp at h3; rw [h3]; exact hx
theorem Ins.len {f : RE} {t l : List RE} {b : Bool} (h : Ins f t l b) : l.length ≤ t.length + 1 := by
  cases b with
  | true => rw [h.1, len_ins]; exact Nat.le_refl _
  | false => rw [h.1]; omega
theorem take_one {α : Type} (R : List α) (i : Nat) (r : α) (h : R[i]? = some r) : R.take (i + 1) = R.take i ++ [r] := by
  obtain ⟨hi, hr⟩ := List.getElem?_eq_some_iff.1 h
  rw [List.take_succ_eq_append_getElem hi, hr]
set_option maxRecDepth 100000 in
set_option maxHeartbeats 4000000 in
theorem rwith_any (N : Nat → Prop) (A : Option Addr) (n c q a : Nat) (st : Bool) (R : List RE) (f : RE) (w : World) (h : RS w N A n c R) (hf : ROk w N f) (hN : ∀ k, N k → k < w.heap.size) (hcnt : (withG RE.name f R).length ≤ 1024) :
    Calls Try.prog 57 #[rdisk A n c q a st, f.agg] w fun e w' => ∃ A1 n1 c1, e = .returned (rdisk A1 n1 c1 q a st) ∧ RS w' N A1 n1 c1 (withG RE.name f R) ∧ Ext w w' := by
  obtain ⟨W, hW⟩ : ∃ W, W = ((w.alloc (.cells #[.slice A n c, .int .i64 q, .int .i64 a, .bool st] 36)).alloc (.cells #[str f.name, .slice f.A f.b.length f.c, .int .i64 f.sure] 53)).alloc (.cells #[.slice none 0 0, .int .i64 0, .int .i64 0, .bool false] 36) := ⟨_, rfl⟩
  have hE : Ext w W := by rw [hW]; exact (((Ext.refl w).alloc _).alloc _).alloc _
  have hWs : W.heap.size = w.heap.size + 3 := by rw [hW, size_alloc, size_alloc, size_alloc]
  have hd : Row W w.heap.size 36 #[.slice A n c, .int .i64 q, .int .i64 a, .bool st] := by rw [hW]; exact ((Row.new w _ _).alloc _).alloc _
  have hfr : Row W (w.heap.size + 1) 53 #[str f.name, .slice f.A f.b.length f.c, .int .i64 f.sure] := by
    have := Row.new (w.alloc (.cells #[.slice A n c, .int .i64 q, .int .i64 a, .bool st] 36)) 53 #[str f.name, .slice f.A f.b.length f.c, .int .i64 f.sure]
    rw [size_alloc] at this
    rw [hW]
    exact this.alloc _
  have hr2 : Row W (w.heap.size + 1 + 1) 36 #[.slice none 0 0, .int .i64 0, .int .i64 0, .bool false] := by
    have := Row.new ((w.alloc (.cells #[.slice A n c, .int .i64 q, .int .i64 a, .bool st] 36)).alloc (.cells #[str f.name, .slice f.A f.b.length f.c, .int .i64 f.sure] 53)) 36 #[.slice none 0 0, .int .i64 0, .int .i64 0, .bool false]
    rw [size_alloc, size_alloc] at this
    rw [hW]
    exact this
  obtain ⟨N2, hN2⟩ : ∃ N2 : Nat → Prop, N2 = fun k => N k ∨ (w.heap.size ≤ k ∧ k < w.heap.size + 3) := ⟨_, rfl⟩
  have hsub : ∀ k, k < w.heap.size → N2 k → N k := by
    intro k hk hn
    rw [hN2] at hn
    rcases hn with hn | hn
    · exact hn
    · omega
  have hN2s : ∀ k, N2 k → k < W.heap.size := by
    intro k hn
    rw [hN2] at hn
    rcases hn with hn | hn
    · have := hN k hn; omega
    · omega
  have hRW : RS W N2 A n c R := h.chg (Chg.of_ext hE (fun _ => False)) (fun _ _ h => h.elim) hsub
  have hwo := rwithout_any N2 A n c q a st R f.name W hRW hN2s
  have d0 : W.cell? ⟨w.heap.size, 0, none⟩ = some (.slice A n c) := hd.cell 0 rfl
  have d1 : W.cell? ⟨w.heap.size, 1, none⟩ = some (.int .i64 q) := hd.cell 1 rfl
  have d2 : W.cell? ⟨w.heap.size, 2, none⟩ = some (.int .i64 a) := hd.cell 2 rfl
  have d3 : W.cell? ⟨w.heap.size, 3, none⟩ = some (.bool st) := hd.cell 3 rfl
  have f0 : W.cell? ⟨w.heap.size + 1, 0, none⟩ = some (str f.name) := hfr.cell 0 rfl
  have hWx := hW.symm
  unfold rdisk str at hwo
  unfold str at hWx f0
  unfold rdisk RE.agg str
  replace hwo := hide hwo
  replace hWx := hide hWx
  clear hW
  replace hWs := hide hWs
  replace hcnt := hide hcnt
  go_enter Try.func57, Try.ntmps57
  go_wp2_with fail
  rw [hWx.out]
  go_wp2_with fail
  refine hwo.out.mono ?_
  rintro e w1 ⟨A1, n1, c1, rfl, hR1, hE1⟩
  have hd1 := hd.ext hE1
  have g0 : w1.cell? ⟨w.heap.size, 0, none⟩ = some (.slice A n c) := hd1.cell 0 rfl
  have g1 : w1.cell? ⟨w.heap.size, 1, none⟩ = some (.int .i64 q) := hd1.cell 1 rfl
  have g2 : w1.cell? ⟨w.heap.size, 2, none⟩ = some (.int .i64 a) := hd1.cell 2 rfl
  have g3 : w1.cell? ⟨w.heap.size, 3, none⟩ = some (.bool st) := hd1.cell 3 rfl
  have fd0 := hd1.free 0
  have fd1 := hd1.free 1
  have fd2 := hd1.free 2
  have fd3 := hd1.free 3
  go_upto_region 2 with (fail)
  obtain ⟨W1, hW1⟩ : ∃ W1, W1 = (((w1.setCell ⟨w.heap.size, 0, none⟩ (.slice A1 n1 c1)).setCell ⟨w.heap.size, 1, none⟩ (.int .i64 q)).setCell ⟨w.heap.size, 2, none⟩ (.int .i64 a)).setCell ⟨w.heap.size, 3, none⟩ (.bool st) := ⟨_, rfl⟩
  rw [← hW1]
  have hcW : Chg (fun k => k = w.heap.size) w1 W1 := by
    rw [hW1]
    exact (((Chg.of_set (S := fun k => k = w.heap.size) w1 (a := ⟨w.heap.size, 0, none⟩) _ rfl).trans (Chg.of_set (S := fun k => k = w.heap.size) _ (a := ⟨w.heap.size, 1, none⟩) _ rfl) fun _ _ h => h).trans (Chg.of_set (S := fun k => k = w.heap.size) _ (a := ⟨w.heap.size, 2, none⟩) _ rfl) fun _ _ h => h).trans (Chg.of_set (S := fun k => k = w.heap.size) _ (a := ⟨w.heap.size, 3, none⟩) _ rfl) fun _ _ h => h
  have hdW : Row W1 w.heap.size 36 #[.slice A1 n1 c1, .int .i64 q, .int .i64 a, .bool st] := by
    rw [hW1]
    exact (((hd1.put 0 _).put 1 _).put 2 _).put 3 _
  have hfW : Row W1 (w.heap.size + 1) 53 #[str f.name, .slice f.A f.b.length f.c, .int .i64 f.sure] := hcW.row (hfr.ext hE1) (by omega)
  have hrW : Row W1 (w.heap.size + 1 + 1) 36 #[.slice none 0 0, .int .i64 0, .int .i64 0, .bool false] := hcW.row (hr2.ext hE1) (by omega)
  have hRW1 : RS W1 N2 A1 n1 c1 (withoutG RE.name f.name R) := hR1.chg hcW (fun k _ hk => by rw [hN2, hk]; exact .inr ⟨Nat.le_refl _, by omega⟩) fun _ _ h => h
  have hEW1 : Ext w W1 := (hE.trans hE1).chg hcW fun i hi hh => by omega
  have hWsz : w.heap.size + 3 ≤ W1.heap.size := by rw [← hWs.out]; exact Nat.le_trans hE1.size hcW.size
  obtain ⟨R', hR'⟩ : ∃ R', R' = withoutG RE.name f.name R := ⟨_, rfl⟩
  rw [← hR'] at hRW1
  have hn1 := hRW1.len
  have hm1 := hRW1.many
  replace hn1 := hide hn1
  replace hR' := hide hR'
  clear hW1 hR1 g0 g1 g2 g3 fd0 fd1 fd2 fd3 d0 d1 d2 d3 f0 hd1 hRW
  go_wp2_with fail
  go_loopw [5, 6, 7] (fun s5 s6 s7 wr => ∃ (i n2 c2 : Nat) (A2 : Option Addr) (l : List RE) (put : Bool), s7 = .int .i64 i ∧ s5 = .slice A2 n2 c2 ∧ s6 = .bool put ∧ i ≤ n1 ∧ Hid ((put = true → n2 ≤ i + 1) ∧ (put = false → n2 ≤ i)) ∧ Hid (Ins f (R'.take i) l put) ∧ Hid (wr.ownsRow W1.heap.size 53 3 (.slice A2 n2 c2) n2 (rcells l)) ∧ Ext W1 wr) (fun _ _ s7 _ => n1 - (intOf s7).toNat)
  case atStart => exact ⟨0, 0, 0, none, [], false, rfl, rfl, rfl, by omega, hide ⟨fun _ => by omega, fun _ => by omega⟩, hide ⟨rfl, by simp⟩, hide (World.ownsRow_nil _ _ _ _), Ext.refl _⟩
  case round =>
    obtain ⟨i, n2, c2, A2, l, put, rfl, rfl, rfl, hi, hn2', hI, hO, hEr⟩ := hrel
    have c0r : wr.cell? ⟨w.heap.size, 0, none⟩ = some (.slice A1 n1 c1) := (hdW.ext hEr).cell 0 rfl
    have fr := hfW.ext hEr
    have f0r : wr.cell? ⟨w.heap.size + 1, 0, none⟩ = some (str f.name) := fr.cell 0 rfl
    have f1r : wr.cell? ⟨w.heap.size + 1, 1, none⟩ = some (.slice f.A f.b.length f.c) := fr.cell 1 rfl
    have f2r : wr.cell? ⟨w.heap.size + 1, 2, none⟩ = some (.int .i64 f.sure) := fr.cell 2 rfl
    unfold str at f0r
    by_cases hin : i < n1
    · obtain ⟨g, o, r, rfl, hr, kW0, kW1, kW2⟩ := hRW1.at_ hin
      unfold str at kW0
      have k0 := hEr.cell kW0
      have k1 := hEr.cell kW1
      have k2 := hEr.cell kW2
      have htk := take_one R' i r hr
      have hrs := (hRW1.ok r (List.mem_of_getElem? hr)).name
      have hlt := rless_any f.name r.name wr.drew hf.name hrs
      unfold str at hlt
      replace hr := hide hr
      replace htk := hide htk
      replace hlt := hide hlt
      have hO2 := hO.out
      have hsz := hEr.size
      cases put with
      | true =>
        have hn2 := hn2'.out.1 rfl
        have hI2 := hI.out.later (x := r)
        rw [← htk.out] at hI2
        replace hI2 := hide hI2
        have hO2d := World.ownsRow.drew hO2
        go_wp2_with fail
        refine wp_region_text follows (by kernel_rfl) (by kernel_rfl) (fun K hK => ?_)
        go_wp2_with fail
        refine ⟨by kernel_rfl, ?_⟩
        go_wp2_with (at_builtin; refine wpList_appS (us := [.string ⟨r.name.toArray⟩, .slice r.A r.b.length r.c, .int .i64 r.sure]) (m := 1) elemF hO2d (.tmp 36) (.tmp 42) rfl rfl rfl rfl rfl (one_of rfl) (by omega) hsz (fun A3 c3 w3 ho3 hg3 hl3 => ?_))
        have ho4 : Hid (w3.ownsRow W1.heap.size 53 3 (.slice A3 (n2 + 1) c3) (n2 + 1) (rcells (l ++ [r]))) := hide (by
          rw [rcells_append]
          exact ho3)
        have hE3 : Ext W1 w3 := hEr.drew.grown hg3 (own_ge hO2)
        go_roundw
        case rel => exact ⟨i + 1, n2 + 1, c3, A3, l ++ [r], true, by go_num, rfl, rfl, by omega, hide ⟨fun _ => by omega, nofun⟩, hI2, ho4, hE3⟩
        case measure => simp [intOf]; omega
      | false =>
        have hn2 := hn2'.out.2 rfl
        have hO2d := World.ownsRow.drew hO2
        by_cases hx : f.name < r.name
        · have hI2 := hI.out.now hx
          rw [← htk.out] at hI2
          replace hI2 := hide hI2
          have hlt2 := hlt.out
          rw [decide_eq_true hx] at hlt2
          replace hlt2 := hide hlt2
          replace hx := hide hx
          go_wp2_with fail
          refine wp_region_text follows (by kernel_rfl) (by kernel_rfl) (fun K hK => ?_)
          go_wp2_with fail
          refine hlt2.out.mono ?_
          rintro e w5 ⟨rfl, hE5⟩
          have hE5r : Ext wr w5 := (Ext.refl wr).drew.trans hE5
          have hE5W := hEr.trans hE5r
          have hO5 := hE5.owns hO2d
          have hsz5 := hE5W.size
          have c5 := hE5r.cell c0r
          have a5 := hE5r.cell f0r
          have b5 := hE5r.cell f1r
          have d5 := hE5r.cell f2r
          have hge := own_ge hO5
          replace hge := hide hge
          go_wp2_with fail
          refine ⟨by kernel_rfl, ?_⟩
          go_wp2_with (first | (at_builtin; refine wpList_appS (us := [.string ⟨f.name.toArray⟩, .slice f.A f.b.length f.c, .int .i64 f.sure]) (m := 1) elemF hO5 (.tmp 32) (.tmp 34) rfl rfl rfl rfl rfl (one_of rfl) (by omega) hsz5 (fun A3 c3 w3 ho3 hg3 hl3 => ?_); have hE3 : Ext W1 w3 := hE5W.grown hg3 hge.out; have hge3 := own_ge ho3; replace hge3 := hide hge3; have hsz3 := hE3.size; have m0 := hE3.cell kW0; have m1 := hE3.cell kW1; have m2 := hE3.cell kW2; have m3 : w3.cell? ⟨w.heap.size, 0, none⟩ = some (.slice (some ⟨g, o, none⟩) n1 c1) := (hdW.ext hE3).cell 0 rfl) | (at_builtin; refine wpList_appS (us := [.string ⟨r.name.toArray⟩, .slice r.A r.b.length r.c, .int .i64 r.sure]) (m := 1) elemF ho3 (.tmp 36) (.tmp 42) rfl rfl rfl rfl rfl (one_of rfl) (by omega) hsz3 (fun A4 c4 w4 ho4 hg4 hl4 => ?_)))
          have ho6 : Hid (w4.ownsRow W1.heap.size 53 3 (.slice A4 (n2 + 1 + 1) c4) (n2 + 1 + 1) (rcells (l ++ [f] ++ [r]))) := hide (by
            rw [rcells_append, rcells_append]
            exact ho4)
          have hE4 : Ext W1 w4 := hE3.grown hg4 hge3.out
          go_roundw
          case rel => exact ⟨i + 1, n2 + 1 + 1, c4, A4, l ++ [f] ++ [r], true, by go_num, rfl, rfl, by omega, hide ⟨fun _ => by omega, nofun⟩, hI2, ho6, hE4⟩
          case measure => simp [intOf]; omega
        · have hI2 := hI.out.past hx
          rw [← htk.out] at hI2
          replace hI2 := hide hI2
          have hlt2 := hlt.out
          rw [decide_eq_false hx] at hlt2
          replace hlt2 := hide hlt2
          replace hx := hide hx
          go_wp2_with fail
          refine wp_region_text follows (by kernel_rfl) (by kernel_rfl) (fun K hK => ?_)
          go_wp2_with fail
          refine hlt2.out.mono ?_
          rintro e w5 ⟨rfl, hE5⟩
          have hE5r : Ext wr w5 := (Ext.refl wr).drew.trans hE5
          have hE5W := hEr.trans hE5r
          have hO5 := hE5.owns hO2d
          have hsz5 := hE5W.size
          have c5 := hE5r.cell c0r
          have m0 := hE5W.cell kW0
          have m1 := hE5W.cell kW1
          have m2 := hE5W.cell kW2
          have hge := own_ge hO5
          replace hge := hide hge
          go_wp2_with fail
          refine ⟨by kernel_rfl, ?_⟩
          go_wp2_with (at_builtin; refine wpList_appS (us := [.string ⟨r.name.toArray⟩, .slice r.A r.b.length r.c, .int .i64 r.sure]) (m := 1) elemF hO5 (.tmp 36) (.tmp 42) rfl rfl rfl rfl rfl (one_of rfl) (by omega) hsz5 (fun A4 c4 w4 ho4 hg4 hl4 => ?_))
          have ho6 : Hid (w4.ownsRow W1.heap.size 53 3 (.slice A4 (n2 + 1) c4) (n2 + 1) (rcells (l ++ [r]))) := hide (by
            rw [rcells_append]
            exact ho4)
          have hE4 : Ext W1 w4 := hE5W.grown hg4 hge.out
          go_roundw
          case rel => exact ⟨i + 1, n2 + 1, c4, A4, l ++ [r], false, by go_num, rfl, rfl, by omega, hide ⟨nofun, fun _ => by omega⟩, hI2, ho6, hE4⟩
          case measure => simp [intOf]; omega
    · obtain rfl : i = n1 := by omega
      have hI2 := hI.out
      rw [List.take_of_length_le (by rw [← hn1.out]; exact Nat.le_refl _)] at hI2
      have hO2 := hO.out
      have hdr := hdW.ext hEr
      have hrr := hrW.ext hEr
      have c1r : wr.cell? ⟨w.heap.size, 1, none⟩ = some (.int .i64 q) := hdr.cell 1 rfl
      have c2r : wr.cell? ⟨w.heap.size, 2, none⟩ = some (.int .i64 a) := hdr.cell 2 rfl
      have c3r : wr.cell? ⟨w.heap.size, 3, none⟩ = some (.bool st) := hdr.cell 3 rfl
      have fd0 := hdr.free 0
      have fr0 := hrr.free 0
      have fr1 := hrr.free 1
      have fr2 := hrr.free 2
      have fr3 := hrr.free 3
      have e0 : wr.cell? ⟨w.heap.size + 1 + 1, 0, none⟩ = some (.slice none 0 0) := hrr.cell 0 rfl
      have e1 : wr.cell? ⟨w.heap.size + 1 + 1, 1, none⟩ = some (.int .i64 0) := hrr.cell 1 rfl
      have e2 : wr.cell? ⟨w.heap.size + 1 + 1, 2, none⟩ = some (.int .i64 0) := hrr.cell 2 rfl
      have e3 : wr.cell? ⟨w.heap.size + 1 + 1, 3, none⟩ = some (.bool false) := hrr.cell 3 rfl
      have hwit : withG RE.name f R = insG RE.name f R' := by rw [hR'.out]; rfl
      have hmem : ∀ x ∈ withG RE.name f R, ∀ wf, Ext w wf → ROk wf N x := fun x hx wf hwf => by
        rcases mem_with.1 hx with rfl | ⟨h1, _⟩
        · exact hf.ext hwf
        · exact (h.ok x h1).ext hwf
      have hgeN : ∀ k, k ≥ W1.heap.size → k ≠ w.heap.size ∧ k ≠ w.heap.size + 1 + 1 := fun k hk => ⟨by omega, by omega⟩
      replace hwit := hide hwit
      replace hmem := hide hmem
      replace hgeN := hide hgeN
      cases put with
      | true =>
        have hn2 := hn2'.out.1 rfl
        have hl : rcells l = rcells (withG RE.name f R) := by rw [hwit.out, hI2.1]
        rw [hl] at hO2
        replace hI2 := hide hI2
        replace hl := hide hl
        go_wp2_with fail
        have hfin := rdisk_out2 hrr hO2 (fun k hk => hgeN.out k (own_ge hO2 k hk)) (b := w.heap.size) (by omega) (hEW1.trans hEr) (Nat.le_refl _) (by omega) (q := q) (a := a) (st := st)
        obtain ⟨wf, hwf⟩ : ∃ wf, wf = (((((wr.setCell ⟨w.heap.size, 0, none⟩ (.slice A2 n2 c2)).setCell ⟨w.heap.size + 1 + 1, 0, none⟩ (.slice A2 n2 c2)).setCell ⟨w.heap.size + 1 + 1, 1, none⟩ (.int .i64 q)).setCell ⟨w.heap.size + 1 + 1, 2, none⟩ (.int .i64 a)).setCell ⟨w.heap.size + 1 + 1, 3, none⟩ (.bool st)) := ⟨_, rfl⟩
        rw [← hwf] at hfin ⊢
        obtain ⟨z0, z1, z2, z3, hEf, hof⟩ := hfin
        refine bodyPost_ret (v := .agg #[.slice A2 n2 c2, .int .i64 q, .int .i64 a, .bool st]) (by simp [results, Try.results57, go_sem, z0, z1, z2, z3]) rfl ⟨A2, n2, c2, rfl, ?_⟩
        exact ⟨RS.of_own (w := w) hof (by omega) hN (fun r hr => hmem.out r hr wf hEf) hcnt.out, hEf⟩
      | false =>
        have hn2 := hn2'.out.2 rfl
        have hl : rcells (l ++ [f]) = rcells (withG RE.name f R) := by rw [hwit.out, ins_none hI2.2, hI2.1]
        replace hI2 := hide hI2
        have hsz := hEr.size
        have hge := own_ge hO2
        replace hge := hide hge
        replace hl := hide hl
        go_wp2_with (at_builtin; refine wpList_appS (us := [.string ⟨f.name.toArray⟩, .slice f.A f.b.length f.c, .int .i64 f.sure]) (m := 1) elemF hO2 (.tmp 46) (.tmp 48) rfl rfl rfl rfl rfl (one_of rfl) (by omega) hsz (fun A3 c3 w3 ho3 hg3 hl3 => ?_); have hE3 : Ext W1 w3 := hEr.grown hg3 hge.out; have hd3 := hdW.ext hE3; have hr3 := hrW.ext hE3; have p0 := hd3.free 0; have p1 := hr3.free 0; have p2 := hr3.free 1; have p3 := hr3.free 2; have p4 := hr3.free 3; have t0 : w3.cell? ⟨w.heap.size, 0, none⟩ = some (.slice A1 i c1) := hd3.cell 0 rfl; have t1 : w3.cell? ⟨w.heap.size, 1, none⟩ = some (.int .i64 q) := hd3.cell 1 rfl; have t2 : w3.cell? ⟨w.heap.size, 2, none⟩ = some (.int .i64 a) := hd3.cell 2 rfl; have t3 : w3.cell? ⟨w.heap.size, 3, none⟩ = some (.bool st) := hd3.cell 3 rfl; have u0 : w3.cell? ⟨w.heap.size + 1 + 1, 0, none⟩ = some (.slice none 0 0) := hr3.cell 0 rfl; have u1 : w3.cell? ⟨w.heap.size + 1 + 1, 1, none⟩ = some (.int .i64 0) := hr3.cell 1 rfl; have u2 : w3.cell? ⟨w.heap.size + 1 + 1, 2, none⟩ = some (.int .i64 0) := hr3.cell 2 rfl; have u3 : w3.cell? ⟨w.heap.size + 1 + 1, 3, none⟩ = some (.bool false) := hr3.cell 3 rfl)
        have ho6 : w3.ownsRow W1.heap.size 53 3 (.slice A3 (n2 + 1) c3) (n2 + 1) (rcells (withG RE.name f R)) := by
          rw [← hl.out, rcells_append]
          exact ho3
        have hfin := rdisk_out2 hr3 ho6 (fun k hk => hgeN.out k (own_ge ho6 k hk)) (b := w.heap.size) (by omega) (hEW1.trans hE3) (Nat.le_refl _) (by omega) (q := q) (a := a) (st := st)
        obtain ⟨wf, hwf⟩ : ∃ wf, wf = (((((w3.setCell ⟨w.heap.size, 0, none⟩ (.slice A3 (n2 + 1) c3)).setCell ⟨w.heap.size + 1 + 1, 0, none⟩ (.slice A3 (n2 + 1) c3)).setCell ⟨w.heap.size + 1 + 1, 1, none⟩ (.int .i64 q)).setCell ⟨w.heap.size + 1 + 1, 2, none⟩ (.int .i64 a)).setCell ⟨w.heap.size + 1 + 1, 3, none⟩ (.bool st)) := ⟨_, rfl⟩
        rw [← hwf] at hfin ⊢
        obtain ⟨z0, z1, z2, z3, hEf, hof⟩ := hfin
        refine bodyPost_ret (v := .agg #[.slice A3 (n2 + 1) c3, .int .i64 q, .int .i64 a, .bool st]) (by simp [results, Try.results57, go_sem, z0, z1, z2, z3]) rfl ⟨A3, n2 + 1, c3, rfl, ?_⟩
        exact ⟨RS.of_own (w := w) hof (by omega) hN (fun r hr => hmem.out r hr wf hEf) hcnt.out, hEf⟩
end Go.Proofs.Yticnncgbfpgeaaa
