/- Texts of one proof, joined. -/
import Derived.Test.YtkdcnhnaiknaaaaGreatFD13
import Derived.Test.YtkdcnhnaiknaaaaGreatFD12
import Derived.Test.YtkdcnhnaiknaaaaGreatFD14
import Derived.Test.YtkdcnhnaiknaaaaGreatFD11
import Derived.Test.YtkdcnhnaiknaaaaGreatFD03
import Derived.Test.YtkdcnhnaiknaaaaGreatFD02
import Derived.Deep.RegionHeld3
set_option linter.unusedSimpArgs false
set_option linter.unusedVariables false
namespace Go.Proofs.YtkdcnhnaiknaaaaGreat
section
open Go.RowKit Go.Maps
set_option maxRecDepth 100000 in
theorem elemPost : Elem Tryz.prog 43 107 2 32 := ⟨Tryz.underlying43, ⟨_, _, rfl, rfl, rfl, rfl, rfl⟩, by omega, by omega⟩
def IdxM (w : World) (M : Nat) (rows : List (List UInt8 × List Po)) : Prop := ∃ L, MapL Tryz.prog 9 w M L ∧ ∀ r ∈ rows, ∃ (ps : List PoC) (A : Option Addr) (c : Nat), (strV r.1, Value.slice A ps.length c) ∈ L ∧ psP ps = r.2 ∧ PosOk w A ps ∧ (∀ a, A = some a → a.spot = none) ∧ ps.length ≤ c
def NewX (w : World) (rows : List (List UInt8 × List Po)) (e : Ending) (w' : World) : Prop := ∃ B n c M, e = .returned (.tuple #[.slice B n c, .map (some M)]) ∧ n = rows.length ∧ Buf w' w.heap.size 9 B n c (rows.map fun r => strV r.1) ∧ IdxM w' M rows ∧ Ext w w'
theorem step_appY {P : Program} {ops : Array Oper} {o : Oper} {a : Act} {w0 : World} {K : Act → World → Prop} {Q : Exit → Act → World → Prop} {E0 : Prop} {us : List Value} {T : TypeId} {t e size bytes m k : Nat} (E : Elem P t e size bytes) (hgd : o.guard = none)
    {base : Nat} {v : Value} {n : Nat} {xs : List Value} (hown : w0.ownsRow base e size v n xs) (hk : k = w0.heap.size) (s x : Operand)
    (ho : o.op = .call { callee := .builtin .append, args := #[s, x], argTypes := #[t, t] })
    (hs : a.eval s = v) (hx : a.eval x = .slice (some ⟨k, 0, none⟩) m m) (hl : us.length = m * size) (h1 : ∀ u ∈ us, u.oneCell' = true) (hsz : n + m ≤ 4294967296) (hbase : base ≤ w0.heap.size)
    (h : ∀ A1 c1 w', w'.ownsRow base e size (.slice A1 (n + m) c1) (n + m) (xs ++ us) → w0.grownBy w' v.ownBlock → ((Value.slice A1 (n + m) c1).ownBlock = v.ownBlock ∨ ∃ k, (Value.slice A1 (n + m) c1).ownBlock = some k ∧ w0.heap.size ≤ k) → K (a.put o.dst (.slice A1 (n + m) c1)) w') :
    if Region.wanted o (yielded ops a.tmps) = true then Oper.wp P o a (w0.alloc (.cells us.toArray T)) K Q else E0 := by
  subst hk
  have hr : Cells (w0.alloc (.cells us.toArray T)) (some ⟨w0.heap.size, 0, none⟩) us := .inr ⟨w0.heap.size, 0, rfl, fun i u hu => by
    rw [Nat.zero_add, cell_of_row _ _ _ _ _ _ (heap_alloc_new w0 _)]
    simpa using hu⟩
  rw [if_pos (by simp [Region.wanted, hgd])]
  obtain ⟨A1, c1, w', hrun, h2, h3, h4⟩ := run_app (P := P) E _ o.type (((Ext.refl w0).alloc _).owns hown) (c := m) hr hl h1 hsz (by simp; omega)
  unfold Oper.wp execOp
  simp only [ho, resolve, invoke, builtin, Sem.run_bind, Sem.run_pure, Result.andThen_ok, List.map_toArray, List.map_cons, List.map_nil, hs, hx, hrun]
  refine h A1 c1 w' h2 ⟨h3.os, h3.tape, h3.output, Nat.le_trans (by simp) h3.size, fun k hk hne => (h3.block k (by simp; omega) hne).trans (Below.heap_alloc w0 _ k hk)⟩ ?_
  rcases h4 with h4 | h4
  · exact .inl h4
  · exact .inr ⟨_, h4, by simp⟩
theorem tm_at {w w1 : World} {base n c : Nat} {A : Option Addr} {D : List TmV} (h : w.ownsRow base 150 2 (.slice A n c) n (tcs D)) (hk : ∀ g cs, Row w g 150 cs → Row w1 g 150 cs) {i : Nat} {x : TmV} (hx : D[i]? = some x) :
    ∃ g, A = some ⟨g, 0, none⟩ ∧ w1.cell? ⟨g, i * 2, none⟩ = some (.string ⟨x.1.toArray⟩) ∧ w1.cell? ⟨g, i * 2 + 1, none⟩ = some (.slice x.2.1 x.2.2.1 x.2.2.2) := by
  obtain ⟨g, cur, hA, _, hr, h0, h1⟩ := tcs_at h hx
  have hr1 := hk g cur hr
  refine ⟨g, hA, ?_, ?_⟩
  · rw [hr1.get, ← hr.get]; exact h0
  · rw [hr1.get, ← hr.get]; exact h1
theorem buf_rows {w w1 : World} {base n c : Nat} {e : TypeId} {A : Option Addr} {xs : List Value} (h : Buf w base e A n c xs) (hk : ∀ g cs, Row w g e cs → Row w1 g e cs) : Buf w1 base e A n c xs := by
  obtain ⟨h1, h2, h3⟩ := h
  refine ⟨h1, h2, ?_⟩
  rcases h3 with h3 | ⟨g, cur, hA, hb, hg, r⟩
  · exact .inl h3
  · exact .inr ⟨g, cur, hA, hb, hk g cur hg, r⟩
set_option maxRecDepth 100000 in
theorem elemStr : Elem Tryz.prog 23 9 1 16 := ⟨Tryz.underlying23, ⟨_, _, rfl, rfl, rfl, rfl, rfl⟩, by omega, by omega⟩
theorem nodup_of_map2 {α β : Type} (f : α → β) {l : List α} (h : (l.map f).Nodup) : l.Nodup := by
  rw [List.nodup_iff_pairwise_ne, List.pairwise_map] at h
  rw [List.nodup_iff_pairwise_ne]
  exact h.imp fun h e => h (by rw [e])
theorem sub_len2 {α : Type} : ∀ (D E : List α), D.Nodup → (∀ e ∈ D, e ∈ E) → D.length ≤ E.length
  | [], E, _, _ => Nat.zero_le _
  | a :: D, E, hn, hs => by
    rw [List.nodup_cons] at hn
    obtain ⟨E1, E2, rfl⟩ := List.append_of_mem (hs a (by simp))
    have := sub_len2 D (E1 ++ E2) hn.2 fun e he => by
      have h1 := hs e (List.mem_cons_of_mem _ he)
      rcases List.mem_append.1 h1 with h2 | h2
      · exact List.mem_append_left _ h2
      · rcases List.mem_cons.1 h2 with h3 | h3
        · exact absurd (h3 ▸ he) hn.1
        · exact List.mem_append_right _ h3
    simp only [List.length_append, List.length_cons] at *
    omega
set_option maxRecDepth 100000 in
set_option maxHeartbeats 4000000 in
theorem index_any (ds : List DocC) (A : Option Addr) (m c : Nat) (w : World) (hm : m = ds.length) (h : DocsOk w A ds) (hle : m ≤ 65536) (hT : (pairsD 0 (dcs ds)).length ≤ 1000000) :
    Calls Tryz.prog 39 #[.slice A m c] w fun e w' => NewX w (rowsD (dcs ds)) e w' := by
  have hterms := hide (fun (x : DocC) (W : World) (hx : x.e.Ok W x.A) => terms_any x.e x.A x.c W hx)
  replace h := hide h
  replace hm := hide hm
  replace hT := hide hT
  have hmm := @run_makeMap Tryz.prog
  go_enter Tryz.func39, Tryz.ntmps39
  go_wp2_with fail
  obtain ⟨W1, hW1⟩ : ∃ W1, W1 = w.alloc (.map #[] 0) := ⟨_, rfl⟩
  rw [← hW1]
  have hE1 : Ext w W1 := by rw [hW1]; exact (Ext.refl w).alloc _
  have hI1 : IX w.heap.size w.heap.size [] [] W1 := by rw [hW1]; exact IX.new
  obtain ⟨M, hM⟩ : ∃ M, M = w.heap.size := ⟨_, rfl⟩
  rw [← hM]
  rw [← hM] at hI1
  replace hW1 := hide hW1
  replace hM := hide hM
  go_loopw [14] (fun s14 wr => ∃ (i : Nat) (E : List IdE), s14 = .int .i64 (i : Int) ∧ i ≤ m ∧ Hid (IX M M (pairsD 0 (dcs (ds.take i))) E wr) ∧ Hid (Ext w wr)) (fun s14 _ => m - (intOf s14).toNat)
  case atStart => exact ⟨0, [], rfl, by omega, hide hI1, hide hE1⟩
  case round =>
    obtain ⟨i, E, rfl, hi, hI, hE⟩ := hrel
    by_cases hin : i < m
    · obtain ⟨x, hx⟩ : ∃ x, ds[i]? = some x := ⟨_, List.getElem?_eq_getElem (by rw [← hm.out]; exact hin)⟩
      have hok := h.out.ext hE.out
      obtain ⟨g, o, hA, x0, x1, x2⟩ := dcells_at hok.cells hx
      subst hA
      have hxo := (hok.each x (List.mem_of_getElem? hx)).1
      replace hxo := hide hxo
      replace hx := hide hx
      clear hok
      have hxi : x.e.val x.A x.c = .agg #[.int .i64 x.e.at_, .slice x.A x.e.fs.length x.c] := rfl
      have htx := hterms.out x
      rw [hxi] at htx
      have hst : pairsD 0 (dcs (ds.take (i + 1))) = pairsD 0 (dcs (ds.take i)) ++ (termsL x.e).map (fun p => (p.1, ((i : Int), p.2))) := by
        have h1 : dcs (ds.take (i + 1)) = dcs (ds.take i) ++ [x.dc] := by rw [List.take_add_one, hx.out]; unfold dcs; rw [List.map_append]; rfl
        have h2 : (dcs (ds.take i)).length = i := by unfold dcs; rw [List.length_map, List.length_take, ← hm.out]; omega
        rw [h1, pairsD_app, h2, Nat.zero_add]
        show _ ++ (_ ++ []) = _
        rw [List.append_nil]
        rfl
      replace hst := hide hst
      replace htx := hide htx
      clear hxi
      go_wp2_with fail
      obtain ⟨W5, hW5⟩ : ∃ W5, W5 = wr.alloc (Obj.cells #[Value.int IntKind.i64 x.seq, Value.int IntKind.i64 x.e.at_, Value.slice x.A x.e.fs.length x.c] 39) := ⟨_, rfl⟩
      have hE5 : Ext wr W5 := by rw [hW5]; exact (Ext.refl wr).alloc _
      rw [← hW5]
      refine (htx.out W5 (hxo.out.ext hE5)).mono ?_
      rintro e w6 ⟨LT, DT, D, rfl, hoT, hTm, hE6⟩
      have hTl := hTm.len
      obtain ⟨T, hTd⟩ : ∃ T, T = termsL x.e := ⟨_, rfl⟩
      rw [← hTd] at hTl hTm
      have hTk : ∀ p ∈ T, 1 ≤ p.1.length ∧ p.1.length ≤ 65 ∧ p.2.length ≤ 65536 := fun p hp => by
        rw [hTd] at hp
        exact ⟨(termsL_key hp).1, (termsL_key hp).2, termsL_pl hp⟩
      have hT9 : T.length ≤ 65536 := by rw [hTd]; exact termsL_len _
      rw [← hTd] at hst
      obtain ⟨nd, hnd⟩ : ∃ nd, nd = D.length := ⟨_, rfl⟩
      rw [← hnd] at hoT hTl ⊢
      have hnd9 : nd ≤ 65536 := by rw [hTl]; exact hT9
      have hI6 := hide ((hI.out.ext hE5).ext hE6)
      have hE06 := hide ((hE.out.trans hE5).trans hE6)
      have hM5 : M ≤ W5.heap.size := by rw [hM.out]; exact (hE.out.trans hE5).size
      replace hoT := hide hoT
      replace hTm := hide hTm
      replace hTk := hide hTk
      replace hnd := hide hnd
      replace hTl := hide hTl
      clear hTd hE5 hW5 htx
      go_wp2_with fail
      go_loopw [23] (fun s23 wr => ∃ (j : Nat) (E : List IdE), s23 = .int .i64 (j : Int) ∧ j ≤ nd ∧ Hid (IX M M (pairsD 0 (dcs (ds.take i)) ++ ((T.map fun p => (p.1, ((i : Int), p.2))).take j)) E wr) ∧ Hid (Ext w wr) ∧ Hid (∀ g t cs, t ≠ 107 → Row w6 g t cs → Row wr g t cs)) (fun s23 _ => nd - (intOf s23).toNat)
      case atStart => exact ⟨0, E, rfl, by omega, by rw [List.take_zero, List.append_nil]; exact hI6, hE06, hide (fun _ _ _ _ h => h)⟩
      case round =>
        obtain ⟨j, E', rfl, hj, hI2, hE2, hK2⟩ := hrel
        by_cases hjn : j < nd
        · obtain ⟨⟨ys, yA, yn, yc⟩, hy⟩ : ∃ y, D[j]? = some y := ⟨_, List.getElem?_eq_getElem (by rw [← hnd.out]; exact hjn)⟩
          obtain ⟨⟨ts, tl⟩, ht⟩ : ∃ p, T[j]? = some p := ⟨_, List.getElem?_eq_getElem (by rw [← hTl.out]; exact hjn)⟩
          obtain ⟨hs, hby⟩ := hTm.out.each j _ _ hy ht
          simp only at hs hby
          subst hs
          have htl := hTk.out _ (List.mem_of_getElem? ht)
          simp only at htl
          have hyn : tl.length = yn := by have := hby.1; rwa [List.length_map] at this
          subst hyn
          obtain ⟨gT, hgT, z0, z1⟩ := tm_at hoT.out (fun g cs hr => hK2.out g _ cs (by decide) hr) hy
          subst hgT
          simp only at z0 z1
          have hpo : posAt M wr ⟨(i : Int), tl, yA, yc⟩ := ⟨(buf_rows hby (fun g cs hr => hK2.out g _ cs (by decide) hr)).lower hM5, by show tl.length ≤ _; omega⟩
          obtain ⟨xe, hxg, hxo', hxp, hlk⟩ := hI2.out.get ys (by omega)
          have hstj : pairsD 0 (dcs (ds.take i)) ++ ((T.map fun p => (p.1, ((i : Int), p.2))).take (j + 1)) = (pairsD 0 (dcs (ds.take i)) ++ ((T.map fun p => (p.1, ((i : Int), p.2))).take j)) ++ [(ys, ((i : Int), tl))] := by
            rw [List.take_add_one, List.getElem?_map, ht, List.append_assoc]; rfl
          replace hstj := hide hstj
          replace hy := hide hy
          replace ht := hide ht
          replace hby := hide hby
          replace hpo := hide hpo
          replace hxg := hide hxg
          replace hxo' := hide hxo'
          replace hxp := hide hxp
          replace hlk := hide hlk
          go_wp2_with fail
          obtain ⟨Wt, hWt⟩ : ∃ Wt, Wt = wr.alloc (Obj.cells #[Value.string ⟨ys.toArray⟩, Value.slice yA tl.length yc] 150) := ⟨_, rfl⟩
          rw [← hWt]
          obtain ⟨g8, hg8⟩ : ∃ g8, g8 = wr.heap.size := ⟨_, rfl⟩
          rw [← hg8]
          have hEt : Ext wr Wt := by rw [hWt]; exact (Ext.refl wr).alloc _
          have r8 : Row Wt g8 150 #[Value.string ⟨ys.toArray⟩, Value.slice yA tl.length yc] := by rw [hWt, hg8]; exact Row.new wr _ _
          have hl1 := hlk.out Wt.drew hEt.drew
          have hl2 := hlk.out (Wt.drew.alloc (Obj.cells #[Value.int .i64 (i : Int), Value.slice yA tl.length yc] 107)) (hEt.drew.alloc _)
          have hl3 : (Instr.lookup 91 (.map (some M)) (strV ys) false).run Tryz.prog (Wt.alloc (Obj.cells #[Value.int .i64 (i : Int), Value.slice yA tl.length yc] 107)).drew = .ok (.slice xe.A xe.ps.length xe.c) (Wt.alloc (Obj.cells #[Value.int .i64 (i : Int), Value.slice yA tl.length yc] 107)).drew := hl2
          unfold strV at hl1 hl3
          clear hl2
          have hS0 : Wt.drew.cell? ⟨g8, 0, none⟩ = some (.string ⟨ys.toArray⟩) ∧ Wt.drew.cell? ⟨g8, 1, none⟩ = some (.slice yA tl.length yc) := ⟨r8.cell 0 rfl, r8.cell 1 rfl⟩
          have r8b : Row (Wt.drew.alloc (Obj.cells #[Value.int .i64 (i : Int), Value.slice yA tl.length yc] 107)) g8 150 #[Value.string ⟨ys.toArray⟩, Value.slice yA tl.length yc] := r8.drew.alloc _
          have hS1 : (Wt.drew.alloc (Obj.cells #[Value.int .i64 (i : Int), Value.slice yA tl.length yc] 107)).cell? ⟨g8, 0, none⟩ = some (.string ⟨ys.toArray⟩) ∧ (Wt.drew.alloc (Obj.cells #[Value.int .i64 (i : Int), Value.slice yA tl.length yc] 107)).cell? ⟨g8, 1, none⟩ = some (.slice yA tl.length yc) := ⟨r8b.cell 0 rfl, r8b.cell 1 rfl⟩
          have howt := hide (hEt.drew.owns hxo'.out)
          have hszt : M ≤ Wt.drew.heap.size := by rw [hM.out]; exact (hE2.out.trans hEt.drew).size
          replace hS0 := hide hS0
          replace hS1 := hide hS1
          replace r8 := hide r8
          replace hWt := hide hWt
          replace hg8 := hide hg8
          replace hEt := hide hEt
          clear r8b
          have hxl : xe.ps.length ≤ 1000000 := by
            have h1 : xe.ps.length = (psP xe.ps).length := by unfold psP; rw [List.length_map]
            rw [h1, hxp.out]
            refine Nat.le_trans (vals_len _ _) ?_
            have h2 : pairsD 0 (dcs ds) = pairsD 0 (dcs (ds.take (i + 1))) ++ pairsD (0 + (dcs (ds.take (i + 1))).length) (dcs (ds.drop (i + 1))) := by
              rw [← pairsD_app]
              congr 1
              unfold dcs
              rw [← List.map_append, List.take_append_drop]
            have h3 := hT.out
            rw [h2, hst.out] at h3
            simp only [List.length_append, List.length_take] at h3 ⊢
            omega
          have hmu : ∀ w8 A8 c8, Wt.drew.grownBy w8 (Value.slice xe.A xe.ps.length xe.c).ownBlock → w8.ownsRow M 107 2 (.slice A8 (xe.ps.length + 1) c8) (xe.ps.length + 1) (pcells xe.ps ++ [Value.int .i64 (i : Int), Value.slice yA tl.length yc]) → ((Value.slice A8 (xe.ps.length + 1) c8).ownBlock = (Value.slice xe.A xe.ps.length xe.c).ownBlock ∨ ∃ k, (Value.slice A8 (xe.ps.length + 1) c8).ownBlock = some k ∧ Wt.drew.heap.size ≤ k) →
              ∃ w9, (Instr.mapUpdate 91 (.map (some M)) (.string ⟨ys.toArray⟩) (.slice A8 (xe.ps.length + 1) c8)).run Tryz.prog w8 = .ok () w9 ∧ (w8.cell? ⟨g8, 0, none⟩ = some (.string ⟨ys.toArray⟩) ∧ w8.cell? ⟨g8, 1, none⟩ = some (.slice yA tl.length yc)) ∧ (w9.cell? ⟨g8, 0, none⟩ = some (.string ⟨ys.toArray⟩) ∧ w9.cell? ⟨g8, 1, none⟩ = some (.slice yA tl.length yc)) ∧ (∃ E9, IX M M (pairsD 0 (dcs (ds.take i)) ++ ((T.map fun p => (p.1, ((i : Int), p.2))).take (j + 1))) E9 w9) ∧ Ext w w9 ∧ (∀ g t cs, t ≠ 107 → Row w6 g t cs → Row w9 g t cs) := fun w8 A8 c8 hg ho hl => by
            have hIt := hI2.out.ext hEt.out.drew
            obtain ⟨L, hL, hm⟩ := hIt.map
            have hL8 := hL.grown hg (map_not_own hL howt.out)
            obtain ⟨w9, L', hrun, hML, hput, hg9, hs9⟩ := hL8.update keyST Tryz.underlying91 (key_strV (s := ys) (by omega)) (.slice A8 (xe.ps.length + 1) c8)
            have hr9 : ∀ g t cs, t ≠ 107 → Row Wt.drew g t cs → Row w9 g t cs := fun g t cs ht hr => by
              have q := og_row howt.out hg hr ht
              exact q.grown hg9 fun e => map_not_row hL8 q (by injection e)
            have r8d := r8.out.drew
            have q8 := og_row howt.out hg r8d (by decide)
            have q9 := hr9 _ _ _ (by decide) r8d
            have hIXp := hIt.put (w9 := w9) (y := ⟨(i : Int), tl, yA, yc⟩) hxg.out howt.out hxp.out hg ho hl ⟨hpo.out.1.ext hEt.out.drew, hpo.out.2⟩ (fun L1 hL1 hm1 => by
                obtain rfl := hL8.same hL1
                exact ⟨L', hML, hput, hg9⟩)
            have hIXq := hIXp
            show ∃ _, _
            rw [show (PoC.po ⟨(i : Int), tl, yA, yc⟩) = ((i : Int), tl) from rfl, ← hstj.out] at hIXq
            refine ⟨w9, hrun, ⟨q8.cell 0 rfl, q8.cell 1 rfl⟩, ⟨q9.cell 0 rfl, q9.cell 1 rfl⟩, ⟨_, hIXq⟩, ?_, fun g t cs ht hr => hr9 g t cs ht ((hK2.out g t cs ht hr).ext hEt.out.drew)⟩
            · exact (og_ext howt.out hg (hE2.out.trans hEt.out.drew) (by rw [hM.out]; exact Nat.le_refl _)).grown hg9 fun k hk => by
                injection hk with hk
                rw [← hk, hM.out]; exact Nat.le_refl _
          replace hmu := hide hmu
          go_region_held3 (fun x => x.cell? ⟨g8, 0, none⟩ = some (.string ⟨ys.toArray⟩) ∧ x.cell? ⟨g8, 1, none⟩ = some (.slice yA tl.length yc)) (first | exact hS0.out | exact hS1.out | exact hS8 | exact hS9) (first | (refine step_appY (us := [.int .i64 (i : Int), .slice yA tl.length yc]) (m := 1) elemPost rfl howt.out rfl (.tmp 33) (.tmp 38) rfl rfl rfl rfl (by simp [Value.oneCell']) (by omega) hszt (fun A9 c9 w8 ho8 hgr8 hl8 => ?_); obtain ⟨w9, hup, hS8, hS9, hIX9, hE9, hK9⟩ := hmu.out w8 A9 c9 hgr8 ho8 hl8))
          all_goals (go_wp2_with fail)
          all_goals (obtain ⟨E9, hIX9⟩ := hIX9; exact ⟨⟨j + 1, E9, by first | rfl | (congr 1; omega), by omega, hide hIX9, hide hE9, hide hK9⟩, by simp only [intOf]; omega⟩)
        · have hTt : (T.map fun p => (p.1, ((i : Int), p.2))).take j = T.map fun p => (p.1, ((i : Int), p.2)) := List.take_of_length_le (by rw [List.length_map, ← hTl.out]; omega)
          rw [hTt, ← hst.out] at hI2
          go_wp2_with fail
          exact ⟨⟨i + 1, E', by first | rfl | (congr 1; omega), by omega, hI2, hE2⟩, by simp only [intOf]; omega⟩
    · have hall : ds.take i = ds := List.take_of_length_le (by rw [← hm.out]; omega)
      rw [hall] at hI
      obtain ⟨wo, hwo⟩ : ∃ wo, wo = wr := ⟨_, rfl⟩
      subst hwo
      have hrows : rowsD (dcs ds) = grp (pairsD 0 (dcs ds)) := rfl
      obtain ⟨PS, hPS⟩ : ∃ PS, PS = pairsD 0 (dcs ds) := ⟨_, rfl⟩
      rw [← hPS] at hI hrows hT
      obtain ⟨R, hR⟩ : ∃ R, R = rowsD (dcs ds) := ⟨_, rfl⟩
      rw [← hR] at hrows
      obtain ⟨L, hL, hmem⟩ := hI.out.map
      obtain ⟨ob, hrange, hRL⟩ := hL.range Tryz.underlying91
      have hE0 : Ext wo (wo.alloc ob) := (Ext.refl wo).alloc ob
      obtain ⟨rb, hrb⟩ : ∃ rb, rb = wo.heap.size := ⟨_, rfl⟩
      have hsz0 : rb + 1 ≤ (wo.alloc ob).heap.size := by rw [hrb]; simp
      have hMlt : M < rb := by rw [hrb]; exact hL.lt
      rw [← hrb] at hrange hRL
      replace hmem := hide hmem
      replace hrb := hide hrb
      replace hPS := hide hPS
      replace hR := hide hR
      replace hrows := hide hrows
      obtain ⟨Wq, hWq⟩ : ∃ Wq, Wq = wo.alloc ob := ⟨_, rfl⟩
      rw [← hWq] at hrange hRL hE0 hsz0
      replace hRL := hide hRL
      replace hE0 := hide hE0
      replace hWq := hide hWq
      replace hL := hide hL
      go_wp2_with fail
      go_loopw [9] (fun s9 wr => ∃ (D : List IdE) (n : Nat) (A : Option Addr) (c : Nat), s9 = .slice A n c ∧ Hid (n = D.length) ∧ Hid (wr.ownsRow (rb + 1) 9 1 (.slice A n c) n (D.map fun e => strV e.s)) ∧ Hid (RangeL Tryz.prog 9 wr M rb L (D.map fun e => strV e.s)) ∧ Hid (∀ e ∈ D, e ∈ E) ∧ rb + 1 ≤ wr.heap.size ∧ Hid (Ext wo wr)) (fun _ wr => wr.rangeLeft M rb)
      case atStart => exact ⟨[], 0, none, 0, rfl, hide rfl, hide (World.ownsRow_nil _ _ _ _), hRL, hide (by simp), hsz0, hE0⟩
      case round =>
        obtain ⟨D, n, A, c, rfl, hnD, hO, hRg, hD, hsz, hEq⟩ := hrel
        have hDs : (D.map (·.s)).Nodup := by
          have := hRg.out.dn
          have h2 : (D.map fun e => strV e.s) = (D.map (·.s)).map strV := by rw [List.map_map]; rfl
          rw [h2] at this
          exact nodup_of_map2 strV this
        have hDle : D.length ≤ 1000000 := by
          have h1 := sub_len2 (D.map (·.s)) (PS.map (·.1)) hDs fun t ht => by
            obtain ⟨e, he, rfl⟩ := List.mem_map.1 ht
            have h3 := hI.out.own e (hD.out e he)
            have h4 : valsOf PS e.s ≠ [] := by rw [← h3.2.1]; unfold psP; simpa using h3.2.2
            obtain ⟨q, hq, hqs⟩ := vals_ne h4
            exact List.mem_map.2 ⟨q, hq, hqs⟩
          rw [List.length_map, List.length_map] at h1
          have := hT.out
          omega
        replace hDle := hide hDle
        rcases hRg.out.next 0 with ⟨hrun, hall⟩ | ⟨x, v, w2, hxv, hxd, hrun, hR2, hg2, hs2, hent, hleft⟩
        · have hbuf : Buf wr (rb + 1) 9 A n c ((D.map (·.s)).map strV) := by
            rw [List.map_map]
            exact Buf.of_own hO.out
          have hn2 : n ≤ 1000000 := by rw [hnD.out]; exact hDle.out
          have hss : sortK (D.map (·.s)) = R.map (·.1) := by
            have hgo := grp_ok PS
            rw [← hrows.out] at hgo
            refine sortK_of ?_ (by rw [List.pairwise_map]; exact hgo.up)
            refine (List.perm_ext_iff_of_nodup hDs ?_).2 fun t => ?_
            · rw [List.nodup_iff_pairwise_ne, List.pairwise_map]
              exact hgo.up.imp fun h e => by rw [e] at h; exact List.lt_irrefl _ h
            · constructor
              · intro ht
                obtain ⟨e, he, rfl⟩ := List.mem_map.1 ht
                have h3 := hI.out.own e (hD.out e he)
                exact List.mem_map.2 ⟨(e.s, psP e.ps), (hgo.mem _).2 ⟨h3.2.1, by unfold psP; simpa using h3.2.2⟩, rfl⟩
              · intro ht
                obtain ⟨r, hr, rfl⟩ := List.mem_map.1 ht
                have h3 := (hgo.mem r).1 hr
                have h4 : valsOf PS r.1 ≠ [] := by rw [← h3.1]; exact h3.2
                obtain ⟨q, hq, hqs⟩ := vals_ne h4
                obtain ⟨y, hy, hys⟩ := hI.out.all q hq
                have h5 := hall _ ((hmem.out _).2 ⟨y, hy, rfl⟩)
                obtain ⟨e, he, hes⟩ := List.mem_map.1 h5
                exact List.mem_map.2 ⟨e, he, by rw [strV_inj hes, hys, hqs]⟩
          replace hss := hide hss
          have hs := ssort_any (rb + 1) A n c (D.map (·.s)) wr (by rw [List.length_map]; exact hnD.out) hbuf (by omega)
          have hnR : n = R.length := by
            have h1 := congrArg List.length hss.out
            rw [List.length_map, (sortK_perm _).length_eq, List.length_map] at h1
            rw [hnD.out, h1]
          replace hnR := hide hnR
          have hbl := hbuf.base_le
          replace hs := hide hs
          replace hbuf := hide hbuf
          replace hDs := hide hDs
          go_wp2_with fail
          refine hs.out.mono ?_
          rintro e w3 ⟨rfl, hb3, hc3⟩
          have hE3 : Ext wo w3 := hEq.out.chg hc3 (by
            rintro i hi ⟨a, ha, hk⟩
            have := hbl a ha
            have := hrb.out
            omega)
          replace hE3 := hide hE3
          replace hb3 := hide hb3
          clear hc3
          go_wp2_with fail
          go_ret2
          rw [← hR.out]
          refine ⟨A, n, c, M, rfl, hnR.out, ?_, ⟨L, hL.out.ext hE3.out, fun r hr => ?_⟩, hE.out.trans hE3.out⟩
          · have h1 : (R.map fun r => strV r.1) = (sortK (D.map (·.s))).map strV := by rw [hss.out, List.map_map]; rfl
            rw [h1]
            exact hb3.out.lower (by have := hM.out; omega)
          · have hgo := grp_ok PS
            rw [← hrows.out] at hgo
            have h3 := (hgo.mem r).1 hr
            have h4 : valsOf PS r.1 ≠ [] := by rw [← h3.1]; exact h3.2
            obtain ⟨q, hq, hqs⟩ := vals_ne h4
            obtain ⟨y, hy, hys⟩ := hI.out.all q hq
            have h5 := hI.out.own y hy
            have h6 := owns_cap h5.1
            refine ⟨y.ps, y.A, y.c, (hmem.out _).2 ⟨y, hy, by rw [hys, hqs]; rfl⟩, by rw [h5.2.1, hys, hqs, ← h3.1], ⟨Cells.of_own (hE3.out.owns h5.1), fun z hz => ?_⟩, h6.2, h6.1⟩
            have h7 := hI.out.pos y hy z hz
            exact ⟨(h7.1.ext hE3.out).cells, h7.2⟩
        · obtain ⟨e0, he0, hkv⟩ := (hmem.out _).1 hxv
          injection hkv with hx1 hv1
          subst hx1
          subst hv1
          have hE2 : Ext wo w2 := hEq.out.grown hg2 (fun k hk => by injection hk with hk; rw [← hk, hrb.out]; exact Nat.le_refl _)
          have hsz2 : rb + 1 ≤ w2.heap.size := by rw [hs2]; exact hsz
          have hO2 : w2.ownsRow (rb + 1) 9 1 (.slice A n c) n (D.map fun e => strV e.s) := by
            refine (Chg.of_grown (S := fun k => k = rb) hg2 (fun k _ hk => by injection hk with hk; exact hk.symm)).owns hO.out ?_
            rintro g hg hgk
            obtain ⟨cur, _, h9⟩ := owns_row hO.out hg
            omega
          have hnl : n + 1 ≤ 1000001 := by rw [hnD.out]; have := hDle.out; omega
          have hgb : (Value.slice A n c).ownBlock ≠ some M ∧ (Value.slice A n c).ownBlock ≠ some rb := by
            constructor
            · intro hg
              obtain ⟨cur, _, h9⟩ := owns_row hO.out hg
              omega
            · intro hg
              obtain ⟨cur, _, h9⟩ := owns_row hO.out hg
              omega
          have hgo : ∀ k, (Value.slice A n c).ownBlock = some k → wo.heap.size ≤ k := by
            intro k hg
            obtain ⟨cur, _, h9⟩ := owns_row hO.out hg
            have := hrb.out
            omega
          replace hgb := hide hgb
          replace hgo := hide hgo
          replace hs2 := hide hs2
          replace hDs := hide hDs
          replace hO2 := hide hO2
          have hstr : strV e0.s = .string ⟨e0.s.toArray⟩ := rfl
          have hent2 := hent
          have hrun2 := hrun
          rw [hstr] at hent2 hrun2
          clear hent hrun
          go_wp2_with (at_builtin; refine wpList_appN (us := [.string ⟨e0.s.toArray⟩]) elemStr hO2.out (.tmp 48) (.tmp 50) rfl rfl rfl rfl (by simp [Value.oneCell']) (by simp; omega) (by omega) (fun A3 c3 w3 ho3 hg3 hl3 => ?_))
          have hE3 : Ext wo w3 := hE2.grown hg3 hgo.out
          have hR3 : RangeL Tryz.prog 9 w3 M rb L ((D ++ [e0]).map fun e => strV e.s) := by
            rw [List.map_append, List.map_cons, List.map_nil]
            exact hR2.grown hg3 hgb.out.1 hgb.out.2
          have ho3' : w3.ownsRow (rb + 1) 9 1 (.slice A3 (n + 1) c3) (n + 1) ((D ++ [e0]).map fun e => strV e.s) := by
            rw [List.map_append, List.map_cons, List.map_nil]
            exact ho3
          have hsz3 : rb + 1 ≤ w3.heap.size := Nat.le_trans hsz2 hg3.size
          have hl3' : w3.rangeLeft M rb < wr.rangeLeft M rb := by
            have h1 : w3.heap[M]? = w2.heap[M]? := hg3.block M hR2.map.lt (fun e => hgb.out.1 e.symm)
            have h2 : w3.heap[rb]? = w2.heap[rb]? := hg3.block _ hR2.lt (fun e => hgb.out.2 e.symm)
            have h3 : w3.rangeLeft M rb = w2.rangeLeft M rb := by unfold World.rangeLeft; rw [h1, h2]
            rw [h3]
            exact hleft
          go_roundw
          case rel => exact ⟨D ++ [e0], n + 1, A3, c3, rfl, hide (by rw [List.length_append]; simp; exact hnD.out), ho3', hR3, hide (fun e he => by
            rcases List.mem_append.1 he with he | he
            · exact hD.out e he
            · simp at he; subst he; exact he0), hsz3, hide hE3⟩
          case measure => exact hl3'
end
section
open Go.RowKit
section
variable {β : Type}
def gsum (f : β → Nat) (r : List (List UInt8 × List β)) : Nat := (r.map fun x => (x.2.map f).sum).sum
theorem gsum_add (f : β → Nat) (p : List UInt8 × β) : ∀ (l : List (List UInt8 × List β)), gsum f (addG p l) = gsum f l + f p.2
  | [] => by simp [addG, gsum]
  | x :: xs => by
    have ih := gsum_add f p xs
    unfold gsum at ih ⊢
    unfold addG
    split
    · simp only [List.map_cons, List.sum_cons]; omega
    · split
      · simp only [List.map_cons, List.sum_cons, List.map_append, List.sum_append, List.map_nil, List.sum_nil]; omega
      · simp only [List.map_cons, List.sum_cons, List.map_nil, List.sum_nil]; omega
theorem gsum_fold (f : β → Nat) : ∀ (ps : List (List UInt8 × β)) (l : List (List UInt8 × List β)), gsum f (ps.foldl (fun l p => addG p l) l) = gsum f l + (ps.map fun p => f p.2).sum
  | [], l => by simp
  | p :: ps, l => by
    rw [List.foldl_cons, gsum_fold f ps, gsum_add, List.map_cons, List.sum_cons]
    omega
theorem gsum_grp (f : β → Nat) (ps : List (List UInt8 × β)) : gsum f (grp ps) = (ps.map fun p => f p.2).sum := by
  unfold grp
  rw [gsum_fold]
  simp [gsum]
theorem gsum_one (r : List (List UInt8 × List β)) : gsum (fun _ => 1) r = (r.map fun x => x.2.length).sum := by
  unfold gsum
  congr 1
  refine List.map_congr_left fun x _ => ?_
  induction x.2 with
  | nil => rfl
  | cons y ys ih => rw [List.map_cons, List.sum_cons, ih, List.length_cons]; omega
theorem sum_one (ps : List β) : (ps.map fun _ => 1).sum = ps.length := by
  induction ps with
  | nil => rfl
  | cons y ys ih => rw [List.map_cons, List.sum_cons, ih, List.length_cons]; omega
end
theorem rawT_put : ∀ (fs : List Fd) (b : Nat), (rawT b fs).length ≤ (putFs fs).length
  | [], b => by simp [rawT]
  | f :: fs, b => by
    have h1 := rawT_put fs (nextT b f)
    have h2 := tokL_len f.2
    have h3 : f.2.length ≤ (putF f).length := by unfold putF txL; simp only [List.length_append]; omega
    have h4 : putFs (f :: fs) = putF f ++ putFs fs := rfl
    unfold rawT
    rw [h4, List.length_append, fieldT_len, List.length_append]
    omega
theorem termsL_sum (e : Ev) : ((termsL e).map fun p => p.2.length).sum ≤ (putE e).length := by
  unfold termsL
  split
  · have h1 := gsum_grp (fun _ => 1) (rawT 0 e.fs)
    rw [gsum_one, sum_one] at h1
    rw [h1]
    have h2 := rawT_put e.fs 0
    unfold putE
    simp only [List.length_append]
    omega
  · simp
theorem termsL_len2 (e : Ev) : (termsL e).length ≤ (putE e).length := by
  unfold termsL
  split
  · have h1 := grp_len (rawT 0 e.fs)
    have h2 := rawT_put e.fs 0
    unfold putE
    simp only [List.length_append]
    omega
  · simp
theorem pairsD_sum : ∀ (P : List Dc) (i : Nat) (lo : Int), ((pairsD i P).map fun p => p.2.2.length).sum ≤ (blockD lo P).length
  | [], i, lo => by simp [pairsD]
  | d :: t, i, lo => by
    have h1 := pairsD_sum t (i + 1) d.1
    have h2 := termsL_sum d.2
    unfold pairsD blockD oneD
    rw [List.map_append, List.sum_append, List.map_map]
    simp only [List.length_append]
    have h3 : (((termsL d.2).map ((fun (p : List UInt8 × Po) => p.2.2.length) ∘ fun p => (p.1, ((i : Int), p.2))))).sum = ((termsL d.2).map fun p => p.2.length).sum := rfl
    omega
theorem pairsD_len : ∀ (P : List Dc) (i : Nat) (lo : Int), (pairsD i P).length ≤ (blockD lo P).length
  | [], i, lo => by simp [pairsD]
  | d :: t, i, lo => by
    have h1 := pairsD_len t (i + 1) d.1
    have h2 := termsL_len2 d.2
    unfold pairsD blockD oneD
    rw [List.length_append, List.length_map]
    simp only [List.length_append]
    omega
theorem risB_of {n : Int} : ∀ {l : List Int} {lo : Int}, l.Pairwise (fun a b => a < b) → (∀ x ∈ l, lo < x ∧ x < n) → risB n lo l = true
  | [], lo, _, _ => rfl
  | x :: t, lo, hp, h => by
    obtain ⟨h1, h2⟩ := List.pairwise_cons.1 hp
    have hx := h x (List.mem_cons_self ..)
    unfold risB
    rw [risB_of h2 fun y hy => ⟨h1 y hy, (h y (List.mem_cons_of_mem _ hy)).2⟩]
    simp [hx.1, hx.2]
theorem rawT_up : ∀ (fs : List Fd) (b : Nat), (rawT b fs).Pairwise (fun x y => x.2 < y.2) ∧ ∀ x ∈ rawT b fs, (b : Int) ≤ x.2 ∧ x.2 < (baseT b fs : Nat)
  | [], b => ⟨List.Pairwise.nil, nofun⟩
  | f :: fs, b => by
    obtain ⟨h1, h2⟩ := rawT_up fs (nextT b f)
    have hbt : nextT b f ≤ baseT (nextT b f) fs := by
      have key : ∀ (fs : List Fd) (b : Nat), b ≤ baseT b fs := fun fs => by
        induction fs with
        | nil => exact fun b => Nat.le_refl _
        | cons g gs ih => exact fun b => Nat.le_trans (by unfold nextT; omega) (ih (nextT b g))
      exact key _ _
    have hnt : nextT b f = b + (64 + (tokL f.2).length) := rfl
    have hin : ∀ x ∈ fieldT b f, (b : Int) ≤ x.2 ∧ x.2 < (b + (tokL f.2).length : Nat) := fun x hx => by
      unfold fieldT at hx
      obtain ⟨p, hp, rfl⟩ := List.mem_map.1 hx
      have := List.mem_zipIdx hp
      simp only
      omega
    have hup : (fieldT b f).Pairwise (fun x y => x.2 < y.2) := by
      unfold fieldT
      rw [List.pairwise_map]
      rw [List.pairwise_iff_getElem]
      intro i j hi hj hij
      simp only [List.getElem_zipIdx]
      omega
    unfold rawT baseT
    refine ⟨List.pairwise_append.2 ⟨hup, h1, fun x hx y hy => ?_⟩, fun x hx => ?_⟩
    · have a1 := hin x hx
      have a2 := h2 y hy
      omega
    · rcases List.mem_append.1 hx with hx | hx
      · have a1 := hin x hx
        omega
      · have a2 := h2 x hx
        omega
theorem termsL_pos {e : Ev} {p : List UInt8 × List Int} (h : p ∈ termsL e) : risB 1048576 (-1) p.2 = true := by
  obtain ⟨h0, h1, h2⟩ := termsL_mem h
  obtain ⟨r1, r2⟩ := rawT_up e.fs 0
  have hb := baseT_le (k := 4096) e.fs 0 fun f hf => ((checkE_fs h0).2 f hf).2
  have h5 := (checkE_fs h0).1
  rw [h1]
  unfold valsOf
  refine risB_of ?_ fun x hx => ?_
  · rw [List.pairwise_map]
    exact r1.sublist List.filter_sublist
  · obtain ⟨q, hq, rfl⟩ := List.mem_map.1 hx
    have := r2 q (List.mem_filter.1 hq).1
    omega
theorem ris_vals {β : Type} {s : List UInt8} : ∀ {l : List (List UInt8 × β)}, Ris l → (valsOf l s).length ≤ 1
  | [], _ => by simp [valsOf]
  | x :: t, h => by
    obtain ⟨h1, h2⟩ := List.pairwise_cons.1 h
    have ih := ris_vals (s := s) h2
    rw [valsOf_cons]
    split
    · rename_i hx
      rw [vals_none fun y hy e => by
        have := h1 y hy
        rw [e, hx] at this
        exact List.lt_irrefl _ this]
      simp
    · simpa using ih
theorem pairs_vals (s : List UInt8) : ∀ (P : List Dc) (i : Nat) (lo : Int), lo < i → i + P.length ≤ 65536 →
    risB 65536 lo ((valsOf (pairsD i P) s).map (·.1)) = true ∧ ∀ x ∈ valsOf (pairsD i P) s, (decide (0 < x.2.length) && risB 1048576 (-1) x.2) = true
  | [], i, lo, _, _ => ⟨rfl, nofun⟩
  | d :: t, i, lo, h1, h2 => by
    rw [List.length_cons] at h2
    unfold pairsD
    rw [valsOf_append, valsOf_map (fun x : List Int => ((i : Int), x))]
    have hr : Ris (termsL d.2) := by
      unfold termsL
      split
      · exact (grp_ok _).up
      · exact List.Pairwise.nil
    have hone := ris_vals (s := s) hr
    have hall : ∀ x ∈ valsOf (termsL d.2) s, (decide (0 < x.length) && risB 1048576 (-1) x) = true := fun x hx => by
      unfold valsOf at hx
      obtain ⟨p, hp, rfl⟩ := List.mem_map.1 hx
      have hp := (List.mem_filter.1 hp).1
      rw [termsL_pos hp, Bool.and_true]
      exact decide_eq_true (List.length_pos_iff.2 (termsL_mem hp).2.2)
    cases hv : valsOf (termsL d.2) s with
    | nil =>
      have ih := pairs_vals s t (i + 1) lo (by omega) (by omega)
      simpa using ih
    | cons x xs =>
      rw [hv] at hone hall
      have hxs : xs = [] := by
        cases xs with
        | nil => rfl
        | cons y ys => simp at hone
      subst hxs
      have ih := pairs_vals s t (i + 1) i (by omega) (by omega)
      refine ⟨?_, fun y hy => ?_⟩
      · show risB 65536 lo ((i : Int) :: (valsOf (pairsD (i + 1) t) s).map (·.1)) = true
        unfold risB
        rw [ih.1]
        simp [h1]
        omega
      · rcases List.mem_cons.1 hy with rfl | hy
        · exact hall x (List.mem_cons_self ..)
        · exact ih.2 y hy
theorem rows_ok {P : List Dc} (hP : P.length ≤ 65536) {r : List UInt8 × List Po} (hr : r ∈ rowsD P) : okPs r.2 = true ∧ r.2 ≠ [] ∧ r.2 = valsOf (pairsD 0 P) r.1 := by
  have h := ((grp_ok (pairsD 0 P)).mem r).1 hr
  have hv := pairs_vals r.1 P 0 (-1) (by omega) (by omega)
  rw [← h.1] at hv
  refine ⟨?_, h.2, h.1⟩
  unfold okPs
  rw [hv.1, Bool.true_and]
  exact List.all_eq_true.2 hv.2
theorem pairsD_mem : ∀ {P : List Dc} {i : Nat} {q : List UInt8 × Po}, q ∈ pairsD i P → ∃ d ∈ P, ∃ p ∈ termsL d.2, p.1 = q.1
  | [], i, q, h => by cases h
  | d :: t, i, q, h => by
    unfold pairsD at h
    rcases List.mem_append.1 h with h | h
    · obtain ⟨p, hp, rfl⟩ := List.mem_map.1 h
      exact ⟨d, List.mem_cons_self .., p, hp, rfl⟩
    · obtain ⟨d', hd, r⟩ := pairsD_mem h
      exact ⟨d', List.mem_cons_of_mem _ hd, r⟩
theorem rows_key {P : List Dc} {r : List UInt8 × List Po} (hr : r ∈ rowsD P) : 1 ≤ r.1.length ∧ r.1.length ≤ 65 := by
  have h := ((grp_ok (pairsD 0 P)).mem r).1 hr
  have h2 := h.2
  rw [h.1] at h2
  obtain ⟨q, hq, hqr⟩ := vals_ne h2
  obtain ⟨d, _, p, hp, hpq⟩ := pairsD_mem hq
  have := termsL_key hp
  rw [hpq, hqr] at this
  exact this
theorem rows_up (P : List Dc) : Ris (rowsD P) := (grp_ok (pairsD 0 P)).up
theorem stepsL_bd : ∀ (l : List Int) (lo : Int), -1 ≤ lo → risB 1048576 lo l = true → (stepsL lo l).length ≤ 10 * l.length
  | [], lo, _, _ => by simp [stepsL]
  | n :: t, lo, h0, h => by
    obtain ⟨h1, h2, h3⟩ := risB_cons h
    have ih := stepsL_bd t n (by omega) h3
    have hv := vb_len10 (n := (n - lo - 1).toNat) (by omega)
    unfold stepsL
    rw [List.length_append, List.length_cons]
    omega
theorem blockPo_bd : ∀ (L : List Po) (lo : Int), -1 ≤ lo → risB 65536 lo (L.map (·.1)) = true → (∀ x ∈ L, (decide (0 < x.2.length) && risB 1048576 (-1) x.2) = true) → (blockPo lo L).length ≤ 20 * L.length + 10 * (L.map fun x => x.2.length).sum
  | [], lo, _, _, _ => by simp [blockPo]
  | p :: t, lo, h0, h, ha => by
    rw [List.map_cons] at h
    obtain ⟨h1, h2, h3⟩ := risB_cons h
    have hp := ha p (List.mem_cons_self ..)
    rw [Bool.and_eq_true] at hp
    have ih := blockPo_bd t p.1 (by omega) h3 fun x hx => ha x (List.mem_cons_of_mem _ hx)
    have hs := stepsL_bd p.2 (-1) (by omega) hp.2
    have hl := risB_len hp.2 (by omega)
    have hv1 := vb_len10 (n := (p.1 - lo - 1).toNat) (by omega)
    have hv2 := vb_len10 (n := p.2.length) (by omega)
    unfold blockPo onePo
    simp only [List.length_append, List.length_cons, List.map_cons, List.sum_cons]
    omega
theorem block_rows {L : List Po} (h : okPs L = true) : (blockPo (-1) L).length ≤ 20 * L.length + 10 * (L.map fun x => x.2.length).sum := by
  unfold okPs at h
  rw [Bool.and_eq_true] at h
  exact blockPo_bd L (-1) (by omega) h.1 (List.all_eq_true.1 h.2)
theorem encPs_bd {L : List Po} (h : okPs L = true) (hs : 20 * L.length + 10 * (L.map fun x => x.2.length).sum ≤ 50000000) : (encPs L).length ≤ 10 + 40 * L.length + 10 * (L.map fun x => x.2.length).sum := by
  have h1 := block_rows h
  have h2 := po_hlen h (by omega) (chunkL 32 L).length
  rw [List.take_length] at h2
  have h3 := chunkL_len (k := 32) (by omega) L
  have h4 := vb_len10 (n := L.length) (by omega)
  unfold encPs
  simp only [List.length_append]
  omega
end
section
open Go.RowKit
theorem list_sum_le {α : Type} {f g : α → Nat} : ∀ (l : List α), (∀ x ∈ l, f x ≤ g x) → (l.map f).sum ≤ (l.map g).sum
  | [], _ => Nat.le_refl _
  | x :: t, h => by
    have h1 := h x (List.mem_cons_self ..)
    have h2 := list_sum_le t fun y hy => h y (List.mem_cons_of_mem _ hy)
    simp only [List.map_cons, List.sum_cons]
    omega
theorem mem_sum_le {α : Type} {f : α → Nat} : ∀ {l : List α} {x : α}, x ∈ l → f x ≤ (l.map f).sum
  | y :: t, x, h => by
    rw [List.map_cons, List.sum_cons]
    rcases List.mem_cons.1 h with rfl | h
    · omega
    · have := mem_sum_le (f := f) h
      omega
theorem sum_lin {α : Type} (f g : α → Nat) (a b c : Nat) : ∀ (l : List α), (l.map fun x => a + b * f x + c * g x).sum = a * l.length + b * (l.map f).sum + c * (l.map g).sum
  | [] => by simp
  | x :: t => by
    have ih := sum_lin f g a b c t
    simp only [List.map_cons, List.sum_cons, List.length_cons, Nat.mul_add]
    omega
theorem postB_len (rs : List (List UInt8 × List Po)) : (postB rs).length = (rs.map fun r => (encPs r.2).length).sum := by
  unfold postB
  induction rs with
  | nil => rfl
  | cons r t ih => rw [List.flatMap_cons, List.length_append, ih, List.map_cons, List.sum_cons]
theorem enOf_len : ∀ (rs : List (List UInt8 × List Po)) (o : Nat), (enOf o rs).length = rs.length
  | [], o => rfl
  | r :: t, o => by
    unfold enOf
    rw [List.length_cons, enOf_len t, List.length_cons]
theorem enOf_mem : ∀ (rs : List (List UInt8 × List Po)) (o : Nat) (e : En), e ∈ enOf o rs → ∃ r ∈ rs, e.t = r.1 ∧ o ≤ e.off ∧ e.off + e.len ≤ o + (postB rs).length ∧ e.len = (encPs r.2).length ∧ e.n = r.2.length
  | [], o, e, h => by cases h
  | r :: t, o, e, h => by
    unfold enOf at h
    have hp : (postB (r :: t)).length = (encPs r.2).length + (postB t).length := by unfold postB; rw [List.flatMap_cons, List.length_append]
    rcases List.mem_cons.1 h with rfl | h
    · exact ⟨r, List.mem_cons_self .., rfl, Nat.le_refl _, by simp only [hp]; omega, rfl, rfl⟩
    · obtain ⟨r', hr', h1, h2, h3, h4, h5⟩ := enOf_mem t _ e h
      exact ⟨r', List.mem_cons_of_mem _ hr', h1, by omega, by rw [hp]; omega, h4, h5⟩
theorem enOf_up : ∀ (rs : List (List UInt8 × List Po)) (o : Nat), Ris rs → (enOf o rs).Pairwise fun a b => a.t < b.t
  | [], o, _ => List.Pairwise.nil
  | r :: t, o, h => by
    obtain ⟨h1, h2⟩ := List.pairwise_cons.1 h
    unfold enOf
    refine List.pairwise_cons.2 ⟨fun e he => ?_, enOf_up t _ h2⟩
    obtain ⟨r', hr', h3, _⟩ := enOf_mem t _ e he
    rw [h3]
    exact h1 r' hr'
structure SmP (P : List Dc) : Prop where
  ok : okDs P = true
  sz : (blockD 0 P).length ≤ 70000
structure SegB (P : List Dc) : Prop where
  n : P.length ≤ 65536
  pairs : (pairsD 0 P).length ≤ 70000
  rows : (rowsD P).length ≤ 70000
  each : ∀ r ∈ rowsD P, okPs r.2 = true ∧ r.2 ≠ [] ∧ r.2.length ≤ 70000 ∧ (blockPo (-1) r.2).length ≤ 50000000 ∧ (encPs r.2).length ≤ 5000000
  posts : (postB (rowsD P)).length ≤ 5000000
  ens : OkEs (enOf 0 (rowsD P))
  dic : (encEs (enOf 0 (rowsD P))).length ≤ 16777216
  docs : (encDs P).length ≤ 16777216
  times : (timesD 0 P).length ≤ 16777216
  bits : 8 ≤ (ofB ((rowsD P).map (·.1))).length ∧ (ofB ((rowsD P).map (·.1))).length ≤ 131072
theorem SmP.seg {P : List Dc} (h : SmP P) : SegB P := by
  have hok := h.ok
  have hsz := h.sz
  have hn : P.length ≤ 65536 := by
    unfold okDs at hok
    rw [Bool.and_eq_true] at hok
    exact of_decide_eq_true hok.1
  have hpl := pairsD_len P 0 0
  have hps := pairsD_sum P 0 0
  have hrl : (rowsD P).length ≤ (pairsD 0 P).length := grp_len _
  have hs1 := gsum_grp (fun _ => 1) (pairsD 0 P)
  rw [gsum_one, sum_one] at hs1
  have hs2 := gsum_grp (fun x : Po => x.2.length) (pairsD 0 P)
  unfold gsum at hs2
  have hrd : grp (pairsD 0 P) = rowsD P := rfl
  rw [hrd] at hs1 hs2
  have hea : ∀ r ∈ rowsD P, okPs r.2 = true ∧ r.2 ≠ [] ∧ r.2.length ≤ 70000 ∧ (r.2.map fun x => x.2.length).sum ≤ 70000 := fun r hr => by
    have h1 := rows_ok hn hr
    have h2 := mem_sum_le (f := fun x : List UInt8 × List Po => x.2.length) hr
    have h3 := mem_sum_le (f := fun x : List UInt8 × List Po => (x.2.map fun (y : Po) => y.2.length).sum) hr
    exact ⟨h1.1, h1.2.1, by omega, by omega⟩
  have hpb : (postB (rowsD P)).length ≤ 5000000 := by
    rw [postB_len]
    refine Nat.le_trans (list_sum_le (g := fun r : List UInt8 × List Po => 10 + 40 * r.2.length + 10 * (r.2.map fun (x : Po) => x.2.length).sum) _ fun r hr => ?_) ?_
    · have := hea r hr
      exact encPs_bd this.1 (by omega)
    · rw [sum_lin (fun r : List UInt8 × List Po => r.2.length) (fun r : List UInt8 × List Po => (r.2.map fun (x : Po) => x.2.length).sum)]
      omega
  have hmem : ∀ e ∈ enOf 0 (rowsD P), okEn e ∧ e.t ≠ [] := fun e he => by
    obtain ⟨r, hr, h1, h2, h3, h4, h5⟩ := enOf_mem _ _ e he
    have hk := rows_key hr
    have hr2 := hea r hr
    refine ⟨⟨by rw [h1]; exact hk.2, by omega, by omega, by omega⟩, fun e0 => ?_⟩
    rw [h1] at e0
    rw [e0] at hk
    simp at hk
  refine ⟨hn, by omega, by omega, fun r hr => ?_, hpb, ⟨by rw [enOf_len]; omega, hmem, enOf_up _ _ (rows_up P)⟩, ?_, ?_, ?_, ?_⟩
  · have h1 := hea r hr
    have h2 := block_rows h1.1
    have h3 := encPs_bd h1.1 (by omega)
    exact ⟨h1.1, h1.2.1, h1.2.2.1, by omega, by omega⟩
  · have h1 := partsE_len (cs := chunkL 16 (enOf 0 (rowsD P))) fun c hc => ⟨fun e he => (hmem e (chunkL_mem (by omega) hc e he)).1, (chunkL_ne (by omega) hc).2⟩
    have h2 := chunkL_len (k := 16) (by omega) (enOf 0 (rowsD P))
    rw [enOf_len] at h2
    have h3 := vb_len10 (n := (enOf 0 (rowsD P)).length) (by rw [enOf_len]; omega)
    unfold encEs
    rw [List.length_append]
    omega
  · have h1 := sd_hlen hok (by omega) (chunkL 16 P).length
    rw [List.take_length] at h1
    have h2 := chunkL_len (k := 16) (by omega) P
    have h3 := vb_len10 (n := P.length) (by omega)
    unfold encDs
    simp only [List.length_append]
    omega
  · have := timesD_len P 0
    omega
  · rw [ofB_len]
    exact filL_bd _
end
section
open Go.RowKit
attribute [local go_sem] Oper.semAt_some wide_depth
set_option maxRecDepth 100000 in
theorem chunkB_any (A : Option Addr) (n c k : Nat) (w : World) (hk : 1 ≤ k) (hk2 : k ≤ 1000000) :
    Calls Tryz.prog 132 #[.slice A n c, .int .i64 (k : Int)] w fun e w' => ∃ b1 b2, e = .returned (.func (.func 173) #[] #[.pointer (some ⟨b1, 0, none⟩), .pointer (some ⟨b2, 0, none⟩)]) ∧ Row w' b1 22 #[.slice A n c] ∧ Row w' b2 3 #[.int .i64 (k : Int)] ∧ w.heap.size ≤ b1 ∧ w.heap.size ≤ b2 ∧ b1 < b2 ∧ Ext w w' := by
  go_enter Tryz.func132, Tryz.ntmps132
  go_wp2_with fail
  go_ret
  have h1 := Row.new w 22 #[.slice A n c]
  have h2 := Row.new (w.alloc (.cells #[.slice A n c] 22)) 3 #[.int .i64 (k : Int)]
  rw [World.size_alloc] at h2
  exact ⟨w.heap.size, w.heap.size + 1, rfl, h1.alloc _, h2, Nat.le_refl _, by omega, by omega, ((Ext.refl w).alloc _).alloc _⟩
set_option maxRecDepth 100000 in
theorem run_chunkB1 {A : Option Addr} {n c i : Nat} {z : Int} (hz : z = (i : Int)) (hi : i ≤ n) : ∃ A' c', ∀ W : World, (Instr.sliceAt 22 (.slice A n c) (some (.int .i64 z)) none none).run Tryz.prog W = .ok (.slice A' (n - i) c') W := by
  subst hz
  have ht := Tryz.underlying22
  have he : Tryz.prog.elem 22 = 39 := by unfold Program.elem; rw [ht]
  have hs : ∀ W : World, (sizeOf 39).run Tryz.prog W = .ok 3 W := fun W => by kernel_rfl
  refine ⟨if c = i then A else A.map fun a => a.add (i * 3), c - i, fun W => ?_⟩
  rw [run_sliceAt_slice W _ _ _ _ _ (by rw [ht, he]), run_slice_l W _ A n c (by rw [ht, he]) .i64 i (by omega) (by omega), he, hs]
  simp only [Result.andThen_ok, sliced]
  rfl
set_option maxRecDepth 100000 in
theorem run_chunkB2 {A : Option Addr} {n c i j : Nat} {z z1 z2 : Int} (hz : z = (i : Int)) (hz1 : z1 = ((i + j : Nat) : Int)) (hz2 : z2 = ((i + j : Nat) : Int)) (hi : i + j ≤ c) (hj : 0 < j) (W : World) :
    (Instr.sliceAt 22 (.slice A n c) (some (.int .i64 z)) (some (.int .i64 z1)) (some (.int .i64 z2))).run Tryz.prog W = .ok (.slice (A.map fun a => a.add (i * 3)) j j) W := by
  subst hz hz1 hz2
  have ht := Tryz.underlying22
  have he : Tryz.prog.elem 22 = 39 := by unfold Program.elem; rw [ht]
  have hs : (sizeOf 39).run Tryz.prog W = .ok 3 W := by kernel_rfl
  rw [run_sliceAt_slice W _ _ _ _ _ (by rw [ht, he]), run_slice_lhm W _ A n c (by rw [ht, he]) .i64 .i64 .i64 i ((i + j : Nat) : Int) ((i + j : Nat) : Int) (by omega) (by omega) (by omega) (by omega), he, hs]
  simp only [Result.andThen_ok]
  congr 1
  unfold sliced
  rw [if_neg (by omega), show ((i + j : Nat) : Int).toNat - (i : Int).toNat = j by omega]
  rfl
def chunkVB (A : Option Addr) (n k i : Nat) : Value := .slice (A.map fun a => a.add (i * k * 3)) (min k (n - i * k)) (min k (n - i * k))
def ChIterB (A : Option Addr) (n k b1 b2 : Nat) (w : World) : Prop :=
  Iter Tryz.prog 173 #[.pointer (some ⟨b1, 0, none⟩), .pointer (some ⟨b2, 0, none⟩)] (fun i : Nat => #[chunkVB A n k i]) Ext (fun pre i _ => i = pre.length ∧ i * k < n) (KeepB b1 b2) (fun xs W W' => n ≤ xs.length * k ∧ xs = List.range xs.length ∧ (∀ i ∈ xs, i * k < n) ∧ Ext W W') w
set_option maxRecDepth 100000 in
set_option maxHeartbeats 1000000 in
theorem chunkB_iter (A : Option Addr) (n c k b1 b2 : Nat) (w : World) (hb1 : Row w b1 22 #[.slice A n c]) (hb2 : Row w b2 3 #[.int .i64 (k : Int)]) (hk : 1 ≤ k) (hk2 : k ≤ 1000000) (hn : n ≤ 1000000000) (hc : n ≤ c) : ChIterB A n k b1 b2 w := by
  intro l J W hE hst hY h0
  replace hb1 := hb1.ext hE
  replace hb2 := hb2.ext hE
  clear hE
  replace hb1 := hide hb1
  replace hb2 := hide hb2
  replace hY := hide hY
  replace hst := hide hst
  replace h0 := hide h0
  refine (callsIn_wide (n := 0)).1 ?_
  refine callsIn_of_wp Tryz.func173 rfl trivial ?_
  simp only [Tryz.ntmps173, List.size_toArray, List.length_cons, List.length_nil, Nat.reduceAdd, Nat.reduceSub, Array.replicate_succ, Array.replicate_zero, List.push_toArray, List.append_toArray, List.nil_append, List.cons_append]
  gi_wp2_with fail
  gi_loopw [4] (fun s4 wr => ∃ (i q : Nat) (pre : List Nat), s4 = .int .i64 (q : Int) ∧ Hid (q = i * k) ∧ q ≤ n + k ∧ Hid (pre.length = i) ∧ Hid (pre = List.range i) ∧ Hid (∀ j ∈ pre, j * k < n) ∧ Hid (J pre wr) ∧ Hid (Row wr b1 22 #[.slice A n c]) ∧ Hid (Row wr b2 3 #[.int .i64 (k : Int)])) (fun s4 _ => n - (intOf s4).toNat)
  case atStart => exact ⟨0, 0, [], rfl, hide (by simp), by omega, hide rfl, hide rfl, hide nofun, h0, hb1, hb2⟩
  case round =>
    obtain ⟨i, q, pre, rfl, hq, hqn, hpl, hpr, hpa, hJ, r1, r2⟩ := hrel
    have k1 := r1.out.cell 0 rfl
    have k2 := r2.out.cell 0 rfl
    by_cases hlt : q < n
    · obtain ⟨m, hm⟩ : ∃ m : Nat, (m : Int) = min (k : Int) ((n - q : Nat) : Int) := ⟨min k (n - q), by omega⟩
      have hm0 : 0 < m := by omega
      have hmk : m ≤ k := by omega
      have hmn : m ≤ n - q := by omega
      have hmx : m = k ∨ m = n - q := by omega
      have hmin := fun (W : World) => run_min2 (P := Tryz.prog) #[3, 3] 3 hm W
      have hr2 := fun (W : World) => run_chunkB2 (A := A) (n := n) (c := c) (i := q) (j := m) (z := (q : Int)) (z1 := (q : Int) + (m : Int)) (z2 := (q : Int) + (m : Int)) rfl (by omega) (by omega) (by omega) hm0 W
      obtain ⟨A', c', hr1⟩ := run_chunkB1 (A := A) (n := n) (c := c) (i := q) (z := (q : Int)) rfl (by omega)
      replace hm := hide hm
      have hyx := hY.out pre pre.length wr.drew (hst.out _ _ _ hJ.out (Ext.refl wr).drew) ⟨rfl, by rw [hpl.out, ← hq.out]; exact hlt⟩
      have hval : chunkVB A n k pre.length = .slice (A.map fun a => a.add (q * 3)) m m := by
        unfold chunkVB
        rw [hpl.out, ← hq.out, show min k (n - q) = m by omega]
      rw [hval] at hyx
      obtain ⟨fn, tmps, assign, body, hy, hR⟩ := hyx
      have hpa2 : Hid (∀ j ∈ pre ++ [pre.length], j * k < n) := hide fun j hj => by
        rcases List.mem_append.1 hj with h | h
        · exact hpa.out j h
        · rw [List.mem_singleton.1 h, hpl.out, ← hq.out]; exact hlt
      have hpr2 : Hid (pre ++ [pre.length] = List.range (i + 1)) := hide (by rw [List.range_succ, hpl.out, hpr.out])
      have hq2 : Hid (q + k = (i + 1) * k) := hide (by rw [Nat.succ_mul, hq.out])
      clear hval hmx hY hst
      gi_wp2_with fail
      refine wpIn_wide.2 (wp_region_text follows (by kernel_rfl) (by kernel_rfl) (fun K hK => ?_))
      go_wp2_with fail
      refine ⟨by kernel_rfl, ?_⟩
      gi_wp2_with fail
      refine hR.mono ?_
      rintro e W3 ⟨rfl, hJ3, hk3⟩
      have r13 := hide (show Row W3 b1 22 #[.slice A n c] from hk3.1 _ r1.out)
      have r23 := hide (show Row W3 b2 3 #[.int .i64 (k : Int)] from hk3.2 _ r2.out)
      have k23 := r23.out.cell 0 rfl
      gi_wp2_with fail
      exact ⟨⟨i + 1, q + k, pre ++ [pre.length], by congr 1, hq2, by omega, hide (by rw [List.length_append, hpl.out]; rfl), hpr2, hpa2, hide hJ3, r13, r23⟩, by simp only [intOf]; omega⟩
    · gi_wp2_with fail
      go_end0
      exact ⟨⟨_, rfl⟩, pre, _, hJ.out, by rw [hpl.out, ← hq.out]; omega, by rw [hpl.out]; exact hpr.out, hpa.out, Ext.refl _⟩
end
section
open Go.RowKit
def OnlyN (Q : Exit → Act → World → Prop) : Exit → Act → World → Prop
  | .normal, a, w => Q .normal a w
  | _, _, _ => False
theorem OnlyN.imp {Q : Exit → Act → World → Prop} (e : Exit) (a : Act) (w : World) (h : OnlyN Q e a w) : Q e a w := by
  cases e <;> first | exact h | exact h.elim
def calmOps (ops : Array Oper) : Bool := ops.all fun o => match o.op with | .defer _ => false | _ => true
theorem calm_get {ops : Array Oper} (h : calmOps ops = true) {i : Nat} {o : Oper} (ho : ops[i]? = some o) : ∀ c, o.op ≠ .defer c := by
  intro c hc
  unfold calmOps at h
  rw [Array.all_eq_true] at h
  obtain ⟨hi, he⟩ := Array.getElem?_eq_some_iff.1 ho
  have := h i hi
  rw [he, hc] at this
  cases this
theorem rows_in {n : Nat} {P : Program} {row : String} {args : Array Value} {w : World} {R : Value → World → Prop} (h : Rows P row args w R) : RowsIn Fence.wide n P row args w R :=
  fun c cs _ => let ⟨v, w', r, s⟩ := h c cs; ⟨v, w', r, stepsIn_wide.2 s⟩
theorem wpAnyIn_of_any {P : Program} {md : Region.Mode} {ops : Array Oper} {Q : Exit → Act → World → Prop} {l : Nat} (hc : calmOps ops = true) :
    ∀ (fuel : Nat) (listed : Array Bool) (a : Act) (w : World), wpAny P md ops (OnlyN Q) fuel listed a w → wpAnyIn (Fence.wide.inRound l) 0 P md ops (OnlyN Q) fuel listed a w
  | 0, listed, a, w, h => h
  | fuel + 1, listed, a, w, h => ⟨h.1, fun i hi => by
    have hw := h.2 i hi
    unfold wpOp at hw
    unfold wpOpIn
    cases ho : ops[i]? with
    | none => rw [ho] at hw; exact wpAnyIn_of_any hc fuel _ a w hw
    | some o =>
      rw [ho] at hw
      simp only at hw ⊢
      split
      · rename_i hwt
        rw [if_pos hwt] at hw
        rcases hw with hw | ⟨_, hl⟩
        · refine ⟨fun _ _ => trivial, ?_⟩
          rw [Oper.semAt_plain _ _ _ (calm_get hc ho)]
          unfold Oper.wp at hw
          generalize (execOp a.eval o).run P w = r at hw ⊢
          cases r with
          | ok nx w' =>
            cases nx with
            | value v => exact wpAnyIn_of_any hc fuel _ _ _ hw
            | skip => exact wpAnyIn_of_any hc fuel _ _ _ hw
            | defer d => exact wpAnyIn_of_any hc fuel _ _ _ hw
            | enter f args =>
              refine ⟨fun h => by simp [Fence.wide] at h, CallsIn.inRound l (callsIn_wide.2 (Calls.mono hw ?_))⟩
              intro e w'' he
              cases e with
              | returned v => exact wpAnyIn_of_any hc fuel _ _ _ he
              | panicked ch => exact he
              | outgrown => exact he
            | row row args =>
              exact ⟨fun h => by simp [Fence.wide] at h, rows_in (Rows.mono hw fun v w'' he => wpAnyIn_of_any hc fuel _ _ _ he)⟩
            | _ => exact hw.elim
          | halt x w' =>
            cases x with
            | panic v => exact hw
            | _ => exact hw
        · obtain ⟨a1, w1, hf⟩ := hl; exact hf.elim
      · rename_i hwt
        rw [if_neg hwt] at hw
        exact ⟨fun _ _ => trivial, wpAnyIn_of_any hc fuel _ _ _ hw⟩⟩
theorem in_round_held {P : Program} {id : Nat} {ops : Array Oper} {Q : Exit → Act → World → Prop} {a : Act} {w : World} {l : Nat} (S : World → Prop) (hm : P.follows .mixedOrders = true) (hc : calmOps ops = true)
    (h : wpAnyH P .any ops (OnlyN Q) S ops.size (Array.replicate ops.size false) a w.drew) : (Code.region id ops true).wpIn (Fence.wide.inRound l) 0 P Q a w :=
  wpIn_mono (wpIn_region_any hm (wpAnyIn_of_any hc _ _ _ _ (wpAny_of_held _ _ _ _ h))) OnlyN.imp
end
end Go.Proofs.YtkdcnhnaiknaaaaGreat
