/- Texts of one proof, joined. -/
import Derived.Test.YtkdcnhnaiknaaaaGreatFD12
import Derived.Test.YtkdcnhnaiknaaaaGreatFD03
import Derived.Test.YtkdcnhnaiknaaaaGreatFD13
import Derived.Deep.RegionHeld3
import Derived.Test.YtkdcnhnaiknaaaaGreatShelf
import Derived.Test.YtkdcnhnaiknaaaaGreatFD02
import Derived.Maps.RangeRun
import Derived.Maps.Range
import Derived.Laws.IdiomRangeMap
set_option linter.unusedSimpArgs false
set_option linter.unusedVariables false
namespace Go.Proofs.YtkdcnhnaiknaaaaGreat
section
open Go.RowKit
attribute [local go_sem] Oper.semAt_some wide_depth wide_fn
def NewTm (w : World) (R : List (List UInt8 × List Int)) (e : Ending) (w' : World) : Prop :=
  ∃ L c D, e = .returned (.slice L D.length c) ∧ w'.ownsRow w.heap.size 150 2 (.slice L D.length c) D.length (tcs D) ∧ TmsOk w' w.heap.size D R ∧ Ext w w'
set_option maxRecDepth 100000 in
set_option maxHeartbeats 4000000 in
theorem terms_any (e : Ev) (A : Option Addr) (c : Nat) (w : World) (h : e.Ok w A) :
    Calls Tryz.prog 80 #[e.val A c] w (NewTm w (termsL e)) := by
  have hck := hide (fun W (hE : Ext w W) => echeck_any e A c W (h.ext hE))
  have htm : termsL e = if checkE e.fs = 0 then grp (rawT 0 e.fs) else [] := rfl
  have hfs := @checkE_fs e.fs
  obtain ⟨T, hT⟩ : ∃ T, T = termsL e := ⟨_, rfl⟩
  rw [← hT] at htm ⊢
  obtain ⟨at_, fs⟩ := e
  have hcl := h.cells
  unfold Ev.val at hck ⊢
  simp only at htm hck hfs hcl ⊢
  obtain ⟨z, hz⟩ : ∃ z, z = checkE fs := ⟨_, rfl⟩
  rw [← hz] at htm hck hfs
  obtain ⟨n, hn⟩ : ∃ n, n = fs.length := ⟨_, rfl⟩
  rw [← hn] at hck hfs ⊢
  replace htm := hide htm
  replace hfs := hide hfs
  replace hcl := hide hcl
  replace hz := hide hz
  replace hn := hide hn
  clear h hT
  refine (callsIn_wide (n := 0)).1 ?_
  refine callsIn_of_wp_marks Tryz.func80 rfl trivial ?_
  simp only [Tryz.ntmps80, List.size_toArray, List.length_cons, List.length_nil, Nat.reduceAdd, Nat.reduceSub, Array.replicate_succ, Array.replicate_zero, List.push_toArray, List.append_toArray, List.nil_append, List.cons_append]
  gi_wp2_with fail
  obtain ⟨W0, hW0⟩ : ∃ W0, W0 = w.alloc (Obj.cells #[.int .i64 at_, .slice A n c] 37) := ⟨_, rfl⟩
  rw [← hW0]
  have hE0 : Ext w W0 := by rw [hW0]; exact (Ext.refl w).alloc _
  refine (callsIn_wide.2 (hck.out W0 hE0)).mono ?_
  rintro e w1 ⟨rfl, hE1⟩
  have r0 : Row w1 w.heap.size 37 #[.int .i64 at_, .slice A n c] := by
    refine Row.ext ?_ hE1
    rw [hW0]; exact Row.new w _ _
  have k0 := r0.cell 0 rfl
  have k1 := r0.cell 1 rfl
  replace hE1 := hide (hE0.trans hE1)
  replace r0 := hide r0
  replace hW0 := hide hW0
  clear hE0 hck
  by_cases hz0 : z = 0
  · obtain ⟨hn16, hfl⟩ := hfs.out hz0
    subst hz0
    have hT := htm.out
    rw [if_pos rfl] at hT
    replace hT := hide hT
    have hlt0 := r0.out.lt
    gi_wp2_with fail
    obtain ⟨W2, hW2⟩ : ∃ W2, W2 = w1.alloc (Obj.cells #[Value.slice none 0 0] 148) := ⟨_, rfl⟩
    rw [← hW2]
    obtain ⟨h1, hh1⟩ : ∃ h1, h1 = w1.heap.size := ⟨_, rfl⟩
    have q1 : Row W2 h1 148 #[.slice none 0 0] := by rw [hW2, hh1]; exact Row.new w1 _ _
    have hE2 : Ext w1 W2 := by rw [hW2]; exact (Ext.refl w1).alloc _
    rw [← hh1]
    replace hW2 := hide hW2
    replace hh1 := hide hh1
    refine (callsIn_wide.2 (based_any at_ A n c W2)).mono ?_
    rintro e w4 ⟨b0, rfl, rb0, hb0, hE4⟩
    have hEw : Ext w w4 := (hE1.out.trans hE2).trans hE4
    have hP4 : TI w.heap.size h1 [] w w4 := ⟨none, 0, [], q1.ext hE4, World.ownsRow_nil _ _ _ _, TmsOk.nil _ _, hEw⟩
    have hwsz : w.heap.size ≤ w4.heap.size := hEw.size
    have hit := based_iter at_ fs A n c b0 w.heap.size w w4 hn.out hcl.out (Nat.le_refl _) hEw (by omega) (fun f hf => by have := hfl f hf; omega) rb0
    have hh1w : w.heap.size ≤ h1 := by rw [hh1.out]; exact hE1.out.size
    replace hP4 := hide hP4
    replace hit := hide hit
    clear q1 hE2 hE4 rb0
    gi_wp2_with fail
    unfold BsIter at hit
    have hbt : ∀ b, baseT 0 (fs.take b) ≤ 1000000000 := fun b => by
      have := baseT_le (k := 4096) (fs.take b) 0 (fun f hf => (hfl f (List.mem_of_mem_take hf)).2)
      have h2 : (fs.take b).length ≤ 16 := by rw [List.length_take, ← hn.out]; omega
      omega
    replace hbt := hide hbt
    refine range_all (gf := 175) (lb := #[.pointer (some ⟨b0, 0, none⟩)]) rfl (enters_of Tryz.func175 (by kernel_rfl) rfl) hit.out (fun _ => rfl) (fun _ _ h => h.others) (fun _ _ _ h => h.2.others) (KpT.trans w.heap.size) (KpT.alike hwsz)
      (fun pre W => TI w.heap.size h1 (rawT 0 (fs.take pre.length)) w W) (fun pre A B hi ha => hi.alike ha hwsz) (fun pre A B hi hE => hi.ext hE) ?h0 ?hround ?hdone
    case h0 =>
      intro W ha
      have := hP4.out.alike ha hwsz
      simpa [rawT] using this
    case hround =>
      rintro l pre ⟨bs, nm, tx⟩ W hI ⟨hf, hbs⟩
      simp only at hf hbs
      unfold fdV
      simp only
      have hft := hfl _ (List.mem_of_getElem? hf)
      simp only at hft
      have hbs9 := hbt.out pre.length
      rw [← hbs] at hbs9
      have htl := tokL_len tx
      have hraw : rawT 0 (fs.take (pre ++ [(bs, nm, tx)]).length) = rawT 0 (fs.take pre.length) ++ fieldT bs (nm, tx) := by
        rw [List.length_append, List.length_singleton, List.take_add_one, hf, rawT_app, ← hbs]
        simp [rawT]
      obtain ⟨Z, hZ⟩ : ∃ Z, Z = rawT 0 (fs.take pre.length) := ⟨_, rfl⟩
      rw [← hZ] at hI hraw
      obtain ⟨Y, hY⟩ : ∃ Y, Y = fieldT bs (nm, tx) := ⟨_, rfl⟩
      rw [← hY] at hraw
      have hZl : Z.length ≤ 65536 := by
        have := rawT_len (k := 4096) (fs.take pre.length) 0 (fun f hf => (hfl f (List.mem_of_mem_take hf)).2)
        have h2 : (fs.take pre.length).length ≤ 16 := by rw [List.length_take, ← hn.out]; omega
        rw [hZ]; omega
      clear hZ hbs hf
      replace hraw := hide hraw
      obtain ⟨nt, hnt⟩ : ∃ nt, nt = (tokL tx).length := ⟨_, rfl⟩
      obtain ⟨W5, hW5⟩ : ∃ W5, W5 = W.alloc (Obj.cells #[.string ⟨nm.toArray⟩, .string ⟨tx.toArray⟩] 105) := ⟨_, rfl⟩
      have hE5 : Ext W W5 := by rw [hW5]; exact (Ext.refl W).alloc _
      have q5 : Row W5 W.heap.size 105 #[.string ⟨nm.toArray⟩, .string ⟨tx.toArray⟩] := by rw [hW5]; exact Row.new W _ _
      have htk := hide (fun W => tokens_any tx W (by omega))
      rw [← hnt] at htl
      replace hnt := hide hnt
      replace hY := hide hY
      replace hI := hide hI
      gi_wp2_with fail
      rw [← hW5]
      obtain ⟨g5, hg5⟩ : ∃ g5, g5 = W.heap.size := ⟨_, rfl⟩
      rw [← hg5] at q5 ⊢
      refine ⟨hE5.others, KpT.ext hE5, fun W6 hA6 => ?_⟩
      have hI6 := (hI.out.ext hE5).alike hA6 hwsz
      have r6 := hA6.row q5
      have y0 := r6.cell 0 rfl
      have y1 := r6.cell 1 rfl
      replace hI6 := hide hI6
      replace hW5 := hide hW5
      replace hg5 := hide hg5
      clear hI q5 hE5 hA6
      gi_wp2_with fail
      refine (in_round (htk.out W6)).mono ?_
      rintro e w7 ⟨A7, c7, rfl, ho7, hE7⟩
      rw [← hnt.out] at ho7 ⊢
      have hI7 := hide (hI6.out.ext hE7)
      have htat := hide (fun (W : World) (h : KpT w.heap.size w7 W) (i : Nat) (x : List UInt8) (hx : (tokL tx)[i]? = some x) => tk_at ho7 (w1 := W) (fun g cs hr => h.2 g _ cs (by decide) (by decide) hr) hx)
      replace ho7 := hide ho7
      have r7 := hide (r6.ext hE7)
      clear y0 y1 hI6
      gi_wp2_with fail
      gi_loopw [23] (fun s23 wr => ∃ (i : Nat), s23 = .int .i64 (i : Int) ∧ i ≤ nt ∧ Hid (TI w.heap.size h1 (Z ++ Y.take i) w wr) ∧ Hid (KpT w.heap.size w7 wr) ∧ Hid (KeepsOthers w7 wr)) (fun s23 _ => nt - (intOf s23).toNat)
      case atStart => exact ⟨0, rfl, by omega, by rw [List.take_zero, List.append_nil]; exact hI7, hide (KpT.ext (Ext.refl _)), hide (KeepsOthers.refl _)⟩
      case round =>
        obtain ⟨i, rfl, hi, hT1, hK1, hO1⟩ := hrel
        by_cases hin : i < nt
        · obtain ⟨wd, hwd⟩ : ∃ wd, (tokL tx)[i]? = some wd := ⟨_, List.getElem?_eq_getElem (by rw [← hnt.out]; exact hin)⟩
          obtain ⟨g7, o7, hA7, x0, x1⟩ := htat.out wr hK1.out i wd hwd
          subst hA7
          obtain ⟨L, cl, D, r3, hown, htm1, hEr⟩ := hT1.out
          have r5 := hK1.out.2 _ _ _ (by decide) (by decide) r7.out
          have z0 := r5.cell 0 rfl
          have z3 := r3.cell 0 rfl
          have hlt3 := r3.lt
          have hlt5 := r5.lt
          replace r3 := hide r3
          replace r5 := hide r5
          replace hown := hide hown
          replace htm1 := hide htm1
          replace hEr := hide hEr
          have hmx : D.length ≤ 100000 := by
            have := htm1.out.len
            unfold oneT at this
            rw [List.length_map, List.length_append, List.length_take] at this
            omega
          have hYi : Y[i]? = some (nm ++ 58 :: wd, ((bs + i : Nat) : Int)) := by rw [hY.out]; exact fieldT_at hwd
          replace hYi := hide hYi
          have hwl := tokL_each (List.mem_of_getElem? hwd)
          replace hwd := hide hwd
          have hZY : (Z ++ Y.take (i + 1)) = (Z ++ Y.take i) ++ [(nm ++ 58 :: wd, ((bs + i : Nat) : Int))] := by rw [List.take_add_one, hYi.out, List.append_assoc]; rfl
          replace hZY := hide hZY
          obtain ⟨S, hS⟩ : ∃ S, S = nm ++ 58 :: wd := ⟨_, rfl⟩
          have hcat : ByteArray.mk nm.toArray ++ ByteArray.mk #[58] ++ ByteArray.mk wd.toArray = ⟨S.toArray⟩ := by
            have h1 := cat_by nm [58]
            have h2 := cat_by (nm ++ [58]) wd
            rw [hS, h1, h2]
            simp
          obtain ⟨Wb, hWb⟩ : ∃ Wb, Wb = (wr.alloc (Obj.cells #[Value.string ⟨wd.toArray⟩, Value.int IntKind.i64 (i : Int)] 123)).alloc (Obj.cells #[Value.int IntKind.i64 ((bs : Int) + (i : Int))] 3) := ⟨_, rfl⟩
          obtain ⟨Wa, hWa⟩ : ∃ Wa, Wa = Wb.alloc (Obj.cells #[Value.string ⟨S.toArray⟩, Value.slice (some ⟨wr.heap.size + 1, 0, none⟩) 1 1] 150) := ⟨_, rfl⟩
          have hEb : Ext wr Wb := by rw [hWb]; exact ((Ext.refl wr).alloc _).alloc _
          have hszb : Wb.heap.size = wr.heap.size + 2 := by rw [hWb]; simp
          have hEa : Ext wr Wa := by rw [hWa]; exact hEb.alloc _
          have qi : Row Wb (wr.heap.size + 1) 3 #[Value.int IntKind.i64 ((bs : Int) + (i : Int))] := by
            rw [hWb]
            have := Row.new (wr.alloc (Obj.cells #[Value.string ⟨wd.toArray⟩, Value.int IntKind.i64 (i : Int)] 123)) 3 #[Value.int IntKind.i64 ((bs : Int) + (i : Int))]
            rwa [World.size_alloc] at this
          have qi2 : Row Wa (wr.heap.size + 1) 3 #[Value.int IntKind.i64 ((bs : Int) + (i : Int))] := by rw [hWa]; exact qi.alloc _
          have hxa : Cells Wa (some ⟨wr.heap.size + 2, 0, none⟩) (tcell (S, some ⟨wr.heap.size + 1, 0, none⟩, 1, 1)) := by
            have := new_cells Wb [Value.string ⟨S.toArray⟩, Value.slice (some ⟨wr.heap.size + 1, 0, none⟩) 1 1] 150
            rw [hszb] at this
            rw [hWa]; exact this
          have howa := hEa.owns hown.out
          have hsza : w.heap.size ≤ Wa.heap.size := (hEr.out.trans hEa).size
          replace qi2 := hide qi2
          replace hxa := hide hxa
          replace howa := hide howa
          replace hEa := hide hEa
          have hWa2 : Hid (((wr.alloc (Obj.cells #[Value.string ⟨wd.toArray⟩, Value.int IntKind.i64 (i : Int)] 123)).alloc (Obj.cells #[Value.int IntKind.i64 ((bs : Int) + (i : Int))] 3)).alloc (Obj.cells #[Value.string (ByteArray.mk nm.toArray ++ ByteArray.mk #[58] ++ ByteArray.mk wd.toArray), Value.slice (some ⟨wr.heap.size + 1, 0, none⟩) 1 1] 150) = Wa) := hide (by rw [hWa, hWb, hcat])
          replace hWa := hide hWa
          replace hWb := hide hWb
          replace hcat := hide hcat
          clear qi hEb hszb
          have ogr := hide (fun (w6 : World) (hg6 : Wa.grownBy w6 (Value.slice L D.length cl).ownBlock) => og_row howa.out hg6 (r3.out.ext hEa.out) (by decide))
          gi_wp2_with (gi_at_builtin; rw [hWa2.out]; refine wpListIn_app elemTm howa.out hxa.out (.tmp 27) (.tmp 40) rfl rfl rfl rfl rfl rfl (by simp [tcell, Value.oneCell']) (by omega) hsza (fun A1 c1 w6 ho6 hg6 hl6 => ?_); have r16 := ogr.out w6 hg6; have u1 := r16.cell 0 rfl; have u2 := r16.free 0; replace r16 := hide r16; replace ho6 := hide ho6; replace hg6 := hide hg6; replace hl6 := hide hl6)
          have hxt : ∀ w0 : World, w0.heap.size ≤ w.heap.size → Ext w0 wr → Ext w0 (w6.setCell ⟨h1, 0, none⟩ (.slice A1 (D.length + 1) c1)) := fun w0 h0 hE => (og_ext howa.out hg6.out (hE.trans hEa.out) h0).setCell (p := ⟨h1, 0, none⟩) (by show w0.heap.size ≤ h1; omega) _
          have hbk : ∀ A n c xs, Buf wr w.heap.size 3 A n c xs → Buf (w6.setCell ⟨h1, 0, none⟩ (.slice A1 (D.length + 1) c1)) w.heap.size 3 A n c xs := fun A n c xs hb => by
            have q := og_buf howa.out hg6.out (hb.ext hEa.out) (by decide)
            exact q.setCell (q.unlike r16.out (by decide)) _
          have hbn : Buf (w6.setCell ⟨h1, 0, none⟩ (.slice A1 (D.length + 1) c1)) w.heap.size 3 (some ⟨wr.heap.size + 1, 0, none⟩) 1 1 ([((bs + i : Nat) : Int)].map IV) := by
            have q0 : Buf Wa w.heap.size 3 (some ⟨wr.heap.size + 1, 0, none⟩) 1 1 ([((bs + i : Nat) : Int)].map IV) := ⟨rfl, Nat.le_refl _, .inr ⟨_, _, rfl, by have := hEr.out.size; omega, qi2.out, by simp, by simp [IV]⟩⟩
            have q := og_buf howa.out hg6.out q0 (by decide)
            exact q.setCell (q.unlike r16.out (by decide)) _
          have hrk : ∀ g t cs, t ≠ 148 → t ≠ 150 → Row wr g t cs → Row (w6.setCell ⟨h1, 0, none⟩ (.slice A1 (D.length + 1) c1)) g t cs := fun g t cs n1 n2 hr => by
            have q := og_row howa.out hg6.out (hr.ext hEa.out) n2
            exact q.away (q.unlike r16.out n1) _
          have how : (w6.setCell ⟨h1, 0, none⟩ (.slice A1 (D.length + 1) c1)).ownsRow w.heap.size 150 2 (.slice A1 (D.length + 1) c1) (D.length + 1) (tcs D ++ tcell (S, some ⟨wr.heap.size + 1, 0, none⟩, 1, 1)) :=
            (Chg.of_set (S := fun k => k = h1) w6 _ rfl).owns ho6.out fun g hg hgk => by
              obtain ⟨cur, hc, _⟩ := owns_row ho6.out hg
              exact hc.unlike r16.out (by decide) hgk
          have hdl : (D ++ [(S, (some ⟨wr.heap.size + 1, 0, none⟩ : Option Addr), 1, 1)]).length = D.length + 1 := by rw [List.length_append]; rfl
          refine ⟨⟨i + 1, by first | rfl | (congr 1; omega), by omega, hide ⟨A1, c1, D ++ [(S, some ⟨wr.heap.size + 1, 0, none⟩, 1, 1)], ?_, ?_, ?_, hxt w (Nat.le_refl _) hEr.out⟩, hide (KpT.trans _ _ _ _ hK1.out ⟨hxt, hrk⟩), hide (hO1.out.trans ((hEa.out.others.trans (og_others howa.out hg6.out)).trans (KeepsOthers.setCell _ _ _)))⟩, by simp only [intOf]; omega⟩
          · rw [hdl]; exact r16.out.put 0 _
          · rw [hdl, tcs_snoc]; exact how
          · rw [hZY.out, oneT_snoc]
            exact htm1.out.snoc hbk hS hbn (fun a ha => by cases ha; show wr.heap.size ≤ wr.heap.size + 1; omega)
        · have hYt : Y.take i = Y := by
            rw [List.take_of_length_le]
            rw [hY.out, fieldT_len, ← hnt.out]; omega
          rw [hYt, ← hraw.out] at hT1
          gi_wp2_with fail
          exact ⟨(hE7.others).trans hO1.out, KpT.trans _ _ _ _ (KpT.ext hE7) hK1.out, hT1.out⟩
    case hdone =>
      rintro Dm xs W2' W3 W4 hD hI ⟨hF1, hF2⟩ hAl hk
      have hI4 := (hI.ext hF2).alike hAl hwsz
      rw [hF1, List.take_length] at hI4
      obtain ⟨L, cl, D, r3, hown, htm4, hE4⟩ := hI4
      have hDl : D.length ≤ 65536 := by
        have h1 := htm4.len
        have h2 := rawT_len (k := 4096) fs 0 (fun f hf => (hfl f hf).2)
        unfold oneT at h1
        rw [List.length_map] at h1
        rw [← hn.out] at h2
        omega
      obtain ⟨hTZ, hone, hDZ⟩ := htm4.tz
      have hsort := sortTm_any w.heap.size L D.length cl D W4 hown rfl (by omega)
      unfold cmpV at hsort
      obtain ⟨n4, hn4⟩ : ∃ n4, n4 = D.length := ⟨_, rfl⟩
      rw [← hn4] at hsort hDl hown r3
      have z3 := r3.cell 0 rfl
      have hwsz4 := hE4.size
      replace hsort := hide hsort
      replace r3 := hide r3
      replace hown := hide hown
      replace hTZ := hide hTZ
      replace hone := hide hone
      replace hDZ := hide hDZ
      replace hE4 := hide hE4
      replace hk := hide hk
      replace hn4 := hide hn4
      clear hI hF1 hF2 hAl htm4
      gi_wp2_with fail
      refine (callsIn_wide.2 hsort.out).mono ?_
      rintro e w5 ⟨rfl, E, hStd, hg5, hC5⟩
      have hnt5 : ∀ g t cs, t ≠ 150 → Row W4 g t cs → Row w5 g t cs := fun g t cs ht hr => hC5.row hr fun hg => by
        obtain ⟨cur, hc, _⟩ := owns_row hown.out hg
        exact hr.unlike hc ht rfl
      have hb5 : ∀ A n c xs, Buf W4 w.heap.size 3 A n c xs → Buf w5 w.heap.size 3 A n c xs := fun A n c xs hb => hb.chg hC5 fun a ha hg => by
        obtain ⟨cur, hc, _⟩ := owns_row hown.out hg
        exact hb.unlike hc (by decide) a ha rfl
      have hE5 : Ext w w5 := hE4.out.chg hC5 fun i hi hg => by
        obtain ⟨_, _, hl⟩ := owns_row hown.out hg
        omega
      have hO5 : KeepsOthers W4 w5 := ⟨hC5.size, fun k o hk hno => by
        refine (hC5.block k (Array.getElem?_eq_some_iff.1 hk).1 fun hg => ?_).trans hk
        obtain ⟨cur, hc, _⟩ := owns_row hown.out hg
        unfold Row at hc
        rw [hc] at hk
        injection hk with hk
        subst hk
        cases hno⟩
      have hk5 := hide (hO5.same _ _ hk.out rfl)
      have r35 := hnt5 _ _ _ (by decide) r3.out
      have z35 := r35.cell 0 rfl
      have hEl : E.length = n4 := by rw [hn4.out]; exact hStd.2.len
      have hperm := hStd.2.perm
      have hT5 : TZ w5 w.heap.size (E.map fun x => (x, (x.1, ptsOf W4 x.2))) := (hTZ.out.perm (hperm.map _)).keep hb5
      have hone5 : ∀ x ∈ E, ptsOf W4 x.2 = [(ptsOf W4 x.2).headD 0] := fun x hx => hone.out x (hperm.mem_iff.1 hx)
      have hgrp : (E.map fun x => (x.1, (ptsOf W4 x.2).headD 0)).foldl joinS [] = T := by
        have h1 := (hStd.stabM fun x => (ptsOf W4 x).headD 0).grp
        rw [h1, hDZ.out]
        exact hT.out.symm
      have hEZl : (E.map fun x => (x.1, (ptsOf W4 x.2).headD 0)).length = n4 := by rw [List.length_map, hEl]
      obtain ⟨b5, hb5'⟩ : ∃ b5, b5 = w5.heap.size := ⟨_, rfl⟩
      have hwb5 : w.heap.size ≤ b5 := by rw [hb5']; exact hE5.size
      replace hT5 := hide hT5
      replace hone5 := hide hone5
      replace hgrp := hide hgrp
      replace hEl := hide hEl
      replace hEZl := hide hEZl
      replace hE5 := hide hE5
      replace hg5 := hide hg5
      replace r35 := hide r35
      replace hb5' := hide hb5'
      clear hC5 hnt5 hb5 hO5 hStd hperm hsort hTZ hone hDZ hk hwsz4
      gi_wp2_with fail
      gi_loopw [8, 47] (fun s8 s47 wr => ∃ (i m c : Nat) (O : Option Addr) (P : List TmP), s47 = .int .i64 (i : Int) ∧ s8 = .slice O m c ∧ i ≤ n4 ∧ m ≤ i ∧ Hid (m = P.length) ∧ Hid (wr.ownsRow b5 150 2 (.slice O m c) m (tcs (P.map Prod.fst))) ∧ Hid (P.map Prod.snd = ((E.map fun x => (x.1, (ptsOf W4 x.2).headD 0)).take i).foldl joinS []) ∧ Hid (TZ wr w.heap.size (P ++ (E.map fun x => (x, (x.1, ptsOf W4 x.2))).drop i)) ∧ Hid (Ext w wr) ∧ Hid (∀ g cs, g < b5 → Row w5 g 150 cs → Row wr g 150 cs) ∧ Hid (KeepsOthers w5 wr) ∧ b5 ≤ wr.heap.size) (fun _ s47 _ => n4 - (intOf s47).toNat)
      case atStart => exact ⟨0, 0, 0, none, [], rfl, rfl, by omega, by omega, hide rfl, hide (World.ownsRow_nil _ _ _ _), hide rfl, hide (by rw [List.drop_zero]; exact hT5.out), hE5, hide (fun _ _ _ h => h), hide (KeepsOthers.refl _), by rw [hb5'.out]; exact Nat.le_refl _⟩
      case round =>
        obtain ⟨i, m, c, O, P, rfl, rfl, hi, hmi, hmP, hoP, hPj, hTP, hEr, hgr, hor, hbr⟩ := hrel
        by_cases hin : i < n4
        · obtain ⟨⟨ys, yA, yn, yc⟩, hy⟩ : ∃ y, E[i]? = some y := ⟨_, List.getElem?_eq_getElem (by rw [hEl.out]; exact hin)⟩
          obtain ⟨g, hL, hgb, cs, hrow, hcs⟩ := hg5.out (by omega)
          subst hL
          have hrow2 := hgr.out g cs (by rw [hb5'.out]; exact hrow.lt) hrow
          obtain ⟨x0, x1⟩ := TR.at_ (w := wr) (g := g) (D := E) ⟨cs, hrow2, hcs⟩ hy
          simp only at x0 x1
          obtain ⟨yz, hyz⟩ : ∃ yz, yz = (ptsOf W4 (yA, yn, yc)).headD 0 := ⟨_, rfl⟩
          have hyp : ptsOf W4 (yA, yn, yc) = [yz] := by rw [hyz]; exact hone5.out _ (List.mem_of_getElem? hy)
          have hdr : (E.map fun x => (x, (x.1, ptsOf W4 x.2))).drop i = ((ys, yA, yn, yc), (ys, [yz])) :: (E.map fun x => (x, (x.1, ptsOf W4 x.2))).drop (i + 1) := by
            rw [List.drop_eq_getElem_cons (by rw [List.length_map, hEl.out]; exact hin), List.getElem_map]
            have := (List.getElem?_eq_some_iff.1 hy).2
            rw [this]
            simp only [hyp]
          have htk : ((E.map fun x => (x.1, (ptsOf W4 x.2).headD 0)).take (i + 1)).foldl joinS [] = joinS (((E.map fun x => (x.1, (ptsOf W4 x.2).headD 0)).take i).foldl joinS []) (ys, yz) := by
            rw [List.take_add_one, List.foldl_append, List.getElem?_map, hy, hyz]
            rfl
          rw [hdr] at hTP
          rw [← hPj.out] at htk
          obtain ⟨R, hR⟩ : ∃ R, R = (E.map fun x => (x, (x.1, ptsOf W4 x.2))).drop (i + 1) := ⟨_, rfl⟩
          rw [← hR] at hTP
          have hPle : ∀ z ∈ P.map Prod.snd, z.2.length ≤ i := fun z hz => by
            rw [hPj.out] at hz
            have := foldS_le _ [] 0 nofun z hz
            rw [List.length_take] at this
            omega
          replace hPle := hide hPle
          replace hR := hide hR
          replace htk := hide htk
          replace hy := hide hy
          replace hrow2 := hide hrow2
          clear hdr hyz hyp hrow hcs hPj
          rcases List.eq_nil_or_concat P with hP0 | ⟨P0, x, hP0⟩
          · have hm0 : m = 0 := by rw [hmP.out, hP0]; rfl
            subst hm0
            have hnew : Hid (joinS (P.map Prod.snd) (ys, yz) = P.map Prod.snd ++ [(ys, [yz])]) := hide (by rw [hP0]; rfl)
            replace hP0 := hide hP0
            gi_wp2_with fail
            obtain ⟨W6, hW6⟩ : ∃ W6, W6 = wr.alloc (Obj.cells #[Value.string ⟨ys.toArray⟩, Value.slice yA yn yc] 150) := ⟨_, rfl⟩
            rw [← hW6]
            obtain ⟨g6, hg6⟩ : ∃ g6, g6 = wr.heap.size := ⟨_, rfl⟩
            have r6 : Row W6 g6 150 #[Value.string ⟨ys.toArray⟩, Value.slice yA yn yc] := by rw [hW6, hg6]; exact Row.new wr _ _
            rw [← hg6]
            have hE6 : Ext wr W6 := by rw [hW6]; exact (Ext.refl wr).alloc _
            have t0 := r6.cell 0 rfl
            have t1 := r6.cell 1 rfl
            replace r6 := hide r6
            replace hE6 := hide hE6
            replace hW6 := hide hW6
            replace hg6 := hide hg6
            refine wpIn_wide.2 (wp_region_text follows (by kernel_rfl) (by kernel_rfl) (fun K hK => ?_))
            go_wp2_with fail
            refine ⟨by kernel_rfl, ?_⟩
            obtain ⟨W7, hW7⟩ : ∃ W7, W7 = (W6.alloc (Obj.cells #[Value.string ⟨ys.toArray⟩, Value.slice yA yn yc] 150)).drew := ⟨_, rfl⟩
            have hE7 : Ext wr W7 := by rw [hW7]; exact (hE6.out.alloc _).drew
            have ho7 := hE7.owns hoP.out
            have hx7 : Cells W7 (some ⟨W6.heap.size, 0, none⟩) (tcell (ys, yA, yn, yc)) := by rw [hW7]; exact new_cells W6 [Value.string ⟨ys.toArray⟩, Value.slice yA yn yc] _
            have hb7 : b5 ≤ W7.heap.size := Nat.le_trans hbr hE7.size
            replace hE7 := hide hE7
            replace ho7 := hide ho7
            replace hx7 := hide hx7
            replace hW7 := hide hW7
            gi_wp2_with (gi_at_builtin; rw [← hW7.out]; refine wpListIn_app elemTm ho7.out hx7.out (.tmp 78) (.tmp 80) rfl rfl rfl rfl rfl rfl (by simp [tcell, Value.oneCell']) (by omega) hb7 (fun A1 c1 w8 ho8 hg8 hl8 => ?_); replace ho8 := hide ho8; replace hg8 := hide hg8; replace hl8 := hide hl8)
            have hrow8 : ∀ g cs, g < b5 → Row wr g 150 cs → Row w8 g 150 cs := fun g cs hlt hr => (hr.ext hE7.out).grown hg8.out fun h => by obtain ⟨_, _, hl⟩ := owns_row ho7.out h.symm; omega
            refine ⟨⟨i + 1, _, c1, A1, P ++ [((ys, yA, yn, yc), (ys, [yz]))], by first | rfl | (congr 1; omega), rfl, by omega, by omega, hide (by rw [List.length_append, ← hmP.out]; rfl), hide ?_, hide ?_, hide ?_, hide (og_ext ho7.out hg8.out (hEr.out.trans hE7.out) hwb5), hide (fun g cs hlt hr => hrow8 g cs hlt (hgr.out g cs hlt hr)), hide (hor.out.trans (hE7.out.others.trans (og_others ho7.out hg8.out))), Nat.le_trans hb7 hg8.out.size⟩, by simp only [intOf]; omega⟩
            · rw [List.map_append, List.map_singleton, tcs_snoc]; exact ho8.out
            · rw [htk.out, hnew.out, List.map_append, List.map_singleton]
            · rw [List.append_assoc, ← hR.out]
              exact hTP.out.keep fun A n c xs hb => og_buf ho7.out hg8.out (hb.ext hE7.out) (by decide)
          · rw [List.concat_eq_append] at hP0
            have hm1 : m = P0.length + 1 := by rw [hmP.out, hP0, List.length_append]; rfl
            obtain ⟨k, hk⟩ : ∃ k, k = P0.length := ⟨_, rfl⟩
            rw [← hk] at hm1
            subst hm1
            obtain ⟨⟨xs', xA, xn, xc⟩, xk, xl⟩ := x
            obtain ⟨go, cur, hOg, hgo, hrgo, v0, v1⟩ := tcs_at hoP.out (i := k) (x := (xs', xA, xn, xc)) (by rw [hP0, List.map_append, List.getElem?_append_right (by rw [List.length_map]; omega), List.length_map, hk, Nat.sub_self]; rfl)
            subst hOg
            simp only at v0 v1
            have hgolt := hrgo.lt
            have hxk : xs' = xk := (hTP.out.each ((xs', xA, xn, xc), xk, xl) (by rw [hP0]; simp)).1
            have hjl : joinS (P.map Prod.snd) (ys, yz) = if xk = ys then P0.map Prod.snd ++ [(xk, xl ++ [yz])] else P.map Prod.snd ++ [(ys, [yz])] := by
              rw [hP0, List.map_append, List.map_singleton, joinS_last]
            subst hxk
            replace hrgo := hide hrgo
            replace hk := hide hk
            replace hP0 := hide hP0
            gi_wp2_with fail
            obtain ⟨W6, hW6⟩ : ∃ W6, W6 = wr.alloc (Obj.cells #[Value.string ⟨ys.toArray⟩, Value.slice yA yn yc] 150) := ⟨_, rfl⟩
            rw [← hW6]
            obtain ⟨g6, hg6⟩ : ∃ g6, g6 = wr.heap.size := ⟨_, rfl⟩
            have r6 : Row W6 g6 150 #[Value.string ⟨ys.toArray⟩, Value.slice yA yn yc] := by rw [hW6, hg6]; exact Row.new wr _ _
            rw [← hg6]
            have hE6 : Ext wr W6 := by rw [hW6]; exact (Ext.refl wr).alloc _
            have t0 := r6.cell 0 rfl
            have t1 := r6.cell 1 rfl
            replace r6 := hide r6
            replace hE6 := hide hE6
            replace hW6 := hide hW6
            replace hg6 := hide hg6
            have u0 := hE6.out.cell v0
            have u1 := hE6.out.cell v1
            by_cases hxy : xs' = ys
            · subst hxy
              rw [if_pos rfl] at hjl
              replace hjl := hide hjl
              refine wpIn_wide.2 (wp_region_text follows (by kernel_rfl) (by kernel_rfl) (fun K hK => ?_))
              go_wp2_with fail
              refine ⟨by kernel_rfl, ?_⟩
              gi_wp2_with fail
              have hPat := hTP.out
              rw [hP0.out, List.append_assoc, List.singleton_append] at hPat
              have hbx := (hPat.each ((xs', xA, xn, xc), xs', xl) (by simp)).2
              have hby := (hPat.each ((xs', yA, yn, yc), xs', [yz]) (by simp)).2
              simp only at hbx hby
              have hxl : xl.length = xn := by have := hbx.1; rwa [List.length_map] at this
              have hxn : xn ≤ i := by
                have := hPle.out (xs', xl) (by rw [hP0.out]; simp)
                rw [← hxl]; exact this
              have hyn : 1 = yn := by have := hby.1; simpa using this
              subst hyn
              have hbx9 : Hid (Buf W6.drew.drew w.heap.size 3 xA xn xc (xl.map IV)) := hide (hbx.ext hE6.out.drew.drew)
              have hcy9 : Hid (Cells W6.drew.drew yA ([yz].map IV)) := hide (hby.ext hE6.out.drew.drew).cells
              have hrg9 : Hid (Row W6.drew.drew go 150 cur) := hide (hrgo.out.ext hE6.out.drew.drew)
              have hw69 : w.heap.size ≤ W6.drew.drew.heap.size := (hEr.out.trans hE6.out.drew.drew).size
              have hog9 : Hid (W6.drew.drew.ownsRow b5 150 2 (.slice (some ⟨go, 0, none⟩) (k + 1) c) (k + 1) (tcs (P.map Prod.fst))) := hide (hE6.out.drew.drew.owns hoP.out)
              have u19 := hide (hE6.out.drew.drew.cell v1)
              refine wpIn_wide.2 (wp_region_text follows (by kernel_rfl) (by kernel_rfl) (fun K hK => ?_))
              go_wp2_with (at_builtin; refine wpList_buf elemZ hbx9.out hcy9.out (.tmp 72) (.tmp 74) rfl rfl rfl rfl rfl rfl (by simp [IV, Value.oneCell']) (by omega) hw69 (fun A1 c1 w8 hb8 hg8 hx8 hl8 => ?_); have r18 := grown_row hbx9.out hg8 hrg9.out (by decide); have v2 := r18.free (k * 2 + 1); have v3 := (r18.get (k * 2 + 1)).trans ((hrg9.out.get (k * 2 + 1)).symm.trans u19.out); replace r18 := hide r18; replace hb8 := hide hb8; replace hg8 := hide hg8; replace hx8 := hide hx8; replace hl8 := hide hl8)
              refine ⟨by kernel_rfl, ?_⟩
              gi_wp2_with fail
              have hEd := hE6.out.drew.drew
              have hkz : ∀ z ∈ P0 ++ R, TmP.far z ((xs', xA, xn, xc), xs', xl) → TmP.ok wr w.heap.size z → TmP.ok (w8.setCell ⟨go, k * 2 + 1, none⟩ (.slice A1 (xn + 1) c1)) w.heap.size z := fun z hz hf ho => by
                have q := bg_buf hg8.out (ho.2.ext hEd) (fun p q hp hq => hf p q hp hq)
                exact ⟨ho.1, q.setCell (q.unlike r18.out (by decide)) _⟩
              have hbn : Buf (w8.setCell ⟨go, k * 2 + 1, none⟩ (.slice A1 (xn + 1) c1)) w.heap.size 3 A1 (xn + 1) c1 ((xl ++ [yz]).map IV) := by
                rw [List.map_append]
                exact hb8.out.setCell (hb8.out.unlike r18.out (by decide)) _
              have hTZ8 := hPat.join ((xs', A1, xn + 1, c1), xs', xl ++ [yz]) hkz ⟨rfl, hbn⟩ (by
                rcases hl8.out with h | h
                · exact .inl h
                · exact .inr ⟨_, h, hEd.size⟩)
              have hown8 := own_put (bg_owns hbx9.out hg8.out hog9.out (by decide)) (k * 2 + 1) (.slice A1 (xn + 1) c1)
              have htc := tcs_set2 (P0.map Prod.fst) (xs', xA, xn, xc) (A1, xn + 1, c1)
              rw [List.length_map, ← hk.out] at htc
              have hPf : P.map Prod.fst = P0.map Prod.fst ++ [(xs', xA, xn, xc)] := by rw [hP0.out, List.map_append]; rfl
              rw [hPf, htc] at hown8
              refine ⟨⟨i + 1, k + 1, c, some ⟨go, 0, none⟩, P0 ++ [((xs', A1, xn + 1, c1), xs', xl ++ [yz])], by first | rfl | (congr 1; omega), rfl, by omega, by omega, hide (by rw [List.length_append, ← hk.out]; rfl), hide ?_, hide ?_, hide ?_, hide ?_, hide (fun g cs hlt hr => ?_), hide (hor.out.trans (hEd.others.trans ((grown_others hbx9.out hg8.out).trans (KeepsOthers.setCell _ _ _)))), ?_⟩, by simp only [intOf]; omega⟩
              · rw [List.map_append]; exact hown8
              · rw [htk.out, hjl.out, List.map_append]; rfl
              · rw [List.append_assoc, ← hR.out]; exact hTZ8
              · exact (hx8.out w (hEr.out.trans hEd) (Nat.le_refl _)).setCell (p := ⟨go, k * 2 + 1, none⟩) (Nat.le_trans hwb5 hgo) _
              · exact (grown_row hbx9.out hg8.out ((hgr.out g cs hlt hr).ext hEd) (by decide)).away (by show g ≠ go; omega) _
              · have h1 := hg8.out.size
                have h2 := hEd.size
                show b5 ≤ (w8.setCell _ _).heap.size
                simp only [World.setCell, Array.size_modify]
                omega
            · rw [if_neg hxy] at hjl
              have hnew : Hid (joinS (P.map Prod.snd) (ys, yz) = P.map Prod.snd ++ [(ys, [yz])]) := hide hjl
              have hbne : ¬ (ByteArray.mk xs'.toArray = ByteArray.mk ys.toArray) := fun h => hxy (by injection h with h; simpa using h)
              clear hjl
              have hbeq : (xs' == ys) = false := beq_eq_false_iff_ne.2 hxy
              refine wpIn_wide.2 (wp_region_text follows (by kernel_rfl) (by kernel_rfl) (fun K hK => ?_))
              go_wp2_with fail
              refine ⟨by kernel_rfl, ?_⟩
              obtain ⟨W7, hW7⟩ : ∃ W7, W7 = (W6.alloc (Obj.cells #[Value.string ⟨ys.toArray⟩, Value.slice yA yn yc] 150)).drew := ⟨_, rfl⟩
              have hE7 : Ext wr W7 := by rw [hW7]; exact (hE6.out.alloc _).drew
              have ho7 := hE7.owns hoP.out
              have hx7 : Cells W7 (some ⟨W6.heap.size, 0, none⟩) (tcell (ys, yA, yn, yc)) := by rw [hW7]; exact new_cells W6 [Value.string ⟨ys.toArray⟩, Value.slice yA yn yc] _
              have hb7 : b5 ≤ W7.heap.size := Nat.le_trans hbr hE7.size
              replace hE7 := hide hE7
              replace ho7 := hide ho7
              replace hx7 := hide hx7
              replace hW7 := hide hW7
              gi_wp2_with (gi_at_builtin; rw [← hW7.out]; refine wpListIn_app elemTm ho7.out hx7.out (.tmp 78) (.tmp 80) rfl rfl rfl rfl rfl rfl (by simp [tcell, Value.oneCell']) (by omega) hb7 (fun A1 c1 w8 ho8 hg8 hl8 => ?_); replace ho8 := hide ho8; replace hg8 := hide hg8; replace hl8 := hide hl8)
              have hrow8 : ∀ g cs, g < b5 → Row wr g 150 cs → Row w8 g 150 cs := fun g cs hlt hr => (hr.ext hE7.out).grown hg8.out fun h => by obtain ⟨_, _, hl⟩ := owns_row ho7.out h.symm; omega
              refine ⟨⟨i + 1, _, c1, A1, P ++ [((ys, yA, yn, yc), (ys, [yz]))], by first | rfl | (congr 1; omega), rfl, by omega, by omega, hide (by rw [List.length_append, ← hmP.out]; rfl), hide ?_, hide ?_, hide ?_, hide (og_ext ho7.out hg8.out (hEr.out.trans hE7.out) hwb5), hide (fun g cs hlt hr => hrow8 g cs hlt (hgr.out g cs hlt hr)), hide (hor.out.trans (hE7.out.others.trans (og_others ho7.out hg8.out))), Nat.le_trans hb7 hg8.out.size⟩, by simp only [intOf]; omega⟩
              · rw [List.map_append, List.map_singleton, tcs_snoc]; exact ho8.out
              · rw [htk.out, hnew.out, List.map_append, List.map_singleton]
              · rw [List.append_assoc, ← hR.out]
                exact hTP.out.keep fun A n c xs hb => og_buf ho7.out hg8.out (hb.ext hE7.out) (by decide)
        · have hPT : P.map Prod.snd = T := by
            rw [hPj.out, List.take_of_length_le (by rw [hEZl.out]; omega)]
            exact hgrp.out
          replace hPT := hide hPT
          gi_wp2_with fail
          have hkr := hor.out.same _ _ hk5.out rfl
          refine leave_mark (B := w4.heap.size) rfl hkr hD fun W ha => ⟨_, results_tmp rfl _ _ _, ?_⟩
          have hTP2 := hTP.out
          rw [List.drop_eq_nil_of_le (by rw [List.length_map, hEl.out]; omega), List.append_nil] at hTP2
          have hml : m = (P.map Prod.fst).length := by rw [List.length_map]; exact hmP.out
          rw [← hPT.out]
          refine ⟨O, c, P.map Prod.fst, ?_, ?_, (hTP2.keep fun _ _ _ _ hb => ha.buf hb).tms, ha.ext hEr.out hwsz⟩
          · rw [← hml]; rfl
          · rw [← hml]
            exact ha.owns (owns_lower hoP.out hwb5)
  · have hT := htm.out
    rw [if_neg hz0] at hT
    replace hT := hide hT
    gi_wp2_with fail
    rw [hT.out]
    exact leave_plain rfl (results_tmp rfl _ _ _) ⟨none, 0, [], rfl, World.ownsRow_nil _ _ _ _, TmsOk.nil _ _, hE1.out⟩
end
section
open Go.RowKit
theorem step_app {P : Program} {ops : Array Oper} {o : Oper} {a : Act} {w : World} {K : Act → World → Prop} {Q : Exit → Act → World → Prop} {E0 : Prop} {t e size bytes : Nat} (E : Elem P t e size bytes) (hgd : o.guard = none)
    {base : Nat} {v : Value} {n : Nat} {xs : List Value} {A : Option Addr} {m c : Nat} {news : List Value} (hown : w.ownsRow base e size v n xs) (hr : Cells w A news) (s x : Operand)
    (ho : o.op = .call { callee := .builtin .append, args := #[s, x], argTypes := #[t, t] })
    (hs : a.eval s = v) (hx : a.eval x = .slice A m c) (hl : news.length = m * size) (h1 : ∀ u ∈ news, u.oneCell' = true) (hsz : n + m ≤ 4294967296) (hbase : base ≤ w.heap.size)
    (h : ∀ A1 c1 w', w'.ownsRow base e size (.slice A1 (n + m) c1) (n + m) (xs ++ news) → w.grownBy w' v.ownBlock → K (a.put o.dst (.slice A1 (n + m) c1)) w') :
    if Region.wanted o (yielded ops a.tmps) = true then Oper.wp P o a w K Q else E0 := by
  rw [if_pos (by simp [Region.wanted, hgd])]
  obtain ⟨A1, c1, w', hrun, h2, h3, h4⟩ := run_app (P := P) E w o.type hown (c := c) hr hl h1 hsz hbase
  unfold Oper.wp execOp
  simp only [ho, resolve, invoke, builtin, Sem.run_bind, Sem.run_pure, Result.andThen_ok, List.map_toArray, List.map_cons, List.map_nil, hs, hx, hrun]
  exact h A1 c1 w' h2 h3
theorem step_appZ {P : Program} {ops : Array Oper} {o : Oper} {a : Act} {w0 : World} {K : Act → World → Prop} {Q : Exit → Act → World → Prop} {E0 : Prop} {us : List Value} {T : TypeId} {t e size bytes m k : Nat} (E : Elem P t e size bytes) (hgd : o.guard = none)
    {base : Nat} {v : Value} {n : Nat} {xs : List Value} (hown : w0.ownsRow base e size v n xs) (hk : k = w0.heap.size) (s x : Operand)
    (ho : o.op = .call { callee := .builtin .append, args := #[s, x], argTypes := #[t, t] })
    (hs : a.eval s = v) (hx : a.eval x = .slice (some ⟨k, 0, none⟩) m m) (hl : us.length = m * size) (h1 : ∀ u ∈ us, u.oneCell' = true) (hsz : n + m ≤ 4294967296) (hbase : base ≤ w0.heap.size)
    (h : ∀ A1 c1 w', w'.ownsRow base e size (.slice A1 (n + m) c1) (n + m) (xs ++ us) → w0.grownBy w' v.ownBlock → K (a.put o.dst (.slice A1 (n + m) c1)) w') :
    if Region.wanted o (yielded ops a.tmps) = true then Oper.wp P o a (w0.alloc (.cells us.toArray T)) K Q else E0 := by
  subst hk
  refine step_app E hgd (((Ext.refl w0).alloc _).owns hown) (A := some ⟨w0.heap.size, 0, none⟩) (news := us) (.inr ⟨w0.heap.size, 0, rfl, fun i u hu => ?_⟩) s x ho hs hx hl h1 hsz (by simp; omega) fun A1 c1 w' h2 h3 => ?_
  · rw [Nat.zero_add, cell_of_row _ _ _ _ _ _ (heap_alloc_new w0 _)]
    simpa using hu
  · exact h A1 c1 w' h2 ⟨h3.os, h3.tape, h3.output, Nat.le_trans (by simp) h3.size, fun k hk hne => (h3.block k (by simp; omega) hne).trans (Below.heap_alloc w0 _ k hk)⟩
end
section
open Go.RowKit Go.Maps Go.Sort
def sortK (ns : List (List UInt8)) : List (List UInt8) := ns.mergeSort fun x y => decide (x ≤ y)
theorem sortK_perm (ns : List (List UInt8)) : (sortK ns).Perm ns := List.mergeSort_perm _ _
theorem sortK_pw (ns : List (List UInt8)) : (sortK ns).Pairwise (fun a b => a ≤ b) := by
  have := List.pairwise_mergeSort (le := fun (x y : List UInt8) => decide (x ≤ y)) (fun a b c h k => decide_eq_true (List.le_trans (of_decide_eq_true h) (of_decide_eq_true k))) (fun a b => by rcases List.le_total a b with h | h <;> simp [h]) ns
  exact this.imp fun h => of_decide_eq_true h
theorem sortK_of {ns ks : List (List UInt8)} (h : ns.Perm ks) (hk : ks.Pairwise fun a b => a < b) : sortK ns = ks :=
  List.Perm.eq_of_pairwise (le := fun (x y : List UInt8) => x ≤ y) (fun x y _ _ h k => List.le_antisymm h k) (sortK_pw ns) (hk.imp fun h => List.le_of_lt h) ((sortK_perm ns).trans h)
theorem ssort1_any (base : Nat) (A : Option Addr) (n c : Nat) (ns : List (List UInt8)) (w : World) (hn : n = ns.length) (hb : Buf w base 9 A n c (ns.map strV)) (hsz : n ≤ 1073741824) :
    Calls Tryz.prog 139 #[.slice A n c] w fun e w' => e = .returned (.tuple #[]) ∧ Buf w' base 9 A n c ((sortK ns).map strV) ∧ Chg (fun k => ∃ x, A = some x ∧ x.block = k) w w' := by
  subst hn
  obtain ⟨h1, h2, h3⟩ := hb
  unfold sortK
  rcases h3 with ⟨rfl, rfl⟩ | ⟨g, cur, rfl, hbg, hg, hs, ht⟩
  · have h0 : ns = [] := List.eq_nil_of_length_eq_zero (by omega)
    subst h0
    refine (Tryz.slices_Sort_string_none none 0 w).mono ?_
    rintro e w' ⟨rfl, rfl⟩
    exact ⟨rfl, by simpa using Buf.nil _ _ _, Chg.refl _ _⟩
  · have hH : Holds encStr w g 0 ns.toArray := by
      intro j hj
      simp at hj
      refine ⟨?_, hg.free _⟩
      rw [Nat.zero_add, cell_of_row w g j cur 9 (0, 0) hg]
      have : (cur.toList.take ns.length)[j]? = (ns.map strV)[j]? := by rw [ht]
      rw [List.getElem?_take, if_pos hj] at this
      simp [hj] at this
      simpa [hj, encStr, strV] using this
    refine (Tryz.slices_Sort_string g 0 c ns w hH hg.lt (by omega)).mono ?_
    rintro e w' ⟨rfl, k, os, rfl⟩
    obtain ⟨so, hso⟩ : ∃ so, so = (ns.mergeSort fun x y => decide (x ≤ y)) := ⟨_, rfl⟩
    have hsl : so.length = ns.length := by rw [hso]; exact List.length_mergeSort _
    rw [← hso]
    have hrow : Row (grow (putRow encStr (Sort.ahead w k) g 0 so.toArray) os) g 9 (putCells encStr 0 so.toArray cur) := by
      show ((w.heap.modify g (onCells (putCells encStr 0 so.toArray))) ++ os)[g]? = _
      rw [Array.getElem?_append_left (by simpa using hg.lt), Array.getElem?_modify, if_pos rfl]
      have : w.heap[g]? = some (.cells cur 9 (0, 0)) := hg
      rw [this]
      rfl
    refine ⟨rfl, ⟨by simp [hsl], h2, .inr ⟨g, _, rfl, hbg, hrow, ?_, ?_⟩⟩, ⟨rfl, rfl, rfl, ?_, ?_⟩⟩
    · simp [putCells]
      exact hs
    · apply List.ext_getElem?
      intro i
      rw [List.getElem?_take]
      split
      · rename_i hi
        have hic : i < cur.size := by
          rw [List.length_map] at h1
          omega
        have his : i < so.length := by omega
        rw [Array.getElem?_toList]
        unfold putCells
        rw [Array.getElem?_mapIdx, Array.getElem?_eq_getElem hic]
        simp [his, encStr, strV]
      · rename_i hi
        rw [List.getElem?_eq_none (by rw [List.length_map]; omega)]
    · show w.heap.size ≤ ((w.heap.modify g (onCells (putCells encStr 0 so.toArray))) ++ os).size
      simp
    · intro j hj hne
      show ((w.heap.modify g (onCells (putCells encStr 0 so.toArray))) ++ os)[j]? = _
      rw [Array.getElem?_append_left (by simpa using hj), Array.getElem?_modify, if_neg (fun e => hne ⟨_, rfl, e⟩)]
set_option maxRecDepth 100000 in
theorem ssort_any (base : Nat) (A : Option Addr) (n c : Nat) (ns : List (List UInt8)) (w : World) (hn : n = ns.length) (hb : Buf w base 9 A n c (ns.map strV)) (hsz : n ≤ 1073741824) :
    Calls Tryz.prog 81 #[.slice A n c] w fun e w' => e = .returned (.tuple #[]) ∧ Buf w' base 9 A n c ((sortK ns).map strV) ∧ Chg (fun k => ∃ x, A = some x ∧ x.block = k) w w' := by
  have h := hide (ssort1_any base A n c ns w hn hb hsz)
  clear hb hn
  go_enter Tryz.func81, Tryz.ntmps81
  go_wp2_with fail
  refine h.out.mono ?_
  rintro e w1 ⟨rfl, h1, h2⟩
  go_wp2_with fail
  go_end0
  exact ⟨rfl, h1, h2⟩
end
section
open Go.RowKit Go.Maps
open Go
structure RangeL (P : Program) (k : TypeId) (w : World) (m r : Nat) (L : List (Value × Value)) (done : List Value) : Prop where
  ex : ∃ es clock since seen c0, w.heap[m]? = some (.map es clock) ∧ es.toList.map (fun e => (e.key, e.val)) = L ∧ es.toList.Pairwise (fun a b => a.born ≠ b.born) ∧ (∀ e ∈ es.toList, e.born < clock) ∧
    w.heap[r]? = some (.mapIter (some m) since seen c0) ∧ (∀ e ∈ es.toList, e.born < since) ∧ since ≤ c0 ∧ since ≤ clock ∧ ∀ e ∈ es.toList, (seen.contains e.born = true ↔ e.key ∈ done)
  keys : ∀ p ∈ L, ∃ l, keyOf P k p.1 = some l
  nodup : (L.map Prod.fst).Nodup
  dn : done.Nodup
  sub : ∀ x ∈ done, x ∈ L.map Prod.fst
section
variable {P : Program} {k : TypeId} {w w1 : World} {m r : Nat} {L : List (Value × Value)} {done : List Value}
theorem RangeL.map (h : RangeL P k w m r L done) : MapL P k w m L := by
  obtain ⟨es, cl, since, seen, c0, h1, h2, h3, h4, _⟩ := h.ex
  exact ⟨⟨es, cl, h1, h2, h3, h4⟩, h.keys, h.nodup⟩
theorem RangeL.keep (h : RangeL P k w m r L done) (hm : w1.heap[m]? = w.heap[m]?) (hr : w1.heap[r]? = w.heap[r]?) : RangeL P k w1 m r L done := by
  obtain ⟨⟨es, cl, since, seen, c0, h1, h2, h3, h4, h5, h6⟩, hk, hn, hd, hs⟩ := h
  exact ⟨⟨es, cl, since, seen, c0, hm.trans h1, h2, h3, h4, hr.trans h5, h6⟩, hk, hn, hd, hs⟩
theorem RangeL.lt (h : RangeL P k w m r L done) : r < w.heap.size := by
  obtain ⟨es, cl, since, seen, c0, _, _, _, _, h5, _⟩ := h.ex
  exact (Array.getElem?_eq_some_iff.1 h5).1
theorem RangeL.ne (h : RangeL P k w m r L done) : r ≠ m := by
  obtain ⟨es, cl, since, seen, c0, h1, _, _, _, h5, _⟩ := h.ex
  rintro rfl
  rw [h1] at h5
  cases h5
theorem RangeL.grown {row : Option Nat} (h : RangeL P k w m r L done) (hg : w.grownBy w1 row) (h1 : row ≠ some m) (h2 : row ≠ some r) : RangeL P k w1 m r L done :=
  h.keep (hg.block m h.map.lt (fun e => h1 e.symm)) (hg.block r h.lt (fun e => h2 e.symm))
theorem RangeL.drew (h : RangeL P k w m r L done) : RangeL P k w.drew m r L done := h.keep rfl rfl
theorem RangeL.alloc (h : RangeL P k w m r L done) (o : Obj) : RangeL P k (w.alloc o) m r L done := h.keep (Below.heap_alloc w o m h.map.lt) (Below.heap_alloc w o r h.lt)
theorem MapL.range (h : MapL P k w m L) {t E : TypeId} (ht : P.underlying t = some (.map k E)) :
    ∃ o, (Instr.range t (.map (some m))).run P w = .ok (.pointer (some ⟨w.heap.size, 0, none⟩)) (w.alloc o) ∧ RangeL P k (w.alloc o) m w.heap.size L [] := by
  obtain ⟨⟨es, cl, h1, h2, h3, h4⟩, hk, hn⟩ := h
  refine ⟨_, run_range_map w t k E m es cl ht h1, ⟨⟨es, cl, cl, #[], cl, ?_, h2, h3, h4, heap_alloc_new w _, h4, Nat.le_refl _, Nat.le_refl _, fun e _ => by simp⟩, hk, hn, List.nodup_nil, by simp⟩⟩
  exact (Below.heap_alloc w _ m (Array.getElem?_eq_some_iff.1 h1).1).trans h1
theorem setBlock_grown (w : World) (r : Nat) (o : Obj) : w.grownBy (ChangeMaps.setBlock w r o) (some r) :=
  ⟨rfl, rfl, rfl, by simp [ChangeMaps.setBlock], fun k _ hne => by
    show (w.heap.setIfInBounds r o)[k]? = _
    rw [Array.getElem?_setIfInBounds_ne (fun e => hne (by rw [e]))]⟩
theorem left_falls {es : Array MapEntry} {seen : Array Nat} {e : MapEntry} (he : e ∈ (leftOf es seen).toList) : (leftOf es (seen.push e.born)).size < (leftOf es seen).size := by
  have h1 : leftOf es (seen.push e.born) = (leftOf es seen).filter (fun x => !(x.born == e.born)) := by
    unfold leftOf
    rw [Array.filter_filter]
    congr 1
    funext x
    rw [Array.contains_push]
    cases seen.contains x.born <;> cases (x.born == e.born) <;> rfl
  have h2 : (leftOf es (seen.push e.born)).toList = (leftOf es seen).toList.filter (fun x => !(x.born == e.born)) := by rw [h1, Array.toList_filter]
  have h3 : ((leftOf es seen).toList.filter (fun x => !(x.born == e.born))).length < (leftOf es seen).toList.length := List.length_filter_lt_length_iff_exists.2 ⟨e, he, by simp⟩
  rw [← h2] at h3
  exact h3
theorem RangeL.next (h : RangeL P k w m r L done) (ty : TypeId) :
    ((Instr.next (.pointer (some ⟨r, 0, none⟩)) false ty).run P w = .ok (.tuple #[.bool false]) w ∧ ∀ p ∈ L, p.1 ∈ done) ∨
    ∃ x v w1, (x, v) ∈ L ∧ x ∉ done ∧ (Instr.next (.pointer (some ⟨r, 0, none⟩)) false ty).run P w = .ok (.tuple #[.bool true, x, v]) w1 ∧ RangeL P k w1 m r L (done ++ [x]) ∧ w.grownBy w1 (some r) ∧ w1.heap.size = w.heap.size ∧
      (Instr.entry (.pointer (some ⟨r, 0, none⟩))).run P w1 = .ok (.tuple #[x, v]) w1 ∧ w1.rangeLeft m r < w.rangeLeft m r := by
  have hlt := h.lt
  have hne := h.ne
  obtain ⟨⟨es, cl, since, seen, c0, h1, h2, h3, h4, h5, h6, h7, h7', h8⟩, hk, hn, hd, hs⟩ := h
  rcases run_next_at (P := P) w ty r m since c0 seen es cl h5 h1 h6 h7 with ⟨h0, hrun⟩ | ⟨e, he, w0, hw0, hrun⟩
  · refine .inl ⟨hrun, fun p hp => ?_⟩
    rw [← h2] at hp
    obtain ⟨e, he, rfl⟩ := List.mem_map.1 hp
    rw [← h8 e he]
    by_cases hc : seen.contains e.born = true
    · exact hc
    · exfalso
      have : e ∈ leftOf es seen := by
        unfold leftOf
        rw [Array.mem_filter]
        exact ⟨by simpa using he, by simpa using hc⟩
      have h9 := Array.size_pos_of_mem this
      omega
  · have hel : e ∈ es.toList ∧ seen.contains e.born = false := by
      unfold leftOf at he
      have he' := Array.mem_toList_iff.1 he
      rw [Array.mem_filter] at he'
      exact ⟨by simpa using he'.1, by simpa using he'.2⟩
    have hb0 : w0.heap = w.heap := by rcases hw0 with rfl | rfl <;> rfl
    have hw0g : w.grownBy w0 (some r) := by
      rcases hw0 with rfl | rfl
      · exact ⟨rfl, rfl, rfl, Nat.le_refl _, fun _ _ _ => rfl⟩
      · exact ⟨rfl, rfl, rfl, Nat.le_refl _, fun _ _ _ => rfl⟩
    have hnd : e.key ∉ done := fun hc => by
      rw [← h8 e hel.1] at hc
      rw [hel.2] at hc
      cases hc
    have hr1 : (ChangeMaps.setBlock w0 r (.mapIter (some m) since (seen.push e.born) cl)).heap[r]? = some (.mapIter (some m) since (seen.push e.born) cl) := by
      show (w0.heap.setIfInBounds r _)[r]? = _
      rw [Array.getElem?_setIfInBounds, if_pos rfl, if_pos (by rw [hb0]; exact hlt)]
    have hm1 : (ChangeMaps.setBlock w0 r (.mapIter (some m) since (seen.push e.born) cl)).heap[m]? = some (.map es cl) := by
      show (w0.heap.setIfInBounds r _)[m]? = _
      rw [Array.getElem?_setIfInBounds_ne hne, hb0, h1]
    have hnb : (es.toList.map (fun x => x.born)).Nodup := by
      rw [List.Nodup, List.pairwise_map]
      exact h3
    refine .inr ⟨e.key, e.val, _, by rw [← h2]; exact List.mem_map.2 ⟨e, hel.1, rfl⟩, hnd, hrun, ⟨⟨es, cl, since, seen.push e.born, cl, hm1, h2, h3, h4, hr1, h6, h7', h7', ?_⟩, hk, hn, ?_, ?_⟩, hw0g.trans (setBlock_grown w0 r _), by simp [ChangeMaps.setBlock, hb0], run_entry_at _ r m since seen es cl e hr1 hm1 hel.1 hnb, by unfold World.rangeLeft; rw [hm1, hr1, h1, h5]; exact left_falls he⟩
    · intro e' he'
      have hnk : (es.toList.map (·.key)).Nodup := by rw [← h2, List.map_map] at hn; exact hn
      obtain ⟨i, hi⟩ := List.getElem?_of_mem hel.1
      obtain ⟨j, hj⟩ := List.getElem?_of_mem he'
      rw [Array.getElem?_toList] at hi hj
      have hkb : e'.born = e.born ↔ e'.key = e.key := by
        constructor
        · intro hb
          obtain rfl := born_at h3 hj hi hb
          rw [hi] at hj
          cases hj
          rfl
        · intro hb
          obtain rfl := nodup_at hnk hj hi hb
          rw [hi] at hj
          cases hj
          rfl
      rw [Array.contains_push, Bool.or_eq_true, beq_iff_eq, h8 e' he', List.mem_append, List.mem_singleton, ← hkb]
    · rw [List.nodup_append]
      refine ⟨hd, by simp, ?_⟩
      intro a ha b hb
      simp at hb
      rintro rfl
      subst hb
      exact hnd ha
    · intro x hx
      rcases List.mem_append.1 hx with hx | hx
      · exact hs x hx
      · simp at hx
        subst hx
        rw [← h2, List.map_map]
        exact List.mem_map.2 ⟨e, hel.1, rfl⟩
theorem MapL.len (h : MapL P k w m L) {t E : TypeId} (ht : P.underlying t = some (.map k E)) (ty : TypeId) : (Builtin.len_ #[t] ty #[.map (some m)]).run P w = .ok (.int .i64 L.length) w := by
  obtain ⟨⟨es, cl, h1, h2, _⟩, _, _⟩ := h
  have hg : (getObj m).run P w = .ok (.map es cl) w := by simp [getObj, Sem.run, h1]
  have hl : L.length = es.size := by rw [← h2]; simp
  simp only [Builtin.len_, List.getElem?_toArray, List.getElem?_cons_zero, Sem.run_bind, run_underlying ht, Result.andThen_ok, hg, Sem.run_pure]
  rw [hl]
  rfl
end
end
end Go.Proofs.YtkdcnhnaiknaaaaGreat
