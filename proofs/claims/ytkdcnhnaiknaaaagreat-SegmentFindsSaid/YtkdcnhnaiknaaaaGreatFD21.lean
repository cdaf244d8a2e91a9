/- Texts of one proof, joined. -/
import Derived.Test.YtkdcnhnaiknaaaaGreatFD20
import Derived.Test.YtkdcnhnaiknaaaaGreatFD02
import Derived.Test.YtkdcnhnaiknaaaaGreatFD10
import Derived.Test.YtkdcnhnaiknaaaaGreatFD06
import Derived.Test.YtkdcnhnaiknaaaaGreatFD04
import Derived.Test.YtkdcnhnaiknaaaaGreatFD13
import Derived.Test.YtkdcnhnaiknaaaaGreatFD11
import Derived.Test.YtkdcnhnaiknaaaaGreatFD12
import Derived.Test.YtkdcnhnaiknaaaaGreatFD03
import Derived.ChangeSame
set_option linter.unusedSimpArgs false
set_option linter.unusedVariables false
namespace Go.Proofs.YtkdcnhnaiknaaaaGreat
section
open Go.RowKit Go.Maps
def few1 (d : Dc) : Dc := (d.1, fewE d.2)
def fewF (fs : List Fd) : List Fd := fs.map fun f => (f.1, f.2.take 300)
structure FwJ (wo wi : World) (bk k dd : Nat) (sq at_ : Int) (C : Option Addr) (xs : List Fd) : Prop where
  row : Row wi bk 39 #[.int .i64 sq, .int .i64 at_, .slice C k dd]
  evs : wi.ownsRow wo.heap.size 105 2 (.slice C k dd) k (fcells xs)
  len : xs.length = k
  long : ∀ f ∈ xs, f.1.length ≤ 9223372036854775807 ∧ f.2.length ≤ 9223372036854775807
  low : wo.heap.size ≤ bk
  ext : Ext wo wi
theorem FwJ.start (w : World) (sq at_ : Int) : FwJ w (w.alloc (.cells #[.int .i64 sq, .int .i64 at_, .slice none 0 0] 39)) w.heap.size 0 0 sq at_ none [] :=
  ⟨Row.new w _ _, ⟨rfl, .inl ⟨rfl, rfl⟩⟩, rfl, nofun, Nat.le_refl _, (Ext.refl w).alloc _⟩
theorem FwJ.mid {wo wi w5 w8 : World} {bk k dd : Nat} {sq at_ : Int} {C : Option Addr} {xs : List Fd} (h : FwJ wo wi bk k dd sq at_ C xs) (hE5 : Ext wi w5) (hg8 : w5.grownBy w8 (Value.slice C k dd).ownBlock) : Row w8 bk 39 #[.int .i64 sq, .int .i64 at_, .slice C k dd] := by
  refine Row.grown (h.row.ext hE5) hg8 fun e => ?_
  obtain ⟨cs, hr, _⟩ := owns_row h.evs e.symm
  exact Row.unlike h.row hr (by decide) rfl
theorem FwJ.step {wo wi w5 w8 : World} {bk k dd c8 : Nat} {sq at_ : Int} {C A8 : Option Addr} {xs : List Fd} {y : Fd} (h : FwJ wo wi bk k dd sq at_ C xs) (hE5 : Ext wi w5) (hy : y.1.length ≤ 9223372036854775807 ∧ y.2.length ≤ 9223372036854775807)
    (ho8 : w8.ownsRow wo.heap.size 105 2 (.slice A8 (k + 1) c8) (k + 1) (fcells xs ++ y.cells)) (hg8 : w5.grownBy w8 (Value.slice C k dd).ownBlock) :
    FwJ wo (w8.setCell ⟨bk, 2, none⟩ (.slice A8 (k + 1) c8)) bk (k + 1) c8 sq at_ A8 (xs ++ [y]) := by
  have hr8 := h.mid hE5 hg8
  have hC9 : Chg (fun g => g = bk) w8 (w8.setCell ⟨bk, 2, none⟩ (.slice A8 (k + 1) c8)) := Chg.of_set w8 _ rfl
  refine ⟨?_, ?_, by rw [List.length_append, h.len]; rfl, fun z hz => ?_, h.low, ?_⟩
  · have := Row.put hr8 2 (.slice A8 (k + 1) c8)
    simpa using this
  · rw [fcells_snoc]
    refine hC9.owns ho8 fun g hg hgb => ?_
    obtain ⟨cs, hr, _⟩ := owns_row ho8 hg
    subst hgb
    exact Row.unlike hr hr8 (by decide) rfl
  · rcases List.mem_append.1 hz with hz | hz
    · exact h.long z hz
    · rw [List.mem_singleton.1 hz]; exact hy
  · exact ((h.ext.trans hE5).grown hg8 fun g hgg => (by obtain ⟨_, _, hb⟩ := owns_row h.evs hgg; exact hb)).setCell h.low _
set_option maxRecDepth 100000 in
set_option maxHeartbeats 8000000 in
theorem few19_any (A0 : Option Addr) (c0 n : Nat) (ds : List DocC) (w : World) (hn : n = ds.length) (h : DocsOk w A0 ds) :
    Calls Tryz.prog 37 #[.slice A0 n c0] w fun e w' => DocsA (fewD (dcs ds)) w e w' := by
  replace hn := hide hn
  replace h := hide h
  go_enter Tryz.func37, Tryz.ntmps37
  go_wp2_with fail
  go_loopw [3, 4] (fun s3 s4 wr => ∃ (i d : Nat) (B : Option Addr) (outs : List DocC), s3 = .slice B i d ∧ s4 = .int .i64 (i : Int) ∧ i ≤ n ∧ i ≤ 40 ∧ Hid (outs.length = i) ∧ Hid (dcs outs = ((dcs ds).take i).map few1) ∧ Hid (DocsOwn wr w.heap.size B d outs) ∧ Hid (Ext w wr)) (fun _ s4 _ => 40 - (intOf s4).toNat)
  case atStart => exact ⟨0, 0, none, [], rfl, rfl, by omega, by omega, hide rfl, hide rfl, hide (DocsOwn.nil _ _), hide (Ext.refl _)⟩
  case round =>
    obtain ⟨i, d, B, outs, rfl, rfl, hi, hi40, hol, hod, how, hE⟩ := hrel
    by_cases hgo : i < n ∧ i < 40
    · obtain ⟨hin, hi4⟩ := hgo
      have hi40i : (i : Int) < 40 := by omega
      obtain ⟨x, hx⟩ : ∃ x, ds[i]? = some x := ⟨_, List.getElem?_eq_getElem (by rw [← hn.out]; exact hin)⟩
      obtain ⟨hxo, hxa, hxs⟩ := h.out.each x (List.mem_of_getElem? hx)
      obtain ⟨g, o, hA, l0, l1, l2⟩ := dcells_at (h.out.cells) hx
      have hsnoc : dcs (outs ++ [(⟨x.seq, fewE x.e, x.A, x.c⟩ : DocC)]) = ((dcs ds).take (i + 1)).map few1 := by
        rw [dcs_snoc, hod.out]
        have : (dcs ds)[i]? = some x.dc := by unfold dcs; rw [List.getElem?_map, hx]; rfl
        rw [List.take_add_one, this, List.map_append]
        rfl
      rw [dcs_snoc] at hsnoc
      obtain ⟨sq, ⟨at_, fs⟩, fA, fc⟩ := x
      simp only at l0 l1 l2 hxo hxa hxs hsnoc
      obtain ⟨fn, hfn⟩ : ∃ fn, fn = fs.length := ⟨_, rfl⟩
      rw [← hfn] at l2
      have k0 := hE.out.cell l0
      have k1 := hE.out.cell l1
      have k2 := hE.out.cell l2
      have hst := hide (FwJ.start wr sq at_)
      have hl2 := hide (fun W (hE : Ext w W) => hE.cell l2)
      subst hA
      replace hfn := hide hfn
      replace hxo := hide hxo
      replace hxa := hide hxa
      replace hxs := hide hxs
      replace hsnoc := hide hsnoc
      clear hx l0 l1 l2
      go_wp2_with fail
      clear k0 k1 k2
      obtain ⟨wo, rfl⟩ : ∃ wo, wo = wr := ⟨_, rfl⟩
      go_loopw [6] (fun s6 wi => ∃ (k dd : Nat) (C : Option Addr), s6 = .int .i64 (k : Int) ∧ k ≤ 8 ∧ k ≤ fn ∧ Hid (FwJ wo wi wo.heap.size k dd sq at_ C (fewF (fs.take k)))) (fun s6 _ => 8 - (intOf s6).toNat)
      case atStart => exact ⟨0, 0, none, rfl, by omega, by omega, hst⟩
      case round =>
        clear hst
        obtain ⟨k, dd, C, rfl, hk8, hkn, hfi⟩ := hrel
        have hEi := hide hfi.out.ext
        have hE0i := hide (hE.out.trans hEi.out)
        obtain ⟨bk, hbk⟩ : ∃ bk, bk = wo.heap.size := ⟨_, rfl⟩
        rw [← hbk] at hfi ⊢
        have hbl := hfi.out.row.lt
        replace hbk := hide hbk
        have q1 := hl2.out wr hE0i.out
        by_cases hk7 : k < fn ∧ k < 8
        · obtain ⟨hkx, hk80⟩ := hk7
          have hk8i : (k : Int) < 8 := by omega
          obtain ⟨f, hf⟩ : ∃ f, fs[k]? = some f := ⟨_, List.getElem?_eq_getElem (by rw [← hfn.out]; exact hkx)⟩
          have hfl := hxo.out.long f (List.mem_of_getElem? hf)
          obtain ⟨g2, o2, hfA, j0, j1⟩ := fcells_at (hxo.out.cells.ext hE0i.out) hf
          have hsn : fewF (fs.take (k + 1)) = fewF (fs.take k) ++ [(f.1, f.2.take 300)] := by
            rw [List.take_add_one, hf]
            unfold fewF
            rw [List.map_append]
            rfl
          obtain ⟨nm, tx⟩ := f
          simp only at hfl j0 j1 hsn
          unfold strV at j0 j1
          obtain ⟨hfl1, hfl2⟩ := hfl
          obtain ⟨mm, hmm⟩ : ∃ mm : Nat, mm = min tx.length 300 := ⟨_, rfl⟩
          have hmin := run_min2 (P := Tryz.prog) #[3, 3] 3 (x := (tx.length : Int)) (y := 300) (m := (mm : Int)) (by omega)
          have hsl := run_strhead tx mm (by omega)
          have htk : tx.take mm = tx.take 300 := by
            rw [hmm]
            rcases Nat.le_total tx.length 300 with h3 | h3
            · rw [Nat.min_eq_left h3, List.take_length, List.take_of_length_le h3]
            · rw [Nat.min_eq_right h3]
          rw [htk] at hsl
          have htl : (tx.take 300).length ≤ 9223372036854775807 := by rw [List.length_take]; omega
          obtain ⟨tt, htt⟩ : ∃ tt, tt = tx.take 300 := ⟨_, rfl⟩
          rw [← htt] at hsl hsn htl
          subst hfA
          replace hmm := hide hmm
          replace htt := hide htt
          replace hsn := hide hsn
          clear hf htk
          obtain ⟨w5, hw5⟩ : ∃ w5, w5 = wr.alloc (.cells #[.string ⟨nm.toArray⟩, .string ⟨tt.toArray⟩] 105) := ⟨_, rfl⟩
          have hr5 : Row w5 wr.heap.size 105 #[.string ⟨nm.toArray⟩, .string ⟨tt.toArray⟩] := by rw [hw5]; exact Row.new wr _ _
          have hE5 : Ext wr w5 := by rw [hw5]; exact (Ext.refl wr).alloc _
          have y0 := hr5.cell 0 rfl
          have y1 := hr5.cell 1 rfl
          have b2 := (hfi.out.row.ext hE5).cell 2 rfl
          have hown5 := hE5.owns hfi.out.evs
          have hsz5 := (hEi.out.trans hE5).size
          have hsz5' := hsz5
          have hown5' := hown5
          rw [hw5] at y0 y1 b2 hown5' hsz5'
          replace hw5 := hide hw5
          replace hr5 := hide hr5
          replace hE5 := hide hE5
          clear hown5 hsz5
          go_wp2_with (at_builtin; refine wpList_appZ (us := [.string ⟨nm.toArray⟩, .string ⟨tt.toArray⟩]) (m := 1) elemFd hown5' (by simp) (.tmp 58) (.tmp 60) rfl rfl rfl rfl rfl (one_of rfl) (by omega) hsz5' (fun A8 c8 w8 ho8 hg8 hl8 => ?_); rw [← hw5.out] at hg8; have hr8 := hfi.out.mid hE5.out hg8; have q4 : w8.cell? ⟨bk, 2, none⟩ = some (.slice C k dd) := hr8.cell 2 rfl; have qf := hr8.free 2; have hstep := hide (FwJ.step (y := (nm, tt)) hfi.out hE5.out ⟨hfl1, htl⟩ ho8 hg8); clear ho8 hg8 hl8 hr8 y0 y1 b2)
          rw [← hsn.out] at hstep
          go_roundw
          case rel => exact ⟨k + 1, c8, A8, by go_num, by omega, by omega, hstep⟩
          case measure => simp [intOf]; omega
        · have hkend : fewF (fs.take k) = (fewE ⟨at_, fs⟩).fs := by
            unfold fewF fewE
            simp only
            rcases Nat.lt_or_ge k fn with h7 | h7
            · have : k = 8 := by omega
              rw [this]
            · rw [List.take_of_length_le (by rw [← hfn.out]; exact h7), List.take_of_length_le (by rw [← hfn.out]; omega)]
          have how2 := hide (how.out.ext hEi.out)
          have hsz2 : w.heap.size ≤ wr.heap.size := hE0i.out.size
          have hown2 : wr.ownsRow w.heap.size 39 3 (.slice B i d) i (dcells outs) := by have := how2.out.own; rw [hol.out] at this; exact this
          have b0 := hfi.out.row.cell 0 rfl
          have b1 := hfi.out.row.cell 1 rfl
          have b2 := hfi.out.row.cell 2 rfl
          replace hkend := hide hkend
          by_cases hkx : k < fn
          case' pos => have hk80 : ¬ (k : Int) < 8 := by omega
          all_goals
            go_wp2_with (at_builtin; refine wpList_appZ (us := [.int .i64 sq, .int .i64 at_, .slice C k dd]) (m := 1) elemDoc hown2 rfl (.tmp 64) (.tmp 66) rfl rfl rfl rfl rfl (one_of rfl) (by omega) hsz2 (fun A8 c8 w8 ho8 hg8 hl8 => ?_); replace ho8 := hide ho8; replace hg8 := hide hg8; clear hl8 b0 b1 b2)
            have hlen := hfi.out.len
            have hnew : Ev.Own (fewE ⟨at_, fs⟩) wr w.heap.size C dd := by
              refine ⟨?_, ?_, ?_⟩
              · rw [← hkend.out, hlen]; exact owns_lower hfi.out.evs hE.out.size
              · rw [← hkend.out]; exact hfi.out.long
              · rw [← hkend.out, hlen]; omega
            have hpush := DocsOwn.push (x := ⟨sq, fewE ⟨at_, fs⟩, C, dd⟩) how2.out hnew ⟨hxa.out, hxs.out⟩ (by rw [hol.out]; unfold DocC.cells; simp only; rw [← hkend.out, hlen]; exact ho8.out) (by rw [hol.out]; exact hg8.out)
            have hE8 : Ext w w8 := hE0i.out.grown hg8.out fun k hk => by obtain ⟨_, _, hb⟩ := owns_row hown2 hk; exact hb
            go_roundw
            case rel => exact ⟨i + 1, c8, A8, _, rfl, by go_num, by omega, by omega, hide (by rw [List.length_append, hol.out]; rfl), hide (by rw [dcs_snoc]; exact hsnoc.out), hide hpush, hide hE8⟩
            case measure => simp [intOf]; omega
    · have hend : dcs outs = fewD (dcs ds) := by
        rw [hod.out]
        unfold fewD
        show ((dcs ds).take i).map few1 = ((dcs ds).take 40).map few1
        have hdl : (dcs ds).length = n := by unfold dcs; rw [List.length_map, hn.out]
        rcases Nat.lt_or_ge i n with h7 | h7
        · have : i = 40 := by omega
          rw [this]
        · rw [List.take_of_length_le (by omega), List.take_of_length_le (by omega)]
      replace hend := hide hend
      by_cases hin : i < n
      case' pos => have hi40 : ¬ (i : Int) < 40 := by omega
      all_goals
        clear hgo
        go_wp2_with fail
        go_ret
        exact ⟨hE.out, outs, B, d, hend.out, by rw [hol.out]; rfl, how.out⟩
end
section
open Go.RowKit
theorem openD_seg {P : List Dc} (hP : SegP P) (hsm : ∀ p ∈ framesD P, p.length ≤ 16777216) (ha : ∀ d ∈ P, I64ok' d.2.at_) : openD (segL P) = some P := by
  have h1 : (segL P).take 4 = [76, 83, 69, 71] := rfl
  have h2 : (segL P).drop 4 = joinL (framesD P) := rfl
  have h3 := decDs_of hP.sm.ok ha (by have := hP.sm.sz; omega)
  unfold openD
  rw [if_pos h1, h2, splitF_join _ hsm, if_pos ⟨rfl, rfl⟩]
  show (match decDs (encDs P) with | some Q => if 0 < Q.length ∧ segL Q = segL P then some Q else none | none => none) = some P
  rw [h3]
  show (if 0 < P.length ∧ segL P = segL P then some P else none) = some P
  rw [if_pos ⟨hP.ne, rfl⟩]
theorem few_small {b : List UInt8} (hb : b.length ≤ 60000) (P : List Dc) (h : decDs ((splitF (b.drop 4)).1.headD []) = some P) : (blockD 0 P).length ≤ 70000 := by
  have h1 := decDs_enc h
  have h2 : ((splitF (b.drop 4)).1.headD []).length ≤ b.length := by
    cases hs : (splitF (b.drop 4)).1 with
    | nil => simp
    | cons p t =>
      have := (splitF_small (l := b.drop 4) (p := p) (by rw [hs]; exact List.mem_cons_self ..)).2
      rw [List.length_drop] at this
      simp only [List.headD_cons]
      omega
  rw [← h1.2] at h2
  unfold encDs at h2
  simp only [List.length_append] at h2
  omega
end
section
open Go.RowKit
def aw1 : List Dc := [(1, ⟨7, [([109, 115, 103], [120])]⟩)]
def aw2 : List Dc := [(4, ⟨0, []⟩)]
theorem aw1_ok : okDs aw1 = true := by kernel_rfl
theorem aw2_ok : okDs aw2 = true := by kernel_rfl
theorem aw1_len : (blockD 0 aw1).length = 9 := by kernel_rfl
theorem aw2_len : (blockD 0 aw2).length = 3 := by kernel_rfl
theorem aw1_rows : rowsD aw1 = [([109, 115, 103, 58, 120], [(0, [0])])] := by kernel_rfl
theorem aw2_rows : rowsD aw2 = [] := by kernel_rfl
theorem aw1_seg : SegP aw1 := ⟨⟨aw1_ok, by rw [aw1_len]; decide⟩, by decide⟩
theorem aw2_seg : SegP aw2 := ⟨⟨aw2_ok, by rw [aw2_len]; decide⟩, by decide⟩
theorem aw1_part : partD aw1 = [7, 7, 1, 1, 1] := by kernel_rfl
theorem aw1_may : mayB (ofB ((rowsD aw1).map (·.1))) [109, 115, 103, 58, 120] = true := by
  rw [aw1_rows]
  kernel_rfl
theorem aw2_may : mayB (ofB ((rowsD aw2).map (·.1))) [109, 115, 103, 58, 120] = false := by
  rw [aw2_rows]
  kernel_rfl
theorem aw1_fr : (framesD aw1).all (fun p => decide (p.length ≤ 16777216)) = true := by kernel_rfl
theorem aw2_fr : (framesD aw2).all (fun p => decide (p.length ≤ 16777216)) = true := by kernel_rfl
theorem aw1_sl : decide ((segL aw1).length ≤ 60000) = true := by kernel_rfl
theorem aw2_sl : decide ((segL aw2).length ≤ 60000) = true := by kernel_rfl
theorem aw1_open : openD (segL aw1) = some aw1 := openD_seg aw1_seg (fun p hp => of_decide_eq_true (List.all_eq_true.1 aw1_fr p hp)) (fun d hd => by
  unfold aw1 at hd
  rw [List.mem_singleton.1 hd]
  unfold I64ok'
  decide)
theorem aw2_open : openD (segL aw2) = some aw2 := openD_seg aw2_seg (fun p hp => of_decide_eq_true (List.all_eq_true.1 aw2_fr p hp)) (fun d hd => by
  unfold aw2 at hd
  rw [List.mem_singleton.1 hd]
  unfold I64ok'
  decide)
end
section
open Go.RowKit Go.Maps
set_option maxRecDepth 100000 in
theorem fld_part (W : World) : (Instr.field 74 (.agg #[.int .i64 0, .int .i64 0, .int .i64 7, .int .i64 7, .int .i64 1, .int .i64 1, .int .i64 1]) 2).run Tryz.prog W = .ok (.int .i64 7) W := by
  unfold Instr.field
  simp only [Sem.run_bind, run_underlying Tryz.underlying74, Result.andThen_ok]
  kernel_rfl
theorem enc_open (P : List Dc) (hP : SegP P) (ho : openD (segL P) = some P) (hl : (segL P).length ≤ 60000) (A : Option Addr) (c : Nat) (w : World) (h : Own8 w 0 A (segL P).length c (segL P)) :
    Calls Tryz.prog 11 #[.slice A (segL P).length c] w fun e w' => ∃ g, e = .returned (.tuple #[.pointer (some ⟨g, 0, none⟩), .int .i64 0]) ∧ SegR w' g P ∧ Ext w w' := by
  refine (segOpen_any A _ c (segL P) w h.2.in8 (by omega) (fun Q _ hQ => few_small hl Q hQ)).mono ?_
  rintro e w' ⟨hE, hr⟩
  rw [ho] at hr
  obtain ⟨g, rfl, hs⟩ := hr
  exact ⟨g, rfl, hs, hE⟩
set_option maxRecDepth 100000 in
set_option maxHeartbeats 4000000 in
theorem awake13_any (w : World) : Calls Tryz.prog 10 #[] w fun e w' => e = .returned (.bool true) ∧ Ext w w' := by
  obtain ⟨W, hW⟩ : ∃ W, W = (w.alloc (Obj.cells #[.string ⟨#[109, 115, 103]⟩, .string ⟨#[120]⟩] 105)).alloc (Obj.cells #[.int .i64 1, .int .i64 7, .slice (some ⟨w.heap.size, 0, none⟩) 1 1] 39) := ⟨_, rfl⟩
  have hEW : Ext w W := by rw [hW]; exact ((Ext.refl w).alloc _).alloc _
  have hc1 : Cells W (some ⟨w.heap.size, 0, none⟩) (fcells [([109, 115, 103], [120])]) := by
    rw [hW]
    exact (new_cells w [.string ⟨#[109, 115, 103]⟩, .string ⟨#[120]⟩] _).ext ((Ext.refl _).alloc _)
  have hc2 : Cells W (some ⟨w.heap.size + 1, 0, none⟩) (dcells [⟨1, ⟨7, [([109, 115, 103], [120])]⟩, some ⟨w.heap.size, 0, none⟩, 1⟩]) := by
    have h1 := new_cells (w.alloc (Obj.cells #[.string ⟨#[109, 115, 103]⟩, .string ⟨#[120]⟩] 105)) [.int .i64 1, .int .i64 7, .slice (some ⟨w.heap.size, 0, none⟩) 1 1] 39
    rw [World.size_alloc] at h1
    rw [hW]
    exact h1
  have hdo : DocsOk W (some ⟨w.heap.size + 1, 0, none⟩) [⟨1, ⟨7, [([109, 115, 103], [120])]⟩, some ⟨w.heap.size, 0, none⟩, 1⟩] := ⟨hc2, fun x hx => by
    rw [List.mem_singleton.1 hx]
    exact ⟨⟨hc1, by show (1 : Nat) ≤ _; omega, fun f hf => by
      rw [List.mem_singleton.1 hf]
      exact ⟨by show (3 : Nat) ≤ _; omega, by show (1 : Nat) ≤ _; omega⟩⟩, ⟨by show _ ≤ (7 : Int); omega, by show (7 : Int) ≤ _; omega⟩, ⟨by show _ ≤ (1 : Int); omega, by show (1 : Int) ≤ _; omega⟩⟩⟩
  have hen := segEncode_yes [⟨1, ⟨7, [([109, 115, 103], [120])]⟩, some ⟨w.heap.size, 0, none⟩, 1⟩] (some ⟨w.heap.size + 1, 0, none⟩) 1 1 W rfl hdo (fun a ha => by cases ha; rfl) (by omega) aw1_seg.sm (by omega)
  replace hen := hide hen
  replace hW := hide hW
  clear hc1 hc2 hdo
  go_enter Tryz.func10, Tryz.ntmps10
  go_wp2_with fail
  rw [← hW.out]
  refine hen.out.mono ?_
  rintro e w1 ⟨A1, c1, rfl, hO1, hE1⟩
  have hop := enc_open aw1 aw1_seg aw1_open (of_decide_eq_true aw1_sl) A1 c1 w1 ⟨rfl, hO1.2.lower (Nat.zero_le _)⟩
  have hsg : segL (dcs [⟨1, ⟨7, [([109, 115, 103], [120])]⟩, some ⟨w.heap.size, 0, none⟩, 1⟩]) = segL aw1 := rfl
  rw [hsg]
  obtain ⟨n1, hn1⟩ : ∃ n1, n1 = (segL aw1).length := ⟨_, rfl⟩
  rw [← hn1] at hop ⊢
  replace hop := hide hop
  replace hn1 := hide hn1
  go_wp2_with fail
  refine hop.out.mono ?_
  rintro e w2 ⟨g1, rfl, hs1, hE2⟩
  go_wp2_with fail
  obtain ⟨W2, hW2⟩ : ∃ W2, W2 = w2.alloc (Obj.cells #[.int .i64 4, .int .i64 0, .slice none 0 0] 39) := ⟨_, rfl⟩
  rw [← hW2]
  have hEW2 : Ext w2 W2 := by rw [hW2]; exact (Ext.refl w2).alloc _
  have hdo2 : DocsOk W2 (some ⟨w2.heap.size, 0, none⟩) [⟨4, ⟨0, []⟩, none, 0⟩] := ⟨by rw [hW2]; exact new_cells w2 [.int .i64 4, .int .i64 0, .slice none 0 0] _, fun x hx => by
    rw [List.mem_singleton.1 hx]
    exact ⟨⟨.inl rfl, by show (0 : Nat) ≤ _; omega, fun f hf => by cases hf⟩, ⟨by show _ ≤ (0 : Int); omega, by show (0 : Int) ≤ _; omega⟩, ⟨by show _ ≤ (4 : Int); omega, by show (4 : Int) ≤ _; omega⟩⟩⟩
  have hen2 := segEncode_yes [⟨4, ⟨0, []⟩, none, 0⟩] (some ⟨w2.heap.size, 0, none⟩) 1 1 W2 rfl hdo2 (fun a ha => by cases ha; rfl) (by omega) aw2_seg.sm (by omega)
  replace hen2 := hide hen2
  replace hW2 := hide hW2
  clear hdo2
  refine hen2.out.mono ?_
  rintro e w3 ⟨A3, c3, rfl, hO3, hE3⟩
  have hop3 := enc_open aw2 aw2_seg aw2_open (of_decide_eq_true aw2_sl) A3 c3 w3 ⟨rfl, hO3.2.lower (Nat.zero_le _)⟩
  have hsg3 : segL (dcs [⟨4, ⟨0, []⟩, none, 0⟩]) = segL aw2 := rfl
  rw [hsg3]
  obtain ⟨n3, hn3⟩ : ∃ n3, n3 = (segL aw2).length := ⟨_, rfl⟩
  rw [← hn3] at hop3 ⊢
  replace hop3 := hide hop3
  replace hn3 := hide hn3
  go_wp2_with fail
  refine hop3.out.mono ?_
  rintro e w4 ⟨g2, rfl, hs2, hE4⟩
  have hs14 := hs1.ext ((hEW2.trans hE3).trans hE4)
  have hE04 := ((hEW.trans hE1).trans hE2).trans ((hEW2.trans hE3).trans hE4)
  have hpo := sposts_yes g1 aw1 [109, 115, 103, 58, 120] w4 hs14 aw1_seg
  replace hpo := hide hpo
  replace hs14 := hide hs14
  replace hs2 := hide hs2
  go_wp2_with fail
  refine hpo.out.mono ?_
  rintro e w5 ⟨hE5, hres⟩
  rw [aw1_rows] at hres
  rcases hres with ⟨r, hr, hrt, ps, A5, c5, hps, rfl, hpk⟩ | ⟨hno, _⟩
  · rw [List.mem_singleton.1 hr] at hps ⊢
    obtain ⟨x0, hx0, hxd⟩ : ∃ x0 : PoC, ps = [x0] ∧ x0.doc = 0 := by
      cases ps with
      | nil => cases hps
      | cons x0 t =>
        cases t with
        | nil =>
          refine ⟨x0, rfl, ?_⟩
          have h1 : [x0.po] = [((0 : Int), [(0 : Int)])] := hps
          injection h1 with h1
          exact congrArg Prod.fst h1
        | cons y u => exact absurd (congrArg List.length hps) (by simp [psP])
    subst hx0
    obtain ⟨gp, op, hA5, q0, _⟩ := pcells_at hpk.cells (i := 0) (x := x0) rfl
    subst hA5
    rw [hxd, Nat.zero_mul, Nat.add_zero] at q0
    have hpt := hide (fun W (hE : Ext w4 W) => spart_yes g1 aw1 W (hs14.out.ext hE) aw1_seg)
    have hln := hide (fun W (hE : Ext w4 W) => slen_yes g1 aw1 W (hs14.out.ext hE) (by decide) (by decide))
    have hm1 := hide (fun W (hE : Ext w4 W) => smay_yes g1 aw1 [109, 115, 103, 58, 120] W (hs14.out.ext hE) aw1_seg (by decide))
    have htm := hide (fun W (hE : Ext w4 W) => sterms_yes g2 aw2 W (hs2.out.ext hE) aw2_seg)
    have hm2 := hide (fun W (hE : Ext w4 W) => smay_yes g2 aw2 [109, 115, 103, 58, 120] W (hs2.out.ext hE) aw2_seg (by decide))
    have hpr : prtA [7, 7, 1, 1, 1] = #[.int .i64 0, .int .i64 0, .int .i64 7, .int .i64 7, .int .i64 1, .int .i64 1, .int .i64 1] := rfl
    rw [aw1_part, hpr] at hpt
    rw [aw1_may] at hm1
    rw [aw2_may] at hm2
    rw [aw2_rows] at htm
    have hno1 := segEncode_no [] none 0 0 w5 rfl ⟨.inl rfl, nofun⟩ (fun a ha => by cases ha) (by omega) (by omega) (.inr rfl)
    replace hno1 := hide hno1
    go_wp2_with fail
    refine hno1.out.mono ?_
    rintro e w6 ⟨rfl, hE6⟩
    have hE46 := hE5.trans hE6
    have q06 := hE6.cell q0
    replace hpk := hide hpk
    go_wp2_with fail
    refine (hpt.out w6 hE46).mono ?_
    rintro e w7 ⟨rfl, hE7⟩
    have hfd := fld_part w7
    go_wp2_with fail
    refine (hln.out w7 (hE46.trans hE7)).mono ?_
    rintro e w8 ⟨rfl, rfl⟩
    go_wp2_with fail
    refine (hm1.out w8 (hE46.trans hE7)).mono ?_
    rintro e w9 ⟨rfl, hE9⟩
    go_wp2_with fail
    refine (htm.out w9 ((hE46.trans hE7).trans hE9)).mono ?_
    rintro e w10 ⟨rfl, rfl⟩
    go_wp2_with fail
    refine (hm2.out w10 ((hE46.trans hE7).trans hE9)).mono ?_
    rintro e w11 ⟨rfl, hE11⟩
    go_wp2_with fail
    go_ret
    exact ⟨rfl, hE04.trans (((hE46.trans hE7).trans hE9).trans hE11)⟩
  · exact absurd rfl (hno _ (List.mem_singleton.2 rfl))
end
section
open Go.RowKit Go.Maps
theorem enc_open_any (P : List Dc) (hP : SegP P) (hsm : ∀ p ∈ framesD P, p.length ≤ 16777216) (ha : ∀ d ∈ P, I64ok' d.2.at_) (A : Option Addr) (n c : Nat) (w : World) (h : In8 w A n c (segL P)) :
    Calls Tryz.prog 11 #[.slice A n c] w fun e w' => ∃ g, e = .returned (.tuple #[.pointer (some ⟨g, 0, none⟩), .int .i64 0]) ∧ SegR w' g P ∧ Ext w w' := by
  have hln : n ≤ 1000000000 := by
    have h1 := joinL_len hsm
    have h2 : (segL P).length = 4 + (joinL (framesD P)).length := by unfold segL; rw [List.length_append]; rfl
    have h3 : (framesD P).length = 6 := rfl
    have h4 := h.len
    omega
  have hdr : (segL P).drop 4 = joinL (framesD P) := rfl
  refine (segOpen_any A n c (segL P) w h hln (fun Q _ hQ => ?_)).mono ?_
  · rw [hdr, splitF_join _ hsm] at hQ
    have h3 := decDs_of hP.sm.ok ha (by have := hP.sm.sz; omega)
    have hQ2 : decDs (encDs P) = some Q := hQ
    rw [h3] at hQ2
    rw [← Option.some.inj hQ2]
    exact hP.sm.sz
  · rintro e w' ⟨hE, hr⟩
    rw [openD_seg hP hsm ha] at hr
    obtain ⟨g, rfl, hs⟩ := hr
    exact ⟨g, rfl, hs, hE⟩
set_option maxRecDepth 100000 in
theorem run_headD {n c k : Nat} {A : Option Addr} (h : k ≤ c) :
    ∃ A', (∀ W : World, (Instr.sliceAt 22 (.slice A n c) none (some (.int .i64 k)) none).run Tryz.prog W = .ok (.slice A' k c) W) ∧ ((∀ a, A = some a → a.spot = none) → A' = A) := by
  have ht := Tryz.underlying22
  have he : Tryz.prog.elem 22 = 39 := by unfold Program.elem; rw [ht]
  have hs : ∀ W : World, (sizeOf 39).run Tryz.prog W = .ok 3 W := fun W => by kernel_rfl
  refine ⟨if c = 0 then A else A.map fun x => x.add (0 * 3), fun W => ?_, fun hA => ?_⟩
  · rw [run_sliceAt_slice W _ _ _ _ _ (by rw [ht, he]), run_slice_h W _ A n c (by rw [ht, he]) .i64 k (by omega) (by omega), he, hs]
    simp only [Result.andThen_ok]
    congr 1
  · cases A with
    | none => simp
    | some a =>
      obtain ⟨b, o, sp⟩ := a
      obtain rfl : sp = none := hA _ rfl
      simp [Addr.add_lit]
theorem DocsOk.take {w : World} {A A' : Option Addr} {ds : List DocC} (h : DocsOk w A ds) (k : Nat) (hA : ds ≠ [] → A' = A) : DocsOk w A' (ds.take k) := by
  refine ⟨?_, fun x hx => h.each x (List.mem_of_mem_take hx)⟩
  by_cases hne : ds = []
  · left; rw [hne]; simp [dcells]
  · rw [hA hne]
    rcases h.cells with hc | ⟨g, o, hg, hc⟩
    · left
      have h0 : ds.length = 0 := by
        have := congrArg List.length hc
        rw [dcells_len, List.length_nil] at this
        omega
      exact absurd (List.length_eq_zero_iff.1 h0) hne
    · refine .inr ⟨g, o, hg, fun i v hv => hc i v ?_⟩
      unfold dcells at hv ⊢
      rw [flat_take (f := DocC.cells) (k := 3) (fun _ => rfl), List.getElem?_take] at hv
      split at hv
      · exact hv
      · cases hv
set_option maxRecDepth 100000 in
theorem few13_any (A : Option Addr) (n c : Nat) (ds : List DocC) (w : World) (hn : n = ds.length) (hc : n ≤ c) (h : DocsOk w A ds) (hsp : ds ≠ [] → ∀ a, A = some a → a.spot = none) :
    Calls Tryz.prog 8 #[.slice A n c] w fun e w' => DocsA (fewD ((dcs ds).take 25)) w e w' := by
  obtain ⟨k, hk⟩ : ∃ k, k = min n 25 := ⟨_, rfl⟩
  have hmin := run_min2 (P := Tryz.prog) #[3, 3] 3 (x := (n : Int)) (y := 25) (m := (k : Int)) (by omega)
  obtain ⟨A', hsl, hA⟩ := run_headD (n := n) (c := c) (k := k) (A := A) (by omega)
  have hd := h.take (A' := A') 25 (fun hne => hA (hsp hne))
  have hlen : k = (ds.take 25).length := by rw [List.length_take, ← hn]; omega
  have hfew := few19_any A' c k (ds.take 25) w hlen hd
  have hdt : dcs (ds.take 25) = (dcs ds).take 25 := by unfold dcs; rw [List.map_take]
  rw [hdt] at hfew
  obtain ⟨PF, hPF⟩ : ∃ PF, PF = fewD ((dcs ds).take 25) := ⟨_, rfl⟩
  rw [← hPF] at hfew ⊢
  replace hfew := hide hfew
  replace hk := hide hk
  replace hn := hide hn
  clear hd hlen hdt hPF h hsp hA
  go_enter Tryz.func8, Tryz.ntmps8
  go_wp2_with fail
  refine hfew.out.mono ?_
  rintro e w1 ⟨hE, l, B, d, hl, rfl, ho⟩
  go_wp2_with fail
  go_ret
  exact ⟨hE, l, B, d, hl, rfl, ho⟩
end
section
open Go.RowKit Go.Maps
theorem PostsR.any {P : List Dc} {t : List UInt8} {w w' : World} {e : Ending} (hP : P.length ≤ 65536) (h : PostsR P t w e w') : ∃ (ps : List PoC) (A : Option Addr) (n c : Nat), e = .returned (.slice A n c) ∧ n = ps.length ∧ n ≤ 65536 ∧ psP ps = valsOf (pairsD 0 P) t ∧ PosOk w' A ps ∧ Ext w w' := by
  obtain ⟨hE, ⟨r, hr, hrt, ps, A, c, hps, rfl, hpo⟩ | ⟨hno, rfl⟩⟩ := h
  · have h1 := rows_ok hP hr
    have h2 := okPs_len h1.1
    refine ⟨ps, A, r.2.length, c, rfl, ?_, h2, ?_, hpo, hE⟩
    · rw [← hps]; unfold psP; rw [List.length_map]
    · rw [hps, h1.2.2, hrt]
  · refine ⟨[], none, 0, 0, rfl, rfl, by omega, ?_, ⟨.inl rfl, nofun⟩, hE⟩
    cases hv : valsOf (pairsD 0 P) t with
    | nil => rfl
    | cons x xs =>
      have := ((grp_ok (pairsD 0 P)).mem (t, valsOf (pairsD 0 P) t)).2 ⟨rfl, by rw [hv]; exact List.cons_ne_nil _ _⟩
      exact absurd rfl (hno _ this)
theorem rows_has {P : List Dc} {i : Nat} {d : Dc} (hd : P[i]? = some d) {p : List UInt8 × List Int} (hp : p ∈ termsL d.2) : p.1 ∈ (rowsD P).map (·.1) := by
  have h1 := findP_pairs p.1 P 0 i d hd
  rw [atT_mem hp] at h1
  have hne : valsOf (pairsD 0 P) p.1 ≠ [] := fun h0 => by rw [h0] at h1; cases h1
  have := ((grp_ok (pairsD 0 P)).mem (p.1, valsOf (pairsD 0 P) p.1)).2 ⟨rfl, hne⟩
  exact List.mem_map.2 ⟨_, this, rfl⟩
set_option maxRecDepth 100000 in
set_option maxHeartbeats 16000000 in
theorem segFinds_any (A0 A1 : Option Addr) (n0 c0 n1 c1 : Nat) (ds : List DocC) (ss : List (List UInt8)) (w : World) (hn : n0 = ds.length) (hc : n0 ≤ c0) (h : DocsOk w A0 ds) (hsp : ds ≠ [] → ∀ a, A0 = some a → a.spot = none) (hn1 : n1 = ss.length) (hss : Cells w A1 (ss.map strV)) :
    Calls Tryz.prog 3 #[.slice A0 n0 c0, .slice A1 n1 c1] w fun e w' => e = .returned (.bool true) ∧ Ext w w' := by
  have hfew := hide (few13_any A0 n0 c0 ds w hn hc h hsp)
  have h8 := few8_of (P := dcs ds) fun d hd => by
    unfold dcs at hd
    obtain ⟨x, hx, rfl⟩ := List.mem_map.1 hd
    exact (h.each x hx).2.1
  obtain ⟨PF, hPF⟩ : ∃ PF, PF = fewD ((dcs ds).take 25) := ⟨_, rfl⟩
  rw [← hPF] at hfew h8
  have haw := hide (fun W => awake13_any W)
  replace hn1 := hide hn1
  replace hss := hide hss
  clear hPF h hn hc hsp
  go_enter Tryz.func3, Tryz.ntmps3
  go_wp2_with fail
  refine hfew.out.mono ?_
  rintro e w1 ⟨hE1, l, A, c, hl, rfl, hown⟩
  have hok := hown.ok
  have hcap := hown.cap
  obtain ⟨m, hm⟩ : ∃ m, m = l.length := ⟨_, rfl⟩
  rw [← hm] at hcap ⊢
  have hml : PF.length = m := by rw [← hl, hm]; exact List.length_map ..
  have hm25 : m ≤ 25 := by rw [← hml]; exact h8.n
  replace hm := hide hm
  replace hok := hide hok
  by_cases hyes : okDs PF = true ∧ 0 < m
  · obtain ⟨hk, h0⟩ := hyes
    have hsm : SmP (dcs l) := by rw [hl]; exact h8.sm hk
    have hP : SegP PF := ⟨h8.sm hk, by omega⟩
    have hP6 : PF.length ≤ 65536 := by omega
    have hfs := frames_small hok.out hm.out h0 hsm
    rw [hl] at hfs
    have hen := segEncode_yes l A m c w1 hm.out hok.out hcap.2 hcap.1 hsm h0
    rw [hl] at hen
    replace hen := hide hen
    replace hP := hide hP
    replace hfs := hide hfs
    clear hsm
    go_wp2_with fail
    refine hen.out.mono ?_
    rintro e w2 ⟨Ax, cx, rfl, hOx, hE2⟩
    obtain ⟨nx, hnx⟩ : ∃ nx, nx = (segL PF).length := ⟨_, rfl⟩
    have hop := enc_open_any PF hP.out hfs.out (fun d hd => (h8.each d hd).1) Ax (segL PF).length cx w2 hOx.2.in8
    rw [← hnx] at hop ⊢
    replace hop := hide hop
    replace hnx := hide hnx
    go_wp2_with fail
    refine hop.out.mono ?_
    rintro e w3 ⟨g, rfl, hs, hE3⟩
    have hE13 := hide (hE2.trans hE3)
    have hE03 := hide (hE1.trans hE13.out)
    replace hs := hide hs
    clear hE3 hE2 hOx hop hen
    have hpo := hide (fun t W (hE : Ext w3 W) => sposts_yes g PF t W (hs.out.ext hE) hP.out)
    have hma := hide (fun t W (hE : Ext w3 W) (ht : t.length ≤ 1000000000) => smay_yes g PF t W (hs.out.ext hE) hP.out ht)
    have hte := hide (fun (e : Ev) A c W (h : e.Ok W A) => rterms_any e A c W h)
    have hfd := hide (fun (ps : List PoC) A n c x W (hn : n = ps.length) (h : PosOk W A ps) (hn9 : n ≤ 1000000000) => rfind_any ps A n c x W hn h hn9)
    have hsi := hide (fun A B n c c2 (xs : List Int) W (hn : n = xs.length) (hA : Cells W A (xs.map IV)) (hB : Cells W B (xs.map IV)) (hn2 : n ≤ 1000000000) => sameintsZ_any A B n c c2 xs W hn hA hB hn2)
    go_wp2_with fail
    go_loopw [9] (fun s9 wr => ∃ i : Nat, s9 = .int .i64 (i : Int) ∧ i ≤ m ∧ Hid (Ext w3 wr)) (fun s9 _ => m - (intOf s9).toNat)
    case atStart => exact ⟨0, rfl, by omega, hide (Ext.refl _)⟩
    case round =>
      obtain ⟨i, rfl, hi, hE⟩ := hrel
      by_cases him : i < m
      · obtain ⟨x, hx⟩ : ∃ x, l[i]? = some x := ⟨_, List.getElem?_eq_getElem (by rw [← hm.out]; exact him)⟩
        obtain ⟨gl, ol, hA, k0, k1, k2⟩ := dcells_at (hok.out.cells.ext (hE13.out.trans hE.out)) hx
        have hxo := (hok.out.each x (List.mem_of_getElem? hx)).1
        have hxP : PF[i]? = some x.dc := by rw [← hl]; unfold dcs; rw [List.getElem?_map, hx]; rfl
        obtain ⟨sq, ⟨at_, fs⟩, xA, xc⟩ := x
        unfold DocC.dc at hxP
        simp only at k0 k1 k2 hxo hxP
        have htm := hte.out ⟨at_, fs⟩ xA xc wr (hxo.ext (hE13.out.trans hE.out))
        unfold Ev.val at htm
        simp only at htm
        have hfp := fun t => findP_pairs t PF 0 i _ hxP
        have hrh := fun p hp => rows_has (p := p) hxP hp
        simp only [Nat.zero_add] at hfp hrh
        obtain ⟨E, hEdef⟩ : ∃ E : Ev, E = ⟨at_, fs⟩ := ⟨_, rfl⟩
        rw [← hEdef] at htm hfp hrh
        obtain ⟨fl, hfl⟩ : ∃ fl, fl = fs.length := ⟨_, rfl⟩
        rw [← hfl] at htm k2
        subst hA
        replace htm := hide htm
        replace hfp := hide hfp
        replace hrh := hide hrh
        clear hx hxo hxP hEdef hfl
        go_wp2_with fail
        refine htm.out.mono ?_
        rintro e w4 ⟨D, AT, nT, cT, rfl, hD, hT, hE4⟩
        have hE34 := hide (hE.out.trans hE4)
        have hnT := hT.len
        have hnT6 : nT ≤ 65536 := by
          have h1 := termsL_len E
          rw [← hD] at h1
          unfold tmR at h1
          rw [List.length_map] at h1
          omega
        replace hT := hide hT
        replace hD := hide hD
        replace hnT := hide hnT
        clear k0 k1 k2 hE4
        go_wp2_with fail
        go_loopw [11] (fun s11 wr => ∃ k : Nat, s11 = .int .i64 (k : Int) ∧ k ≤ nT ∧ Hid (Ext w4 wr)) (fun s11 _ => nT - (intOf s11).toNat)
        case atStart => exact ⟨0, rfl, by omega, hide (Ext.refl _)⟩
        case round =>
          clear hE
          obtain ⟨k, rfl, hk, hE⟩ := hrel
          by_cases hkn : k < nT
          · obtain ⟨y, hy⟩ : ∃ y, D[k]? = some y := ⟨_, List.getElem?_eq_getElem (by rw [← hnT.out]; exact hkn)⟩
            have hym : y.tm ∈ termsL E := by rw [← hD.out]; exact List.mem_map.2 ⟨y, List.mem_of_getElem? hy, rfl⟩
            obtain ⟨hyc, _⟩ := hT.out.each y (List.mem_of_getElem? hy)
            have hyk := termsL_key hym
            have hyp := termsL_pl hym
            have hya := atT_mem hym
            have hyr := mayB_of (hrh.out _ hym)
            obtain ⟨gt, ot, hAT, hat⟩ := tmcells_at (hT.out.cells.ext hE.out) hy
            obtain ⟨ys, pos, yA, yc⟩ := y
            unfold TmC.tm at hyk hyp hya hyr
            simp only at hyk hyp hya hyr hat hyc
            obtain ⟨pl, hpl⟩ : ∃ pl, pl = pos.length := ⟨_, rfl⟩
            rw [← hpl] at hat hyp
            obtain ⟨l0, l1⟩ := hat wr (Ext.refl _)
            have hfk := hfp.out ys
            rw [hya] at hfk
            have hp1 := hide (hpo.out ys wr (hE34.out.trans hE.out))
            replace hat := hide hat
            replace hfk := hide hfk
            replace hpl := hide hpl
            replace hyc := hide hyc
            replace hyr := hide hyr
            subst hAT
            clear hy hym hya
            go_wp2_with fail
            refine hp1.out.mono ?_
            intro e w5 hres
            obtain ⟨ps, A5, n5, c5, rfl, hn5, hn56, hps, hpk, hE5⟩ := hres.any hP6
            have hf5 := hfd.out ps A5 n5 c5 (i : Int) w5 hn5 hpk (by omega)
            rw [hps, hfk.out] at hf5
            replace hf5 := hide hf5
            replace hE5 := hide hE5
            clear hn5 hps hpk hp1 l0 l1 hres
            go_wp2_with fail
            refine hf5.out.mono ?_
            rintro e w6 ⟨hE6, B6, d6, rfl, hc6, _⟩
            rw [← hpl.out]
            have hE46 := hide ((hE.out.trans hE5.out).trans hE6)
            obtain ⟨l0, l1⟩ := hat.out w6 (hE5.out.trans hE6)
            have hs6 := hide (hsi.out B6 yA pl d6 yc pos w6 hpl.out hc6 (hyc.out.ext hE46.out) (by omega))
            clear hf5 hE6 hc6
            go_wp2_with fail
            refine hs6.out.mono ?_
            rintro e w7 ⟨rfl, hE7⟩
            have l0 := hE7.cell l0
            have hm7 := hma.out ys w7 (hE34.out.trans (hE46.out.trans hE7)) (by omega)
            rw [hyr.out] at hm7
            replace hm7 := hide hm7
            have hE47 := hide (hE46.out.trans hE7)
            clear hs6 hE7 l1
            go_wp2_with fail
            refine hm7.out.mono ?_
            rintro e w8 ⟨rfl, hE8⟩
            have hE48 := hide (hE47.out.trans hE8)
            clear hE8
            go_wp2_with fail
            go_roundw
            case rel => exact ⟨k + 1, by go_num, by omega, hE48⟩
            case measure => simp only [intOf]; omega
          · have hE44 := hE
            obtain ⟨w9, rfl⟩ : ∃ w9, w9 = wr := ⟨_, rfl⟩
            clear hE
            go_wp2_with fail
            go_loopw [14] (fun s14 wr => ∃ k : Nat, s14 = .int .i64 (k : Int) ∧ k ≤ n1 ∧ k ≤ 20 ∧ Hid (Ext w4 wr)) (fun s14 _ => 20 - (intOf s14).toNat)
            case atStart => exact ⟨0, rfl, by omega, by omega, hE44⟩
            case round =>
              clear hE44
              obtain ⟨k, rfl, hk, hk20, hE⟩ := hrel
              by_cases hgo : k < n1 ∧ k < 20
              · obtain ⟨hk1, hk2⟩ := hgo
                have hk2i : (k : Int) < 20 := by omega
                obtain ⟨a, ha⟩ : ∃ a, ss[k]? = some a := ⟨_, List.getElem?_eq_getElem (by rw [← hn1.out]; exact hk1)⟩
                obtain ⟨ga, oa, hA1, hca⟩ := hss.out.at_ (by rw [List.length_map, ← hn1.out]; omega)
                have hca0 : w.cell? ⟨ga, oa + k, none⟩ = some (.string ⟨a.toArray⟩) := hca k _ (by rw [List.getElem?_map, ha]; rfl)
                have hask := hide (fun W (hE : Ext w W) => hE.cell hca0)
                subst hA1
                clear hca hca0 ha
                obtain ⟨wk, rfl⟩ : ∃ wk, wk = wr := ⟨_, rfl⟩
                go_wp2_with fail
                go_loopw [15, 16] (fun s15 s16 wr => ∃ j : Nat, s15 = .bool (((tmR D).take j).any fun p => decide (p.1 = a)) ∧ s16 = .int .i64 (j : Int) ∧ j ≤ nT ∧ Hid (Ext w4 wr)) (fun _ s16 _ => nT - (intOf s16).toNat)
                case atStart => exact ⟨0, rfl, rfl, by omega, hE⟩
                case round =>
                  clear hE
                  obtain ⟨j, rfl, rfl, hj, hE⟩ := hrel
                  have q0 := hask.out wr ((hE03.out.trans hE34.out).trans hE.out)
                  by_cases hjn : j < nT
                  · obtain ⟨y, hy⟩ : ∃ y, D[j]? = some y := ⟨_, List.getElem?_eq_getElem (by rw [← hnT.out]; exact hjn)⟩
                    obtain ⟨gt, ot, hAT, hat⟩ := tmcells_at (hT.out.cells.ext hE.out) hy
                    obtain ⟨l0, _⟩ := hat wr (Ext.refl _)
                    have hyt : (tmR D)[j]? = some y.tm := by unfold tmR; rw [List.getElem?_map, hy]; rfl
                    have hnx : ((tmR D).take (j + 1)).any (fun p => decide (p.1 = a)) = (((tmR D).take j).any (fun p => decide (p.1 = a)) || (y.s == a)) := by
                      rw [List.take_add_one, hyt, List.any_append]
                      congr 1
                      show (decide (y.s = a) || false) = _
                      rw [Bool.or_false]
                      by_cases hya : y.s = a
                      · rw [decide_eq_true hya]; exact (beq_iff_eq.2 hya).symm
                      · rw [decide_eq_false hya]; exact (beq_eq_false_iff_ne.2 hya).symm
                    obtain ⟨b0, hb0⟩ : ∃ b0, b0 = ((tmR D).take j).any (fun p => decide (p.1 = a)) := ⟨_, rfl⟩
                    obtain ⟨b1, hb1⟩ : ∃ b1, b1 = ((tmR D).take (j + 1)).any (fun p => decide (p.1 = a)) := ⟨_, rfl⟩
                    rw [← hb0, ← hb1] at hnx
                    rw [← hb0]
                    replace hb0 := hide hb0
                    replace hb1 := hide hb1
                    subst hAT
                    obtain ⟨ys, pos, yA, yc⟩ := y
                    simp only at l0 hnx
                    clear hy hyt hat
                    cases b0
                    case' true =>
                      rw [Bool.true_or] at hnx
                    case' false =>
                      rw [Bool.false_or] at hnx
                    all_goals
                      replace hnx := hide hnx
                      go_wp2_with fail
                      refine wp_region_text follows (by kernel_rfl) (by kernel_rfl) (fun K hK => ?_)
                      go_wp2_with fail
                      refine ⟨by kernel_rfl, ?_⟩
                      go_wp2_with fail
                      go_roundw
                      case rel => exact ⟨j + 1, by rw [← hb1.out, hnx.out], by go_num, by omega, hide (hE.out.trans (Ext.refl _).drew)⟩
                      case measure => simp only [intOf]; omega
                  · obtain rfl : j = nT := by omega
                    have hall : ((tmR D).take j).any (fun p => decide (p.1 = a)) = (atT E a).isSome := by
                      rw [atT_any, hD.out, ← hD.out, List.take_of_length_le (by unfold tmR; rw [List.length_map, hnT.out]; exact Nat.le_refl _)]
                    rw [hall]
                    have hfk := hfp.out a
                    have hp1 := hide (hpo.out a wr (hE34.out.trans hE.out))
                    obtain ⟨R, hR⟩ : ∃ R, R = atT E a := ⟨_, rfl⟩
                    rw [← hR] at hfk ⊢
                    replace hfk := hide hfk
                    clear hall hR
                    go_wp2_with fail
                    refine hp1.out.mono ?_
                    intro e w5 hres
                    obtain ⟨ps, A5, n5, c5, rfl, hn5, hn56, hps, hpk, hE5⟩ := hres.any hP6
                    have hf5 := hfd.out ps A5 n5 c5 (i : Int) w5 hn5 hpk (by omega)
                    rw [hps, hfk.out] at hf5
                    have hE45 := hide (hE.out.trans hE5)
                    clear hn5 hps hpk hp1 hres q0 hE5
                    cases R with
                    | none =>
                      replace hf5 := hide hf5
                      go_wp2_with fail
                      refine hf5.out.mono ?_
                      rintro e w6 ⟨hE6, rfl⟩
                      have hE46 := hide (hE45.out.trans hE6)
                      clear hE6
                      go_wp2_with fail
                      go_roundw
                      case rel => exact ⟨k + 1, by go_num, by omega, by omega, hE46⟩
                      case measure => simp only [intOf]; omega
                    | some pos =>
                      replace hf5 := hide hf5
                      go_wp2_with fail
                      refine hf5.out.mono ?_
                      rintro e w6 ⟨hE6, B6, d6, rfl, hc6, _⟩
                      have hE46 := hide (hE45.out.trans hE6)
                      clear hE6 hc6
                      go_wp2_with fail
                      go_roundw
                      case rel => exact ⟨k + 1, by go_num, by omega, by omega, hE46⟩
                      case measure => simp only [intOf]; omega
              · have hE34k := hide (hE34.out.trans hE.out)
                by_cases hk1 : k < n1
                case' pos => have hk2i : ¬ (k : Int) < 20 := by omega
                all_goals
                  go_wp2_with fail
                  go_roundw
                  case rel => exact ⟨i + 1, by go_num, by omega, hE34k⟩
                  case measure => simp only [intOf]; omega
      · go_wp2_with fail
        refine (haw.out _).mono ?_
        rintro e w9 ⟨rfl, hE9⟩
        go_wp2_with fail
        go_ret
        exact ⟨rfl, (hE03.out.trans hE.out).trans hE9⟩
  · have hno : okDs (dcs l) = false ∨ m = 0 := by
      rw [hl]
      by_cases h0 : m = 0
      · exact .inr h0
      · exact .inl (by
          cases hk : okDs PF with
          | false => rfl
          | true => exact absurd ⟨hk, by omega⟩ hyes)
    have hen := hide (segEncode_no l A m c w1 hm.out hok.out hcap.2 hcap.1 (by omega) hno)
    clear hno hyes
    go_wp2_with fail
    refine hen.out.mono ?_
    rintro e w5 ⟨rfl, hE5⟩
    go_wp2_with fail
    refine (haw.out _).mono ?_
    rintro e w9 ⟨rfl, hE9⟩
    go_wp2_with fail
    go_ret
    exact ⟨rfl, (hE1.trans hE5).trans hE9⟩
end
section
open Go.ChangeShapes Go.WideShapes Go.Deep Go.RowKit
section
variable {H : Type} {enc : TypeId × Value → H} {w : World} {base : Nat} {spare : Nat → Bool} {held : Bool}
set_option maxRecDepth 100000 in
theorem in_fd {fuel : Nat} {cs : List Value} {y : DataW H × List MemPlace} (hcl : cs.length = 2) (h : DataW.trod enc Tryz.prog w base spare held fuel 105 cs = some y) :
    ∃ f : Fd, (f.1.length ≤ 9223372036854775807 ∧ f.2.length ≤ 9223372036854775807) ∧ f.cells = cs := by
  obtain ⟨n, one⟩ := in_fields (tys := #[9, 9]) Tryz.underlying105 (by kernel_rfl) (by kernel_rfl) h
  match cs, hcl with
  | [v0, v1], _ =>
    obtain ⟨z0, h0⟩ := one 0 _ v0 rfl rfl
    obtain ⟨s0, e0, _, w0⟩ := DataW.trod_string Tryz.underlying9 h0
    obtain rfl : v0 = .string s0 := by simpa using e0
    obtain ⟨z1, h1⟩ := one 1 _ v1 rfl rfl
    obtain ⟨s1, e1, _, w1⟩ := DataW.trod_string Tryz.underlying9 h1
    obtain rfl : v1 = .string s1 := by simpa using e1
    refine ⟨(s0.data.toList, s1.data.toList), ⟨(str_list w0).2, (str_list w1).2⟩, ?_⟩
    unfold Fd.cells
    rw [(str_list w0).1, (str_list w1).1]
set_option maxRecDepth 100000 in
theorem in_ev {fuel : Nat} {cs : List Value} {y : DataW H × List MemPlace} (hcl : cs.length = 2) (h : DataW.trod enc Tryz.prog w base spare held fuel 37 cs = some y) :
    ∃ x : EvC, (x.e.Ok w x.A ∧ I64ok' x.e.at_) ∧ x.cells = cs := by
  obtain ⟨n, one⟩ := in_fields (tys := #[3, 35]) Tryz.underlying37 (by kernel_rfl) (by kernel_rfl) h
  match cs, hcl with
  | [v0, v1], _ =>
    obtain ⟨z0, h0⟩ := one 0 _ v0 rfl rfl
    obtain ⟨k0, e0, _, w0⟩ := DataW.trod_int Tryz.underlying3 h0
    obtain rfl : v0 = .int .i64 k0 := by simpa using e0
    obtain ⟨z1, h1⟩ := one 1 _ v1 rfl rfl
    obtain ⟨A, c, fs, rfl, hc, _, _, hl, hfs⟩ := in_row_of (cellsA := Fd.cells) Tryz.underlying35 (by kernel_rfl) (by omega : 0 < 2) (fun _ => rfl) (fun _ _ _ a b => in_fd a b) h1
    exact ⟨⟨⟨k0, fs⟩, A, c⟩, ⟨⟨hc, hl, hfs⟩, wf_i64 w0⟩, rfl⟩
end
end
section
open Go.ChangeShapes Go.WideShapes Go.Deep Go.RowKit
section
variable {H : Type} {enc : TypeId × Value → H} {w : World} {base : Nat} {spare : Nat → Bool} {held : Bool}
set_option maxRecDepth 100000 in
theorem in_doc {fuel : Nat} {cs : List Value} {y : DataW H × List MemPlace} (hcl : cs.length = 3) (h : DataW.trod enc Tryz.prog w base spare held fuel 39 cs = some y) :
    ∃ x : DocC, (x.e.Ok w x.A ∧ I64ok' x.e.at_ ∧ I64ok' x.seq) ∧ x.cells = cs := by
  obtain ⟨y0, y1, n, _, _, h0, h1⟩ := trod_struct2 Tryz.underlying39 h
  match cs, hcl with
  | [v0, v1, v2], _ =>
    have hc0 : Tryz.prog.cellsOf 3 = 1 := by kernel_rfl
    have hc1 : Tryz.prog.cellsOf 37 = 2 := by kernel_rfl
    have h0' : DataW.trod enc Tryz.prog w base spare held n 3 [v0] = some y0 := by
      have h2 := h0
      simp only [hc0] at h2
      exact h2
    have h1' : DataW.trod enc Tryz.prog w base spare held n 37 [v1, v2] = some y1 := by
      have h2 := h1
      simp only [hc1] at h2
      exact h2
    obtain ⟨k0, e0, _, w0⟩ := DataW.trod_int Tryz.underlying3 h0'
    obtain rfl : v0 = .int .i64 k0 := by simpa using e0
    obtain ⟨x, ⟨hx1, hx2⟩, hxc⟩ := in_ev rfl h1'
    refine ⟨⟨k0, x.e, x.A, x.c⟩, ⟨hx1, hx2, wf_i64 w0⟩, ?_⟩
    unfold EvC.cells at hxc
    unfold DocC.cells
    rw [← hxc]
set_option maxRecDepth 100000 in
theorem in_docs {fuel : Nat} {v : Value} {x : DataW H × List MemPlace} (h : DataW.trod enc Tryz.prog w base spare held fuel 22 [v] = some x) :
    ∃ (A : Option Addr) (c : Nat) (l : List DocC), v = .slice A l.length c ∧ DocsOk w A l ∧ l.length ≤ c ∧ l.length ≤ 9223372036854775807 ∧ (l ≠ [] → ∀ a, A = some a → a.spot = none) := by
  obtain ⟨A, c, l, rfl, hc, hs, hlc, hl, hx⟩ := in_row_of (cellsA := DocC.cells) (Q := fun x : DocC => x.e.Ok w x.A ∧ I64ok' x.e.at_ ∧ I64ok' x.seq) Tryz.underlying22 (by kernel_rfl) (by omega : 0 < 3) (fun _ => rfl) (fun _ _ _ a b => in_doc a b) h
  exact ⟨A, c, l, rfl, ⟨hc, hx⟩, hlc, hl, fun hne a ha => (hs hne a ha).2⟩
end
end
end Go.Proofs.YtkdcnhnaiknaaaaGreat
