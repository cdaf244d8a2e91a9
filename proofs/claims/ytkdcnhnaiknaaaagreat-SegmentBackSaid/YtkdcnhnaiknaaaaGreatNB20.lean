/- loggia/dict: Open of bytes that Encode told. -/
import Derived.Test.YtkdcnhnaiknaaaaGreatNB19
import Derived.Test.YtkdcnhnaiknaaaaGreatNB03
import Derived.Test.YtkdcnhnaiknaaaaGreatNB14
import Derived.Deep.CutRange
import Derived.Deep.DeepCutAuto
import Derived.Test.YtkdcnhnaiknaaaaGreatNB18
import Derived.Test.YtkdcnhnaiknaaaaGreatNB13
import Derived.Test.YtkdcnhnaiknaaaaGreatNB05
set_option linter.unusedSimpArgs false
set_option linter.unusedVariables false
namespace Go.Proofs.YtkdcnhnaiknaaaaGreat
open Go.RowKit

/-- What is to be read from the i-th entry on; behind a part's head. -/
def midE (l : List En) (i : Nat) (la : List UInt8) : List UInt8 := blockE la ((l.drop i).take (16 - i % 16)) ++ partsE (chunkL 16 (l.drop (i + (16 - i % 16))))
def restE (l : List En) (i : Nat) : List UInt8 := if i % 16 = 0 then partsE (chunkL 16 (l.drop i)) else midE l i (lastT l i)
theorem restE_zero (l : List En) : encEs l = vb l.length ++ restE l 0 := by
  unfold restE encEs
  rw [if_pos (by omega), List.drop_zero]
theorem restE_head {l : List En} {i : Nat} (h : i % 16 = 0) (hi : i < l.length) : ∃ q, restE l i = vb q ++ midE l i [] ∧ q ≤ (midE l i []).length := by
  have hne : l.drop i ≠ [] := fun e => by
    have := congrArg List.length e
    rw [List.length_drop, List.length_nil] at this
    omega
  refine ⟨(blockE [] ((l.drop i).take 16)).length, ?_, ?_⟩
  · unfold restE midE
    rw [if_pos h, h, chunkL_cons hne (by omega), List.drop_drop]
    show vb _ ++ blockE [] _ ++ partsE _ = _
    rw [List.append_assoc]
  · unfold midE
    rw [h, List.length_append]
    exact Nat.le_add_right _ _
theorem midE_step {l : List En} {i : Nat} {x : En} (hx : l[i]? = some x) (la : List UInt8) : midE l i la = enB la x ++ restE l (i + 1) := by
  unfold midE
  have h16 : i % 16 < 16 := Nat.mod_lt _ (by omega)
  rw [drop_step hx, show 16 - i % 16 = (15 - i % 16) + 1 by omega, List.take_succ_cons]
  show (enB la x ++ blockE x.t _) ++ _ = _
  rw [List.append_assoc]
  congr 1
  unfold restE
  by_cases h : (i + 1) % 16 = 0
  · rw [if_pos h, show 15 - i % 16 = 0 by omega, List.take_zero, blockE, List.nil_append, show i + (0 + 1) = i + 1 by omega]
  · rw [if_neg h, lastT_succ hx]
    unfold midE
    rw [show 16 - (i + 1) % 16 = 15 - i % 16 by omega, show i + (15 - i % 16 + 1) = i + 1 + (15 - i % 16) by omega]
set_option maxRecDepth 100000 in
theorem elemEn : Elem Tryz.prog 94 97 4 40 := ⟨Tryz.underlying94, ⟨_, _, rfl, rfl, rfl, rfl, rfl⟩, by omega, by omega⟩
/-- The dictionary at block g. -/
def DicR (w : World) (g : Nat) (l : List En) : Prop := ∃ A c, Row w g 180 #[.slice A l.length c, .bool true] ∧ Cells w A (encells l)
theorem DicR.ext {w w1 : World} {g : Nat} {l : List En} (h : DicR w g l) (hE : Ext w w1) : DicR w1 g l := by
  obtain ⟨A, c, h1, h2⟩ := h
  exact ⟨A, c, h1.ext hE, h2.ext hE⟩
def NewD (w : World) (l : List En) (e : Ending) (w' : World) : Prop := ∃ g, e = .returned (.tuple #[.pointer (some ⟨g, 0, none⟩), .int .i64 0]) ∧ DicR w' g l ∧ Ext w w'
set_option maxRecDepth 100000 in
set_option maxHeartbeats 4000000 in
theorem dOpen_any (A : Option Addr) (n c : Nat) (bs : List UInt8) (w : World) (l : List En) (h : In8 w A n c bs) (hok : OkEs l) (hbs : bs = encEs l) (hle : n ≤ 100000000) :
    Calls Tryz.prog 52 #[.slice A n c] w fun e w' => NewD w l e w' := by
  obtain ⟨m, hm⟩ : ∃ m, m = l.length := ⟨_, rfl⟩
  have hm6 : m ≤ 262144 := by rw [hm]; exact hok.few
  have hbs2 : bs = vb m ++ restE l 0 := by rw [hbs, hm]; exact restE_zero l
  have hnl : n = (vb m ++ restE l 0).length := by rw [← hbs2]; exact h.len
  obtain ⟨g, hg⟩ : ∃ g, g = w.heap.size := ⟨_, rfl⟩
  obtain ⟨W0, hW0⟩ : ∃ W0, W0 = w.alloc (.cells #[.slice A n c, .bool false] 176) := ⟨_, rfl⟩
  have hE0 : Ext w W0 := by rw [hW0]; exact (Ext.refl w).alloc _
  have hS0 : RdD w g (vb m ++ restE l 0) W0 := by
    refine ⟨A, c, ?_, by rw [← hnl, ← hbs2]; exact h, hE0⟩
    rw [← hnl, hW0, hg]
    exact Row.new w _ _
  have hnum := hide (fun W q r z h1 h2 h3 h4 => dnumber_any w W g q r z h1 (by omega) h2 h3 h4)
  have hent := hide (fun W la x r h1 h2 h3 h4 => dentry_any w W g la x r h1 (by omega) h2 h3 h4)
  have hl0 : (restE l 0).length ≤ n := by rw [hnl, List.length_append]; omega
  replace hS0 := hide hS0
  replace hE0 := hide hE0
  replace hok := hide hok
  replace hbs := hide hbs
  replace hbs2 := hide hbs2
  replace hm := hide hm
  replace hW0 := hide hW0
  replace hg := hide hg
  replace h := hide h
  replace hnl := hide hnl
  replace hl0 := hide hl0
  go_enter Tryz.func52, Tryz.ntmps52
  go_wp2_with fail
  rw [← hW0.out, ← hg.out]
  refine (hnum.out W0 m (restE l 0) 262144 hS0.out (by omega) (by omega) (by rw [← hnl.out]; omega)).mono ?_
  rintro e w1 ⟨rfl, hS1, hC1⟩
  replace hS1 := hide hS1
  replace hC1 := hide hC1
  go_wp2_with fail
  go_loopw [6, 7, 8] (fun s6 s7 s8 wr => ∃ (i c6 : Nat) (A6 : Option Addr) (la : List UInt8), s6 = .slice A6 i c6 ∧ s7 = .string ⟨la.toArray⟩ ∧ s8 = .int .i64 (i : Int) ∧ i ≤ m ∧ Hid (i % 16 ≠ 0 → la = lastT l i) ∧ Hid (la.length ≤ 65) ∧ Hid ((restE l i).length ≤ n) ∧ Hid (RdD w g (restE l i) wr) ∧ Hid (wr.ownsRow w.heap.size 97 4 (.slice A6 i c6) i (encells (l.take i)))) (fun _ _ s8 _ => m - (intOf s8).toNat)
  case atStart => exact ⟨0, 0, none, [], rfl, rfl, rfl, by omega, hide (fun h => by omega), hide (by simp), hl0, hS1, hide (World.ownsRow_nil _ _ _ _)⟩
  case round =>
    obtain ⟨i, c6, A6, la, rfl, rfl, rfl, him, hla, hlal, hrl, hS, hown⟩ := hrel
    obtain ⟨wv, rfl⟩ : ∃ wv, wv = wr := ⟨_, rfl⟩
    obtain ⟨B0, d0, r0, _, _⟩ := hS.out
    have kb := r0.cell 1 rfl
    clear r0
    by_cases hin : i < m
    · obtain ⟨x, hxi⟩ : ∃ x, l[i]? = some x := ⟨_, List.getElem?_eq_getElem (by rw [← hm.out]; exact hin)⟩
      have hxo := (hok.out.each x (List.mem_of_getElem? hxi)).1
      obtain ⟨mo, hmo⟩ : ∃ mo, mo = i % 16 := ⟨_, rfl⟩
      have hmoi : (i : Int) % 16 = (mo : Int) := by omega
      have hmo0 : ((mo : Int) == 0) = decide (mo = 0) := by rw [Bool.eq_iff_iff, beq_iff_eq, decide_eq_true_iff]; omega
      replace hmo := hide hmo
      replace hxi := hide hxi
      go_upto_if 29 with (fail)
      go_cut [7] (fun s7 wx => ∃ la2 : List UInt8, s7 = .string ⟨la2.toArray⟩ ∧ Hid (la2.length ≤ 65) ∧ Hid ((midE l i la2).length ≤ n) ∧ Hid (RdD w g (midE l i la2) wx) ∧ Hid (wx.ownsRow w.heap.size 97 4 (.slice A6 i c6) i (encells (l.take i))))
      case first =>
        by_cases hm0 : mo = 0
        · obtain ⟨q, hq, hq2⟩ := restE_head (l := l) (by rw [← hmo.out]; exact hm0) (by rw [← hm.out]; exact hin)
          have hS2 := hS.out
          have hrl2 := hrl.out
          rw [hq] at hS2 hrl2
          have hml : (midE l i []).length ≤ n := by rw [List.length_append] at hrl2; omega
          have hc := hide (hnum.out wv q _ (n : Int) hS2 (by omega) (by omega) (by omega))
          replace hq := hide hq
          replace hq2 := hide hq2
          replace hml := hide hml
          clear hS2 hrl2
          go_wp2_with fail
          refine hc.out.mono ?_
          rintro e w3 ⟨rfl, hS3, hC3⟩
          have hown3 := hC3.owns hown.out fun gb hgb e => by
            obtain ⟨B, d, q1, _, _⟩ := hS.out
            exact owns_unlike hown.out q1 (by decide) (by rw [hgb, e])
          replace hS3 := hide hS3
          replace hown3 := hide hown3
          replace hC3 := hide hC3
          go_wp2_with fail
          go_meet
          case rel => exact ⟨[], rfl, hide (by simp), hml, hS3, hown3⟩
        · have hre : restE l i = midE l i la := by
            unfold restE
            rw [if_neg (by rw [← hmo.out]; exact hm0), hla.out (by rw [← hmo.out]; exact hm0)]
          have hS3 : Hid (RdD w g (midE l i la) wv) := hide (by rw [← hre]; exact hS.out)
          have hml : Hid ((midE l i la).length ≤ n) := hide (by rw [← hre]; exact hrl.out)
          replace hre := hide hre
          go_wp2_with fail
          go_meet
          case rel => exact ⟨la, rfl, hlal, hml, hS3, hown⟩
      case rest =>
        obtain ⟨la2, rfl, hla2, hml, hS3, hown3⟩ := hcut
        have hst := midE_step hxi.out la2
        have hS4 := hS3.out
        have hml2 := hml.out
        rw [hst] at hS4 hml2
        have hrl4 : (restE l (i + 1)).length ≤ n := by rw [List.length_append] at hml2; omega
        have hc := hide (hent.out _ la2 x _ hS4 hxo hla2.out (by omega))
        have hnx := lastT_succ hxi.out
        have htk : encells (l.take (i + 1)) = encells (l.take i) ++ x.cells := by
          rw [List.take_add_one, hxi.out]
          unfold encells
          rw [List.flatMap_append]
          simp
        obtain ⟨t, off, len, nn⟩ := x
        have ht65 : t.length ≤ 65 := hxo.1
        simp only at hnx
        replace hst := hide hst
        replace hrl4 := hide hrl4
        replace hnx := hide hnx
        replace htk := hide htk
        replace ht65 := hide ht65
        clear hS4 hml2
        go_wp2_with fail
        refine hc.out.mono ?_
        rintro e w4 ⟨he, hS5, hC5⟩
        have he : e = .returned (.agg #[.string ⟨t.toArray⟩, .int .i64 (off : Int), .int .i64 (len : Int), .int .i64 (nn : Int)]) := he
        subst he
        have hown5 := hC5.owns hown3.out fun gb hgb e => by
          obtain ⟨B, d, q1, _, _⟩ := hS3.out
          exact owns_unlike hown3.out q1 (by decide) (by rw [hgb, e])
        obtain ⟨g9, hg9⟩ : ∃ g9, g9 = w4.heap.size := ⟨_, rfl⟩
        obtain ⟨W9, hW9⟩ : ∃ W9, W9 = w4.alloc (.cells #[.string ⟨t.toArray⟩, .int .i64 (off : Int), .int .i64 (len : Int), .int .i64 (nn : Int)] 97) := ⟨_, rfl⟩
        have hr9 : Row W9 g9 97 #[.string ⟨t.toArray⟩, .int .i64 (off : Int), .int .i64 (len : Int), .int .i64 (nn : Int)] := by rw [hW9, hg9]; exact Row.new w4 _ _
        have hS9 : RdD w g (restE l (i + 1)) W9 := by rw [hW9]; exact hS5.ext ((Ext.refl w4).alloc _)
        have hown9 : W9.ownsRow w.heap.size 97 4 (.slice A6 i c6) i (encells (l.take i)) := by rw [hW9]; exact ((Ext.refl w4).alloc _).owns hown5
        have hr9d := hr9.ext (Ext.refl W9).drew
        have hS9d := hS9.ext (Ext.refl W9).drew
        have hown9d := (Ext.refl W9).drew.owns hown9
        have hsz9 : w.heap.size ≤ W9.drew.heap.size := by obtain ⟨_, _, _, _, q⟩ := hS9d; exact q.size
        have hblk : ∀ k, (Value.slice A6 i c6).ownBlock = some k → k < g9 := fun k hk => by
          obtain ⟨cs, hrr, _⟩ := owns_row hown5 hk
          rw [hg9]
          exact hrr.lt
        have hcs := hr9d.get
        have hS0 : W9.drew.cell? ⟨g9, 0, none⟩ = some (.string ⟨t.toArray⟩) ∧ W9.drew.cell? ⟨g9, 1, none⟩ = some (.int .i64 (off : Int)) ∧ W9.drew.cell? ⟨g9, 2, none⟩ = some (.int .i64 (len : Int)) ∧ W9.drew.cell? ⟨g9, 3, none⟩ = some (.int .i64 (nn : Int)) := ⟨hr9d.cell 0 rfl, hr9d.cell 1 rfl, hr9d.cell 2 rfl, hr9d.cell 3 rfl⟩
        have hEa : Ext W9.drew (W9.drew.alloc (.cells #[.string ⟨t.toArray⟩, .int .i64 (off : Int), .int .i64 (len : Int), .int .i64 (nn : Int)] 97)) := (Ext.refl _).alloc _
        have hSa : (W9.drew.alloc (.cells #[.string ⟨t.toArray⟩, .int .i64 (off : Int), .int .i64 (len : Int), .int .i64 (nn : Int)] 97)).cell? ⟨g9, 0, none⟩ = some (.string ⟨t.toArray⟩) ∧ (W9.drew.alloc (.cells #[.string ⟨t.toArray⟩, .int .i64 (off : Int), .int .i64 (len : Int), .int .i64 (nn : Int)] 97)).cell? ⟨g9, 1, none⟩ = some (.int .i64 (off : Int)) ∧ (W9.drew.alloc (.cells #[.string ⟨t.toArray⟩, .int .i64 (off : Int), .int .i64 (len : Int), .int .i64 (nn : Int)] 97)).cell? ⟨g9, 2, none⟩ = some (.int .i64 (len : Int)) ∧ (W9.drew.alloc (.cells #[.string ⟨t.toArray⟩, .int .i64 (off : Int), .int .i64 (len : Int), .int .i64 (nn : Int)] 97)).cell? ⟨g9, 3, none⟩ = some (.int .i64 (nn : Int)) := ⟨hEa.cell hS0.1, hEa.cell hS0.2.1, hEa.cell hS0.2.2.1, hEa.cell hS0.2.2.2⟩
        have hgr : ∀ w8, W9.drew.grownBy w8 (Value.slice A6 i c6).ownBlock → w8.cell? ⟨g9, 0, none⟩ = some (.string ⟨t.toArray⟩) ∧ w8.cell? ⟨g9, 1, none⟩ = some (.int .i64 (off : Int)) ∧ w8.cell? ⟨g9, 2, none⟩ = some (.int .i64 (len : Int)) ∧ w8.cell? ⟨g9, 3, none⟩ = some (.int .i64 (nn : Int)) := fun w8 hg8 => by
          have hr8 := Row.grown (w := W9.drew) hr9d hg8 (fun e => by
            have := hblk _ e.symm
            omega)
          exact ⟨hr8.cell 0 rfl, hr8.cell 1 rfl, hr8.cell 2 rfl, hr8.cell 3 rfl⟩
        replace hr9d := hide hr9d
        replace hS9d := hide hS9d
        replace hown9d := hide hown9d
        replace hW9 := hide hW9
        replace hg9 := hide hg9
        replace hS0 := hide hS0
        replace hSa := hide hSa
        replace hgr := hide hgr
        replace hblk := hide hblk
        replace hcs := hide hcs
        clear hr9 hS9 hown9 hown5 hS5 hC5 hEa
        go_wp2_with fail
        rw [← hW9.out, ← hg9.out]
        go_region_held3 (fun x => x.cell? ⟨g9, 0, none⟩ = some (.string ⟨t.toArray⟩) ∧ x.cell? ⟨g9, 1, none⟩ = some (.int .i64 (off : Int)) ∧ x.cell? ⟨g9, 2, none⟩ = some (.int .i64 (len : Int)) ∧ x.cell? ⟨g9, 3, none⟩ = some (.int .i64 (nn : Int))) (first | exact hS0.out | exact hSa.out | exact hgr.out _ ‹_›) (first | (refine step_appZ (us := [.string ⟨t.toArray⟩, .int .i64 (off : Int), .int .i64 (len : Int), .int .i64 (nn : Int)]) (m := 1) elemEn rfl hown9d.out rfl (.tmp 37) (.tmp 39) rfl rfl rfl rfl (one_of rfl) (by omega) hsz9 (fun A8 c8 w8 ho8 hg8 => ?_)))
        go_wp2_with fail
        have hS8 : RdD w g (restE l (i + 1)) w8 := by
          obtain ⟨B, d, q1, q2, q3⟩ := hS9d.out
          refine ⟨B, d, q1.grown hg8 fun e => owns_unlike hown9d.out q1 (by decide) e.symm, q2, q3.grown hg8 fun k hk => ?_⟩
          obtain ⟨_, _, hb⟩ := owns_row hown9d.out hk
          exact hb
        have ho8' : w8.ownsRow w.heap.size 97 4 (.slice A8 (i + 1) c8) (i + 1) (encells (l.take (i + 1))) := by rw [htk.out]; exact ho8
        exact ⟨⟨i + 1, c8, A8, t, rfl, rfl, rfl, by omega, hide (fun _ => hnx.out.symm), ht65, hrl4, hide hS8, hide ho8'⟩, by simp only [intOf]; omega⟩
    · obtain rfl : i = m := by omega
      have hown2 := hown.out
      rw [List.take_of_length_le (by rw [← hm.out]; exact Nat.le_refl _)] at hown2
      have hcp := owns_cap hown2
      have hcl := Cells.of_own hown2
      have hEv : Ext w wv := by obtain ⟨_, _, _, _, q⟩ := hS.out; exact q
      have hcm := hide (fun W (hE : Ext wv W ∧ W.cell? ⟨g, 1, none⟩ = some (Value.bool false)) => (dmay_any l A6 i c6 W hm.out (hcl.ext hE.1) hok.out).mono fun e W' ⟨he, hE'⟩ => And.intro he (show Ext wv W' ∧ W'.cell? ⟨g, 1, none⟩ = some (Value.bool false) from ⟨hE.1.trans hE', hE'.cell hE.2⟩))
      have hcb := hide (fun W (hE : Ext wv W ∧ W.cell? ⟨g, 1, none⟩ = some (Value.bool false)) => (dbytes_any l A6 i c6 W hm.out (hcl.ext hE.1) hcp.2 hcp.1 hok.out).mono fun e W' (h : OwnB _ _ _ e W') => show ∃ A5 c5, e = .returned (.slice A5 (encEs l).length c5) ∧ Bs W' A5 (encEs l) ∧ Ext wv W' ∧ W'.cell? ⟨g, 1, none⟩ = some (Value.bool false) from by
        obtain ⟨A5, c5, he, ho, hE'⟩ := h
        exact ⟨A5, c5, he, ho.2.cells, hE.1.trans hE', hE'.cell hE.2⟩)
      have hS0 : Ext wv wv.drew ∧ wv.drew.cell? ⟨g, 1, none⟩ = some (Value.bool false) := ⟨(Ext.refl wv).drew, kb⟩
      have hcv : ∀ W, (Ext wv W ∧ W.cell? ⟨g, 1, none⟩ = some (Value.bool false)) → (convert 25 9 (.slice A n c)).run Tryz.prog W = .ok (.string ⟨bs.toArray⟩) W := fun W hE => run_str ((h.out.bytes.ext hEv).ext hE.1) n c h.out.len
      have hbb : (bs == bs) = true := beq_self_eq_true bs
      obtain ⟨nb, hnb⟩ : ∃ nb, nb = (encEs l).length := ⟨_, rfl⟩
      rw [← hbs.out] at hcb hnb
      rw [← hnb] at hcb
      replace hown2 := hide hown2
      replace hcp := hide hcp
      replace hcl := hide hcl
      replace hEv := hide hEv
      replace hS0 := hide hS0
      replace hnb := hide hnb
      go_wp2_with fail
      refine wp_region_held_drew (S := (fun x => Ext wv x ∧ x.cell? ⟨g, 1, none⟩ = some (Value.bool false))) (by kernel_rfl) hS0.out (fun hHeld => ?_)
      refine wpAnyH_take (i := 0) (v := .pointer (some ⟨g, 0, none⟩)) rfl (by kernel_rfl) (by kernel_rfl) (by kernel_rfl) (fun _ _ _ h => h) (Or.inl ⟨by rfl, ?_⟩) (by assumption) ?_
      · intro w' hSw
        (try dsimp only at hSw)
        go_simp
        try with_reducible rfl
        all_goals omega
      (try simp only [Act.put, List.setIfInBounds_toArray, List.set_cons_zero, List.set_cons_succ, List.getElem_toArray, List.getElem_cons_zero, List.getElem_cons_succ])
      refine wpAnyH_take (i := 1) (v := .pointer (some ⟨g, 0, none⟩)) rfl (by kernel_rfl) (by kernel_rfl) (by kernel_rfl) (fun _ _ _ h => h) (Or.inl ⟨by rfl, ?_⟩) (by assumption) ?_
      · intro w' hSw
        (try dsimp only at hSw)
        go_simp
        try with_reducible rfl
        all_goals omega
      (try simp only [Act.put, List.setIfInBounds_toArray, List.set_cons_zero, List.set_cons_succ, List.getElem_toArray, List.getElem_cons_zero, List.getElem_cons_succ])
      refine wpAnyH_take (i := 2) (v := .pointer (some ⟨g, 1, none⟩)) rfl (by kernel_rfl) (by kernel_rfl) (by kernel_rfl) (fun _ _ _ h => h) (Or.inl ⟨by rfl, ?_⟩) (by assumption) ?_
      · intro w' hSw
        (try dsimp only at hSw)
        go_simp
        try with_reducible rfl
        all_goals omega
      (try simp only [Act.put, List.setIfInBounds_toArray, List.set_cons_zero, List.set_cons_succ, List.getElem_toArray, List.getElem_cons_zero, List.getElem_cons_succ])
      refine wpAnyH_take (i := 3) (v := .bool false) rfl (by kernel_rfl) (by kernel_rfl) (by kernel_rfl) (fun _ _ _ h => h) (Or.inl ⟨by rfl, ?_⟩) (by assumption) ?_
      · intro w' hSw
        (try dsimp only at hSw)
        obtain ⟨_, hSc⟩ := hSw
        go_simp
        try with_reducible rfl
        all_goals omega
      (try simp only [Act.put, List.setIfInBounds_toArray, List.set_cons_zero, List.set_cons_succ, List.getElem_toArray, List.getElem_cons_zero, List.getElem_cons_succ])
      refine wpAnyH_take (i := 4) (v := .bool false) rfl (by kernel_rfl) (by kernel_rfl) (by kernel_rfl) (fun _ _ _ h => h) (Or.inl ⟨by rfl, ?_⟩) (by assumption) ?_
      · intro w' hSw
        (try dsimp only at hSw)
        go_simp
        try with_reducible rfl
        all_goals omega
      (try simp only [Act.put, List.setIfInBounds_toArray, List.set_cons_zero, List.set_cons_succ, List.getElem_toArray, List.getElem_cons_zero, List.getElem_cons_succ])
      refine wpAnyH_take (i := 5) (v := .slice A6 i c6) rfl (by kernel_rfl) (by kernel_rfl) (by kernel_rfl) (fun _ _ _ h => h) (Or.inl ⟨by rfl, ?_⟩) (by assumption) ?_
      · intro w' hSw
        (try dsimp only at hSw)
        go_simp
        try with_reducible rfl
        all_goals omega
      (try simp only [Act.put, List.setIfInBounds_toArray, List.set_cons_zero, List.set_cons_succ, List.getElem_toArray, List.getElem_cons_zero, List.getElem_cons_succ])
      refine wpAnyH_ready (rs := [6]) (by kernel_rfl) (by simp) ?_
      refine AllReadyH.cons rfl (fun K hK => ?_) AllReadyH.nil
      (first | go_at_call 85 | (go_simp; go_at_call 85)); (refine (hcm.out _ ‹_›).mono ?_; rintro e w5 ⟨rfl, hT5⟩)
      refine hK.out _ _ ?_ (fun hHeld1 => ?_)
      · exact hT5
      clear hK K
      (try simp only [Act.put, List.setIfInBounds_toArray, List.set_cons_zero, List.set_cons_succ, List.getElem_toArray, List.getElem_cons_zero, List.getElem_cons_succ])
      refine wpAnyH_take (i := 7) (v := .bool false) rfl (by kernel_rfl) (by kernel_rfl) (by kernel_rfl) (fun _ _ _ h => h) (Or.inl ⟨by rfl, ?_⟩) (by assumption) ?_
      · intro w' hSw
        (try dsimp only at hSw)
        go_simp
        try with_reducible rfl
        all_goals omega
      (try simp only [Act.put, List.setIfInBounds_toArray, List.set_cons_zero, List.set_cons_succ, List.getElem_toArray, List.getElem_cons_zero, List.getElem_cons_succ])
      refine wpAnyH_take (i := 8) (v := .bool false) rfl (by kernel_rfl) (by kernel_rfl) (by kernel_rfl) (fun _ _ _ h => h) (Or.inl ⟨by rfl, ?_⟩) (by assumption) ?_
      · intro w' hSw
        (try dsimp only at hSw)
        go_simp
        try with_reducible rfl
        all_goals omega
      (try simp only [Act.put, List.setIfInBounds_toArray, List.set_cons_zero, List.set_cons_succ, List.getElem_toArray, List.getElem_cons_zero, List.getElem_cons_succ])
      refine wpAnyH_take (i := 9) (v := .bool false) rfl (by kernel_rfl) (by kernel_rfl) (by kernel_rfl) (fun _ _ _ h => h) (Or.inl ⟨by rfl, ?_⟩) (by assumption) ?_
      · intro w' hSw
        (try dsimp only at hSw)
        go_simp
        try with_reducible rfl
        all_goals omega
      (try simp only [Act.put, List.setIfInBounds_toArray, List.set_cons_zero, List.set_cons_succ, List.getElem_toArray, List.getElem_cons_zero, List.getElem_cons_succ])
      refine wpAnyH_take (i := 10) (v := .slice A6 i c6) rfl (by kernel_rfl) (by kernel_rfl) (by kernel_rfl) (fun _ _ _ h => h) (Or.inl ⟨by rfl, ?_⟩) (by assumption) ?_
      · intro w' hSw
        (try dsimp only at hSw)
        go_simp
        try with_reducible rfl
        all_goals omega
      (try simp only [Act.put, List.setIfInBounds_toArray, List.set_cons_zero, List.set_cons_succ, List.getElem_toArray, List.getElem_cons_zero, List.getElem_cons_succ])
      refine wpAnyH_take (i := 13) (v := .slice A n c) rfl (by kernel_rfl) (by kernel_rfl) (by kernel_rfl) (fun _ _ _ h => h) (Or.inl ⟨by rfl, ?_⟩) (by assumption) ?_
      · intro w' hSw
        (try dsimp only at hSw)
        go_simp
        try with_reducible rfl
        all_goals omega
      (try simp only [Act.put, List.setIfInBounds_toArray, List.set_cons_zero, List.set_cons_succ, List.getElem_toArray, List.getElem_cons_zero, List.getElem_cons_succ])
      refine wpAnyH_take (i := 14) (v := .string ⟨bs.toArray⟩) rfl (by kernel_rfl) (by kernel_rfl) (by kernel_rfl) (fun _ _ _ h => h) (Or.inl ⟨by rfl, ?_⟩) (by assumption) ?_
      · intro w' hSw
        (try dsimp only at hSw)
        have hcw := hcv w' hSw
        go_simp
        try with_reducible rfl
        all_goals omega
      (try simp only [Act.put, List.setIfInBounds_toArray, List.set_cons_zero, List.set_cons_succ, List.getElem_toArray, List.getElem_cons_zero, List.getElem_cons_succ])
      refine wpAnyH_ready (rs := [11]) (by kernel_rfl) (by simp) ?_
      refine AllReadyH.cons rfl (fun K hK => ?_) AllReadyH.nil
      (first | go_at_call 86 | (go_simp; go_at_call 86)); (refine (hcb.out _ ‹_›).mono ?_; rintro e w6 ⟨A5, c5, rfl, hb5, hT6⟩)
      have hcw := run_str hb5 nb c5 hnb.out
      refine hK.out _ _ ?_ (fun hHeld2 => ?_)
      · exact hT6
      clear hK K
      (try simp only [Act.put, List.setIfInBounds_toArray, List.set_cons_zero, List.set_cons_succ, List.getElem_toArray, List.getElem_cons_zero, List.getElem_cons_succ])
      refine wpAnyH_ready (rs := [12]) (by kernel_rfl) (by simp) ?_
      refine AllReadyH.cons rfl (fun K hK => ?_) AllReadyH.nil
      go_simp
      refine hK.out _ _ ?_ (fun hHeld3 => ?_)
      · exact hT6
      clear hK K
      (try simp only [Act.put, List.setIfInBounds_toArray, List.set_cons_zero, List.set_cons_succ, List.getElem_toArray, List.getElem_cons_zero, List.getElem_cons_succ])
      refine wpAnyH_take (i := 15) (v := .bool false) rfl (by kernel_rfl) (by kernel_rfl) (by kernel_rfl) (fun _ _ _ h => h) (Or.inl ⟨by rfl, ?_⟩) (by assumption) ?_
      · intro w' hSw
        (try dsimp only at hSw)
        go_simp
        try with_reducible rfl
        all_goals omega
      (try simp only [Act.put, List.setIfInBounds_toArray, List.set_cons_zero, List.set_cons_succ, List.getElem_toArray, List.getElem_cons_zero, List.getElem_cons_succ])
      refine wpAnyH_take (i := 16) (v := .bool false) rfl (by kernel_rfl) (by kernel_rfl) (by kernel_rfl) (fun _ _ _ h => h) (Or.inl ⟨by rfl, ?_⟩) (by assumption) ?_
      · intro w' hSw
        (try dsimp only at hSw)
        go_simp
        try with_reducible rfl
        all_goals omega
      (try simp only [Act.put, List.setIfInBounds_toArray, List.set_cons_zero, List.set_cons_succ, List.getElem_toArray, List.getElem_cons_zero, List.getElem_cons_succ])
      refine wpAnyH_done (by kernel_rfl) ?_ _
      have hE6 := hide hT6.1
      clear hT5 hT6 hHeld
      go_wp2_with fail
      go_ret2
      refine ⟨w6.heap.size, rfl, ⟨A6, c6, ?_, (hcl.out.ext hE6.out).ext ((Ext.refl w6).alloc _)⟩, (hEv.out.trans hE6.out).alloc _⟩
      rw [← hm.out]
      exact Row.new w6 _ _
end Go.Proofs.YtkdcnhnaiknaaaaGreat

/- loggia/segment: Open. -/
namespace Go.Proofs.YtkdcnhnaiknaaaaGreat
open Go.RowKit Go.Maps

/-- The docs of a segment's bytes. -/
def openD (b : List UInt8) : Option (List Dc) :=
  if b.take 4 = [76, 83, 69, 71] then
    if (splitF (b.drop 4)).2 = 0 ∧ (splitF (b.drop 4)).1.length = 6 then
      match decDs ((splitF (b.drop 4)).1.headD []) with
      | some P => if 0 < P.length ∧ segL P = b then some P else none
      | none => none
    else none
  else none
/-- A segment of docs. -/
def SegR (w : World) (g : Nat) (P : List Dc) : Prop := ∃ (ds : List DocC) (A : Option Addr) (c : Nat) (lo hi fi la : Int) (B : Option Addr) (cB gd gf : Nat),
  Row w g 87 #[.slice A ds.length c, .int .i64 0, .int .i64 0, .int .i64 lo, .int .i64 hi, .int .i64 fi, .int .i64 la, .int .i64 (ds.length : Int), .pointer (some ⟨gd, 0, none⟩), .slice B (postB (rowsD P)).length cB, .pointer (some ⟨gf, 0, none⟩)] ∧
  dcs ds = P ∧ partD P = [lo, hi, fi, la, (ds.length : Int)] ∧ DocsOk w A ds ∧ DicR w gd (enOf 0 (rowsD P)) ∧ In8 w B (postB (rowsD P)).length cB (postB (rowsD P)) ∧ FilR w gf (ofB ((rowsD P).map (·.1)))
def SegO (w : World) (b : List UInt8) (e : Ending) (w' : World) : Prop := Ext w w' ∧ match openD b with
  | some P => ∃ g, e = .returned (.tuple #[.pointer (some ⟨g, 0, none⟩), .int .i64 0]) ∧ SegR w' g P
  | none => e = .returned (.tuple #[.pointer none, .int .i64 130])
theorem SegO.no {w w' : World} {b : List UInt8} (hE : Ext w w') (h : openD b = none) : SegO w b (.returned (.tuple #[.pointer none, .int .i64 130])) w' := by
  refine ⟨hE, ?_⟩
  rw [h]
theorem cells_set {w : World} {A : Option Addr} {xs : List Value} {p : Addr} {u0 : Value} (h : Cells w A xs) (hp : w.cell? p = some u0) (hne : ∀ v ∈ xs, v ≠ u0) (u : Value) : Cells (w.setCell p u) A xs := by
  rcases h with h | ⟨g, o, hA, hc⟩
  · exact .inl h
  · refine .inr ⟨g, o, hA, fun i v hv => ?_⟩
    have h1 := hc i v hv
    rw [World.cell?_setCell_other w p _ u (fun e => by
      rw [e] at hp
      rw [h1] at hp
      injection hp with hp
      exact hne v (List.mem_of_getElem? hv) hp)]
    exact h1
theorem encells_ne (l : List En) : ∀ v ∈ encells l, v ≠ Value.pointer none := fun v hv e => by
  unfold encells at hv
  obtain ⟨x, _, hx⟩ := List.mem_flatMap.1 hv
  unfold En.cells at hx
  simp only [List.mem_cons, List.not_mem_nil, or_false] at hx
  rcases hx with rfl | rfl | rfl | rfl <;> cases e
theorem DicR.set {w : World} {gd g i : Nat} {l : List En} {cs : Array Value} (h : DicR w gd l) (hr : Row w g 87 cs) (hi : cs[i]? = some (.pointer none)) (u : Value) : DicR (w.setCell ⟨g, i, none⟩ u) gd l := by
  obtain ⟨A, c, h1, h2⟩ := h
  exact ⟨A, c, h1.away (h1.unlike hr (by decide)) u, cells_set h2 (hr.cell i hi) (encells_ne l) u⟩
theorem FilO.set {w : World} {b gf g i : Nat} {f : List UInt8} {cs : Array Value} (h : FilO w b gf f) (hr : Row w g 87 cs) (u : Value) : FilO (w.setCell ⟨g, i, none⟩ u) b gf f := by
  obtain ⟨b1, c, cur, h1, hb, h2, h3, h4, h5⟩ := h
  exact ⟨b1, c, cur, h1.away (h1.unlike hr (by decide)) u, hb, h2.away (h2.unlike hr (by decide)) u, h3, h4, h5⟩
theorem frames_small {ds : List DocC} {m : Nat} {w : World} {A : Option Addr} (h : DocsOk w A ds) (hm : m = ds.length) (h0 : 0 < m) (hs : SmP (dcs ds)) : ∀ p ∈ framesD (dcs ds), p.length ≤ 16777216 := by
  have hB := hs.seg
  have hv : (vall (partD (dcs ds))).length ≤ 16777216 := by
    obtain ⟨x0, hx0⟩ : ∃ x, ds[0]? = some x := ⟨_, List.getElem?_eq_getElem (by omega)⟩
    obtain ⟨xl, hxl⟩ : ∃ x, ds[m - 1]? = some x := ⟨_, List.getElem?_eq_getElem (by omega)⟩
    have h1 := partD_of hm hx0 hxl
    have hall : ∀ d ∈ dcs ds, I64ok' d.2.at_ := fun d hd => by
      unfold dcs at hd
      obtain ⟨x, hx, rfl⟩ := List.mem_map.1 hd
      exact (h.each x hx).2.1
    have q0 := (h.each x0 (List.mem_of_getElem? hx0)).2
    have ql := (h.each xl (List.mem_of_getElem? hxl)).2
    have hn : m ≤ 65536 := by
      have := hB.n
      unfold dcs at this
      rw [List.length_map] at this
      omega
    rw [h1]
    have q1 := lowD_rng (dcs ds) _ q0.1 hall
    have q2 := highD_rng (dcs ds) _ q0.1 hall
    have q5 : I64ok' (m : Int) := by unfold I64ok'; omega
    have h2 := vall_take [lowD x0.e.at_ (dcs ds), highD x0.e.at_ (dcs ds), x0.seq, xl.seq, (m : Int)] (fun x hx => by
      simp only [List.mem_cons, List.not_mem_nil, or_false] at hx
      rcases hx with rfl | rfl | rfl | rfl | rfl
      · exact q1
      · exact q2
      · exact q0.2
      · exact ql.2
      · exact q5) 5
    exact Nat.le_trans h2 (by decide)
  intro p hp
  unfold framesD at hp
  simp only [List.mem_cons, List.not_mem_nil, or_false] at hp
  rcases hp with rfl | rfl | rfl | rfl | rfl | rfl
  · exact hB.docs
  · exact hB.times
  · exact Nat.le_trans hB.posts (by decide)
  · exact hB.dic
  · exact Nat.le_trans hB.bits.2 (by decide)
  · exact hv
set_option maxRecDepth 100000 in
set_option maxHeartbeats 4000000 in
theorem segOpen_any (A : Option Addr) (n c : Nat) (b : List UInt8) (w : World) (h : In8 w A n c b) (hle : n ≤ 1000000000) (hsm : ∀ P, (splitF (b.drop 4)).2 = 0 → decDs ((splitF (b.drop 4)).1.headD []) = some P → (blockD 0 P).length ≤ 70000) :
    Calls Tryz.prog 11 #[.slice A n c] w fun e w' => SegO w b e w' := by
  have hbl := h.len
  obtain ⟨k4, hk4⟩ : ∃ k : Nat, (k : Int) = min (n : Int) 4 := ⟨min n 4, by omega⟩
  have hk4n : k4 ≤ n := by omega
  have hmin := fun (W : World) => run_min2 (P := Tryz.prog) #[3, 3] 3 hk4 W
  obtain ⟨hsl, h4⟩ := h.headk .i64 hk4n (z := (k4 : Int)) rfl
  have hstr := fun (W : World) (hE : Ext w W) => run_str (A := A) (l := b.take k4) (w := W) (h4.bytes.ext hE) k4 c h4.len
  have htk : b.take k4 = b.take 4 := by
    by_cases hn4 : 4 ≤ n
    · have : k4 = 4 := by omega
      rw [this]
    · have : k4 = n := by omega
      rw [this, List.take_of_length_le (by omega), List.take_of_length_le (by omega)]
  have hhp := Tryz.strings_HasPrefix ⟨(b.take k4).toArray⟩ ⟨#[76, 83, 69, 71]⟩ w
  obtain ⟨hp, hhpe⟩ : ∃ hp, hp = Lib.hasPrefix (b.take 4) [76, 83, 69, 71] := ⟨_, rfl⟩
  have hhp2 : Calls Tryz.prog 48 #[.string ⟨(b.take k4).toArray⟩, .string ⟨#[76, 83, 69, 71]⟩] w fun e w' => e = .returned (.bool hp) ∧ w' = w := by
    rw [hhpe, ← htk]
    simpa using hhp
  have hiff : hp = true ↔ b.take 4 = [76, 83, 69, 71] := by
    rw [hhpe]
    unfold Lib.hasPrefix
    rw [List.isPrefixOf_iff_prefix]
    constructor
    · intro hpre
      exact (hpre.eq_of_length_le (by rw [List.length_take]; simp; omega)).symm
    · intro e; rw [e]; exact List.prefix_refl _
  have hstr0 := hstr w (Ext.refl w)
  replace hhp2 := hide hhp2
  replace h := hide h
  replace hsm := hide hsm
  clear hhp hstr h4
  have hbl2 := hide hbl
  replace hk4 := hide hk4
  replace hhpe := hide hhpe
  replace htk := hide htk
  by_cases hmg : hp = true
  · have hmg2 := hiff.1 hmg
    subst hmg
    have hn4 : 4 ≤ n := by
      have := congrArg List.length hmg2
      rw [List.length_take] at this
      simp at this
      omega
    obtain ⟨A4, c4, hfrom, hin4⟩ := h.out.from_ (fr := 4) hn4 (z := 4) rfl
    have hspl := split_any A4 (n - 4) c4 (b.drop 4) w hin4 (by omega)
    clear hbl
    replace hspl := hide hspl
    replace hin4 := hide hin4
    replace hmg2 := hide hmg2
    replace hiff := hide hiff
    go_enter Tryz.func11, Tryz.ntmps11
    go_wp2_with fail
    refine hhp2.out.mono ?_
    rintro e w1 ⟨rfl, rfl⟩
    go_wp2_with fail
    refine hspl.out.mono ?_
    rintro e w2 ⟨L, cL, z, ps, rfl, hcl, hps, hpo, hE2⟩
    have hop : openD b = if (splitF (b.drop 4)).2 = 0 ∧ ps.length = 6 then (match decDs ((pays ps).headD []) with | some P => if 0 < P.length ∧ segL P = b then some P else none | none => none) else none := by
      unfold openD
      rw [if_pos hmg2.out, ← hps]
      have : (pays ps).length = ps.length := List.length_map ..
      rw [this]
    have hsm2 := hsm.out
    rw [← hps] at hsm2
    obtain ⟨sc, hsc⟩ : ∃ sc, sc = (splitF (b.drop 4)).2 := ⟨_, rfl⟩
    rw [← hsc] at hop hsm2 ⊢
    have hsm0 : ∀ p ∈ pays ps, p.length ≤ 16777216 := fun p hp => by rw [hps] at hp; exact (splitF_small hp).1
    replace hsc := hide hsc
    replace hsm2 := hide hsm2
    replace hsm0 := hide hsm0
    obtain ⟨np, hnp⟩ : ∃ np, np = ps.length := ⟨_, rfl⟩
    rw [← hnp] at hop ⊢
    replace hnp := hide hnp
    replace hcl := hide hcl
    replace hps := hide hps
    replace hpo := hide hpo
    by_cases hsc0 : sc = 0
    · by_cases hn6 : np = 6
      · subst hsc0
        subst hn6
        rw [if_pos ⟨rfl, rfl⟩] at hop
        obtain ⟨⟨A0, k0, b0, z0⟩, ⟨A1, k1, b1, z1⟩, ⟨A2, k2, b2, z2⟩, ⟨A3, k3, b3, z3⟩, ⟨A4', k4', b4, z4⟩, ⟨A5, k5, b5, z5⟩, hpse⟩ : ∃ p0 p1 p2 p3 p4 p5 : Pay, ps = [p0, p1, p2, p3, p4, p5] := by
          have := hnp.out
          match ps, this with
          | [p0, p1, p2, p3, p4, p5], _ => exact ⟨p0, p1, p2, p3, p4, p5, rfl⟩
        subst hpse
        obtain ⟨gl, ol, hL, hcg⟩ := hcl.out.at_ (by simp)
        subst hL
        have l0 := hcg 0 (.slice A0 b0.length k0) rfl
        have l2 := hcg 2 (.slice A2 b2.length k2) rfl
        have l3 := hcg 3 (.slice A3 b3.length k3) rfl
        have l4 := hcg 4 (.slice A4' b4.length k4') rfl
        rw [Nat.add_zero] at l0
        have hp0 : (pays [(A0, k0, b0, z0), (A1, k1, b1, z1), (A2, k2, b2, z2), (A3, k3, b3, z3), (A4', k4', b4, z4), (A5, k5, b5, z5)]).headD [] = b0 := rfl
        rw [hp0] at hop
        have hsm3 := fun P hP => hsm2.out P rfl (by rw [hp0]; exact hP)
        have hi0 : In8 w2 A0 b0.length k0 b0 := by obtain ⟨bb, hb⟩ := hpo.out (A0, k0, b0, z0) (by simp); exact hb.in8
        have hl0 := hsm0.out b0 (by simp [pays])
        have hdec := sdDecode_any A0 b0.length k0 b0 w2 hi0 (by omega)
        obtain ⟨D, hD⟩ : ∃ D, D = decDs b0 := ⟨_, rfl⟩
        have hdok := fun P (h : decDs b0 = some P) => decDs_enc h
        rw [← hD] at hdec hop hdok
        have hsm4 : ∀ P, D = some P → (blockD 0 P).length ≤ 70000 := fun P hP => hsm3 P (by rw [← hD]; exact hP)
        obtain ⟨n0, hn0⟩ : ∃ n0, n0 = b0.length := ⟨_, rfl⟩
        rw [← hn0] at hdec l0
        replace hD := hide hD
        replace hdok := hide hdok
        replace hdec := hide hdec
        replace hop := hide hop
        replace hsm4 := hide hsm4
        replace hn0 := hide hn0
        clear hcg hsm3 hi0 hl0 hp0
        go_wp2_with fail
        refine hdec.out.mono ?_
        rintro e w3 ⟨hE3, hres⟩
        cases D with
        | none =>
          simp only at hres
          subst hres
          have hno : openD b = none := hop.out
          replace hno := hide hno
          go_wp2_with fail
          go_ret2
          exact SegO.no (hE2.trans hE3) hno.out
        | some P =>
          simp only at hres
          obtain ⟨ds, Ad, cd, hdP, rfl, hown⟩ := hres
          obtain ⟨hok, hen⟩ := hdok.out P rfl
          have hsz := hsm4.out P rfl
          have hPl : P.length = ds.length := by rw [← hdP]; exact List.length_map ..
          have hdo := hown.ok
          have hcap := hown.cap
          have hE23 := hE2.trans hE3
          have hop2 : openD b = if 0 < P.length ∧ segL P = b then some P else none := hop.out
          obtain ⟨m, hm⟩ : ∃ m, m = ds.length := ⟨_, rfl⟩
          rw [← hm] at hcap hPl ⊢
          rw [hPl] at hop2
          by_cases hm0 : m = 0
          · have hno : openD b = none := by rw [hop2, if_neg (fun e => by omega)]
            subst hm0
            have hse := segEncode_no ds Ad 0 cd w3 hm hdo hcap.2 hcap.1 (by omega) (.inr rfl)
            replace hse := hide hse
            replace hno := hide hno
            replace hm := hide hm
            clear hop2 hcap hown hdo
            go_wp2_with fail
            refine hse.out.mono ?_
            rintro e w4 ⟨rfl, hE4⟩
            go_wp2_with fail
            go_ret2
            exact SegO.no (hE23.trans hE4) hno.out
          · have hsm : SmP (dcs ds) := by rw [hdP]; exact ⟨hok, hsz⟩
            have hse := segEncode_yes ds Ad m cd w3 hm hdo hcap.2 hcap.1 hsm (by omega)
            rw [hdP] at hse
            have hB := (SmP.mk hok hsz).seg
            replace hse := hide hse
            replace hm := hide hm
            replace hop2 := hide hop2
            replace hB := hide hB
            go_wp2_with fail
            refine hse.out.mono ?_
            rintro e w4 ⟨A9, c9, rfl, hO9, hE4⟩
            obtain ⟨n9, hn9⟩ : ∃ n9, n9 = (segL P).length := ⟨_, rfl⟩
            rw [← hn9] at hO9 ⊢
            have hst1 := run_str (A := A9) (l := segL P) (w := w4) hO9.2.cells n9 c9 hn9
            have hst2 := run_str (A := A) (l := b) (w := w4) ((h.out.ext (hE23.trans hE4)).bytes) n c hbl2.out
            replace hn9 := hide hn9
            by_cases heq : segL P = b
            · rw [heq] at hst1
              have hE04 := hE23.trans hE4
              have hyes : openD b = some P := by rw [hop2.out, if_pos ⟨by omega, heq⟩]
              obtain ⟨x0, hx0⟩ : ∃ x, ds[0]? = some x := ⟨_, List.getElem?_eq_getElem (by have := hm.out; omega)⟩
              obtain ⟨xl, hxl⟩ : ∃ x, ds[m - 1]? = some x := ⟨_, List.getElem?_eq_getElem (by have := hm.out; omega)⟩
              have hpd := partD_of hm.out hx0 hxl
              obtain ⟨lo, hlo⟩ : ∃ z, z = lowD x0.e.at_ (dcs ds) := ⟨_, rfl⟩
              obtain ⟨hi', hhi⟩ : ∃ z, z = highD x0.e.at_ (dcs ds) := ⟨_, rfl⟩
              rw [← hlo, ← hhi] at hpd
              have hm6 : m ≤ 1000000 := by have := hB.out.n; omega
              have htold := fun X (hx : Ext w4 X) => told_any ds Ad m cd X hm.out (hdo.ext (hE4.trans hx)) hm6 (by omega)
              rw [hpd] at htold
              have hpr : prtA [lo, hi', x0.seq, xl.seq, (m : Int)] = #[.int .i64 0, .int .i64 0, .int .i64 lo, .int .i64 hi', .int .i64 x0.seq, .int .i64 xl.seq, .int .i64 (m : Int)] := rfl
              rw [hpr] at htold
              obtain ⟨bb2, hb2⟩ := hpo.out (A2, k2, b2, z2) (by simp)
              simp only at hb2
              have hb24 := hb2.ext (hE3.trans hE4)
              have hl2b := hsm0.out b2 (by simp [pays])
              obtain ⟨n2, hn2⟩ : ∃ n2, n2 = b2.length := ⟨_, rfl⟩
              rw [← hn2] at hb24 l2 hl2b
              have hclone := fun X (hx : Ext w4 X) => clone_any A2 n2 k2 b2 X hn2 (hb24.ext hx).cells (buf_nil hb24) (by omega)
              have lx2 := (hE3.trans hE4).cell l2
              replace hpd := hide hpd
              replace hlo := hide hlo
              replace hhi := hide hhi
              replace hx0 := hide hx0
              replace hxl := hide hxl
              replace htold := hide htold
              replace hclone := hide hclone
              replace hn2 := hide hn2
              replace hyes := hide hyes
              clear hpr
              go_upto_region 12 with fail
              go_cut [10] (fun s10 wy => ∃ g BC cC, s10 = .pointer (some ⟨g, 0, none⟩) ∧ Hid (Row wy g 87 #[.slice Ad m cd, .int .i64 0, .int .i64 0, .int .i64 lo, .int .i64 hi', .int .i64 x0.seq, .int .i64 xl.seq, .int .i64 (m : Int), .pointer none, .slice BC n2 cC, .pointer none]) ∧ Hid (Buf wy w4.heap.size 5 BC n2 cC (b2.map B8)) ∧ Hid (Ext w4 wy) ∧ w4.heap.size ≤ g)
              case first =>
                have hX : Hid (Ext w4 w4) := hide (Ext.refl w4)
                go_region_held3 (fun x => x.cell? ⟨gl, ol + 2, none⟩ = some (.slice A2 n2 k2))
                  (exact (hX.out.trans (by (first | with_reducible exact Ext.refl _ | with_reducible exact Ext.drew (Ext.refl _) | with_reducible exact Ext.alloc (Ext.refl _) _ | with_reducible exact Ext.drew (Ext.alloc (Ext.refl _) _) | with_reducible exact Ext.alloc (Ext.drew (Ext.refl _)) _ | with_reducible exact Ext.alloc (Ext.alloc (Ext.refl _) _) _ | with_reducible exact Ext.drew (Ext.alloc (Ext.alloc (Ext.refl _) _) _)))).cell lx2)
                  (first
                  | (go_at_call 42; refine (htold.out _ (hX.out.trans (by (first | with_reducible exact Ext.refl _ | with_reducible exact Ext.drew (Ext.refl _) | with_reducible exact Ext.alloc (Ext.refl _) _ | with_reducible exact Ext.drew (Ext.alloc (Ext.refl _) _) | with_reducible exact Ext.alloc (Ext.drew (Ext.refl _)) _ | with_reducible exact Ext.alloc (Ext.alloc (Ext.refl _) _) _ | with_reducible exact Ext.drew (Ext.alloc (Ext.alloc (Ext.refl _) _) _))))).mono ?_; rintro e w9 ⟨rfl, hE'⟩; (try replace hBC := hide (hBC.out.ext (Ext.trans (by (first | with_reducible exact Ext.refl _ | with_reducible exact Ext.drew (Ext.refl _) | with_reducible exact Ext.alloc (Ext.refl _) _ | with_reducible exact Ext.drew (Ext.alloc (Ext.refl _) _) | with_reducible exact Ext.alloc (Ext.drew (Ext.refl _)) _ | with_reducible exact Ext.alloc (Ext.alloc (Ext.refl _) _) _ | with_reducible exact Ext.drew (Ext.alloc (Ext.alloc (Ext.refl _) _) _))) hE'))); replace hX := hide (hX.out.trans (Ext.trans (by (first | with_reducible exact Ext.refl _ | with_reducible exact Ext.drew (Ext.refl _) | with_reducible exact Ext.alloc (Ext.refl _) _ | with_reducible exact Ext.drew (Ext.alloc (Ext.refl _) _) | with_reducible exact Ext.alloc (Ext.drew (Ext.refl _)) _ | with_reducible exact Ext.alloc (Ext.alloc (Ext.refl _) _) _ | with_reducible exact Ext.drew (Ext.alloc (Ext.alloc (Ext.refl _) _) _))) hE')); clear hE')
                  | (go_at_call 51; refine (hclone.out _ (hX.out.trans (by (first | with_reducible exact Ext.refl _ | with_reducible exact Ext.drew (Ext.refl _) | with_reducible exact Ext.alloc (Ext.refl _) _ | with_reducible exact Ext.drew (Ext.alloc (Ext.refl _) _) | with_reducible exact Ext.alloc (Ext.drew (Ext.refl _)) _ | with_reducible exact Ext.alloc (Ext.alloc (Ext.refl _) _) _ | with_reducible exact Ext.drew (Ext.alloc (Ext.alloc (Ext.refl _) _) _))))).mono ?_; rintro e w9 ⟨BC, cC, rfl, hBC, hE'⟩; have hBC := hide (hBC.lower (hX.out.trans (by (first | with_reducible exact Ext.refl _ | with_reducible exact Ext.drew (Ext.refl _) | with_reducible exact Ext.alloc (Ext.refl _) _ | with_reducible exact Ext.drew (Ext.alloc (Ext.refl _) _) | with_reducible exact Ext.alloc (Ext.drew (Ext.refl _)) _ | with_reducible exact Ext.alloc (Ext.alloc (Ext.refl _) _) _ | with_reducible exact Ext.drew (Ext.alloc (Ext.alloc (Ext.refl _) _) _)))).size); replace hX := hide (hX.out.trans (Ext.trans (by (first | with_reducible exact Ext.refl _ | with_reducible exact Ext.drew (Ext.refl _) | with_reducible exact Ext.alloc (Ext.refl _) _ | with_reducible exact Ext.drew (Ext.alloc (Ext.refl _) _) | with_reducible exact Ext.alloc (Ext.drew (Ext.refl _)) _ | with_reducible exact Ext.alloc (Ext.alloc (Ext.refl _) _) _ | with_reducible exact Ext.drew (Ext.alloc (Ext.alloc (Ext.refl _) _) _))) hE')); clear hE'))
                all_goals (go_wp2_with fail)
                all_goals go_meet
                all_goals (case rel => exact ⟨_, _, _, rfl, hide (Row.new _ _ _), hide (hBC.out.ext ((Ext.refl _).alloc _)), hide (hX.out.trans ((Ext.refl _).alloc _)), hX.out.size⟩)
              case rest =>
                obtain ⟨g, BC, cC, rfl, hrg, hBC, hEy, hgw⟩ := hcut
                have hfr : [b0, b1, b2, b3, b4, b5] = framesD P := by
                  have h1 := hps.out
                  rw [← heq] at h1
                  have h2 : (segL P).drop 4 = joinL (framesD P) := rfl
                  rw [h2, splitF_join _ (by rw [← hdP]; exact frames_small hdo hm.out (by omega) hsm)] at h1
                  exact h1
                unfold framesD at hfr
                injection hfr with f0 hfr
                injection hfr with f1 hfr
                injection hfr with f2 hfr
                injection hfr with f3 hfr
                injection hfr with f4 hfr
                have hEc := (hE3.trans hE4).trans hEy.out
                have lx3 := hEc.cell l3
                obtain ⟨bb3, hb3⟩ := hpo.out (A3, k3, b3, z3) (by simp)
                obtain ⟨bb4, hb4⟩ := hpo.out (A4', k4', b4, z4) (by simp)
                simp only at hb3 hb4
                have hglt : gl < w4.heap.size := by
                  have h1 := World.block_lt_of_cell? w2 _ l3
                  have h2 := (hE3.trans hE4).size
                  simp only at h1
                  omega
                have hl3 : b3.length ≤ 16777216 := hsm0.out b3 (by simp [pays])
                have hop3 := dOpen_any A3 b3.length k3 b3 wc (enOf 0 (rowsD P)) (hb3.ext hEc).in8 hB.out.ens f3 (by omega)
                have hb4l : 8 ≤ b4.length ∧ b4.length ≤ 131072 := by rw [f4]; exact hB.out.bits
                obtain ⟨n3, hn3⟩ : ∃ n3, n3 = b3.length := ⟨_, rfl⟩
                obtain ⟨n4, hn4'⟩ : ∃ n4, n4 = b4.length := ⟨_, rfl⟩
                rw [← hn3] at lx3 hop3
                have lx4 := hEc.cell l4
                rw [← hn4'] at lx4 hb4l
                replace hn3 := hide hn3
                replace hn4' := hide hn4'
                replace hop3 := hide hop3
                replace hEc := hide hEc
                replace f2 := hide f2
                replace f3 := hide f3
                replace f4 := hide f4
                replace hb4 := hide hb4
                replace hb3 := hide hb3
                clear f0 f1 hfr l0 l2 l3 l4 lx2
                go_wp2_with fail
                refine hop3.out.mono ?_
                rintro e w5 ⟨gd, rfl, hdic, hE5⟩
                have r1 := hrg.out.ext hE5
                have y8 := r1.cell 8 rfl
                have z8 := r1.free 8
                have lx45 := hE5.cell lx4
                have hne : gl ≠ g := by omega
                have hne2 : g ≠ gl := by omega
                replace hdic := hide hdic
                replace r1 := hide r1
                replace hE5 := hide hE5
                clear lx3 lx4
                go_wp2_with fail
                obtain ⟨W6, hW6⟩ : ∃ W6, W6 = w5.setCell ⟨g, 8, none⟩ (.pointer (some ⟨gd, 0, none⟩)) := ⟨_, rfl⟩
                rw [← hW6]
                have hg2 : w2.heap.size ≤ g := Nat.le_trans (hE3.trans hE4).size hgw
                have hE26 : Ext w2 W6 := by rw [hW6]; exact (hEc.out.trans hE5.out).setCell (p := ⟨g, 8, none⟩) hg2 _
                have hE36 : Ext w3 W6 := by rw [hW6]; exact ((hE4.trans hEy.out).trans hE5.out).setCell (p := ⟨g, 8, none⟩) (Nat.le_trans hE4.size hgw) _
                have r6 : Row W6 g 87 #[.slice Ad m cd, .int .i64 0, .int .i64 0, .int .i64 lo, .int .i64 hi', .int .i64 x0.seq, .int .i64 xl.seq, .int .i64 (m : Int), .pointer (some ⟨gd, 0, none⟩), .slice BC n2 cC, .pointer none] := by rw [hW6]; exact r1.out.put 8 _
                have hd6 : DicR W6 gd (enOf 0 (rowsD P)) := by rw [hW6]; exact hdic.out.set r1.out rfl _
                have hb5 := hBC.out.ext hE5.out
                have hc6 : Buf W6 w4.heap.size 5 BC n2 cC (b2.map B8) := by rw [hW6]; exact hb5.setCell (hb5.unlike r1.out (by decide)) _
                have hfr6 := fread_any A4' b4.length k4' b4 W6 (hb4.out.ext hE26).in8 (by rw [← hn4'.out]; exact hb4l.1) (by rw [← hn4'.out]; exact hb4l.2)
                rw [← hn4'.out] at hfr6
                replace hfr6 := hide hfr6
                replace hW6 := hide hW6
                refine hfr6.out.mono ?_
                rintro e w7 ⟨gf, rfl, _, hfo, hE7⟩
                have r7 := r6.ext hE7
                have y10 := r7.cell 10 rfl
                have z10 := r7.free 10
                replace hfo := hide hfo
                replace r7 := hide r7
                replace hE7 := hide hE7
                clear r1 r6 hfr6 y8 z8 lx45
                go_wp2_with fail
                go_ret2
                have hgw2 := Nat.le_trans hE2.size hg2
                have r8 := r7.out.put 10 (.pointer (some ⟨gf, 0, none⟩))
                have hc7 := hc6.ext hE7.out
                have hc8 := hc7.setCell (p := ⟨g, 10, none⟩) (hc7.unlike r7.out (by decide)) (.pointer (some ⟨gf, 0, none⟩))
                have hd8 := (hd6.ext hE7.out).set r7.out (i := 10) rfl (.pointer (some ⟨gf, 0, none⟩))
                have hf8 := (hfo.out.set r7.out (i := 10) (.pointer (some ⟨gf, 0, none⟩))).fil
                have hdo8 := hdo.ext ((hE36.trans hE7.out).setCell (p := ⟨g, 10, none⟩) (Nat.le_trans hE4.size hgw) (.pointer (some ⟨gf, 0, none⟩)))
                refine ⟨(hE2.trans (hE26.trans hE7.out)).setCell (p := ⟨g, 10, none⟩) hgw2 _, ?_⟩
                rw [hyes.out]
                have hm2 := hm.out
                have hn22 : n2 = (postB (rowsD P)).length := by rw [hn2.out, f2.out]
                rw [hn22, f2.out] at hc8
                rw [f4.out] at hf8
                subst hm2
                rw [hn22] at r8
                exact ⟨g, rfl, ds, Ad, cd, lo, hi', x0.seq, xl.seq, BC, cC, gd, gf, r8, hdP, by rw [← hdP]; exact hpd.out, hdo8, hd8, hc8.in8, hf8⟩
            · have hno : openD b = none := by rw [hop2.out, if_neg (fun e => heq e.2)]
              have hbq : (segL P == b) = false := beq_eq_false_iff_ne.2 heq
              replace hno := hide hno
              go_wp2_with fail
              go_ret2
              exact SegO.no (hE23.trans hE4) hno.out
      · have hno : openD b = none := by rw [hop, if_neg (fun e => hn6 e.2)]
        have hn6' : ((np : Int) == 6) = false := by simp; omega
        subst hsc0
        replace hno := hide hno
        clear hop
        go_wp2_with fail
        go_ret2
        exact SegO.no hE2 hno.out
    · have hno : openD b = none := by rw [hop, if_neg (fun e => hsc0 e.1)]
      have hsc' : ((sc : Int) == 0) = false := by simp; omega
      replace hno := hide hno
      clear hop
      go_wp2_with fail
      go_ret2
      exact SegO.no hE2 hno.out
  · have hno : openD b = none := by
      unfold openD
      rw [if_neg (fun e => hmg (hiff.2 e))]
    replace hno := hide hno
    clear hbl
    go_enter Tryz.func11, Tryz.ntmps11
    go_wp2_with fail
    refine hhp2.out.mono ?_
    rintro e w1 ⟨rfl, rfl⟩
    go_wp2_with fail
    go_ret2
    exact SegO.no (Ext.refl _) hno.out
end Go.Proofs.YtkdcnhnaiknaaaaGreat

/- loggia/dict: Len, At, Floor, Get; sort.Search. -/
namespace Go.Proofs.YtkdcnhnaiknaaaaGreat
open Go.RowKit

set_option maxRecDepth 100000 in
theorem dnone_no (g : Nat) (l : List En) (w : World) (h : DicR w g l) : Calls Tryz.prog 129 #[.pointer (some ⟨g, 0, none⟩)] w fun e w' => e = .returned (.bool false) ∧ w' = w := by
  obtain ⟨A, c, hr, _⟩ := h
  have k1 := hr.cell 1 rfl
  replace hr := hide hr
  go_enter Tryz.func129, Tryz.ntmps129
  go_wp2_with fail
  go_ret
  exact ⟨rfl, rfl⟩
set_option maxRecDepth 100000 in
theorem dlen_any (g : Nat) (l : List En) (w : World) (h : DicR w g l) : Calls Tryz.prog 76 #[.pointer (some ⟨g, 0, none⟩)] w fun e w' => e = .returned (.int .i64 (l.length : Int)) ∧ w' = w := by
  have hno := hide (dnone_no g l w h)
  obtain ⟨A, c, hr, _⟩ := h
  have k0 := hr.cell 0 rfl
  obtain ⟨n, hn⟩ : ∃ n, n = l.length := ⟨_, rfl⟩
  rw [← hn] at k0 ⊢
  replace hn := hide hn
  replace hr := hide hr
  go_enter Tryz.func76, Tryz.ntmps76
  go_wp2_with fail
  refine hno.out.mono ?_
  rintro e w1 ⟨rfl, hw⟩
  obtain rfl := hw.symm
  go_wp2_with fail
  go_ret
  exact ⟨rfl, rfl⟩
/-- Where a test that turns once turns. -/
def SeaP (n : Nat) (p : Nat → Bool) (w : World) (e : Ending) (w' : World) : Prop := ∃ k : Nat, e = .returned (.int .i64 (k : Int)) ∧ k ≤ n ∧ (∀ i, i < k → p i = false) ∧ (∀ i, k ≤ i → i < n → p i = true) ∧ Ext w w'
set_option maxRecDepth 100000 in
set_option maxHeartbeats 1000000 in
theorem search_any (n cf : Nat) (c1 c2 : Value) (p : Nat → Bool) (w : World) (hn : n ≤ 1000000000) (hcf : cf = 160)
    (hcl : ∀ W i, Ext w W → i < n → Calls Tryz.prog cf #[.int .i64 (i : Int), c1, c2] W fun e W' => e = .returned (.bool (p i)) ∧ Ext W W') (hup : ∀ i j, i ≤ j → j < n → p i = true → p j = true) :
    Calls Tryz.prog 159 #[.int .i64 (n : Int), .func (.func cf) #[] #[c1, c2]] w fun e w' => SeaP n p w e w' := by
  subst hcf
  replace hcl := hide hcl
  replace hup := hide hup
  go_enter Tryz.func159, Tryz.ntmps159
  go_wp2_with fail
  go_loopw [5, 6] (fun s5 s6 wr => ∃ i j : Nat, s5 = .int .i64 (i : Int) ∧ s6 = .int .i64 (j : Int) ∧ i ≤ j ∧ j ≤ n ∧ Hid (∀ k, k < i → p k = false) ∧ Hid (∀ k, j ≤ k → k < n → p k = true) ∧ Hid (Ext w wr)) (fun s5 s6 _ => (intOf s6).toNat - (intOf s5).toNat)
  case atStart => exact ⟨0, n, rfl, rfl, by omega, by omega, hide (fun k hk => by omega), hide (fun k h1 h2 => by omega), hide (Ext.refl w)⟩
  case round =>
    obtain ⟨i, j, rfl, rfl, hij, hjn, hlo, hhi, hE⟩ := hrel
    by_cases hlt : i < j
    · obtain ⟨m, hm⟩ : ∃ m, m = (i + j) / 2 := ⟨_, rfl⟩
      have him : i ≤ m := by omega
      have hmj : m < j := by omega
      have hc := hide (hcl.out wr m hE.out (by omega))
      obtain ⟨v, hv⟩ : ∃ v, v = p m := ⟨_, rfl⟩
      rw [← hv] at hc
      obtain ⟨sm, hsm⟩ : ∃ sm, sm = i + j := ⟨_, rfl⟩
      have hadd : (i : Int) + (j : Int) = (sm : Int) := by omega
      have hsm9 : sm ≤ 2000000000 := by omega
      have hwu : IntKind.u64.wrap (sm : Int) = (sm : Int) := wrap_u64 (by omega)
      have hdv : (sm : Int) / 2 = (m : Int) := by omega
      have hlo2 : v = false → ∀ k, k < m + 1 → p k = false := fun hvf k hk => by
        cases hpk : p k with
        | false => rfl
        | true =>
          have := hup.out k m (by omega) (by omega) hpk
          rw [← hv, hvf] at this
          cases this
      have hhi2 : v = true → ∀ k, m ≤ k → k < n → p k = true := fun hvt k h1 h2 => hup.out m k h1 h2 (by rw [← hv, hvt])
      replace hm := hide hm
      replace hv := hide hv
      replace hsm := hide hsm
      replace hlo2 := hide hlo2
      replace hhi2 := hide hhi2
      cases v with
      | false =>
        replace hlo2 := hide (hlo2.out rfl)
        go_wp2_with fail
        refine hc.out.mono ?_
        rintro e w3 ⟨rfl, hE3⟩
        replace hE3 := hide (hE.out.trans hE3)
        go_wp2_with fail
        exact ⟨⟨m + 1, j, by congr 1, rfl, by omega, hjn, hlo2, hhi, hE3⟩, by simp only [intOf]; omega⟩
      | true =>
        replace hhi2 := hide (hhi2.out rfl)
        go_wp2_with fail
        refine hc.out.mono ?_
        rintro e w3 ⟨rfl, hE3⟩
        replace hE3 := hide (hE.out.trans hE3)
        go_wp2_with fail
        exact ⟨⟨i, m, rfl, rfl, him, by omega, hlo, hhi2, hE3⟩, by simp only [intOf]; omega⟩
    · obtain rfl : i = j := by omega
      go_wp2_with fail
      go_ret
      exact ⟨i, rfl, hjn, hlo.out, hhi.out, hE.out⟩
end Go.Proofs.YtkdcnhnaiknaaaaGreat

/- loggia/dict: Floor, At, Get. -/
namespace Go.Proofs.YtkdcnhnaiknaaaaGreat
open Go.RowKit

/-- How many terms are below one. -/
structure FloP (l : List En) (t : List UInt8) (k : Nat) : Prop where
  le : k ≤ l.length
  iff : ∀ i x, l[i]? = some x → (i < k ↔ x.t < t)
def FloR (l : List En) (t : List UInt8) (w : World) (e : Ending) (w' : World) : Prop := ∃ k : Nat, e = .returned (.int .i64 (k : Int)) ∧ FloP l t k ∧ Ext w w'
set_option maxRecDepth 100000 in
set_option maxHeartbeats 1000000 in
theorem floor1_any (i g b1 b2 : Nat) (l : List En) (t : List UInt8) (x : En) (w : World) (h : DicR w g l) (h1 : Row w b1 82 #[.pointer (some ⟨g, 0, none⟩)]) (h2 : Row w b2 9 #[.string ⟨t.toArray⟩]) (hx : l[i]? = some x) (hl : l.length ≤ 1000000000) :
    Calls Tryz.prog 160 #[.int .i64 (i : Int), .pointer (some ⟨b1, 0, none⟩), .pointer (some ⟨b2, 0, none⟩)] w fun e w' => e = .returned (.bool (!decide (x.t < t))) ∧ Ext w w' := by
  obtain ⟨A, c, hr, hc⟩ := h
  obtain ⟨ga, o, rfl, x0, _⟩ := encells_at hc hx
  have hin := (List.getElem?_eq_some_iff.1 hx).1
  have k0 := hr.cell 0 rfl
  have k1 := h1.cell 0 rfl
  have k2 := h2.cell 0 rfl
  obtain ⟨n, hn⟩ : ∃ n, n = l.length := ⟨_, rfl⟩
  rw [← hn] at k0 hin hl
  have hb := bytesLess_eq x.t t
  obtain ⟨v, hv⟩ : ∃ v, v = decide (x.t < t) := ⟨_, rfl⟩
  rw [← hv] at hb ⊢
  obtain ⟨s, hs⟩ : ∃ s, s = x.t := ⟨_, rfl⟩
  rw [← hs] at hb x0
  replace hn := hide hn
  replace hv := hide hv
  replace hs := hide hs
  replace hr := hide hr
  replace h1 := hide h1
  replace h2 := hide h2
  replace hx := hide hx
  replace hc := hide hc
  go_enter Tryz.func160, Tryz.ntmps160
  go_wp2_with fail
  refine wp_region_text follows (by kernel_rfl) (by kernel_rfl) (fun K hK => ?_)
  go_wp2_with fail
  refine ⟨by kernel_rfl, ?_⟩
  go_wp2_with fail
  go_ret
  exact ⟨rfl, (Ext.refl w).drew⟩
set_option maxRecDepth 100000 in
set_option maxHeartbeats 1000000 in
theorem floor_any (g : Nat) (l : List En) (t : List UInt8) (w : World) (h : DicR w g l) (hok : OkEs l) :
    Calls Tryz.prog 105 #[.pointer (some ⟨g, 0, none⟩), .string ⟨t.toArray⟩] w fun e w' => FloR l t w e w' := by
  obtain ⟨W2, hW2⟩ : ∃ W2, W2 = (w.alloc (.cells #[.pointer (some ⟨g, 0, none⟩)] 82)).alloc (.cells #[.string ⟨t.toArray⟩] 9) := ⟨_, rfl⟩
  obtain ⟨b1, hb1⟩ : ∃ b1, b1 = w.heap.size := ⟨_, rfl⟩
  have r1 : Row W2 b1 82 #[.pointer (some ⟨g, 0, none⟩)] := by rw [hW2, hb1]; exact (Row.new w _ _).alloc _
  have r2 : Row W2 (b1 + 1) 9 #[.string ⟨t.toArray⟩] := by
    have := Row.new (w.alloc (.cells #[.pointer (some ⟨g, 0, none⟩)] 82)) 9 #[.string ⟨t.toArray⟩]
    rw [World.size_alloc, ← hb1] at this
    rw [hW2]; exact this
  have hE2 : Ext w W2 := by rw [hW2]; exact ((Ext.refl w).alloc _).alloc _
  have hD2 := h.ext hE2
  have hlen := hide (dlen_any g l W2 hD2)
  obtain ⟨n, hn⟩ : ∃ n, n = l.length := ⟨_, rfl⟩
  have hn9 : n ≤ 262144 := by rw [hn]; exact hok.few
  have hmono : ∀ i j, i ≤ j → j < n → (!decide ((l[i]?.getD ⟨[], 0, 0, 0⟩).t < t)) = true → (!decide ((l[j]?.getD ⟨[], 0, 0, 0⟩).t < t)) = true := by
    intro i j hij hj
    rw [hn] at hj
    rw [List.getElem?_eq_getElem hj, List.getElem?_eq_getElem (Nat.lt_of_le_of_lt hij hj)]
    simp only [Option.getD_some, Bool.not_eq_true', decide_eq_false_iff_not]
    intro hi hjl
    rcases Nat.lt_or_eq_of_le hij with hlt | rfl
    · exact hi (List.lt_trans (List.pairwise_iff_getElem.1 hok.up i j _ hj hlt) hjl)
    · exact hi hjl
  have hsea := hide (search_any n 160 (.pointer (some ⟨b1, 0, none⟩)) (.pointer (some ⟨b1 + 1, 0, none⟩)) (fun i => !decide ((l[i]?.getD ⟨[], 0, 0, 0⟩).t < t)) W2 (by omega) rfl
    (fun W i hE hi => by
      obtain ⟨x, hx⟩ : ∃ x, l[i]? = some x := ⟨_, List.getElem?_eq_getElem (by rw [← hn]; exact hi)⟩
      have := floor1_any i g b1 (b1 + 1) l t x W (hD2.ext hE) (r1.ext hE) (r2.ext hE) hx (by omega)
      rw [hx]
      exact this) hmono)
  rw [← hn] at hlen
  have k1 := r1.cell 0 rfl
  replace hn := hide hn
  replace hb1 := hide hb1
  replace hW2 := hide hW2
  replace hE2 := hide hE2
  replace hD2 := hide hD2
  replace r1 := hide r1
  replace r2 := hide r2
  replace h := hide h
  replace hok := hide hok
  clear hmono
  go_enter Tryz.func105, Tryz.ntmps105
  go_wp2_with fail
  rw [← hW2.out, ← hb1.out]
  refine hlen.out.mono ?_
  rintro e w1 ⟨rfl, hw⟩
  obtain rfl := hw.symm
  go_wp2_with fail
  refine hsea.out.mono ?_
  rintro e w3 ⟨k, rfl, hk, hlo, hhi, hE⟩
  have hfl : FloP l t k := by
    refine ⟨by rw [← hn.out]; exact hk, fun i x hx => ?_⟩
    have hi := (List.getElem?_eq_some_iff.1 hx).1
    constructor
    · intro hik
      have := hlo i hik
      dsimp only at this
      rw [hx] at this
      simpa using this
    · intro hxt
      apply Decidable.byContradiction
      intro hik
      have := hhi i (by omega) (by rw [hn.out]; exact hi)
      dsimp only at this
      rw [hx] at this
      simp only [Option.getD_some, Bool.not_eq_true', decide_eq_false_iff_not] at this
      exact this hxt
  replace hfl := hide hfl
  replace hE := hide (hE2.out.trans hE)
  clear hlo hhi
  go_wp2_with fail
  go_ret
  exact ⟨k, rfl, hfl.out, hE.out⟩
def noEn : Value := .agg #[.string ⟨#[]⟩, .int .i64 0, .int .i64 0, .int .i64 0]
theorem results_row_tmp {fn : Func} {p u : Tmp} {ty : TypeId} {P : Program} (h : fn.results = #[.cell p ty, .tmp u]) (tmps : Array Value) (w : World) (g : Nat) (cs : Array Value)
    (hp : tmps.getD p undef = .pointer (some ⟨g, 0, none⟩)) (hl : (loadVar ty ⟨g, 0, none⟩).run P w = .ok (.agg cs) w) :
    (results fn tmps).run P w = .ok (.tuple #[.agg cs, tmps.getD u undef]) w := by
  rw [results_cell_tmp h, hp]
  simp [asAddr, hl, Result.andThen]
set_option maxRecDepth 100000 in
theorem load_en {w : World} {g : Nat} {cs : Array Value} (h : Row w g 97 cs) (hs : cs.size = 4) : (loadVar 97 ⟨g, 0, none⟩).run Tryz.prog w = .ok (.agg cs) w :=
  run_loadVar_row w g 97 97 cs (0, 0) _ h Tryz.underlying97 rfl (by rw [hs]; kernel_rfl)
/-- The k-th entry, if there is one. -/
def AtR (l : List En) (k : Nat) (w : World) (e : Ending) (w' : World) : Prop := e = .returned (.tuple #[match l[k]? with | some x => .agg x.cells.toArray | none => noEn, .bool (l[k]?).isSome]) ∧ Ext w w'
set_option maxRecDepth 100000 in
set_option maxHeartbeats 1000000 in
theorem dat_any (g k : Nat) (l : List En) (w : World) (h : DicR w g l) (hl : l.length ≤ 1000000000) :
    Calls Tryz.prog 104 #[.pointer (some ⟨g, 0, none⟩), .int .i64 (k : Int)] w fun e w' => AtR l k w e w' := by
  obtain ⟨W4, hW4⟩ : ∃ W4, W4 = w.alloc (.cells #[.string ⟨#[]⟩, .int .i64 0, .int .i64 0, .int .i64 0] 97) := ⟨_, rfl⟩
  obtain ⟨g4, hg4⟩ : ∃ g4, g4 = w.heap.size := ⟨_, rfl⟩
  have r4 : Row W4 g4 97 #[.string ⟨#[]⟩, .int .i64 0, .int .i64 0, .int .i64 0] := by rw [hW4, hg4]; exact Row.new w _ _
  have hE4 : Ext w W4 := by rw [hW4]; exact (Ext.refl w).alloc _
  have hg4w : w.heap.size ≤ g4 := by omega
  have hlen := hide (dlen_any g l W4 (h.ext hE4))
  have h4 := h.ext hE4
  obtain ⟨A, c, hr, hc⟩ := h4
  have k0 := hr.cell 0 rfl
  have q0 := r4.cell 0 rfl
  have q1 := r4.cell 1 rfl
  have q2 := r4.cell 2 rfl
  have q3 := r4.cell 3 rfl
  have qf := r4.free
  obtain ⟨n, hn⟩ : ∃ n, n = l.length := ⟨_, rfl⟩
  rw [← hn] at hlen k0 hl
  replace hn := hide hn
  replace h := hide h
  replace hr := hide hr
  replace r4 := hide r4
  replace hE4 := hide hE4
  replace hW4 := hide hW4
  replace hg4 := hide hg4
  by_cases hk : k < n
  · obtain ⟨x, hx⟩ : ∃ x, l[k]? = some x := ⟨_, List.getElem?_eq_getElem (by rw [← hn.out]; exact hk)⟩
    obtain ⟨ga, o, hA, x0, x1, x2, x3⟩ := encells_at hc hx
    subst hA
    obtain ⟨t, off, len, nn⟩ := x
    simp only at x0 x1 x2 x3
    replace hx := hide hx
    replace hc := hide hc
    go_enter Tryz.func104, Tryz.ntmps104
    go_wp2_with fail
    rw [← hW4.out, ← hg4.out]
    refine hlen.out.mono ?_
    rintro e w1 ⟨rfl, hw⟩
    obtain rfl := hw.symm
    go_wp2_with fail
    have hrf := (((r4.out.put 0 (.string ⟨t.toArray⟩)).put 1 (.int .i64 (off : Int))).put 2 (.int .i64 (len : Int))).put 3 (.int .i64 (nn : Int))
    have hEf := (((hE4.out.setCell (p := ⟨g4, 0, none⟩) hg4w (.string ⟨t.toArray⟩)).setCell (p := ⟨g4, 1, none⟩) hg4w (.int .i64 (off : Int))).setCell (p := ⟨g4, 2, none⟩) hg4w (.int .i64 (len : Int))).setCell (p := ⟨g4, 3, none⟩) hg4w (.int .i64 (nn : Int))
    refine bodyPost_ret (results_row_tmp rfl _ _ g4 #[.string ⟨t.toArray⟩, .int .i64 (off : Int), .int .i64 (len : Int), .int .i64 (nn : Int)] rfl (load_en hrf rfl)) rfl ⟨?_, hEf⟩
    rw [hx.out]
    rfl
  · have hx : l[k]? = none := List.getElem?_eq_none (by rw [← hn.out]; omega)
    replace hx := hide hx
    replace hc := hide hc
    go_enter Tryz.func104, Tryz.ntmps104
    go_wp2_with fail
    rw [← hW4.out, ← hg4.out]
    refine hlen.out.mono ?_
    rintro e w1 ⟨rfl, hw⟩
    obtain rfl := hw.symm
    go_wp2_with fail
    have hrf := (((r4.out.put 0 (.string ⟨#[]⟩)).put 1 (.int .i64 0)).put 2 (.int .i64 0)).put 3 (.int .i64 0)
    have hEf := (((hE4.out.setCell (p := ⟨g4, 0, none⟩) hg4w (.string ⟨#[]⟩)).setCell (p := ⟨g4, 1, none⟩) hg4w (.int .i64 0)).setCell (p := ⟨g4, 2, none⟩) hg4w (.int .i64 0)).setCell (p := ⟨g4, 3, none⟩) hg4w (.int .i64 0)
    refine bodyPost_ret (results_row_tmp rfl _ _ g4 #[.string ⟨#[]⟩, .int .i64 0, .int .i64 0, .int .i64 0] rfl (load_en hrf rfl)) rfl ⟨?_, hEf⟩
    rw [hx.out]
    rfl
/-- A term's entry, if there is one. -/
def GetR (l : List En) (t : List UInt8) (w : World) (e : Ending) (w' : World) : Prop := Ext w w' ∧ ((∃ x ∈ l, x.t = t ∧ e = .returned (.tuple #[.agg #[.string ⟨x.t.toArray⟩, .int .i64 (x.off : Int), .int .i64 (x.len : Int), .int .i64 (x.n : Int)], .bool true])) ∨ ((∀ x ∈ l, x.t ≠ t) ∧ e = .returned (.tuple #[noEn, .bool false])))
set_option maxRecDepth 100000 in
set_option maxHeartbeats 8000000 in
theorem dget_any (g : Nat) (l : List En) (t : List UInt8) (w : World) (h : DicR w g l) (hok : OkEs l) :
    Calls Tryz.prog 58 #[.pointer (some ⟨g, 0, none⟩), .string ⟨t.toArray⟩] w fun e w' => GetR l t w e w' := by
  obtain ⟨W4, hW4⟩ : ∃ W4, W4 = w.alloc (.cells #[.string ⟨#[]⟩, .int .i64 0, .int .i64 0, .int .i64 0] 97) := ⟨_, rfl⟩
  obtain ⟨g4, hg4⟩ : ∃ g4, g4 = w.heap.size := ⟨_, rfl⟩
  have r4 : Row W4 g4 97 #[.string ⟨#[]⟩, .int .i64 0, .int .i64 0, .int .i64 0] := by rw [hW4, hg4]; exact Row.new w _ _
  have hE4 : Ext w W4 := by rw [hW4]; exact (Ext.refl w).alloc _
  have hg4w : w.heap.size ≤ g4 := by omega
  have hflo := hide (floor_any g l t W4 (h.ext hE4) hok)
  have hat := hide (fun k W (hE : Ext w W) => dat_any g k l W (h.ext hE) (by have := hok.few; omega))
  replace hok := hide hok
  replace h := hide h
  replace r4 := hide r4
  replace hE4 := hide hE4
  replace hW4 := hide hW4
  replace hg4 := hide hg4
  go_enter Tryz.func58, Tryz.ntmps58
  go_wp2_with fail
  rw [← hW4.out, ← hg4.out]
  refine hflo.out.mono ?_
  rintro e w1 ⟨k, rfl, hfl, hE1⟩
  have r41 := hide (r4.out.ext hE1)
  replace hE1 := hide (hE4.out.trans hE1)
  go_wp2_with fail
  refine (hat.out k w1 hE1.out).mono ?_
  rintro e w2 ⟨he, hE2⟩
  have r42 := r41.out.ext hE2
  replace hE2 := hE1.out.trans hE2
  have qg := r42.get
  have qf := r42.free
  have h6w : w.heap.size ≤ w2.heap.size := hE2.size
  have hg42 : g4 < w2.heap.size := r42.lt
  cases hx : l[k]? with
  | none =>
    rw [hx] at he
    have he : e = .returned (.tuple #[noEn, .bool false]) := he
    unfold noEn at he
    subst he
    have hno : ∀ x ∈ l, x.t ≠ t := fun x hm e => by
      obtain ⟨i, hi, rfl⟩ := List.getElem_of_mem hm
      have := (hfl.iff i _ (List.getElem?_eq_getElem hi)).1 (by
        have := hfl.le
        have h2 := List.getElem?_eq_none_iff.1 hx
        omega)
      rw [e] at this
      exact List.lt_irrefl _ this
    replace hno := hide hno
    replace hfl := hide hfl
    replace hx := hide hx
    replace r42 := hide r42
    replace hE2 := hide hE2
    go_wp2_with fail
    have hrf := ((((r42.out.put 0 (.string ⟨#[]⟩)).put 1 (.int .i64 0)).put 2 (.int .i64 0)).put 3 (.int .i64 0)).alloc (.cells #[.string ⟨#[]⟩, .int .i64 0, .int .i64 0, .int .i64 0] 97)
    have hEf := ((((hE2.out.setCell (p := ⟨g4, 0, none⟩) hg4w (.string ⟨#[]⟩)).setCell (p := ⟨g4, 1, none⟩) hg4w (.int .i64 0)).setCell (p := ⟨g4, 2, none⟩) hg4w (.int .i64 0)).setCell (p := ⟨g4, 3, none⟩) hg4w (.int .i64 0)).alloc (.cells #[.string ⟨#[]⟩, .int .i64 0, .int .i64 0, .int .i64 0] 97)
    exact bodyPost_ret (results_row_tmp rfl _ _ g4 #[.string ⟨#[]⟩, .int .i64 0, .int .i64 0, .int .i64 0] rfl (load_en hrf rfl)) rfl ⟨hEf, .inr ⟨hno.out, rfl⟩⟩
  | some x =>
    rw [hx] at he
    have he : e = .returned (.tuple #[.agg #[.string ⟨x.t.toArray⟩, .int .i64 (x.off : Int), .int .i64 (x.len : Int), .int .i64 (x.n : Int)], .bool true]) := he
    subst he
    have hmem := List.mem_of_getElem? hx
    have hno : x.t ≠ t → ∀ y ∈ l, y.t ≠ t := fun hne y hm e => by
      obtain ⟨i, hi, rfl⟩ := List.getElem_of_mem hm
      have hki := (List.getElem?_eq_some_iff.1 hx)
      have h1 := (hfl.iff k x hx)
      have h2 := hfl.iff i _ (List.getElem?_eq_getElem hi)
      rw [e] at h2
      have h3 : ¬ i < k := fun h => List.lt_irrefl _ (h2.1 h)
      rcases Nat.lt_or_eq_of_le (Nat.le_of_not_lt h3) with h4 | h4
      · have h5 := List.pairwise_iff_getElem.1 hok.out.up k i hki.1 hi h4
        rw [hki.2, e] at h5
        have := h1.2 h5
        omega
      · subst h4
        exact hne (by rw [← hki.2]; exact e)
    obtain ⟨s, off, len, nn⟩ := x
    simp only at hno
    by_cases hst : s = t
    · have q1 : (s == t) = true := by rw [hst]; exact beq_self_eq_true t
      have q2 : (s != t) = false := by rw [hst]; simp
      replace hno := hide hno
      replace hfl := hide hfl
      replace hx := hide hx
      replace hmem := hide hmem
      replace hst := hide hst
      replace r42 := hide r42
      replace hE2 := hide hE2
      go_wp2_with fail
      have hrf := ((((r42.out.put 0 (.string ⟨s.toArray⟩)).put 1 (.int .i64 (off : Int))).put 2 (.int .i64 (len : Int))).put 3 (.int .i64 (nn : Int))).alloc (.cells #[.string ⟨s.toArray⟩, .int .i64 (off : Int), .int .i64 (len : Int), .int .i64 (nn : Int)] 97)
      have hEf := ((((hE2.out.setCell (p := ⟨g4, 0, none⟩) hg4w (.string ⟨s.toArray⟩)).setCell (p := ⟨g4, 1, none⟩) hg4w (.int .i64 (off : Int))).setCell (p := ⟨g4, 2, none⟩) hg4w (.int .i64 (len : Int))).setCell (p := ⟨g4, 3, none⟩) hg4w (.int .i64 (nn : Int))).alloc (.cells #[.string ⟨s.toArray⟩, .int .i64 (off : Int), .int .i64 (len : Int), .int .i64 (nn : Int)] 97)
      exact bodyPost_ret (results_row_tmp rfl _ _ g4 #[.string ⟨s.toArray⟩, .int .i64 (off : Int), .int .i64 (len : Int), .int .i64 (nn : Int)] rfl (load_en hrf rfl)) rfl ⟨hEf, .inl ⟨_, hmem.out, hst.out, rfl⟩⟩
    · have q1 : (s == t) = false := beq_eq_false_iff_ne.2 hst
      have q2 : (s != t) = true := bne_iff_ne.2 hst
      replace hno := hide (hno hst)
      replace hfl := hide hfl
      replace hx := hide hx
      replace hmem := hide hmem
      replace hst := hide hst
      replace r42 := hide r42
      replace hE2 := hide hE2
      go_wp2_with fail
      have hrf := ((((r42.out.put 0 (.string ⟨#[]⟩)).put 1 (.int .i64 0)).put 2 (.int .i64 0)).put 3 (.int .i64 0)).alloc (.cells #[.string ⟨s.toArray⟩, .int .i64 (off : Int), .int .i64 (len : Int), .int .i64 (nn : Int)] 97)
      have hEf := ((((hE2.out.setCell (p := ⟨g4, 0, none⟩) hg4w (.string ⟨#[]⟩)).setCell (p := ⟨g4, 1, none⟩) hg4w (.int .i64 0)).setCell (p := ⟨g4, 2, none⟩) hg4w (.int .i64 0)).setCell (p := ⟨g4, 3, none⟩) hg4w (.int .i64 0)).alloc (.cells #[.string ⟨s.toArray⟩, .int .i64 (off : Int), .int .i64 (len : Int), .int .i64 (nn : Int)] 97)
      exact bodyPost_ret (results_row_tmp rfl _ _ g4 #[.string ⟨#[]⟩, .int .i64 0, .int .i64 0, .int .i64 0] rfl (load_en hrf rfl)) rfl ⟨hEf, .inr ⟨hno.out, rfl⟩⟩
end Go.Proofs.YtkdcnhnaiknaaaaGreat

