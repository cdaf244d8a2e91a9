/- Events: loggiaref10.Check, Same. -/
import Derived.Test.YtpajpdkliohepaaDoorEvB
import Derived.Laws.StructEq
import Derived.Deep.QuietTactic
import Derived.BigQuiet
namespace Go.Proofs.YtpajpdkliohepaaDoor
open Go.RowKit

set_option maxRecDepth 100000 in
set_option maxHeartbeats 2000000 in
theorem recheck_any (e : Ev) (A : Option Addr) (c : Nat) (w : World) (h : e.Ok w A) : Calls Tryd.prog 28 #[e.val A c] w fun en w' => en = .returned (.int .i64 (checkE e.fs : Int)) ∧ Ext w w' := by
  obtain ⟨at_, fs⟩ := e
  obtain ⟨hc, hm, hl⟩ := h
  unfold Ev.val
  simp only at hc hm hl ⊢
  obtain ⟨n, hn⟩ : ∃ n, n = fs.length := ⟨_, rfl⟩
  obtain ⟨z, hz⟩ : ∃ z, z = checkE fs := ⟨_, rfl⟩
  have hmany : 16 < n → z = 3 := fun h => by rw [hz]; unfold checkE; rw [if_pos (by omega)]
  have hgo : n ≤ 16 → z = checkF (fs.drop 0) := fun h => by rw [hz]; unfold checkE; rw [if_neg (by omega)]; rfl
  have hnm := fun s W (hs : s.length ≤ 9223372036854775807) => risname_any s W hs
  rw [← hz, ← hn]
  rw [← hn] at hm
  have hEW : Ext w (w.alloc (.cells #[.int .i64 at_, .slice A n c] 24)) := (Ext.refl w).alloc _
  have hrow : Row (w.alloc (.cells #[.int .i64 at_, .slice A n c] 24)) w.heap.size 24 #[.int .i64 at_, .slice A n c] := Row.new w _ _
  replace hn := hide hn
  replace hl := hide hl
  replace hnm := hide hnm
  replace hgo := hide hgo
  clear hz
  by_cases h16 : 16 < n
  · have hz3 := hmany h16
    subst hz3
    clear hmany hrow
    go_enter Tryd.func28, Tryd.ntmps28
    go_wp2_with fail
    go_ret
    exact ⟨rfl, hEW⟩
  · clear hmany
    have hz0 := hgo.out (by omega)
    replace hz0 := hide hz0
    go_enter Tryd.func28, Tryd.ntmps28
    go_wp2_with fail
    obtain ⟨W0, hW0⟩ : ∃ W0, W0 = w.alloc (.cells #[.int .i64 at_, .slice A n c] 24) := ⟨_, rfl⟩
    rw [← hW0] at hEW hrow ⊢
    clear hW0
    go_loopw [3] (fun s3 wr => ∃ i : Nat, s3 = .int .i64 i ∧ i ≤ n ∧ Hid (z = checkF (fs.drop i)) ∧ Hid (Ext W0 wr)) (fun s3 _ => n - (intOf s3).toNat)
    case atStart => exact ⟨0, rfl, by omega, hz0, hide (Ext.refl _)⟩
    case round =>
      obtain ⟨i, rfl, hi, hz, hE⟩ := hrel
      have y1 := (hrow.ext hE.out).cell 1 rfl
      by_cases hin : i < n
      · have hil : i < fs.length := by rw [← hn.out]; exact hin
        obtain ⟨f, hf⟩ : ∃ f, fs[i]? = some f := ⟨_, List.getElem?_eq_getElem hil⟩
        obtain ⟨g, o, rfl, k0, k1⟩ := fcells_at (hc.ext (hEW.trans hE.out)) hf
        obtain ⟨hl1, hl2⟩ := hl.out f (List.mem_of_getElem? hf)
        have hz2 := hz.out
        rw [checkF_drop hf] at hz2
        unfold strV at k0 k1
        obtain ⟨nm, tx⟩ := f
        simp only at k0 k1 hl1 hl2 hz2
        have hnm1 := fun W => hnm.out nm W hl1
        obtain ⟨q, hq⟩ : ∃ q, q = nameL nm := ⟨_, rfl⟩
        rw [← hq] at hnm1 hz2
        have hi0 : (0 : Int) ≤ i := by omega
        have hi1 : (i : Int) < n := by omega
        replace hnm1 := hide hnm1
        replace hz2 := hide hz2
        clear hf hq
        go_wp2_with fail
        refine (hnm1.out _).mono ?_
        rintro e w3 ⟨rfl, rfl⟩
        cases q with
        | false =>
          obtain rfl : z = 100 := by rw [hz2.out]; rfl
          go_wp2_with fail
          go_ret
          exact ⟨rfl, hEW.trans hE.out⟩
        | true =>
          by_cases hlt : 4096 < tx.length
          · obtain rfl : z = 2 := by rw [hz2.out, if_neg (by simp), if_pos hlt]
            go_wp2_with fail
            go_ret
            exact ⟨rfl, hEW.trans hE.out⟩
          · have hz3 := hide (show z = checkF (fs.drop (i + 1)) by rw [hz2.out, if_neg (by simp), if_neg hlt])
            go_wp2_with fail
            go_roundw
            case rel => exact ⟨i + 1, by go_num, by omega, hz3, hE⟩
            case measure => simp [intOf]; omega
      · obtain rfl : z = 0 := by
          have h := hz.out
          rw [List.drop_of_length_le (by rw [← hn.out]; omega)] at h
          exact h
        go_wp2_with fail
        go_ret
        exact ⟨rfl, hEW.trans hE.out⟩
theorem take_one2 {α : Type} {xs : List α} {i : Nat} {x : α} (h : xs[i]? = some x) : xs.take (i + 1) = xs.take i ++ [x] := by
  obtain ⟨hi, rfl⟩ := List.getElem?_eq_some_iff.1 h
  exact List.take_succ_eq_append_getElem hi
set_option maxRecDepth 100000 in
theorem fd_neq (f g : Fd) (W : World) : (binOp .neq 52 (.agg #[.string ⟨f.1.toArray⟩, .string ⟨f.2.toArray⟩]) (.agg #[.string ⟨g.1.toArray⟩, .string ⟨g.2.toArray⟩])).run Tryd.prog W = .ok (.bool (!decide (f = g))) W := by
  rw [run_neq_struct, run_equalIn_agg _ _ _ _ _ (by kernel_rfl) (by kernel_rfl)]
  simp only [Program.fieldsOf, Tryd.underlying52]
  have e1 : ∀ (a b : List UInt8) (W : World), (Op.equalIn 9999 9 (.string ⟨a.toArray⟩) (.string ⟨b.toArray⟩)).run Tryd.prog W = .ok (a == b) W := fun a b W => by
    have h := run_equalIn_string (P := Tryd.prog) (w := W) 9998 9 ⟨a.toArray⟩ ⟨b.toArray⟩ Tryd.underlying9
    rw [h]
    congr 1
    rw [Bool.eq_iff_iff]
    simp
  simp [Op.eqFields, part, e1, go_sem]
  by_cases h1 : f.1 = g.1 <;> by_cases h2 : f.2 = g.2
  all_goals simp [h1, h2, Prod.ext_iff]
def sameE (a b : Ev) : Bool := decide (a.at_ = b.at_ ∧ a.fs = b.fs)
set_option maxRecDepth 100000 in
set_option maxHeartbeats 4000000 in
theorem resame_any (a b : Ev) (A B : Option Addr) (c c2 : Nat) (w : World) (ha : a.Ok w A) (hb : b.Ok w B) : Calls Tryd.prog 13 #[a.val A c, b.val B c2] w fun en w' => en = .returned (.bool (sameE a b)) ∧ Ext w w' := by
  obtain ⟨at1, fs⟩ := a
  obtain ⟨at2, gs⟩ := b
  obtain ⟨hc, hm, _⟩ := ha
  obtain ⟨hd, hm2, _⟩ := hb
  unfold Ev.val sameE
  simp only at hc hm hd hm2 ⊢
  obtain ⟨n, hn⟩ : ∃ n, n = fs.length := ⟨_, rfl⟩
  obtain ⟨m, hmn⟩ : ∃ m, m = gs.length := ⟨_, rfl⟩
  obtain ⟨z, hz⟩ : ∃ z, z = decide (at1 = at2 ∧ fs = gs) := ⟨_, rfl⟩
  have hno1 : at1 ≠ at2 → z = false := fun h => by rw [hz]; exact decide_eq_false fun hh => h hh.1
  have hno2 : n ≠ m → z = false := fun h => by rw [hz]; exact decide_eq_false fun hh => h (by rw [hn, hmn, hh.2])
  have hno3 : fs ≠ gs → z = false := fun h => by rw [hz]; exact decide_eq_false fun hh => h hh.2
  have hyes : at1 = at2 → fs = gs → z = true := fun h1 h2 => by rw [hz]; exact decide_eq_true ⟨h1, h2⟩
  rw [← hz, ← hn, ← hmn]
  rw [← hn] at hm
  rw [← hmn] at hm2
  have hEW : Ext w ((w.alloc (.cells #[.int .i64 at1, .slice A n c] 24)).alloc (.cells #[.int .i64 at2, .slice B m c2] 24)) := ((Ext.refl w).alloc _).alloc _
  have hrow : Row ((w.alloc (.cells #[.int .i64 at1, .slice A n c] 24)).alloc (.cells #[.int .i64 at2, .slice B m c2] 24)) w.heap.size 24 #[.int .i64 at1, .slice A n c] := (Row.new w _ _).alloc _
  have hrow2 : Row ((w.alloc (.cells #[.int .i64 at1, .slice A n c] 24)).alloc (.cells #[.int .i64 at2, .slice B m c2] 24)) (w.heap.size + 1) 24 #[.int .i64 at2, .slice B m c2] := by
    have h := Row.new (w.alloc (.cells #[.int .i64 at1, .slice A n c] 24)) 24 #[.int .i64 at2, .slice B m c2]
    simpa using h
  by_cases hat : at1 = at2
  case neg =>
    obtain rfl := hno1 hat
    have hq : (at1 != at2) = true := bne_iff_ne.2 hat
    clear hno1 hno2 hno3 hyes hz hn hmn hrow hrow2 hc hd hat
    go_enter Tryd.func13, Tryd.ntmps13
    go_wp2_with fail
    go_ret
    exact ⟨rfl, hEW⟩
  case pos =>
    by_cases hnm : n = m
    case neg =>
      obtain rfl := hno2 hnm
      have hq : ((n : Int) != (m : Int)) = true := bne_iff_ne.2 (by omega)
      clear hno1 hno2 hno3 hyes hz hn hmn hrow hrow2 hc hd
      subst hat
      go_enter Tryd.func13, Tryd.ntmps13
      go_wp2_with fail
      go_ret
      exact ⟨rfl, hEW⟩
    case pos =>
      subst hat
      subst hnm
      replace hno3 := hide hno3
      replace hyes := hide (hyes rfl)
      replace hn := hide hn
      replace hmn := hide hmn
      clear hz hno1 hno2
      go_enter Tryd.func13, Tryd.ntmps13
      go_wp2_with fail
      obtain ⟨W0, hW0⟩ : ∃ W0, W0 = (w.alloc (.cells #[.int .i64 at1, .slice A n c] 24)).alloc (.cells #[.int .i64 at1, .slice B n c2] 24) := ⟨_, rfl⟩
      rw [← hW0] at hEW hrow hrow2 ⊢
      clear hW0
      go_loopw [5] (fun s5 wr => ∃ i : Nat, s5 = .int .i64 i ∧ i ≤ n ∧ Hid (fs.take i = gs.take i) ∧ Hid (Ext W0 wr)) (fun s5 _ => n - (intOf s5).toNat)
      case atStart => exact ⟨0, rfl, by omega, hide rfl, hide (Ext.refl _)⟩
      case round =>
        obtain ⟨i, rfl, hi, htk, hE⟩ := hrel
        have y1 : wr.cell? ⟨w.heap.size, 1, none⟩ = some (.slice A n c) := (hrow.ext hE.out).cell 1 rfl
        have y2 : wr.cell? ⟨w.heap.size + 1, 1, none⟩ = some (.slice B n c2) := (hrow2.ext hE.out).cell 1 rfl
        by_cases hin : i < n
        · obtain ⟨f, hf⟩ : ∃ f, fs[i]? = some f := ⟨_, List.getElem?_eq_getElem (by rw [← hn.out]; exact hin)⟩
          obtain ⟨g, hg⟩ : ∃ g, gs[i]? = some g := ⟨_, List.getElem?_eq_getElem (by rw [← hmn.out]; exact hin)⟩
          obtain ⟨b1, o1, rfl, k0, k1⟩ := fcells_at (hc.ext (hEW.trans hE.out)) hf
          obtain ⟨b2, o2, rfl, k2, k3⟩ := fcells_at (hd.ext (hEW.trans hE.out)) hg
          have hne := fd_neq f g
          have hi0 : (0 : Int) ≤ i := by omega
          have hi1 : (i : Int) < n := by omega
          unfold strV at k0 k1 k2 k3
          by_cases hfg : f = g
          · have htk2 := hide (show fs.take (i + 1) = gs.take (i + 1) by rw [take_one2 hf, take_one2 hg, htk.out, hfg])
            rw [decide_eq_true hfg] at hne
            obtain ⟨f1, f2⟩ := f
            obtain ⟨g1, g2⟩ := g
            simp only at k0 k1 k2 k3 hne
            clear hf hg hfg
            go_wp2_with fail
            go_quiet (fail)
            go_wp2_with fail
            go_roundw
            case rel => exact ⟨i + 1, by go_num, by omega, htk2, hide (by first | exact hE.out.drew | exact hE.out.drewN _)⟩
            case measure => simp [intOf]; omega
          · obtain rfl : z = false := hno3.out (fun h => hfg (by rw [h, hg] at hf; exact (Option.some.inj hf).symm))
            rw [decide_eq_false hfg] at hne
            obtain ⟨f1, f2⟩ := f
            obtain ⟨g1, g2⟩ := g
            simp only at k0 k1 k2 k3 hne
            clear hf hg hfg
            go_wp2_with fail
            go_quiet (fail)
            go_wp2_with fail
            go_ret
            exact ⟨rfl, by first | exact hEW.trans hE.out.drew | exact hEW.trans (hE.out.drewN _)⟩
        · obtain rfl : z = true := hyes.out (by
            have h := htk.out
            rw [List.take_of_length_le (by rw [← hn.out]; omega), List.take_of_length_le (by rw [← hmn.out]; omega)] at h
            exact h)
          go_wp2_with fail
          go_ret
          exact ⟨rfl, hEW.trans hE.out⟩
end Go.Proofs.YtpajpdkliohepaaDoor
