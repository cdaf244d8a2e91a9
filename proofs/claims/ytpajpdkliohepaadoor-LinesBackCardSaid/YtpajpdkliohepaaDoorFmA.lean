/- loggia/lines: Format. -/
import Derived.Test.YtpajpdkliohepaaDoorFmP
import Derived.Test.YtpajpdkliohepaaDoorEvC
import Derived.Test.YtpajpdkliohepaaDoorLnC
import Derived.Deep.RegionHeld3
namespace Go.Proofs.YtpajpdkliohepaaDoor
open Go.RowKit

/-- What Format answers. -/
def FmtP (w : World) (e : Ev) (en : Ending) (w' : World) : Prop := en = .returned (.tuple #[.string ⟨(if checkE e.fs = 0 then fmtL e.at_ e.fs else []).toArray⟩, .int .i64 (checkE e.fs : Int)]) ∧ Ext w w'
theorem nDigits_le : ∀ (k u : Nat), u < 10 ^ (k + 1) → Lib.nDigits u ≤ k + 1
  | 0, u, h => by
    unfold Lib.nDigits
    rw [dif_pos (by omega)]
    omega
  | k + 1, u, h => by
    unfold Lib.nDigits
    by_cases h10 : u < 10
    · rw [dif_pos h10]; omega
    · rw [dif_neg h10]
      have := nDigits_le k (u / 10) (by rw [Nat.div_lt_iff_lt_mul (by omega)]; rw [Nat.pow_succ] at h; exact h)
      omega
theorem itoa_len {n : Int} (h0 : -9223372036854775808 ≤ n) (h1 : n ≤ 9223372036854775807) : (Lib.itoa n).length ≤ 100 := by
  unfold Lib.itoa
  split
  · rw [List.length_cons, Lib.decDigits_length]
    have := nDigits_le 19 n.natAbs (by omega)
    omega
  · rw [Lib.decDigits_length]
    have := nDigits_le 19 n.toNat (by omega)
    omega
theorem checkF_ok {fs : List Fd} (h : checkF fs = 0) : ∀ f ∈ fs, f.1.length ≤ 32 ∧ f.2.length ≤ 4096 := by
  induction fs with
  | nil => nofun
  | cons f fs ih =>
    unfold checkF at h
    split at h
    · cases h
    · rename_i hn
      split at h
      · cases h
      · rename_i hl
        intro g hg
        rcases List.mem_cons.1 hg with rfl | hg
        · refine ⟨?_, by omega⟩
          unfold nameL at hn
          simp at hn
          omega
        · exact ih h g hg
theorem checkE_ok {fs : List Fd} (h : checkE fs = 0) : fs.length ≤ 16 ∧ ∀ f ∈ fs, f.1.length ≤ 32 ∧ f.2.length ≤ 4096 := by
  unfold checkE at h
  split at h
  · cases h
  · exact ⟨by omega, checkF_ok h⟩
theorem fmtL_take {at_ : Int} {fs : List Fd} {i : Nat} {f : Fd} (h : fs[i]? = some f) : fmtL at_ (fs.take (i + 1)) = fmtL at_ (fs.take i) ++ fieldL f := by
  unfold fmtL
  rw [take_one2 h, List.flatMap_append, List.append_assoc]
  simp
theorem fieldL_len {f : Fd} (h1 : f.1.length ≤ 32) (h2 : f.2.length ≤ 4096) : (fieldL f).length ≤ 20000 := by
  have := quote_len f.2
  unfold fieldL
  simp
  omega
set_option maxRecDepth 100000 in
set_option maxHeartbeats 4000000 in
theorem format_any (e : Ev) (A : Option Addr) (c : Nat) (w : World) (h : e.Ok w A) (hat : -9223372036854775808 ≤ e.at_ ∧ e.at_ ≤ 9223372036854775807) (ht : Tabs w) : Calls Tryd.prog 9 #[e.val A c] w fun en w' => FmtP w e en w' := by
  have hck := fun W (hE : Ext w W) => echeck_any e A c W (h.ext hE)
  have hit := fun W (hE : Ext w W) => itoa_any e.at_ hat.1 hat.2 W (ht.ext hE)
  have hil := itoa_len hat.1 hat.2
  have hok := @checkE_ok e.fs
  obtain ⟨at_, fs⟩ := e
  obtain ⟨hc, hm, hl⟩ := h
  unfold Ev.val FmtP at *
  simp only at hc hm hl hck hit hil hok hat ⊢
  obtain ⟨k, hk⟩ : ∃ k, k = checkE fs := ⟨_, rfl⟩
  rw [← hk] at hck hok ⊢
  obtain ⟨n, hn⟩ : ∃ n, n = fs.length := ⟨_, rfl⟩
  rw [← hn] at hck hok hm ⊢
  replace hn := hide hn
  replace hck := hide hck
  replace hit := hide hit
  have hEW : Ext w (w.alloc (.cells #[.int .i64 at_, .slice A n c] 24)) := (Ext.refl w).alloc _
  by_cases hk0 : k = 0
  case neg =>
    rw [if_neg hk0]
    have hki : ¬ (k : Int) = 0 := by omega
    clear hk hok hk0
    go_enter Tryd.func9, Tryd.ntmps9
    go_wp2_with fail
    refine (hck.out _ hEW).mono ?_
    rintro en w1 ⟨rfl, hE1⟩
    go_wp2_with fail
    go_ret2
    exact ⟨rfl, hEW.trans hE1⟩
  case pos =>
    subst hk0
    rw [if_pos rfl]
    obtain ⟨hn16, hfl⟩ := hok rfl
    replace hfl := hide hfl
    clear hk hok
    go_enter Tryd.func9, Tryd.ntmps9
    go_wp2_with fail
    refine (hck.out _ hEW).mono ?_
    rintro en w1 ⟨rfl, hE1⟩
    have hr1 : Row w1 w.heap.size 24 #[.int .i64 at_, .slice A n c] := (Row.new w _ _).ext hE1
    have x0 : (w1.alloc (.cells #[.pointer none, .slice none 0 0] 57)).cell? ⟨w.heap.size, 0, none⟩ = some (.int .i64 at_) := (hr1.alloc _).cell 0 rfl
    have hxl := hr1.lt
    have x0a : w1.cell? ⟨w.heap.size, 0, none⟩ = some (.int .i64 at_) := hr1.cell 0 rfl
    have hEB := hEW.trans hE1
    obtain ⟨W2, hW2⟩ : ∃ W2, W2 = w1.alloc (.cells #[.pointer none, .slice none 0 0] 57) := ⟨_, rfl⟩
    have hB2 : Bd W2 w1.heap.size [] := by rw [hW2]; exact Bd.fresh w1
    have hE2 : Ext w1 W2 := by rw [hW2]; exact (Ext.refl w1).alloc _
    have hbw := fun l s W => bwrite_any w1.heap.size l s W
    replace hbw := hide hbw
    replace hW2 := hide hW2
    go_wp2_with fail
    rw [← hW2.out]
    refine (hit.out _ (hEB.trans hE2)).mono ?_
    rintro en w3 ⟨rfl, hE3⟩
    have hw3 := hide (hbw.out [] (Lib.itoa at_) w3 (hB2.ext hE3) (by simp; omega))
    rw [List.nil_append] at hw3
    go_wp2_with fail
    refine hw3.out.mono ?_
    rintro en w4 ⟨rfl, hB4, hE4⟩
    have hE14 : Ext w1 w4 := Below.trans (hE2.trans hE3) hE4
    have x1 : w4.cell? ⟨w.heap.size, 1, none⟩ = some (.slice A n c) := (hr1.ext hE14).cell 1 rfl
    have hqu := fun t W (h : t.length ≤ 1000000) => quote_any t W h
    have hstr := fun l W => bstring_any w1.heap.size l W
    have hfm0 : fmtL at_ (fs.take 0) = Lib.itoa at_ := by unfold fmtL; simp
    have hflen : ∀ i, i ≤ 16 → (fmtL at_ (fs.take i)).length ≤ 100 + 20000 * i := fun i => by
      induction i with
      | zero => intro _; rw [hfm0]; omega
      | succ i ih =>
        intro h
        by_cases hif : i < fs.length
        · obtain ⟨f, hf⟩ : ∃ f, fs[i]? = some f := ⟨_, List.getElem?_eq_getElem hif⟩
          rw [fmtL_take hf, List.length_append]
          have h1 := hfl.out f (List.mem_of_getElem? hf)
          have := fieldL_len h1.1 h1.2
          have := ih (by omega)
          omega
        · rw [List.take_of_length_le (by omega)]
          have h2 := ih (by omega)
          rw [List.take_of_length_le (by omega)] at h2
          omega
    replace hqu := hide hqu
    replace hstr := hide hstr
    replace hflen := hide hflen
    rw [← hfm0] at hB4
    clear hfm0
    go_wp2_with fail
    go_loopw [20] (fun s20 wr => ∃ i : Nat, s20 = .int .i64 i ∧ i ≤ n ∧ Hid (Bd wr w1.heap.size (fmtL at_ (fs.take i))) ∧ Hid (Ext w1 wr)) (fun s20 _ => n - (intOf s20).toNat)
    case atStart => exact ⟨0, rfl, by omega, hide hB4, hide hE14⟩
    case round =>
      obtain ⟨i, rfl, hi, hB, hE⟩ := hrel
      by_cases hin : i < n
      · have hilf : i < fs.length := by rw [← hn.out]; exact hin
        obtain ⟨f, hf⟩ : ∃ f, fs[i]? = some f := ⟨_, List.getElem?_eq_getElem hilf⟩
        obtain ⟨g, o, rfl, k0, k1⟩ := fcells_at ((hc.ext hEB).ext hE.out) hf
        have hl1 := hfl.out f (List.mem_of_getElem? hf)
        have hfmt := fmtL_take (at_ := at_) hf
        have hfll := hflen.out i (by omega)
        unfold strV at k0 k1
        have hglt : g < wr.heap.size := World.block_lt_of_cell? wr _ k0
        obtain ⟨nm, tx⟩ := f
        simp only at k0 k1 hl1
        obtain ⟨Wf, hWf⟩ : ∃ Wf, Wf = wr.alloc (.cells #[.string ⟨nm.toArray⟩, .string ⟨tx.toArray⟩] 52) := ⟨_, rfl⟩
        have hrow : Row Wf wr.heap.size 52 #[.string ⟨nm.toArray⟩, .string ⟨tx.toArray⟩] := by rw [hWf]; exact Row.new wr _ _
        have hEf : Ext wr Wf := by rw [hWf]; exact (Ext.refl wr).alloc _
        obtain ⟨q, hq⟩ : ∃ q, q = quoteL tx := ⟨_, rfl⟩
        have hql := quote_len tx
        have hqt := fun W => hqu.out tx W (by omega)
        have hcat : (ByteArray.mk #[32] ++ ⟨nm.toArray⟩ ++ ⟨#[61]⟩ ++ ⟨q.toArray⟩) = ⟨(fieldL (nm, tx)).toArray⟩ := by
          rw [show (#[32] : Array UInt8) = ([32] : List UInt8).toArray from rfl, show (#[61] : Array UInt8) = ([61] : List UInt8).toArray from rfl, cat2, cat2, cat2, hq]
          unfold fieldL
          simp
        have hfl2 := fieldL_len (f := (nm, tx)) hl1.1 hl1.2
        have hwr : ∀ W, Ext Wf.drew W → Calls Tryd.prog 25 #[.pointer (some ⟨w1.heap.size, 0, none⟩), .string (ByteArray.mk #[32] ++ ⟨nm.toArray⟩ ++ ⟨#[61]⟩ ++ ⟨q.toArray⟩)] W fun e w' => e = .returned (.tuple #[.int .i64 (fieldL (nm, tx)).length, .nilIface]) ∧ Bd w' w1.heap.size (fmtL at_ (fs.take (i + 1))) ∧ Below w1.heap.size W w' := fun W hW => by
          have h := hbw.out _ (fieldL (nm, tx)) W (hB.out.ext (hEf.drew.trans hW)) (by omega)
          rw [hcat, hfmt]
          exact h
        have hE6f : ∀ w5 w6, Ext Wf.drew w5 → Below w1.heap.size w5 w6 → Ext w1 w6 := fun w5 w6 h5 h6 => Below.trans ((hE.out.trans hEf.drew).trans h5) h6
        have hqb : q.length ≤ 20000 := by rw [hq]; omega
        obtain ⟨hl1a, hl1b⟩ := hl1
        rw [← hq] at hqt
        have kd0 : Wf.drew.cell? ⟨wr.heap.size, 0, none⟩ = some (.string ⟨nm.toArray⟩) := hrow.cell 0 rfl
        have kd1 : Wf.drew.cell? ⟨wr.heap.size, 1, none⟩ = some (.string ⟨tx.toArray⟩) := hrow.cell 1 rfl
        replace hqt := hide hqt
        replace hwr := hide hwr
        replace hE6f := hide hE6f
        replace hWf := hide hWf
        clear hf hq hql hcat hfmt hrow hEf
        go_wp2_with fail
        rw [← hWf.out]
        refine wp_region_held_drew (S := fun _ => True) (by kernel_rfl) trivial (fun hHeld => ?_)
        refine wpAnyH_take (i := 0) (v := .pointer (some ⟨wr.heap.size, 0, none⟩)) rfl (by kernel_rfl) (by kernel_rfl) (by kernel_rfl) (fun _ _ _ h => h) (Or.inl ⟨by rfl, ?_⟩) (by assumption) ?_
        · intro w' hSw
          (try dsimp only at hSw)
          go_simp
          try with_reducible rfl
          all_goals omega
        (try simp only [Act.put, List.setIfInBounds_toArray, List.set_cons_zero, List.set_cons_succ, List.getElem_toArray, List.getElem_cons_zero, List.getElem_cons_succ])
        refine wpAnyH_take (i := 4) (v := .pointer (some ⟨wr.heap.size, 1, none⟩)) rfl (by kernel_rfl) (by kernel_rfl) (by kernel_rfl) (fun _ _ _ h => h) (Or.inl ⟨by rfl, ?_⟩) (by assumption) ?_
        · intro w' hSw
          (try dsimp only at hSw)
          go_simp
          try with_reducible rfl
          all_goals omega
        (try simp only [Act.put, List.setIfInBounds_toArray, List.set_cons_zero, List.set_cons_succ, List.getElem_toArray, List.getElem_cons_zero, List.getElem_cons_succ])
        refine wpAnyH_ready (rs := [1, 5]) (by kernel_rfl) (by simp) ?_
        refine AllReadyH.cons rfl (fun K hK => ?_) ?_
        · go_simp
          refine hK.out _ _ ?_ (fun hHeld1 => ?_)
          · exact trivial
          clear hK K
          (try simp only [Act.put, List.setIfInBounds_toArray, List.set_cons_zero, List.set_cons_succ, List.getElem_toArray, List.getElem_cons_zero, List.getElem_cons_succ])
          refine wpAnyH_take (i := 2) (v := .string (⟨#[32]⟩ ++ ⟨nm.toArray⟩)) rfl (by kernel_rfl) (by kernel_rfl) (by kernel_rfl) (fun _ _ _ h => h) (Or.inl ⟨by rfl, ?_⟩) (by assumption) ?_
          · intro w' hSw
            (try dsimp only at hSw)
            go_simp
            try with_reducible rfl
            all_goals omega
          (try simp only [Act.put, List.setIfInBounds_toArray, List.set_cons_zero, List.set_cons_succ, List.getElem_toArray, List.getElem_cons_zero, List.getElem_cons_succ])
          refine wpAnyH_take (i := 3) (v := .string (⟨#[32]⟩ ++ ⟨nm.toArray⟩ ++ ⟨#[61]⟩)) rfl (by kernel_rfl) (by kernel_rfl) (by kernel_rfl) (fun _ _ _ h => h) (Or.inl ⟨by rfl, ?_⟩) (by assumption) ?_
          · intro w' hSw
            (try dsimp only at hSw)
            go_simp
            try with_reducible rfl
            all_goals omega
          (try simp only [Act.put, List.setIfInBounds_toArray, List.set_cons_zero, List.set_cons_succ, List.getElem_toArray, List.getElem_cons_zero, List.getElem_cons_succ])
          refine wpAnyH_ready (rs := [5]) (by kernel_rfl) (by simp) ?_
          refine AllReadyH.cons rfl (fun K hK => ?_) AllReadyH.nil
          go_simp
          refine hK.out _ _ ?_ (fun hHeld2 => ?_)
          · exact trivial
          clear hK K
          (try simp only [Act.put, List.setIfInBounds_toArray, List.set_cons_zero, List.set_cons_succ, List.getElem_toArray, List.getElem_cons_zero, List.getElem_cons_succ])
          refine wpAnyH_ready (rs := [6]) (by kernel_rfl) (by simp) ?_
          refine AllReadyH.cons rfl (fun K hK => ?_) AllReadyH.nil
          (first | go_at_call 15 | (go_simp; go_at_call 15)); (refine (hqt.out _).mono ?_; rintro en w5 ⟨rfl, hE5⟩)
          have k5 := hE5.cell kd0
          refine hK.out _ _ ?_ (fun hHeld3 => ?_)
          · exact trivial
          clear hK K
          (try simp only [Act.put, List.setIfInBounds_toArray, List.set_cons_zero, List.set_cons_succ, List.getElem_toArray, List.getElem_cons_zero, List.getElem_cons_succ])
          refine wpAnyH_take (i := 7) (v := .string (⟨#[32]⟩ ++ ⟨nm.toArray⟩ ++ ⟨#[61]⟩ ++ ⟨q.toArray⟩)) rfl (by kernel_rfl) (by kernel_rfl) (by kernel_rfl) (fun _ _ _ h => h) (Or.inl ⟨by rfl, ?_⟩) (by assumption) ?_
          · intro w' hSw
            (try dsimp only at hSw)
            go_simp
            try with_reducible rfl
            all_goals omega
          (try simp only [Act.put, List.setIfInBounds_toArray, List.set_cons_zero, List.set_cons_succ, List.getElem_toArray, List.getElem_cons_zero, List.getElem_cons_succ])
          refine wpAnyH_ready (rs := [8]) (by kernel_rfl) (by simp) ?_
          refine AllReadyH.cons rfl (fun K hK => ?_) AllReadyH.nil
          (first | go_at_call 25 | (go_simp; go_at_call 25)); (refine (hwr.out w5 hE5).mono ?_; rintro en w6 ⟨rfl, hB6, hE6⟩)
          refine hK.out _ _ ?_ (fun hHeld4 => ?_)
          · exact trivial
          clear hK K
          (try simp only [Act.put, List.setIfInBounds_toArray, List.set_cons_zero, List.set_cons_succ, List.getElem_toArray, List.getElem_cons_zero, List.getElem_cons_succ])
          refine wpAnyH_done (by kernel_rfl) ?_ _
          have hE7 := hide (hE6f.out w5 w6 hE5 hE6)
          replace hB6 := hide hB6
          go_wp2_with fail
          go_roundw
          case rel => exact ⟨i + 1, by go_num, by omega, hB6, hE7⟩
          case measure => simp [intOf]; omega
        refine AllReadyH.cons rfl (fun K hK => ?_) ?_
        · go_simp
          refine hK.out _ _ ?_ (fun hHeld5 => ?_)
          · exact trivial
          clear hK K
          (try simp only [Act.put, List.setIfInBounds_toArray, List.set_cons_zero, List.set_cons_succ, List.getElem_toArray, List.getElem_cons_zero, List.getElem_cons_succ])
          refine wpAnyH_ready (rs := [1, 6]) (by kernel_rfl) (by simp) ?_
          refine AllReadyH.cons rfl (fun K hK => ?_) ?_
          · go_simp
            refine hK.out _ _ ?_ (fun hHeld6 => ?_)
            · exact trivial
            clear hK K
            (try simp only [Act.put, List.setIfInBounds_toArray, List.set_cons_zero, List.set_cons_succ, List.getElem_toArray, List.getElem_cons_zero, List.getElem_cons_succ])
            refine wpAnyH_take (i := 2) (v := .string (⟨#[32]⟩ ++ ⟨nm.toArray⟩)) rfl (by kernel_rfl) (by kernel_rfl) (by kernel_rfl) (fun _ _ _ h => h) (Or.inl ⟨by rfl, ?_⟩) (by assumption) ?_
            · intro w' hSw
              (try dsimp only at hSw)
              go_simp
              try with_reducible rfl
              all_goals omega
            (try simp only [Act.put, List.setIfInBounds_toArray, List.set_cons_zero, List.set_cons_succ, List.getElem_toArray, List.getElem_cons_zero, List.getElem_cons_succ])
            refine wpAnyH_take (i := 3) (v := .string (⟨#[32]⟩ ++ ⟨nm.toArray⟩ ++ ⟨#[61]⟩)) rfl (by kernel_rfl) (by kernel_rfl) (by kernel_rfl) (fun _ _ _ h => h) (Or.inl ⟨by rfl, ?_⟩) (by assumption) ?_
            · intro w' hSw
              (try dsimp only at hSw)
              go_simp
              try with_reducible rfl
              all_goals omega
            (try simp only [Act.put, List.setIfInBounds_toArray, List.set_cons_zero, List.set_cons_succ, List.getElem_toArray, List.getElem_cons_zero, List.getElem_cons_succ])
            refine wpAnyH_ready (rs := [6]) (by kernel_rfl) (by simp) ?_
            refine AllReadyH.cons rfl (fun K hK => ?_) AllReadyH.nil
            (first | go_at_call 15 | (go_simp; go_at_call 15)); (refine (hqt.out _).mono ?_; rintro en w5 ⟨rfl, hE5⟩)
            have k5 := hE5.cell kd0
            refine hK.out _ _ ?_ (fun hHeld7 => ?_)
            · exact trivial
            clear hK K
            (try simp only [Act.put, List.setIfInBounds_toArray, List.set_cons_zero, List.set_cons_succ, List.getElem_toArray, List.getElem_cons_zero, List.getElem_cons_succ])
            refine wpAnyH_take (i := 7) (v := .string (⟨#[32]⟩ ++ ⟨nm.toArray⟩ ++ ⟨#[61]⟩ ++ ⟨q.toArray⟩)) rfl (by kernel_rfl) (by kernel_rfl) (by kernel_rfl) (fun _ _ _ h => h) (Or.inl ⟨by rfl, ?_⟩) (by assumption) ?_
            · intro w' hSw
              (try dsimp only at hSw)
              go_simp
              try with_reducible rfl
              all_goals omega
            (try simp only [Act.put, List.setIfInBounds_toArray, List.set_cons_zero, List.set_cons_succ, List.getElem_toArray, List.getElem_cons_zero, List.getElem_cons_succ])
            refine wpAnyH_ready (rs := [8]) (by kernel_rfl) (by simp) ?_
            refine AllReadyH.cons rfl (fun K hK => ?_) AllReadyH.nil
            (first | go_at_call 25 | (go_simp; go_at_call 25)); (refine (hwr.out w5 hE5).mono ?_; rintro en w6 ⟨rfl, hB6, hE6⟩)
            refine hK.out _ _ ?_ (fun hHeld8 => ?_)
            · exact trivial
            clear hK K
            (try simp only [Act.put, List.setIfInBounds_toArray, List.set_cons_zero, List.set_cons_succ, List.getElem_toArray, List.getElem_cons_zero, List.getElem_cons_succ])
            refine wpAnyH_done (by kernel_rfl) ?_ _
            have hE7 := hide (hE6f.out w5 w6 hE5 hE6)
            replace hB6 := hide hB6
            go_wp2_with fail
            go_roundw
            case rel => exact ⟨i + 1, by go_num, by omega, hB6, hE7⟩
            case measure => simp [intOf]; omega
          refine AllReadyH.cons rfl (fun K hK => ?_) ?_
          · (first | go_at_call 15 | (go_simp; go_at_call 15)); (refine (hqt.out _).mono ?_; rintro en w5 ⟨rfl, hE5⟩)
            have k5 := hE5.cell kd0
            refine hK.out _ _ ?_ (fun hHeld9 => ?_)
            · exact trivial
            clear hK K
            (try simp only [Act.put, List.setIfInBounds_toArray, List.set_cons_zero, List.set_cons_succ, List.getElem_toArray, List.getElem_cons_zero, List.getElem_cons_succ])
            refine wpAnyH_ready (rs := [1]) (by kernel_rfl) (by simp) ?_
            refine AllReadyH.cons rfl (fun K hK => ?_) AllReadyH.nil
            go_simp
            refine hK.out _ _ ?_ (fun hHeld10 => ?_)
            · exact trivial
            clear hK K
            (try simp only [Act.put, List.setIfInBounds_toArray, List.set_cons_zero, List.set_cons_succ, List.getElem_toArray, List.getElem_cons_zero, List.getElem_cons_succ])
            refine wpAnyH_take (i := 2) (v := .string (⟨#[32]⟩ ++ ⟨nm.toArray⟩)) rfl (by kernel_rfl) (by kernel_rfl) (by kernel_rfl) (fun _ _ _ h => h) (Or.inl ⟨by rfl, ?_⟩) (by assumption) ?_
            · intro w' hSw
              (try dsimp only at hSw)
              go_simp
              try with_reducible rfl
              all_goals omega
            (try simp only [Act.put, List.setIfInBounds_toArray, List.set_cons_zero, List.set_cons_succ, List.getElem_toArray, List.getElem_cons_zero, List.getElem_cons_succ])
            refine wpAnyH_take (i := 3) (v := .string (⟨#[32]⟩ ++ ⟨nm.toArray⟩ ++ ⟨#[61]⟩)) rfl (by kernel_rfl) (by kernel_rfl) (by kernel_rfl) (fun _ _ _ h => h) (Or.inl ⟨by rfl, ?_⟩) (by assumption) ?_
            · intro w' hSw
              (try dsimp only at hSw)
              go_simp
              try with_reducible rfl
              all_goals omega
            (try simp only [Act.put, List.setIfInBounds_toArray, List.set_cons_zero, List.set_cons_succ, List.getElem_toArray, List.getElem_cons_zero, List.getElem_cons_succ])
            refine wpAnyH_take (i := 7) (v := .string (⟨#[32]⟩ ++ ⟨nm.toArray⟩ ++ ⟨#[61]⟩ ++ ⟨q.toArray⟩)) rfl (by kernel_rfl) (by kernel_rfl) (by kernel_rfl) (fun _ _ _ h => h) (Or.inl ⟨by rfl, ?_⟩) (by assumption) ?_
            · intro w' hSw
              (try dsimp only at hSw)
              go_simp
              try with_reducible rfl
              all_goals omega
            (try simp only [Act.put, List.setIfInBounds_toArray, List.set_cons_zero, List.set_cons_succ, List.getElem_toArray, List.getElem_cons_zero, List.getElem_cons_succ])
            refine wpAnyH_ready (rs := [8]) (by kernel_rfl) (by simp) ?_
            refine AllReadyH.cons rfl (fun K hK => ?_) AllReadyH.nil
            (first | go_at_call 25 | (go_simp; go_at_call 25)); (refine (hwr.out w5 hE5).mono ?_; rintro en w6 ⟨rfl, hB6, hE6⟩)
            refine hK.out _ _ ?_ (fun hHeld11 => ?_)
            · exact trivial
            clear hK K
            (try simp only [Act.put, List.setIfInBounds_toArray, List.set_cons_zero, List.set_cons_succ, List.getElem_toArray, List.getElem_cons_zero, List.getElem_cons_succ])
            refine wpAnyH_done (by kernel_rfl) ?_ _
            have hE7 := hide (hE6f.out w5 w6 hE5 hE6)
            replace hB6 := hide hB6
            go_wp2_with fail
            go_roundw
            case rel => exact ⟨i + 1, by go_num, by omega, hB6, hE7⟩
            case measure => simp [intOf]; omega
          exact AllReadyH.nil
        exact AllReadyH.nil
      · have hall : fs.take i = fs := List.take_of_length_le (by rw [← hn.out]; omega)
        have hs1 := hide (hstr.out _ wr hB.out)
        rw [hall] at hs1
        go_wp2_with fail
        refine hs1.out.mono ?_
        rintro en w7 ⟨rfl, hE7⟩
        go_wp2_with fail
        go_ret2
        exact ⟨rfl, hEB.trans (Below.trans hE.out hE7)⟩
end Go.Proofs.YtpajpdkliohepaaDoor
