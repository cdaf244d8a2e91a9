/- loggiaref10: Encode. -/
import Derived.Test.YtohphanbnhiodaaGreatM07
import Derived.Test.YtohphanbnhiodaaGreatM05
import Derived.Test.YtohphanbnhiodaaGreatM06
import Derived.Test.YtohphanbnhiodaaGreatM03
import Derived.Test.YtohphanbnhiodaaGreatM04
set_option linter.unusedSimpArgs false
set_option linter.unusedVariables false
namespace Go.Proofs.YtohphanbnhiodaaGreat
open Go.RowKit

set_option maxRecDepth 100000 in
set_option maxHeartbeats 4000000 in
theorem rencode_any (bc : BtC) (w : World) (h : bc.Ok w) (ha : ∀ x ∈ bc.l, I64ok' x.e.at_) : Calls Tryz.prog 39 #[bc.val] w fun en w' => EncP w bc.bt en w' := by
  have hck0 := fun W (hE : Ext w W) => rckbatch_any bc W (h.ext hE)
  unfold EncP
  obtain ⟨seq, l, A, c⟩ := bc
  obtain ⟨hev, hmany, hsq⟩ := h
  unfold BtC.val BtC.bt at *
  simp only at hev hmany hsq ha hck0 ⊢
  obtain ⟨Z, hZ⟩ : ∃ Z, Z = checkB ⟨seq, l.map (·.e)⟩ := ⟨_, rfl⟩
  have hB := @checkB_ok ⟨seq, l.map (·.e)⟩
  simp only [List.length_map] at hB
  rw [← hZ] at hck0 hB ⊢
  obtain ⟨L, hL⟩ : ∃ L, L = l.map (·.e) := ⟨_, rfl⟩
  have haL : ∀ e ∈ L, I64ok' e.at_ := fun e he => by rw [hL] at he; obtain ⟨x, hx, rfl⟩ := List.mem_map.1 he; exact ha x hx
  have hLn : L.length = l.length := by rw [hL, List.length_map]
  rw [← hL] at hB ⊢
  obtain ⟨n, hn⟩ : ∃ n, n = l.length := ⟨_, rfl⟩
  rw [← hn] at hmany hck0 hB hLn ⊢
  obtain ⟨W, hW⟩ : ∃ W, W = w.alloc (.cells #[.int .i64 seq, .slice A n c] 80) := ⟨_, rfl⟩
  have hEW : Ext w W := by rw [hW]; exact (Ext.refl w).alloc _
  obtain ⟨b, hb⟩ : ∃ b, b = w.heap.size := ⟨_, rfl⟩
  have hr : Row W b 80 #[.int .i64 seq, .slice A n c] := by rw [hW, hb]; exact Row.new w _ _
  have y0 : W.cell? ⟨b, 0, none⟩ = some (.int .i64 seq) := hr.cell 0 rfl
  have y1 : W.cell? ⟨b, 1, none⟩ = some (.slice A n c) := hr.cell 1 rfl
  have hck := hide (hck0 W hEW)
  replace hn := hide hn
  replace hL := hide hL
  replace hW := hide hW
  replace hb := hide hb
  replace hZ := hide hZ
  clear hck0
  by_cases hz0 : Z = 0
  case neg =>
    have hz0' : ¬ (Z : Int) = 0 := by omega
    clear hB
    go_enter Tryz.func39, Tryz.ntmps39
    go_wp2_with fail
    rw [← hW.out]
    refine hck.out.mono ?_
    rintro en w1 ⟨rfl, hE1⟩
    go_wp2_with fail
    go_ret2
    exact ⟨hEW.trans hE1, .inr ⟨hz0, rfl⟩⟩
  case pos =>
    subst hz0
    obtain ⟨hn1, hn64, hckL, _, hs1, hs2⟩ := hB rfl
    have hall : ∀ e ∈ L, I64ok' e.at_ ∧ checkE e.fs = 0 := fun e he => ⟨haL e he, hckL e he⟩
    obtain ⟨q, hq⟩ : ∃ q, q = seq.toNat := ⟨_, rfl⟩
    have hqs : (q : Int) = seq := by omega
    have hwq : IntKind.u64.wrap seq = (q : Int) := by rw [← hqs]; exact wrap_u64 (by omega)
    have hwn := wrap_u64 (m := n) (by omega)
    have hql := vb_le10 (n := q) (by omega)
    have hnl := vb_le10 (n := n) (by omega)
    obtain ⟨L1, hL1⟩ : ∃ L1, L1 = vb q := ⟨_, rfl⟩
    obtain ⟨L2, hL2⟩ : ∃ L2, L2 = vb n := ⟨_, rfl⟩
    have hl1 : L1.length ≤ 10 := by rw [hL1]; exact hql
    have hl2 : L2.length ≤ 10 := by rw [hL2]; exact hnl
    have henc : Hid (encB ⟨seq, L⟩ = (L1 ++ L2) ++ putEs L) := hide (by unfold encB; simp only; rw [hLn, ← hq, hL2, hL1])
    have htl := putEs_take_len hall
    rw [hLn] at htl
    have hp1 : ∀ x, (x.cell? ⟨b, 0, none⟩ = some (.int .i64 seq) ∧ x.cell? ⟨b, 1, none⟩ = some (.slice A n c) ∧ Ext W x) → Calls Tryz.prog 75 #[.int .u64 (q : Int)] x fun e y => ∃ A1 c1, e = .returned (.slice A1 L1.length c1) ∧ Own8 y W.heap.size A1 L1.length c1 L1 ∧ (y.cell? ⟨b, 0, none⟩ = some (.int .i64 seq) ∧ y.cell? ⟨b, 1, none⟩ = some (.slice A n c) ∧ Ext W y) := fun x ⟨h0, h1, hE⟩ =>
      (rbytes q x (by omega)).mono fun e y hy => by
        obtain ⟨A1, c1, he, hb1, hEy⟩ := NewB.own hy hE.size
        rw [← hL1] at he hb1
        exact ⟨A1, c1, he, hb1, hEy.cell h0, hEy.cell h1, hE.trans hEy⟩
    have hp2 : ∀ x A1 c1, Own8 x W.heap.size A1 L1.length c1 L1 → (x.cell? ⟨b, 0, none⟩ = some (.int .i64 seq) ∧ x.cell? ⟨b, 1, none⟩ = some (.slice A n c) ∧ Ext W x) → Calls Tryz.prog 75 #[.int .u64 (n : Int)] x fun e y => ∃ A2 c2, e = .returned (.slice A2 L2.length c2) ∧ Own8 y W.heap.size A1 L1.length c1 L1 ∧ Own8 y W.heap.size A2 L2.length c2 L2 ∧ (y.cell? ⟨b, 0, none⟩ = some (.int .i64 seq) ∧ y.cell? ⟨b, 1, none⟩ = some (.slice A n c) ∧ Ext W y) := fun x A1 c1 hb1 ⟨h0, h1, hE⟩ =>
      (rbytes n x (by omega)).mono fun e y hy => by
        obtain ⟨A2, c2, he, hb2, hEy⟩ := NewB.own hy hE.size
        rw [← hL2] at he hb2
        exact ⟨A2, c2, he, ⟨rfl, hb1.2.ext hEy⟩, hb2, hEy.cell h0, hEy.cell h1, hE.trans hEy⟩
    have hS : ∀ x, Ext W x → x.drew.cell? ⟨b, 0, none⟩ = some (.int .i64 seq) ∧ x.drew.cell? ⟨b, 1, none⟩ = some (.slice A n c) ∧ Ext W x.drew := fun x hE => ⟨hE.drew.cell y0, hE.drew.cell y1, hE.drew⟩
    replace hp1 := hide hp1
    replace hp2 := hide hp2
    replace hS := hide hS
    replace hall := hide hall
    replace htl := hide htl
    replace hLn := hide hLn
    replace hqs := hide hqs
    clear hL1 hL2 hql hnl hckL haL hB hq
    go_enter Tryz.func39, Tryz.ntmps39
    go_wp2_with fail
    rw [← hW.out, ← hb.out]
    refine hck.out.mono ?_
    rintro en w1 ⟨rfl, hE1⟩
    have hS0 := hide (show w1.cell? ⟨b, 0, none⟩ = some (.int .i64 seq) ∧ w1.cell? ⟨b, 1, none⟩ = some (.slice A n c) ∧ Ext W w1 from ⟨hE1.cell y0, hE1.cell y1, hE1⟩)
    have hS1 := hide (hS.out w1 hE1)
    go_wp2_with fail
    refine wp_region_held_drew (S := fun x => x.cell? ⟨b, 0, none⟩ = some (.int .i64 seq) ∧ x.cell? ⟨b, 1, none⟩ = some (.slice A n c) ∧ Ext W x) (by kernel_rfl) hS1.out (fun hHeld => ?_)
    refine wpAnyH_take (i := 0) (v := .pointer (some ⟨b, 0, none⟩)) rfl (by kernel_rfl) (by kernel_rfl) (by kernel_rfl) (fun _ _ _ h => h) (Or.inl ⟨by rfl, ?_⟩) (by assumption) ?_
    · intro w' hSw
      (try dsimp only at hSw)
      obtain ⟨z1, z2, z3⟩ := hSw
      go_simp
      try with_reducible rfl
      all_goals omega
    (try simp only [Act.put, List.setIfInBounds_toArray, List.set_cons_zero, List.set_cons_succ, List.getElem_toArray, List.getElem_cons_zero, List.getElem_cons_succ])
    refine wpAnyH_take (i := 1) (v := .int .i64 seq) rfl (by kernel_rfl) (by kernel_rfl) (by kernel_rfl) (fun _ _ _ h => h) (Or.inl ⟨by rfl, ?_⟩) (by assumption) ?_
    · intro w' hSw
      (try dsimp only at hSw)
      obtain ⟨z1, z2, z3⟩ := hSw
      go_simp
      try with_reducible rfl
      all_goals omega
    (try simp only [Act.put, List.setIfInBounds_toArray, List.set_cons_zero, List.set_cons_succ, List.getElem_toArray, List.getElem_cons_zero, List.getElem_cons_succ])
    refine wpAnyH_take (i := 2) (v := .int .u64 (q : Int)) rfl (by kernel_rfl) (by kernel_rfl) (by kernel_rfl) (fun _ _ _ h => h) (Or.inl ⟨by rfl, ?_⟩) (by assumption) ?_
    · intro w' hSw
      (try dsimp only at hSw)
      obtain ⟨z1, z2, z3⟩ := hSw
      go_simp
      try with_reducible rfl
      all_goals omega
    (try simp only [Act.put, List.setIfInBounds_toArray, List.set_cons_zero, List.set_cons_succ, List.getElem_toArray, List.getElem_cons_zero, List.getElem_cons_succ])
    refine wpAnyH_take (i := 4) (v := .pointer (some ⟨b, 1, none⟩)) rfl (by kernel_rfl) (by kernel_rfl) (by kernel_rfl) (fun _ _ _ h => h) (Or.inl ⟨by rfl, ?_⟩) (by assumption) ?_
    · intro w' hSw
      (try dsimp only at hSw)
      obtain ⟨z1, z2, z3⟩ := hSw
      go_simp
      try with_reducible rfl
      all_goals omega
    (try simp only [Act.put, List.setIfInBounds_toArray, List.set_cons_zero, List.set_cons_succ, List.getElem_toArray, List.getElem_cons_zero, List.getElem_cons_succ])
    refine wpAnyH_take (i := 5) (v := .slice A n c) rfl (by kernel_rfl) (by kernel_rfl) (by kernel_rfl) (fun _ _ _ h => h) (Or.inl ⟨by rfl, ?_⟩) (by assumption) ?_
    · intro w' hSw
      (try dsimp only at hSw)
      obtain ⟨z1, z2, z3⟩ := hSw
      go_simp
      try with_reducible rfl
      all_goals omega
    (try simp only [Act.put, List.setIfInBounds_toArray, List.set_cons_zero, List.set_cons_succ, List.getElem_toArray, List.getElem_cons_zero, List.getElem_cons_succ])
    refine wpAnyH_take (i := 6) (v := .int .i64 (n : Int)) rfl (by kernel_rfl) (by kernel_rfl) (by kernel_rfl) (fun _ _ _ h => h) (Or.inl ⟨by rfl, ?_⟩) (by assumption) ?_
    · intro w' hSw
      (try dsimp only at hSw)
      obtain ⟨z1, z2, z3⟩ := hSw
      go_simp
      try with_reducible rfl
      all_goals omega
    (try simp only [Act.put, List.setIfInBounds_toArray, List.set_cons_zero, List.set_cons_succ, List.getElem_toArray, List.getElem_cons_zero, List.getElem_cons_succ])
    refine wpAnyH_take (i := 7) (v := .int .u64 (n : Int)) rfl (by kernel_rfl) (by kernel_rfl) (by kernel_rfl) (fun _ _ _ h => h) (Or.inl ⟨by rfl, ?_⟩) (by assumption) ?_
    · intro w' hSw
      (try dsimp only at hSw)
      obtain ⟨z1, z2, z3⟩ := hSw
      go_simp
      try with_reducible rfl
      all_goals omega
    (try simp only [Act.put, List.setIfInBounds_toArray, List.set_cons_zero, List.set_cons_succ, List.getElem_toArray, List.getElem_cons_zero, List.getElem_cons_succ])
    refine wpAnyH_ready (rs := [3]) (by kernel_rfl) (by simp) ?_
    refine AllReadyH.cons rfl (fun K hK => ?_) AllReadyH.nil
    (first | go_at_call 75 | (go_simp; go_at_call 75)); (refine (hp1.out _ ‹_›).mono ?_; rintro en w2 ⟨A2, c2, rfl, hb2, hSc⟩)
    refine hK.out _ _ ?_ (fun hHeld1 => ?_)
    · exact hSc
    clear hK K
    (try simp only [Act.put, List.setIfInBounds_toArray, List.set_cons_zero, List.set_cons_succ, List.getElem_toArray, List.getElem_cons_zero, List.getElem_cons_succ])
    refine wpAnyH_ready (rs := [8]) (by kernel_rfl) (by simp) ?_
    refine AllReadyH.cons rfl (fun K hK => ?_) AllReadyH.nil
    (first | go_at_call 75 | (go_simp; go_at_call 75)); (refine (hp2.out _ _ _ hb2 hSc).mono ?_; rintro en w3 ⟨A3, c3, rfl, hb2, hb3, hSc2⟩)
    refine hK.out _ _ ?_ (fun hHeld2 => ?_)
    · exact hSc2
    clear hK K
    (try simp only [Act.put, List.setIfInBounds_toArray, List.set_cons_zero, List.set_cons_succ, List.getElem_toArray, List.getElem_cons_zero, List.getElem_cons_succ])
    refine wpAnyH_ready (rs := [9]) (by kernel_rfl) (by simp) ?_
    refine AllReadyH.cons rfl (fun K hK => ?_) AllReadyH.nil
    first | (refine step_buf elemB rfl hb2.2 hb3.2.cells (.tmp 15) (.tmp 20) rfl rfl rfl (by rw [List.length_map]) (bytes_one _) (by omega) (Ext.size hSc2.2.2) (fun A4 c4 w4 hb4 hg4 => ?_)) | (go_simp; refine step_buf elemB rfl hb2.2 hb3.2.cells (.tmp 15) (.tmp 20) rfl rfl rfl (by rw [List.length_map]) (bytes_one _) (by omega) (Ext.size hSc2.2.2) (fun A4 c4 w4 hb4 hg4 => ?_))
    have hE4 := Ext.grown hSc2.2.2 hg4 (fun k hk => hb2.2.own_le hk)
    have hS4 := And.intro (hE4.cell y0) (And.intro (hE4.cell y1) hE4)
    refine hK.out _ _ ?_ (fun hHeld3 => ?_)
    · exact hS4
    clear hK K
    (try simp only [Act.put, List.setIfInBounds_toArray, List.set_cons_zero, List.set_cons_succ, List.getElem_toArray, List.getElem_cons_zero, List.getElem_cons_succ])
    refine wpAnyH_take (i := 10) (v := .slice A4 (L1.length + L2.length) c4) rfl (by kernel_rfl) (by kernel_rfl) (by kernel_rfl) (fun _ _ _ h => h) (Or.inl ⟨by rfl, ?_⟩) (by assumption) ?_
    · intro w' hSw
      (try dsimp only at hSw)
      obtain ⟨z1, z2, z3⟩ := hSw
      go_simp
      try with_reducible rfl
      all_goals omega
    (try simp only [Act.put, List.setIfInBounds_toArray, List.set_cons_zero, List.set_cons_succ, List.getElem_toArray, List.getElem_cons_zero, List.getElem_cons_succ])
    refine wpAnyH_done (by kernel_rfl) ?_ _
    have hEW4 := hide hS4.2.2
    obtain ⟨LL, hLL⟩ : ∃ LL, LL = L1 ++ L2 := ⟨_, rfl⟩
    obtain ⟨k4, hk4⟩ : ∃ k4, k4 = L1.length + L2.length := ⟨_, rfl⟩
    have hb5 : Own8 w4 W.heap.size A4 k4 c4 LL := ⟨by rw [hLL, hk4, List.length_append], by rw [hLL, hk4, List.map_append]; exact hb4⟩
    have hk20 : k4 ≤ 20 := by omega
    have hlln : LL.length = k4 := hb5.1.symm
    rw [← hk4]
    replace hb5 := hide hb5
    rw [← hLL] at henc
    replace hLL := hide hLL
    replace hk4 := hide hk4
    replace hlln := hide hlln
    have hr2 := hide hr
    clear hSc hSc2 hb2 hb3 hb4 hg4 hE4 hS4 hp1 hp2 hS0 hS1 hS hHeld hHeld1 hHeld2 hHeld3 hr
    go_wp2_with fail
    go_loopw [5, 6] (fun s5 s6 wr => ∃ (i n4 c4 : Nat) (A4 : Option Addr) (K : List UInt8), s5 = .slice A4 n4 c4 ∧ s6 = .int .i64 (i : Int) ∧ i ≤ n ∧ n4 ≤ 10000000 ∧ Hid (K = LL ++ putEs (L.take i)) ∧ Hid (Own8 wr W.heap.size A4 n4 c4 K) ∧ Hid (Ext W wr)) (fun _ s6 _ => n - (intOf s6).toNat)
    case atStart => exact ⟨0, k4, c4, A4, LL, rfl, rfl, by omega, by omega, hide (by simp [putEs]), hb5, hEW4⟩
    case round =>
      clear hb5 hEW4
      obtain ⟨i, n4, c4, A4, K, rfl, rfl, hi, hn4, hK, hb4, hE⟩ := hrel
      have z1 := (hr2.out.ext hE.out).cell 1 rfl
      by_cases hin : i < n
      · obtain ⟨x, hx⟩ : ∃ x, l[i]? = some x := ⟨_, List.getElem?_eq_getElem (by rw [← hn.out]; exact hin)⟩
        have hxe : L[i]? = some x.e := by rw [hL.out, List.getElem?_map, hx]; rfl
        have hE0 := hEW.trans hE.out
        have hxo := (hev.each x (List.mem_of_getElem? hx)).ext hE0
        have hxa := hall.out x.e (List.mem_of_getElem? hxe)
        obtain ⟨g, o, hA, k0, k1⟩ := ecells_at (hev.cells.ext hE0) hx
        have htk := putEs_take hxe
        obtain ⟨y, B, d⟩ := x
        simp only at hxe hxo hxa k0 k1 htk
        subst hA
        obtain ⟨Wf, hWf⟩ : ∃ Wf, Wf = wr.alloc (.cells #[.int .i64 y.at_, .slice B y.fs.length d] 89) := ⟨_, rfl⟩
        have hEf : Ext wr Wf := by rw [hWf]; exact (Ext.refl wr).alloc _
        have hpt := fun w0 (h0 : Ext wr w0) => rputE_any y B d w0 (hxo.ext h0) hxa.2 hxa.1
        have hpl := putE_len hxa.1 hxa.2
        have hsE := sizeE_le hxa.2
        obtain ⟨V, hV⟩ : ∃ V, V = putE y := ⟨_, rfl⟩
        rw [← hV] at hpt hpl htk
        obtain ⟨K6, hK6⟩ : ∃ K6, K6 = K ++ V := ⟨_, rfl⟩
        have hK62 : Hid (K6 = LL ++ putEs (L.take (i + 1))) := hide (by rw [hK6, hK.out, htk, List.append_assoc])
        have hKl : n4 = K.length := hb4.out.1
        have hk6 : n4 + V.length ≤ 10000000 := by
          have h1 : K6.length = n4 + V.length := by rw [hK6, List.length_append, hKl]
          rw [← h1, hK62.out, List.length_append, hlln.out]
          have := htl.out (i + 1)
          omega
        unfold Ev.val at hpt
        have hb4' := hb4.out.2
        have hsz4 := hE.out.size
        replace hpt := hide hpt
        replace hKl := hide hKl
        replace hV := hide hV
        replace hK6 := hide hK6
        clear hx hxe htk hE0 hWf hEf Wf hsE hpl
        go_wp2_with fail
        refine (hpt.out wr (Ext.refl wr)).mono ?_
        rintro en w6 ⟨B6, d6, rfl, hc6, hE6⟩
        have hbx := hb4'.ext hE6
        have hEx := hE.out.trans hE6
        have hsx := hEx.size
        go_wp2_with (at_builtin; refine wpList_buf elemB hbx hc6.cells (.tmp 29) (.tmp 35) rfl rfl rfl rfl rfl (by rw [List.length_map]) (bytes_one _) (by omega) hsx (fun A8 c8 w8 hb8 hg8 hE8 _ => ?_); have hW8 := hide (hE8 W hEx (Nat.le_refl _)); replace hb8 := hide hb8; clear hE8 hg8)
        exact ⟨⟨i + 1, n4 + V.length, c8, A8, K6, rfl, by go_num, by omega, by omega, hK62, hide ⟨by rw [hK6.out, List.length_append, ← hKl.out], by rw [hK6.out, List.map_append]; exact hb8.out⟩, hW8⟩, by simp [intOf]; omega⟩
      · have hall2 : L.take i = L := List.take_of_length_le (by rw [hLn.out]; omega)
        have hKe : K = encB ⟨seq, L⟩ := by rw [hK.out, hall2, henc.out]
        obtain ⟨hbl, hbb⟩ := hb4.out
        subst hbl
        have hbb := hbb.lower hEW.size
        rw [hKe] at hbb
        have hEfin := hide (hEW.trans hE.out)
        have hfin : ∃ A c, Ending.returned (.tuple #[.slice A4 K.length c4, .int .i64 0]) = .returned (.tuple #[.slice A (encB ⟨seq, L⟩).length c, .int .i64 0]) ∧ Buf wr w.heap.size 5 A (encB ⟨seq, L⟩).length c ((encB ⟨seq, L⟩).map B8) := ⟨A4, c4, by rw [hKe], hbb⟩
        replace hfin := hide hfin
        clear hbb hKe
        go_wp2_with fail
        go_ret2
        exact ⟨hEfin.out, .inl ⟨trivial, hfin.out⟩⟩
end Go.Proofs.YtohphanbnhiodaaGreat

/- loggiaref04: Bytes. -/
namespace Go.Proofs.YtohphanbnhiodaaGreat
open Go.RowKit

set_option maxRecDepth 100000 in
set_option maxHeartbeats 4000000 in
theorem rframe_any (B : Option Addr) (m d : Nat) (p : List UInt8) (w : World) (hp : In8 w B m d p) (hm : m ≤ 16777216) :
    Calls Tryz.prog 40 #[.slice B m d] w fun e w' => NewB w (frameL p) e w' := by
  have hby := hide (rbytes m w (by omega))
  have hml := hp.len
  have h10 := vb_len10 (n := m) (by omega)
  have hwm := wrap_u64' (m := m) (by omega)
  obtain ⟨V, hV⟩ : ∃ V, V = vb m := ⟨_, rfl⟩
  rw [← hV] at hby h10
  have hfr : frameL p = V ++ be4 (cnext 0 (V ++ p)) ++ p := by unfold frameL; rw [← hml, ← hV]
  have hlt := cnext_lt 0 (V ++ p)
  have hof := fun A n c (w0 w : World) (h : In8 w0 A n c (V ++ p)) hw hle => of_any A n c (V ++ p) w0 w h hw hle
  obtain ⟨s, hs⟩ : ∃ s, s = cnext 0 (V ++ p) := ⟨_, rfl⟩
  rw [← hs] at hfr hlt hof
  rw [hfr]
  have hb4 := be4_B8 hlt
  have hbl : (be4 s).length = 4 := rfl
  obtain ⟨F4, hF4⟩ : ∃ F4, F4 = be4 s := ⟨_, rfl⟩
  rw [← hF4] at hb4 hbl ⊢
  replace hml := hide hml
  replace hV := hide hV
  replace hof := hide hof
  replace hF4 := hide hF4
  replace hb4 := hide hb4
  replace hbl := hide hbl
  clear hs hfr
  go_enter Tryz.func40, Tryz.ntmps40
  go_wp2_with fail
  refine hby.out.mono ?_
  rintro e w1 ⟨A1, c1, rfl, hb1, hE1⟩
  obtain ⟨w2, hw2⟩ : ∃ w2, w2 = w1.alloc (.cells #[] 5) := ⟨_, rfl⟩
  have hE2 : Ext w1 w2 := by rw [hw2]; exact (Ext.refl w1).alloc _
  have hb0 : Buf w2 w1.heap.size 5 (some ⟨w1.heap.size, 0, none⟩) 0 0 [] := by rw [hw2]; exact buf_new w1 [] 5 (by simp)
  have hs2 : w1.heap.size ≤ w2.heap.size := hE2.size
  have hv2 := (hb1.ext hE2).cells
  have hp1 := hp.ext hE1
  have hw2' := hide hw2
  clear hw2
  go_wp2_with (first | (at_builtin; rw [← hw2'.out]; refine wpList_buf elemB hb0 hv2 (.tmp 9) (.tmp 10) rfl rfl rfl rfl rfl (by rw [List.length_map]) (bytes_one _) (by omega) hs2 (fun A3 c3 w3 hb3 hg3 hE3 _ => ?_); rw [Nat.zero_add, List.nil_append] at hb3; have hX3 := hE3 w1 hE2 (Nat.le_refl _); have hs3 := hX3.size; have hp3 := (hp1.ext hX3).bytes; clear hE3) | (at_builtin; refine wpList_buf elemB hb3 hp3 (.tmp 11) (.tmp 12) rfl rfl rfl rfl rfl (by rw [List.length_map]; exact hml.out.symm) (bytes_one _) (by omega) hs3 (fun A4 c4 w4 hb4' hg4 hE4 _ => ?_); have hX4 := hE4 w1 hX3 (Nat.le_refl _); clear hE4))
  have hin4 : In8 w4 A4 (V.length + m) c4 (V ++ p) := by
    refine Buf.in8 (base := w1.heap.size) (e := 5) ?_
    rw [List.map_append]
    simpa using hb4'
  refine (hof.out A4 (V.length + m) c4 w4 w4 hin4 (Ext.refl _) (by omega)).mono ?_
  rintro e w5 ⟨rfl, rfl⟩
  have hb5 := hb1.ext hX4
  have hE5 := hE1.trans hX4
  have hs5 := hE5.size
  clear hb3 hg3 hg4 hX3 hs3 hp3 hin4 hb0 hv2 hs2
  go_wp2_with (first | (at_builtin; refine wpList_bufN (us := [.int .u8 ((s : Int) / 16777216), .int .u8 ((s : Int) / 65536 % 256), .int .u8 ((s : Int) / 256 % 256), .int .u8 ((s : Int) % 256)]) elemB hb5 (.tmp 15) (.tmp 27) rfl rfl rfl rfl (by simp [Value.oneCell']) (by simp; omega) hs5 (fun A6 c6 w6 hb6 hE6 => ?_); have hX6 := hE6 w hE5 (Nat.le_refl _); have hs6 := hX6.size; have hp6 := (hp.ext hX6).bytes; clear hE6) | (at_builtin; refine wpList_buf elemB hb6 hp6 (.tmp 29) (.tmp 30) rfl rfl rfl rfl rfl (by rw [List.length_map]; exact hml.out.symm) (bytes_one _) (by simp; omega) hs6 (fun A7 c7 w7 hb7 hg7 hE7 _ => ?_); have hX7 := hE7 w hX6 (Nat.le_refl _); clear hE7))
  go_ret
  rw [hb4.out] at hb7
  refine ⟨A7, c7, ret_slice (by have := hbl.out; have := hml.out; simp; omega), ?_, hX7⟩
  have e : (V ++ F4 ++ p).length = V.length + 4 + m := by rw [List.length_append, List.length_append, hbl.out, ← hml.out]
  rw [e, List.map_append, List.map_append]
  rw [List.length_map, hbl.out] at hb7
  exact hb7
end Go.Proofs.YtohphanbnhiodaaGreat

/- loggia/disk: Fork, what it needs. -/
namespace Go.Proofs.YtohphanbnhiodaaGreat
open Go.RowKit Go.Maps

/-- Where Fork has come to: the files D of E are there anew as D2. -/
structure Fk (w wr : World) (m : Nat) (L : List (Value × Value)) (E D D2 : List Ent) (dv : Array Value) : Prop where
  rng : RangeL Tryz.prog 9 wr m (w.heap.size + 2) L (D.map fun e => str e.name)
  sub : ∀ e ∈ D, e ∈ E
  row : Row wr (w.heap.size + 1) 73 dv
  map : ∃ L2, MapL Tryz.prog 9 wr w.heap.size L2 ∧ ∀ p, p ∈ L2 ↔ ∃ e ∈ D2, p = e.kv
  pl : D2.map Ent.pl = D.map Ent.pl
  ok : ∀ e ∈ D2, EOk wr (w.heap.size + 3) e
  fd : D2.Pairwise (fun a b => a.f ≠ b.f)
  ad : D2.Pairwise (fun a b => ∀ x y, a.A = some x → b.A = some y → x.block ≠ y.block)
  ext : Ext w wr
theorem fk_step {w wr w2 w5 w6 : World} {base d m : Nat} {P : PD} {L L2 L' : List (Value × Value)} {E D D2 : List Ent} {dv : Array Value} {e0 : Ent} {A1 : Option Addr} {c1 : Nat} (hD : DE w base d m P E) (h : Fk w wr m L E D D2 dv) (he : e0 ∈ E) (hne : str e0.name ∉ D.map fun e => str e.name)
    (hR2 : RangeL Tryz.prog 9 w2 m (w.heap.size + 2) L ((D.map fun e => str e.name) ++ [str e0.name])) (hg2 : wr.grownBy w2 (some (w.heap.size + 2))) (hb5 : Buf w5 w2.heap.size 5 A1 e0.b.length c1 (e0.b.map B8)) (hE5 : Ext w2 w5)
    (hL2 : MapL Tryz.prog 9 wr w.heap.size L2) (hmem : ∀ p, p ∈ L2 ↔ ∃ e ∈ D2, p = e.kv) (hL' : MapL Tryz.prog 9 w6 w.heap.size L') (hput : Put L2 (str e0.name) (.pointer (some ⟨w5.heap.size, 0, none⟩)) L')
    (hg6 : (w5.alloc (.cells #[.slice A1 e0.b.length c1, .int .i64 e0.sure] 107)).grownBy w6 (some w.heap.size)) :
    Fk w w6 m L E (D ++ [e0]) (D2 ++ [⟨e0.name, w5.heap.size, e0.b, e0.sure, A1, c1⟩]) dv ∧ w6.rangeLeft m (w.heap.size + 2) = w2.rangeLeft m (w.heap.size + 2) := by
  obtain ⟨W, hW⟩ : ∃ W, W = w5.alloc (.cells #[.slice A1 e0.b.length c1, .int .i64 e0.sure] 107) := ⟨_, rfl⟩
  rw [← hW] at hg6
  have hEW : Ext w5 W := by rw [hW]; exact (Ext.refl w5).alloc _
  have hml := hD.lt (k := m) (.inr (.inl rfl))
  have hrl := hR2.lt
  have hsz5 := hE5.size
  have hc2 : Chg (fun k => k = w.heap.size + 2) wr w2 := Chg.of_grown hg2 fun k _ hk => by cases hk; rfl
  have hc6 : Chg (fun k => k = w.heap.size) W w6 := Chg.of_grown hg6 fun k _ hk => by cases hk; rfl
  have hEx : Ext w2 W := hE5.trans hEW
  have hr0 := (hR2.keep (Below.block hEx m hR2.map.lt) (Below.block hEx _ hrl)).keep (hc6.block m (Nat.lt_of_lt_of_le hR2.map.lt hEx.size) (by omega)) (hc6.block _ (Nat.lt_of_lt_of_le hrl hEx.size) (by omega))
  have hca : Chg (fun k => k = w.heap.size + 2 ∨ k = w.heap.size) wr w6 := ((hc2.mono (S' := fun k => k = w.heap.size + 2 ∨ k = w.heap.size) fun _ _ h => .inl h).trans (Chg.of_ext hEx (fun _ => False)) fun _ _ h => h.elim).trans hc6 fun _ _ h => .inr h
  have hnew : Row W w5.heap.size 107 #[.slice A1 e0.b.length c1, .int .i64 e0.sure] := by rw [hW]; exact Row.new _ _ _
  have hok0 : EOk w6 (w.heap.size + 3) ⟨e0.name, w5.heap.size, e0.b, e0.sure, A1, c1⟩ := by
    have hne5 : ¬ w5.heap.size = w.heap.size := by omega
    refine ⟨hc6.row hnew hne5, ?_, ?_, (hD.fs.ok e0 he).sure⟩
    · have hb := (hb5.ext hEW).chg hc6 fun a ha hh => by
        have := hb5.base_le a ha
        omega
      exact hb.lower (by omega)
    · show w.heap.size + 3 ≤ w5.heap.size
      omega
  refine ⟨⟨by rw [List.map_append]; exact hr0, ?_, hca.row h.row (by omega), ⟨L', hL', ?_⟩, ?_, ?_, ?_, ?_, ?_⟩, ?_⟩
  · intro e he'
    rcases List.mem_append.1 he' with h1 | h1
    · exact h.sub e h1
    · simp at h1; subst h1; exact he
  · intro p
    rw [hput.mem]
    constructor
    · rintro (rfl | ⟨h1, h2⟩)
      · exact ⟨_, List.mem_append_right _ (List.mem_singleton.2 rfl), rfl⟩
      · obtain ⟨e, he', rfl⟩ := (hmem p).1 h1
        exact ⟨e, List.mem_append_left _ he', rfl⟩
    · rintro ⟨e, he', rfl⟩
      rcases List.mem_append.1 he' with h1 | h1
      · refine .inr ⟨(hmem _).2 ⟨e, h1, rfl⟩, fun hn => hne ?_⟩
        have h2 : e.pl ∈ D.map Ent.pl := by rw [← h.pl]; exact List.mem_map.2 ⟨e, h1, rfl⟩
        obtain ⟨e', he2, hp⟩ := List.mem_map.1 h2
        have hnm : e'.name = e.name := congrArg Prod.fst hp
        refine List.mem_map.2 ⟨e', he2, ?_⟩
        show str e'.name = str e0.name
        rw [hnm]
        exact hn
      · rw [List.mem_singleton] at h1
        subst h1
        exact .inl rfl
  · rw [List.map_append, List.map_append, h.pl]
    rfl
  · intro e he'
    rcases List.mem_append.1 he' with h1 | h1
    · have hok := h.ok e h1
      have hlow := hok.low
      refine hok.keep (hca.block _ hok.row.lt (by omega)) fun a ha => hca.block _ (hok.buf.lt a ha) ?_
      have := hok.buf.base_le a ha
      omega
    · rw [List.mem_singleton] at h1
      subst h1
      exact hok0
  · rw [List.pairwise_append]
    refine ⟨h.fd, List.pairwise_singleton _ _, fun a ha b hb => ?_⟩
    rw [List.mem_singleton] at hb
    subst hb
    have := (h.ok a ha).row.lt
    have := hg2.size
    show a.f ≠ w5.heap.size
    omega
  · rw [List.pairwise_append]
    refine ⟨h.ad, List.pairwise_singleton _ _, fun a ha b hb x y hx hy => ?_⟩
    rw [List.mem_singleton] at hb
    subst hb
    have h1 := (h.ok a ha).buf.lt x hx
    have h2 := hb5.base_le y hy
    have := hg2.size
    omega
  · exact h.ext.chg hca fun i hi hh => by omega
  · unfold World.rangeLeft
    rw [(hc6.block m (Nat.lt_of_lt_of_le hR2.map.lt hEx.size) (by omega)).trans (Below.block hEx m hR2.map.lt), (hc6.block _ (Nat.lt_of_lt_of_le hrl hEx.size) (by omega)).trans (Below.block hEx _ hrl)]
/-- Files in the order of their names. -/
def sortE (l : List Ent) : List Ent := l.foldr (insG Ent.name) []
theorem sortE_mem {l : List Ent} {x : Ent} : x ∈ sortE l ↔ x ∈ l := by
  induction l with
  | nil => rfl
  | cons a l ih =>
    show x ∈ insG Ent.name a (sortE l) ↔ _
    rw [mem_ins, ih, List.mem_cons]
theorem sortE_perm : ∀ l : List Ent, (sortE l).Perm l
  | [] => List.Perm.refl _
  | a :: l => (perm_ins Ent.name a (sortE l)).trans ((sortE_perm l).cons a)
theorem sortE_up : ∀ {l : List Ent}, (l.map Ent.name).Nodup → Up Ent.name (sortE l)
  | [], _ => List.Pairwise.nil
  | a :: l, h => by
    rw [List.map_cons, List.nodup_cons] at h
    exact (sortE_up h.2).ins fun x hx hn => h.1 (hn ▸ List.mem_map.2 ⟨x, sortE_mem.1 hx, rfl⟩)
theorem fk_end {w wr : World} {base d m : Nat} {P : PD} {L : List (Value × Value)} {E D D2 : List Ent} (hD : DE w base d m P E) (hbase : base ≤ w.heap.size) (h : Fk w wr m L E D D2 #[.map (some w.heap.size), .int .i64 P.quota, .int .i64 P.armed, .bool P.stopped]) (hp : D.Perm E) :
    DS wr base (w.heap.size + 1) P (Foot (w.heap.size + 1) w.heap.size (sortE D2)) ∧ ∀ k, Foot (w.heap.size + 1) w.heap.size (sortE D2) k → w.heap.size ≤ k := by
  have hpp : (D2.map Ent.pl).Perm (E.map Ent.pl) := by rw [h.pl]; exact hp.map _
  have hnm : (D2.map Ent.name).Perm (E.map Ent.name) := by
    have := hpp.map fname
    rw [List.map_map, List.map_map] at this
    exact this
  have hnd : (D2.map Ent.name).Nodup := hnm.nodup_iff.2 hD.up.nodup
  have hup := sortE_up hnd
  obtain ⟨L2, hL2, hmem⟩ := h.map
  have hmem2 : ∀ p, p ∈ L2 ↔ ∃ e ∈ sortE D2, p = e.kv := fun p => by
    rw [hmem]
    exact ⟨fun ⟨e, he, hp⟩ => ⟨e, sortE_mem.2 he, hp⟩, fun ⟨e, he, hp⟩ => ⟨e, sortE_mem.1 he, hp⟩⟩
  have hplE : ∀ {e : Ent}, e ∈ D2 → ∃ e' ∈ E, e'.pl = e.pl := fun {e} he => by
    have : e.pl ∈ E.map Ent.pl := hpp.mem_iff.1 (List.mem_map.2 ⟨e, he, rfl⟩)
    obtain ⟨e', h1, h2⟩ := List.mem_map.1 this
    exact ⟨e', h1, h2⟩
  have hsl : (sortE D2).length = E.length := by
    rw [(sortE_perm D2).length_eq, ← List.length_map (f := Ent.pl), hpp.length_eq, List.length_map]
  refine ⟨⟨w.heap.size, sortE D2, ⟨h.row, ⟨⟨L2, hL2, hmem2, kv_len hL2 hup hmem2⟩, ?_, hbase, hup.nodup, ?_, ?_, ?_⟩, by omega, hup, by rw [hsl]; exact hD.cnt, ?_, ?_, hD.hq, hD.ha⟩, fun _ => Iff.rfl⟩, ?_⟩
  · intro e he
    have hok := h.ok e (sortE_mem.1 he)
    exact ⟨hok.row, hok.buf.lower (by omega), by have := hok.low; omega, hok.sure⟩
  · intro e he
    obtain ⟨e', h1, h2⟩ := hplE (sortE_mem.1 he)
    have : e'.name = e.name := congrArg Prod.fst h2
    rw [← this]
    exact hD.fs.short e' h1
  · exact ((sortE_perm D2).pairwise_iff fun h => h.symm).2 h.fd
  · exact ((sortE_perm D2).pairwise_iff (R := fun a b : Ent => ∀ x y, a.A = some x → b.A = some y → x.block ≠ y.block) fun h a b ha hb => (h b a hb ha).symm).2 h.ad
  · intro e he
    obtain ⟨e', h1, h2⟩ := hplE (sortE_mem.1 he)
    have : e'.b = e.b := congrArg (fun x => x.2.1) h2
    rw [← this]
    exact hD.lens e' h1
  · rw [← hD.pl]
    refine Up.ext (nm := fname) ?_ ?_ fun x => ?_
    · unfold Up
      rw [List.pairwise_map]
      exact hup
    · unfold Up
      rw [List.pairwise_map]
      exact hD.up
    · exact ((((sortE_perm D2).map Ent.pl).trans hpp).mem_iff)
  · rintro k (rfl | rfl | ⟨e, he, rfl | ⟨a, ha, rfl⟩⟩)
    · omega
    · omega
    · have := (h.ok e (sortE_mem.1 he)).low
      omega
    · have := (h.ok e (sortE_mem.1 he)).buf.base_le a ha
      omega
end Go.Proofs.YtohphanbnhiodaaGreat

/- loggia/disk: Fork. -/
namespace Go.Proofs.YtohphanbnhiodaaGreat
open Go.RowKit Go.Maps

def FkS (d2 m2 f : Nat) (A : Option Addr) (n c sure : Nat) (w : World) : Prop := w.cell? ⟨d2, 0, none⟩ = some (.map (some m2)) ∧ w.cell? ⟨f, 0, none⟩ = some (.slice A n c) ∧ w.cell? ⟨f, 1, none⟩ = some (.int .i64 sure)
end Go.Proofs.YtohphanbnhiodaaGreat

/- loggiaref06: how a document's disk lies in memory; find. -/
namespace Go.Proofs.YtohphanbnhiodaaGreat
open Go.RowKit Go.Maps

set_option maxRecDepth 100000 in
theorem elemF : Elem Tryz.prog 27 110 3 48 := ⟨Tryz.underlying27, ⟨_, _, rfl, rfl, rfl, rfl, rfl⟩, by omega, by omega⟩
/-- A file of the document's: its name, its bytes, how many are durable, where they lie. -/
structure RE where
  name : List UInt8
  b : List UInt8
  sure : Nat
  A : Option Addr
  c : Nat
def RE.cells (r : RE) : List Value := [str r.name, .slice r.A r.b.length r.c, .int .i64 r.sure]
def RE.agg (r : RE) : Value := .agg #[str r.name, .slice r.A r.b.length r.c, .int .i64 r.sure]
def RE.pl (r : RE) : PF := (r.name, r.b, r.sure)
def rcells (R : List RE) : List Value := R.flatMap RE.cells
theorem rcells_len (R : List RE) : (rcells R).length = R.length * 3 := by
  unfold rcells
  induction R with
  | nil => rfl
  | cons r R ih => rw [List.flatMap_cons, List.length_append, ih, List.length_cons]; simp [RE.cells]; omega
theorem rcells_get : ∀ (R : List RE) (i : Nat) (r : RE) (k : Nat), R[i]? = some r → k < 3 → (rcells R)[i * 3 + k]? = r.cells[k]?
  | [], i, r, k, h, _ => by simp at h
  | x :: R, 0, r, k, h, hk => by
    obtain rfl : x = r := by simpa using h
    unfold rcells
    rw [List.flatMap_cons, List.getElem?_append_left (by simp [RE.cells]; omega), Nat.zero_mul, Nat.zero_add]
  | x :: R, i + 1, r, k, h, hk => by
    have h' : R[i]? = some r := by simpa using h
    have ih := rcells_get R i r k h' hk
    unfold rcells at ih ⊢
    rw [List.flatMap_cons, List.getElem?_append_right (by simp [RE.cells]; omega)]
    have : (i + 1) * 3 + k - x.cells.length = i * 3 + k := by
      have : x.cells.length = 3 := rfl
      omega
    rw [this]
    exact ih
theorem rcells_append (R S : List RE) : rcells (R ++ S) = rcells R ++ rcells S := by unfold rcells; rw [List.flatMap_append]
/-- A file's bytes lie, away from the blocks N. -/
structure ROk (w : World) (N : Nat → Prop) (r : RE) : Prop where
  bytes : Bs w r.A r.b
  cap : r.b.length ≤ r.c
  nil : r.A = none → r.c = 0
  away : ∀ a, r.A = some a → a.block < w.heap.size ∧ ¬ N a.block ∧ a.spot = none
  sure : r.sure ≤ r.b.length
  name : r.name.length ≤ 9223372036854775807
  len : r.b.length ≤ 67108864
/-- A row of files lies, away from the blocks N. -/
structure RS (w : World) (N : Nat → Prop) (A : Option Addr) (n c : Nat) (R : List RE) : Prop where
  len : n = R.length
  cells : Cells w A (rcells R)
  away : ∀ a, A = some a → a.block < w.heap.size ∧ ¬ N a.block
  cap : n ≤ c
  many : n ≤ 1024
  ok : ∀ r ∈ R, ROk w N r
section
variable {w w1 : World} {N N' S : Nat → Prop} {A : Option Addr} {n c : Nat} {R : List RE} {r : RE}
theorem ROk.chg (h : ROk w N r) (hc : Chg S w w1) (hs : ∀ k, k < w.heap.size → S k → N k) (hn : ∀ k, k < w.heap.size → N' k → N k) : ROk w1 N' r :=
  ⟨hc.cells h.bytes fun a ha hh => (h.away a ha).2.1 (hs _ (h.away a ha).1 hh), h.cap, h.nil, fun a ha => ⟨Nat.lt_of_lt_of_le (h.away a ha).1 hc.size, fun hh => (h.away a ha).2.1 (hn _ (h.away a ha).1 hh), (h.away a ha).2.2⟩, h.sure, h.name, h.len⟩
theorem RS.chg (h : RS w N A n c R) (hc : Chg S w w1) (hs : ∀ k, k < w.heap.size → S k → N k) (hn : ∀ k, k < w.heap.size → N' k → N k) : RS w1 N' A n c R :=
  ⟨h.len, hc.cells h.cells fun a ha hh => (h.away a ha).2 (hs _ (h.away a ha).1 hh), fun a ha => ⟨Nat.lt_of_lt_of_le (h.away a ha).1 hc.size, fun hh => (h.away a ha).2 (hn _ (h.away a ha).1 hh)⟩, h.cap, h.many, fun r hr => (h.ok r hr).chg hc hs hn⟩
theorem ROk.ext (h : ROk w N r) (he : Ext w w1) : ROk w1 N r := h.chg (Chg.of_ext he (fun _ => False)) (fun _ _ h => h.elim) (fun _ _ h => h)
theorem RS.ext (h : RS w N A n c R) (he : Ext w w1) : RS w1 N A n c R := h.chg (Chg.of_ext he (fun _ => False)) (fun _ _ h => h.elim) (fun _ _ h => h)
theorem RS.nil (w : World) (N : Nat → Prop) : RS w N none 0 0 [] := ⟨rfl, Cells.nil _ _, nofun, by omega, by omega, by simp⟩
/-- Where a file's cells lie. -/
theorem RS.at_ (h : RS w N A n c R) {i : Nat} (hi : i < n) : ∃ g o r, A = some ⟨g, o, none⟩ ∧ R[i]? = some r ∧ w.cell? ⟨g, o + i * 3, none⟩ = some (str r.name) ∧ w.cell? ⟨g, o + i * 3 + 1, none⟩ = some (.slice r.A r.b.length r.c) ∧ w.cell? ⟨g, o + i * 3 + 2, none⟩ = some (.int .i64 r.sure) := by
  have hl : i < R.length := by rw [← h.len]; exact hi
  obtain ⟨g, o, hA, hc⟩ := h.cells.at_ (by rw [rcells_len]; omega)
  have hr : R[i]? = some R[i] := List.getElem?_eq_getElem hl
  refine ⟨g, o, R[i], hA, hr, ?_, ?_, ?_⟩
  · have := hc (i * 3 + 0) (str R[i].name) (by rw [rcells_get R i _ 0 hr (by omega)]; rfl)
    exact this
  · have := hc (i * 3 + 1) (.slice R[i].A R[i].b.length R[i].c) (by rw [rcells_get R i _ 1 hr (by omega)]; rfl)
    rw [← Nat.add_assoc] at this
    exact this
  · have := hc (i * 3 + 2) (.int .i64 R[i].sure) (by rw [rcells_get R i _ 2 hr (by omega)]; rfl)
    rw [← Nat.add_assoc] at this
    exact this
end
/-- The document's disk as a value. -/
def rdisk (A : Option Addr) (n c q a : Nat) (st : Bool) : Value := .agg #[.slice A n c, .int .i64 q, .int .i64 a, .bool st]
/-- Where a file of a name is. -/
def rfind (R : List RE) (s : List UInt8) : Option Nat := R.findIdx? fun r => decide (r.name = s)
theorem rfind_some {R : List RE} {s : List UInt8} {i : Nat} {r : RE} (h : R[i]? = some r) (hs : r.name = s) (hno : ∀ j r, j < i → R[j]? = some r → r.name ≠ s) : rfind R s = some i := by
  obtain ⟨hi, hr⟩ := List.getElem?_eq_some_iff.1 h
  unfold rfind
  rw [List.findIdx?_eq_some_iff_getElem]
  refine ⟨hi, by rw [hr]; exact decide_eq_true hs, fun j hj hp => hno j _ hj (List.getElem?_eq_getElem (by omega)) (of_decide_eq_true hp)⟩
theorem rfind_none {R : List RE} {s : List UInt8} (hno : ∀ j r, j < R.length → R[j]? = some r → r.name ≠ s) : rfind R s = none := by
  unfold rfind
  rw [List.findIdx?_eq_none_iff]
  intro r hr
  obtain ⟨j, hj⟩ := List.getElem?_of_mem hr
  exact decide_eq_false (hno j r (List.getElem?_eq_some_iff.1 hj).1 hj)
set_option maxRecDepth 100000 in
set_option maxHeartbeats 1000000 in
theorem rfind_any (N : Nat → Prop) (A : Option Addr) (n c q a : Nat) (st : Bool) (R : List RE) (s : List UInt8) (w : World) (h : RS w N A n c R) :
    Calls Tryz.prog 54 #[rdisk A n c q a st, str s] w fun e w' => e = .returned (.tuple #[.int .i64 ((rfind R s).getD 0 : Nat), .bool (rfind R s).isSome]) ∧ Ext w w' := by
  unfold rdisk str
  have hlen := h.len
  have hmany := h.many
  replace hlen := hide hlen
  go_enter Tryz.func54, Tryz.ntmps54
  go_wp2_with fail
  obtain ⟨W, hW⟩ : ∃ W, W = w.alloc (.cells #[.slice A n c, .int .i64 q, .int .i64 a, .bool st] 29) := ⟨_, rfl⟩
  rw [← hW]
  have hE : Ext w W := by rw [hW]; exact (Ext.refl w).alloc _
  have c0 : W.cell? ⟨w.heap.size, 0, none⟩ = some (.slice A n c) := by rw [hW]; exact (Row.new w _ _).cell 0 rfl
  have hR := h.ext hE
  replace hW := hide hW
  go_loopw [6] (fun s6 wr => ∃ i : Nat, s6 = .int .i64 i ∧ i ≤ n ∧ Hid (∀ j r, j < i → R[j]? = some r → r.name ≠ s) ∧ wr = W) (fun s6 _ => n - (intOf s6).toNat)
  case atStart => exact ⟨0, rfl, by omega, hide (fun j r h => by omega), rfl⟩
  case round =>
    obtain ⟨i, rfl, hi, hno, rfl⟩ := hrel
    by_cases hin : i < n
    · obtain ⟨g, o, r, rfl, hr, k0, k1, k2⟩ := hR.at_ hin
      unfold str at k0
      by_cases hs : r.name = s
      · have hf := rfind_some hr hs hno.out
        have hb : (r.name == s) = true := by rw [hs]; exact beq_self_eq_true s
        replace hf := hide hf
        replace hr := hide hr
        replace hs := hide hs
        go_wp2_with fail
        go_ret2
        rw [hf.out]
        exact ⟨rfl, hE⟩
      · have hb : (r.name == s) = false := beq_eq_false_iff_ne.2 hs
        have hno2 : Hid (∀ j r, j < i + 1 → R[j]? = some r → r.name ≠ s) := hide (by
          intro j x hj hx
          by_cases hji : j = i
          · subst hji
            rw [hr] at hx
            cases hx
            exact hs
          · exact hno.out j x (by omega) hx)
        replace hr := hide hr
        go_wp2_with fail
        go_roundw
        case rel => exact ⟨i + 1, by go_num, by omega, hno2, trivial⟩
        case measure => simp [intOf]; omega
    · have hf : rfind R s = none := rfind_none (by rw [← hlen.out]; exact fun j r hj hr => hno.out j r (by omega) hr)
      replace hf := hide hf
      go_wp2_with fail
      go_ret2
      rw [hf.out]
      exact ⟨rfl, hE⟩
end Go.Proofs.YtohphanbnhiodaaGreat

/- loggiaref06: Named, less. -/
namespace Go.Proofs.YtohphanbnhiodaaGreat
open Go.RowKit Go.Maps

set_option maxRecDepth 100000 in
set_option maxHeartbeats 2000000 in
theorem rnamed_any (s : List UInt8) (w : World) (hs : s.length ≤ 9223372036854775807) :
    Calls Tryz.prog 53 #[str s] w fun e w' => e = .returned (.bool (namedM s)) ∧ w' = w := by
  unfold str
  obtain ⟨n, hn⟩ : ∃ n, n = s.length := ⟨_, rfl⟩
  have hsz : (⟨s.toArray⟩ : ByteArray).size = n := by rw [hn]; exact ByteArray.size_mk_toArray s
  by_cases h1 : n < 1
  · have hm : namedM s = false := by unfold namedM; rw [← hn]; simp; omega
    rw [hm]
    replace hn := hide hn
    go_enter Tryz.func53, Tryz.ntmps53
    go_wp2_with fail
    go_ret
    exact ⟨rfl, rfl⟩
  · by_cases h2 : 64 < n
    · have hm : namedM s = false := by unfold namedM; rw [← hn]; simp; omega
      rw [hm]
      replace hn := hide hn
      go_enter Tryz.func53, Tryz.ntmps53
      go_wp2_with fail
      go_ret
      exact ⟨rfl, rfl⟩
    · have hm : namedM s = s.all okb := by unfold namedM; rw [← hn]; simp; omega
      rw [hm]
      replace hn := hide hn
      go_enter Tryz.func53, Tryz.ntmps53
      go_wp2_with fail
      go_loopw [3] (fun s3 wr => ∃ i : Nat, s3 = .int .i64 i ∧ i ≤ n ∧ Hid (s.all okb = (s.drop i).all okb) ∧ wr = w) (fun s3 _ => n - (intOf s3).toNat)
      case atStart => exact ⟨0, rfl, by omega, hide rfl, rfl⟩
      case round =>
        obtain ⟨i, rfl, hi, hall, rfl⟩ := hrel
        by_cases hin : i < n
        · go_upto_region 6 with (fail)
          have hil : i < s.length := by rw [← hn.out]; exact hin
          obtain ⟨x, hx⟩ : ∃ x, x = s[i] := ⟨_, rfl⟩
          have hdr : (s.drop i).all okb = (okb x && (s.drop (i + 1)).all okb) := by rw [List.drop_eq_getElem_cons hil, List.all_cons, hx]
          obtain ⟨c, hc⟩ : ∃ c, c = x.toNat := ⟨_, rfl⟩
          have hcx : ((⟨s.toArray⟩ : ByteArray)[i]'(by rw [hsz]; exact hin)).toNat = c := by rw [hc, hx]; rfl
          have hc2 : c < 256 := by rw [hc]; exact x.toNat_lt
          have hcl : c < 45 ∨ c = 45 ∨ c = 46 ∨ c = 47 ∨ (48 ≤ c ∧ c ≤ 57) ∨ (58 ≤ c ∧ c ≤ 96) ∨ (97 ≤ c ∧ c ≤ 122) ∨ 122 < c := by omega
          have hok : okb x = ((97 ≤ c && c ≤ 122) || (48 ≤ c && c ≤ 57) || c == 45 || c == 46) := by unfold okb; rw [← hc]
          rw [hok] at hdr
          replace hdr := hide hdr
          replace hx := hide hx
          replace hc := hide hc
          clear hok
          have q1 : Hid (c ≠ 45 → ((c : Int) == 45) = false) := hide (fun h => beq_eq_false_iff_ne.2 (by omega))
          have q2 : Hid (c ≠ 46 → ((c : Int) == 46) = false) := hide (fun h => beq_eq_false_iff_ne.2 (by omega))
          rcases hcl with h | h | h | h | ⟨h, h'⟩ | ⟨h, h'⟩ | ⟨h, h'⟩ | h
          all_goals
            first
            | (have hd2 : Hid (s.all okb = (s.drop (i + 1)).all okb) := hide (by rw [hall.out, hdr.out, show ((97 ≤ c && c ≤ 122) || (48 ≤ c && c ≤ 57) || c == 45 || c == 46) = true by (simp only [Bool.or_eq_true, Bool.and_eq_true, decide_eq_true_eq, beq_iff_eq]; omega)]; exact Bool.true_and _)
               clear hdr
               try have g1 : c < 97 := by omega
               try have g2 : 97 ≤ c := by omega
               try have g3 : c ≤ 122 := by omega
               try have g4 : 122 < c := by omega
               try have g5 : c < 48 := by omega
               try have g6 : 48 ≤ c := by omega
               try have g7 : c ≤ 57 := by omega
               try have g8 : 57 < c := by omega
               try have g9 : decide ((c : Int) ≤ 57) = false := decide_eq_false (by omega)
               try have g0 : decide ((c : Int) ≤ 122) = false := decide_eq_false (by omega)
               try have q3 := q1.out (by omega)
               try have q4 := q2.out (by omega)
               try subst h
               go_wp2_with fail
               all_goals
                 go_roundw
                 case rel => exact ⟨i + 1, by go_num, by omega, hd2, trivial⟩
                 case measure => simp [intOf]; omega)
            | (have hd2 : Hid (s.all okb = false) := hide (by rw [hall.out, hdr.out, show ((97 ≤ c && c ≤ 122) || (48 ≤ c && c ≤ 57) || c == 45 || c == 46) = false by (rw [← Bool.not_eq_true]; simp only [Bool.or_eq_true, Bool.and_eq_true, decide_eq_true_eq, beq_iff_eq]; omega)]; exact Bool.false_and _)
               clear hdr
               try have g1 : c < 97 := by omega
               try have g2 : 97 ≤ c := by omega
               try have g3 : c ≤ 122 := by omega
               try have g4 : 122 < c := by omega
               try have g5 : c < 48 := by omega
               try have g6 : 48 ≤ c := by omega
               try have g7 : c ≤ 57 := by omega
               try have g8 : 57 < c := by omega
               try have g9 : decide ((c : Int) ≤ 57) = false := decide_eq_false (by omega)
               try have g0 : decide ((c : Int) ≤ 122) = false := decide_eq_false (by omega)
               try have q3 := q1.out (by omega)
               try have q4 := q2.out (by omega)
               try subst h
               go_wp2_with fail
               all_goals
                 go_ret
                 rw [hd2.out]
                 exact ⟨rfl, rfl⟩)
        · have hd2 : s.all okb = true := by
            rw [hall.out, List.drop_eq_nil_of_le (by rw [← hn.out]; omega)]
            rfl
          replace hd2 := hide hd2
          go_wp2_with fail
          go_ret
          rw [hd2.out]
          exact ⟨rfl, rfl⟩
end Go.Proofs.YtohphanbnhiodaaGreat

/- loggiaref06: less, Used, Size, Durable. -/
namespace Go.Proofs.YtohphanbnhiodaaGreat
open Go.RowKit Go.Maps

theorem cons_lt (x y : UInt8) (a b : List UInt8) : decide (x :: a < y :: b) = if x = y then decide (a < b) else decide (x.toNat < y.toNat) := by
  by_cases h : x = y
  · rw [if_pos h]
    subst h
    congr 1
    apply propext
    rw [List.cons_lt_cons_iff]
    constructor
    · rintro (h | ⟨_, h⟩)
      · exact (UInt8.lt_irrefl _ h).elim
      · exact h
    · exact fun h => .inr ⟨rfl, h⟩
  · rw [if_neg h]
    congr 1
    apply propext
    rw [List.cons_lt_cons_iff]
    constructor
    · rintro (h1 | ⟨h1, _⟩)
      · exact h1
      · exact (h h1).elim
    · exact fun h1 => .inl h1
set_option maxRecDepth 100000 in
set_option maxHeartbeats 1000000 in
theorem rless_any (s t : List UInt8) (w : World) (hs : s.length ≤ 9223372036854775807) (ht : t.length ≤ 9223372036854775807) :
    Calls Tryz.prog 91 #[str s, str t] w fun e w' => e = .returned (.bool (decide (s < t))) ∧ Ext w w' := by
  unfold str
  obtain ⟨n, hn⟩ : ∃ n, n = s.length := ⟨_, rfl⟩
  obtain ⟨m, hm⟩ : ∃ m, m = t.length := ⟨_, rfl⟩
  have hsz : (⟨s.toArray⟩ : ByteArray).size = n := by rw [hn]; exact ByteArray.size_mk_toArray s
  have htz : (⟨t.toArray⟩ : ByteArray).size = m := by rw [hm]; exact ByteArray.size_mk_toArray t
  rw [← hn] at hs
  rw [← hm] at ht
  obtain ⟨b, hb⟩ : ∃ b, b = decide (s < t) := ⟨_, rfl⟩
  rw [← hb]
  replace hn := hide hn
  replace hm := hide hm
  replace hb := hide hb
  go_enter Tryz.func91, Tryz.ntmps91
  go_wp2_with fail
  go_loopw [5] (fun s5 wr => ∃ i : Nat, s5 = .int .i64 i ∧ i ≤ n ∧ i ≤ m ∧ Hid (b = decide (s.drop i < t.drop i)) ∧ Ext w wr) (fun s5 _ => n - (intOf s5).toNat)
  case atStart => exact ⟨0, rfl, by omega, by omega, hb, Ext.refl w⟩
  case round =>
    obtain ⟨i, rfl, hi, hi2, hbi, hE⟩ := hrel
    by_cases hin : i < n
    · by_cases him : i < m
      · have hil : i < s.length := by rw [← hn.out]; exact hin
        have hil2 : i < t.length := by rw [← hm.out]; exact him
        obtain ⟨x, hx⟩ : ∃ x, x = s[i] := ⟨_, rfl⟩
        obtain ⟨y, hy⟩ : ∃ y, y = t[i] := ⟨_, rfl⟩
        have hstep : b = if x = y then decide (s.drop (i + 1) < t.drop (i + 1)) else decide (x.toNat < y.toNat) := by
          rw [hbi.out, List.drop_eq_getElem_cons hil, List.drop_eq_getElem_cons hil2, cons_lt, hx, hy]
        obtain ⟨c, hc⟩ : ∃ c, c = x.toNat := ⟨_, rfl⟩
        obtain ⟨e, he⟩ : ∃ e, e = y.toNat := ⟨_, rfl⟩
        have hcx : ((⟨s.toArray⟩ : ByteArray)[i]'(by rw [hsz]; exact hin)).toNat = c := by rw [hc, hx]; rfl
        have hcy : ((⟨t.toArray⟩ : ByteArray)[i]'(by rw [htz]; exact him)).toNat = e := by rw [he, hy]; rfl
        have hxy : x = y ↔ c = e := by rw [hc, he]; exact ⟨fun h => by rw [h], fun h => UInt8.toNat_inj.1 h⟩
        rw [← hc, ← he] at hstep
        replace hstep := hide hstep
        replace hx := hide hx
        replace hy := hide hy
        replace hc := hide hc
        replace he := hide he
        replace hxy := hide hxy
        by_cases hce : c = e
        · have hb2 : Hid (b = decide (s.drop (i + 1) < t.drop (i + 1))) := hide (by rw [hstep.out, if_pos (hxy.out.2 hce)])
          have q1 : ((c : Int) == e) = true := by rw [hce]; exact beq_self_eq_true _
          have q2 : ((c : Int) != e) = false := by rw [hce]; simp
          replace hce := hide hce
          go_wp2_with fail
          refine wp_region_text follows (by kernel_rfl) (by kernel_rfl) (fun K hK => ?_)
          go_wp2_with fail
          refine ⟨by kernel_rfl, ?_⟩
          go_wp2_with fail
          go_roundw
          case rel => exact ⟨i + 1, by go_num, by omega, by omega, hb2, hE.drew⟩
          case measure => simp [intOf]; omega
        · have hb2 : Hid (b = decide (c < e)) := hide (by rw [hstep.out, if_neg fun h => hce (hxy.out.1 h)])
          have q1 : ((c : Int) == e) = false := beq_eq_false_iff_ne.2 (by omega)
          have q2 : ((c : Int) != e) = true := by simp [bne, q1]
          replace hce := hide hce
          go_wp2_with fail
          refine wp_region_text follows (by kernel_rfl) (by kernel_rfl) (fun K hK => ?_)
          go_wp2_with fail
          refine ⟨by kernel_rfl, ?_⟩
          go_wp2_with fail
          refine wp_region_text follows (by kernel_rfl) (by kernel_rfl) (fun K hK => ?_)
          go_wp2_with fail
          refine ⟨by kernel_rfl, ?_⟩
          go_wp2_with fail
          go_ret
          rw [hb2.out]
          exact ⟨ret_bool (by first | rfl | (simp; done) | (simp; omega)), hE.drew.drew⟩
      · have hb2 : Hid (b = decide (n < m)) := hide (by
          rw [hbi.out, List.drop_eq_nil_of_le (show t.length ≤ i by rw [← hm.out]; omega)]
          rw [decide_eq_false (show ¬ n < m by omega), decide_eq_false (List.not_lt_nil _)])
        have q1 : decide (n < m) = false := decide_eq_false (by omega)
        go_wp2_with fail
        go_ret
        rw [hb2.out]
        exact ⟨ret_bool (by first | rfl | (simp; done) | (simp; omega)), hE⟩
    · have hb2 : Hid (b = decide (n < m)) := hide (by
        rw [hbi.out, List.drop_eq_nil_of_le (show s.length ≤ i by rw [← hn.out]; omega)]
        by_cases h : n < m
        · rw [decide_eq_true h]
          apply decide_eq_true
          have : i < t.length := by rw [← hm.out]; omega
          rw [List.drop_eq_getElem_cons this]
          exact List.nil_lt_cons _ _
        · rw [decide_eq_false h]
          apply decide_eq_false
          rw [List.drop_eq_nil_of_le (show t.length ≤ i by rw [← hm.out]; omega)]
          exact List.not_lt_nil _)
      go_wp2_with fail
      go_ret
      rw [hb2.out]
      exact ⟨ret_bool (by first | rfl | (simp; done) | (simp; omega)), hE⟩
theorem rused_take (R : List RE) (i : Nat) (r : RE) (h : R[i]? = some r) : usedP ((R.take (i + 1)).map RE.pl) = usedP ((R.take i).map RE.pl) + r.b.length := by
  obtain ⟨hi, hr⟩ := List.getElem?_eq_some_iff.1 h
  rw [List.take_succ_eq_append_getElem hi, hr]
  unfold usedP
  simp [RE.pl]
theorem rused_bd {w : World} {N : Nat → Prop} {A : Option Addr} {n c : Nat} {R : List RE} (h : RS w N A n c R) (i : Nat) : usedP ((R.take i).map RE.pl) ≤ i * 67108864 := by
  have : ∀ l : List RE, (∀ r ∈ l, r.b.length ≤ 67108864) → usedP (l.map RE.pl) ≤ l.length * 67108864 := by
    intro l
    induction l with
    | nil => intro _; exact Nat.zero_le _
    | cons a l ih =>
      intro hl
      have h1 := ih fun r hr => hl r (List.mem_cons_of_mem _ hr)
      have h2 := hl a (List.mem_cons_self ..)
      unfold usedP at *
      simp only [List.map_cons, List.sum_cons, List.length_cons]
      show a.b.length + _ ≤ _
      omega
  refine Nat.le_trans (this _ fun r hr => (h.ok r (List.mem_of_mem_take hr)).len) ?_
  have := List.length_take_le i R
  exact Nat.mul_le_mul_right _ this
set_option maxRecDepth 100000 in
set_option maxHeartbeats 1000000 in
theorem rused_any (N : Nat → Prop) (A : Option Addr) (n c q a : Nat) (st : Bool) (R : List RE) (w : World) (h : RS w N A n c R) :
    Calls Tryz.prog 55 #[rdisk A n c q a st] w fun e w' => e = .returned (.int .i64 (usedP (R.map RE.pl))) ∧ Ext w w' := by
  unfold rdisk
  have hlen := h.len
  have hmany := h.many
  replace hlen := hide hlen
  go_enter Tryz.func55, Tryz.ntmps55
  go_wp2_with fail
  obtain ⟨W, hW⟩ : ∃ W, W = w.alloc (.cells #[.slice A n c, .int .i64 q, .int .i64 a, .bool st] 29) := ⟨_, rfl⟩
  rw [← hW]
  have hE : Ext w W := by rw [hW]; exact (Ext.refl w).alloc _
  have c0 : W.cell? ⟨w.heap.size, 0, none⟩ = some (.slice A n c) := by rw [hW]; exact (Row.new w _ _).cell 0 rfl
  have hR := h.ext hE
  replace hW := hide hW
  go_loopw [3, 4] (fun s3 s4 wr => ∃ i u : Nat, s4 = .int .i64 i ∧ s3 = .int .i64 u ∧ i ≤ n ∧ Hid (u = usedP ((R.take i).map RE.pl)) ∧ wr = W) (fun _ s4 _ => n - (intOf s4).toNat)
  case atStart => exact ⟨0, 0, rfl, rfl, by omega, hide rfl, rfl⟩
  case round =>
    obtain ⟨i, u, rfl, rfl, hi, hu, rfl⟩ := hrel
    by_cases hin : i < n
    · obtain ⟨g, o, r, rfl, hr, k0, k1, k2⟩ := hR.at_ hin
      have hbd := rused_bd h i
      rw [← hu.out] at hbd
      have hl := (h.ok r (List.mem_of_getElem? hr)).len
      have hu2 : Hid (u + r.b.length = usedP ((R.take (i + 1)).map RE.pl)) := hide (by rw [rused_take R i r hr, ← hu.out])
      have hbd2 : u ≤ 68719476736 := by omega
      clear hbd
      replace hr := hide hr
      go_wp2_with fail
      go_roundw
      case rel => exact ⟨i + 1, u + r.b.length, by go_num, by go_num, by omega, hu2, trivial⟩
      case measure => simp [intOf]; omega
    · obtain rfl : i = n := by omega
      have hf : u = usedP (R.map RE.pl) := by rw [hu.out, List.take_of_length_le (by rw [← hlen.out]; exact Nat.le_refl _)]
      replace hf := hide hf
      go_wp2_with fail
      go_ret
      rw [hf.out]
      exact ⟨rfl, hE⟩
/-- Where a file of a name is, plainly. -/
theorem rfind_pl {P : PD} {R : List RE} (hP : R.map RE.pl = P.L) (s : List UInt8) : (∃ i r, rfind R s = some i ∧ R[i]? = some r ∧ r.name = s ∧ P.find s = some r.pl) ∨ (rfind R s = none ∧ P.find s = none) := by
  unfold PD.find
  rw [← hP, List.find?_map]
  cases hf : rfind R s with
  | none =>
    refine .inr ⟨rfl, ?_⟩
    have : R.find? ((fun f => decide (fname f = s)) ∘ RE.pl) = none := by
      rw [List.find?_eq_none]
      intro r hr
      unfold rfind at hf
      rw [List.findIdx?_eq_none_iff] at hf
      have := hf r hr
      show ¬ (decide (r.name = s) = true)
      rw [this]
      exact Bool.false_ne_true
    rw [this]
    rfl
  | some i =>
    unfold rfind at hf
    obtain ⟨hi, hp, hno⟩ := List.findIdx?_eq_some_iff_getElem.1 hf
    refine .inl ⟨i, R[i], rfl, List.getElem?_eq_getElem hi, of_decide_eq_true hp, ?_⟩
    have : R.find? ((fun f => decide (fname f = s)) ∘ RE.pl) = some R[i] := by
      rw [List.find?_eq_some_iff_getElem]
      refine ⟨hp, i, hi, rfl, fun j hj => ?_⟩
      have := hno j hj
      show (!decide (R[j].name = s)) = true
      rw [Bool.not_eq_true] at this
      rw [this]
      rfl
    rw [this]
    rfl
set_option maxRecDepth 100000 in
set_option maxHeartbeats 1000000 in
theorem rsize_any (N : Nat → Prop) (A : Option Addr) (n c : Nat) (P : PD) (R : List RE) (s : List UInt8) (w : World) (h : RS w N A n c R) (hP : R.map RE.pl = P.L) :
    Calls Tryz.prog 61 #[rdisk A n c P.quota P.armed P.stopped, str s] w fun e w' => e = .returned (.tuple #[.int .i64 (sizeM P s).1, .bool (sizeM P s).2]) ∧ Ext w w' := by
  obtain ⟨q, hq⟩ : ∃ q, q = P.quota := ⟨_, rfl⟩
  obtain ⟨a, ha⟩ : ∃ q, q = P.armed := ⟨_, rfl⟩
  obtain ⟨st, hst⟩ : ∃ q, q = P.stopped := ⟨_, rfl⟩
  rw [← hq, ← ha, ← hst]
  have hE : Ext w (w.alloc (.cells #[.slice A n c, .int .i64 q, .int .i64 a, .bool st] 29)) := (Ext.refl w).alloc _
  have c0 := (Row.new w 29 #[.slice A n c, .int .i64 q, .int .i64 a, .bool st]).cell 0 rfl
  have c3 := (Row.new w 29 #[.slice A n c, .int .i64 q, .int .i64 a, .bool st]).cell 3 rfl
  have hR := h.ext hE
  have hfa := rfind_any N A n c q a st R s _ hR
  obtain ⟨W, hW⟩ : ∃ W, W = w.alloc (.cells #[.slice A n c, .int .i64 q, .int .i64 a, .bool st] 29) := ⟨_, rfl⟩
  rw [← hW] at hE c0 c3 hR hfa
  unfold rdisk str at hfa ⊢
  replace hq := hide hq
  replace ha := hide ha
  have hlen := h.len
  have hmany := h.many
  rcases rfind_pl hP s with ⟨i, r, hf, hr, hn, hfd⟩ | ⟨hf, hfd⟩
  · rw [hf] at hfa
    have hm : sizeM P s = if st then (0, false) else (r.b.length, true) := by unfold sizeM; rw [hfd, hst]; rfl
    rw [hm]
    have hin : i < n := by rw [hlen]; exact (List.getElem?_eq_some_iff.1 hr).1
    obtain ⟨g, o, r', rfl, hr', k0, k1, k2⟩ := hR.at_ hin
    obtain rfl : r' = r := by rw [hr] at hr'; cases hr'; rfl
    obtain ⟨bl, hbl⟩ : ∃ bl, bl = r'.b.length := ⟨_, rfl⟩
    rw [← hbl] at k1 ⊢
    simp only [Option.getD_some, Option.isSome_some] at hfa
    replace hfa := hide hfa
    replace hbl := hide hbl
    replace hlen := hide hlen
    replace hst := hide hst
    have hWs := hide hW.symm
    clear hW hr hr' hf hfd hn hm hP
    cases st with
    | true =>
      go_enter Tryz.func61, Tryz.ntmps61
      go_wp2_with fail
      rw [hWs.out]
      refine hfa.out.mono ?_
      rintro e w1 ⟨rfl, hE1⟩
      have c3' := hE1.cell c3
      go_wp2_with fail
      go_ret2
      exact ⟨rfl, hE.trans hE1⟩
    | false =>
      go_enter Tryz.func61, Tryz.ntmps61
      go_wp2_with fail
      rw [hWs.out]
      refine hfa.out.mono ?_
      rintro e w1 ⟨rfl, hE1⟩
      have c3' := hE1.cell c3
      have c0' := hE1.cell c0
      have k1' := hE1.cell k1
      go_wp2_with fail
      go_ret2
      exact ⟨rfl, hE.trans hE1⟩
  · rw [hf] at hfa
    have hm : sizeM P s = (0, false) := by unfold sizeM; rw [hfd]; cases P.stopped <;> rfl
    rw [hm]
    simp only [Option.getD_none, Option.isSome_none] at hfa
    replace hfa := hide hfa
    replace hlen := hide hlen
    replace hst := hide hst
    have hWs := hide hW.symm
    clear hW hf hfd hm hP
    go_enter Tryz.func61, Tryz.ntmps61
    go_wp2_with fail
    rw [hWs.out]
    refine hfa.out.mono ?_
    rintro e w1 ⟨rfl, hE1⟩
    go_wp2_with fail
    go_ret2
    exact ⟨rfl, hE.trans hE1⟩
set_option maxRecDepth 100000 in
set_option maxHeartbeats 1000000 in
theorem rdurable_any (N : Nat → Prop) (A : Option Addr) (n c : Nat) (P : PD) (R : List RE) (s : List UInt8) (w : World) (h : RS w N A n c R) (hP : R.map RE.pl = P.L) :
    Calls Tryz.prog 66 #[rdisk A n c P.quota P.armed P.stopped, str s] w fun e w' => e = .returned (.int .i64 (durM P s)) ∧ Ext w w' := by
  obtain ⟨q, hq⟩ : ∃ q, q = P.quota := ⟨_, rfl⟩
  obtain ⟨a, ha⟩ : ∃ q, q = P.armed := ⟨_, rfl⟩
  obtain ⟨st, hst⟩ : ∃ q, q = P.stopped := ⟨_, rfl⟩
  rw [← hq, ← ha, ← hst]
  have hE : Ext w (w.alloc (.cells #[.slice A n c, .int .i64 q, .int .i64 a, .bool st] 29)) := (Ext.refl w).alloc _
  have c0 := (Row.new w 29 #[.slice A n c, .int .i64 q, .int .i64 a, .bool st]).cell 0 rfl
  have hR := h.ext hE
  have hfa := rfind_any N A n c q a st R s _ hR
  obtain ⟨W, hW⟩ : ∃ W, W = w.alloc (.cells #[.slice A n c, .int .i64 q, .int .i64 a, .bool st] 29) := ⟨_, rfl⟩
  rw [← hW] at hE c0 hR hfa
  unfold rdisk str at hfa ⊢
  replace hq := hide hq
  replace ha := hide ha
  replace hst := hide hst
  have hlen := h.len
  have hmany := h.many
  rcases rfind_pl hP s with ⟨i, r, hf, hr, hn, hfd⟩ | ⟨hf, hfd⟩
  · rw [hf] at hfa
    have hm : durM P s = r.sure := by unfold durM; rw [hfd]; rfl
    rw [hm]
    have hin : i < n := by rw [hlen]; exact (List.getElem?_eq_some_iff.1 hr).1
    obtain ⟨g, o, r', rfl, hr', k0, k1, k2⟩ := hR.at_ hin
    obtain rfl : r' = r := by rw [hr] at hr'; cases hr'; rfl
    simp only [Option.getD_some, Option.isSome_some] at hfa
    replace hfa := hide hfa
    replace hlen := hide hlen
    have hWs := hide hW.symm
    clear hW hr hr' hf hfd hn hm hP
    go_enter Tryz.func66, Tryz.ntmps66
    go_wp2_with fail
    rw [hWs.out]
    refine hfa.out.mono ?_
    rintro e w1 ⟨rfl, hE1⟩
    have c0' := hE1.cell c0
    have k2' := hE1.cell k2
    go_wp2_with fail
    go_ret
    exact ⟨rfl, hE.trans hE1⟩
  · rw [hf] at hfa
    have hm : durM P s = 0 := by unfold durM; rw [hfd]
    rw [hm]
    simp only [Option.getD_none, Option.isSome_none] at hfa
    replace hfa := hide hfa
    replace hlen := hide hlen
    have hWs := hide hW.symm
    clear hW hf hfd hm hP
    go_enter Tryz.func66, Tryz.ntmps66
    go_wp2_with fail
    rw [hWs.out]
    refine hfa.out.mono ?_
    rintro e w1 ⟨rfl, hE1⟩
    go_wp2_with fail
    go_ret
    exact ⟨rfl, hE.trans hE1⟩
end Go.Proofs.YtohphanbnhiodaaGreat

/- loggiaref06: without. -/
namespace Go.Proofs.YtohphanbnhiodaaGreat
open Go.RowKit Go.Maps

/-- The same, the block by a name. -/
theorem wpList_appB {P : Program} {ops : Array Oper} {rest : List Oper} {o : Oper} {a : Act} {Q : Exit → Act → World → Prop} {w0 : World} {us : List Value} {T : TypeId} {t e size bytes m : Nat} (b : Nat) (hb : b = w0.heap.size) (E : Elem P t e size bytes)
    {base : Nat} {v : Value} {n : Nat} {xs : List Value} (hown : w0.ownsRow base e size v n xs) (s x : Operand)
    (ho : o.op = .call { callee := .builtin .append, args := #[s, x], argTypes := #[t, t] }) (hgd : o.guard = none)
    (hs : a.eval s = v) (hx : a.eval x = .slice (some ⟨b, 0, none⟩) m m) (hl : us.length = m * size) (h1 : ∀ u ∈ us, u.oneCell' = true) (hsz : n + m ≤ 4294967296) (hbase : base ≤ w0.heap.size)
    (h : ∀ A1 c1 w', w'.ownsRow base e size (.slice A1 (n + m) c1) (n + m) (xs ++ us) → w0.grownBy w' v.ownBlock → wpList P ops Q rest (a.put o.dst (.slice A1 (n + m) c1)) w') :
    wpList P ops Q (o :: rest) a (w0.alloc (.cells us.toArray T)) := by
  subst hb
  exact wpList_appS E hown s x ho hgd hs hx hl h1 hsz hbase fun A1 c1 w' h2 h3 _ => h A1 c1 w' h2 h3
/-- A new row of files. -/
theorem RS.of_own {w w1 : World} {N : Nat → Prop} {base : Nat} {A : Option Addr} {n c : Nat} {R : List RE} (ho : w1.ownsRow base 110 3 (.slice A n c) n (rcells R)) (hb : w.heap.size ≤ base) (hN : ∀ k, N k → k < w.heap.size) (hok : ∀ r ∈ R, ROk w1 N r) (hm : R.length ≤ 1024) : RS w1 N A n c R := by
  have hl : n = R.length := by
    have := ho.1
    rw [rcells_len] at this
    omega
  refine ⟨hl, Cells.of_own ho, fun a ha => ?_, ?_, by omega, hok⟩
  · subst ha
    rcases ho.2 with ⟨h1, _⟩ | ⟨g, cap, cur, h1, h2, h3, _⟩
    · cases h1
    · cases h1
      refine ⟨(Array.getElem?_eq_some_iff.1 h3).1, fun hn => ?_⟩
      have := hN _ hn
      have h2' : base ≤ g := h2
      have : g < w.heap.size := this
      omega
  · rcases ho.2 with ⟨h1, h2⟩ | ⟨g, cap, cur, h1, h2, h3, h4, _⟩
    · cases h1; omega
    · cases h1; omega
theorem own_ge {w : World} {base : Nat} {e : TypeId} {size : Nat} {v : Value} {n : Nat} {xs : List Value} (h : w.ownsRow base e size v n xs) : ∀ k, v.ownBlock = some k → base ≤ k := by
  intro k hk
  obtain ⟨cur, _, h9⟩ := owns_row h hk
  exact h9
theorem take_without (R : List RE) (s : List UInt8) (i : Nat) (r : RE) (h : R[i]? = some r) : withoutG RE.name s (R.take (i + 1)) = withoutG RE.name s (R.take i) ++ (if r.name = s then [] else [r]) := by
  obtain ⟨hi, hr⟩ := List.getElem?_eq_some_iff.1 h
  rw [List.take_succ_eq_append_getElem hi, hr]
  unfold withoutG
  rw [List.filter_append]
  congr 1
  by_cases hs : r.name = s
  · simp [hs]
  · simp [hs]
/-- The end of a function that answers with a disk whose row of files has been made anew: b is the disk's own cell, b + 1 the answer's. -/
theorem rdisk_out {w0 wr : World} {b base n1 c1 q a : Nat} {A1 : Option Addr} {st : Bool} {xs : List Value} {v0 v1 v2 v3 : Value} (hrr : Row wr (b + 1) 29 #[v0, v1, v2, v3]) (ho : wr.ownsRow base 110 3 (.slice A1 n1 c1) n1 xs)
    (hge : ∀ k, (Value.slice A1 n1 c1).ownBlock = some k → b + 2 ≤ k) (hE : Ext w0 wr) (hb : w0.heap.size ≤ b) {wf : World}
    (hwf : wf = (((((wr.setCell ⟨b, 0, none⟩ (.slice A1 n1 c1)).setCell ⟨b + 1, 0, none⟩ (.slice A1 n1 c1)).setCell ⟨b + 1, 1, none⟩ (.int .i64 q)).setCell ⟨b + 1, 2, none⟩ (.int .i64 a)).setCell ⟨b + 1, 3, none⟩ (.bool st)) := by rfl) :
    wf.cell? ⟨b + 1, 0, none⟩ = some (.slice A1 n1 c1) ∧ wf.cell? ⟨b + 1, 1, none⟩ = some (.int .i64 q) ∧ wf.cell? ⟨b + 1, 2, none⟩ = some (.int .i64 a) ∧ wf.cell? ⟨b + 1, 3, none⟩ = some (.bool st) ∧ Ext w0 wf ∧ wf.ownsRow base 110 3 (.slice A1 n1 c1) n1 xs := by
  have hr : Row wf (b + 1) 29 #[.slice A1 n1 c1, .int .i64 q, .int .i64 a, .bool st] := by
    rw [hwf]
    exact ((((Row.away hrr (p := ⟨b, 0, none⟩) (by show b + 1 ≠ b; omega) _).put 0 _).put 1 _).put 2 _).put 3 _
  refine ⟨hr.cell 0 rfl, hr.cell 1 rfl, hr.cell 2 rfl, hr.cell 3 rfl, ?_, ?_⟩
  · rw [hwf]
    have h1 : w0.heap.size ≤ (⟨b + 1, 0, none⟩ : Addr).block := by show w0.heap.size ≤ b + 1; omega
    exact ((((hE.setCell (p := ⟨b, 0, none⟩) hb _).setCell (p := ⟨b + 1, 0, none⟩) h1 _).setCell (p := ⟨b + 1, 1, none⟩) h1 _).setCell (p := ⟨b + 1, 2, none⟩) h1 _).setCell (p := ⟨b + 1, 3, none⟩) h1 _
  · rw [hwf]
    have hk : ∀ (g o : Nat), g < b + 2 → (Value.slice A1 n1 c1).ownBlock ≠ some (⟨g, o, none⟩ : Addr).block := fun g o hg hh => by
      have := hge _ hh
      have : b + 2 ≤ g := this
      omega
    exact owns_set (owns_set (owns_set (owns_set (owns_set ho (hk _ _ (by omega)) _) (hk _ _ (by omega)) _) (hk _ _ (by omega)) _) (hk _ _ (by omega)) _) (hk _ _ (by omega)) _
set_option maxRecDepth 100000 in
set_option maxHeartbeats 2000000 in
theorem rwithout_any (N : Nat → Prop) (A : Option Addr) (n c q a : Nat) (st : Bool) (R : List RE) (s : List UInt8) (w : World) (h : RS w N A n c R) (hN : ∀ k, N k → k < w.heap.size) :
    Calls Tryz.prog 87 #[rdisk A n c q a st, str s] w fun e w' => ∃ A1 n1 c1, e = .returned (rdisk A1 n1 c1 q a st) ∧ RS w' N A1 n1 c1 (withoutG RE.name s R) ∧ Ext w w' := by
  unfold rdisk str
  have hlen := h.len
  have hmany := h.many
  replace hlen := hide hlen
  go_enter Tryz.func87, Tryz.ntmps87
  go_wp2_with fail
  obtain ⟨W, hW⟩ : ∃ W, W = (w.alloc (.cells #[.slice A n c, .int .i64 q, .int .i64 a, .bool st] 29)).alloc (.cells #[.slice none 0 0, .int .i64 0, .int .i64 0, .bool false] 29) := ⟨_, rfl⟩
  rw [← hW]
  have hE : Ext w W := by rw [hW]; exact ((Ext.refl w).alloc _).alloc _
  have hWs : W.heap.size = w.heap.size + 2 := by rw [hW, size_alloc, size_alloc]
  have hd : Row W w.heap.size 29 #[.slice A n c, .int .i64 q, .int .i64 a, .bool st] := by rw [hW]; exact (Row.new w _ _).alloc _
  have hr2 : Row W (w.heap.size + 1) 29 #[.slice none 0 0, .int .i64 0, .int .i64 0, .bool false] := by
    have := Row.new (w.alloc (.cells #[.slice A n c, .int .i64 q, .int .i64 a, .bool st] 29)) 29 #[.slice none 0 0, .int .i64 0, .int .i64 0, .bool false]
    rw [size_alloc] at this
    rw [hW]
    exact this
  have hR := h.ext hE
  replace hW := hide hW
  replace hWs := hide hWs
  go_loopw [5, 6] (fun s5 s6 wr => ∃ (i n1 c1 : Nat) (A1 : Option Addr), s6 = .int .i64 i ∧ s5 = .slice A1 n1 c1 ∧ i ≤ n ∧ n1 ≤ i ∧ Hid (wr.ownsRow (w.heap.size + 2) 110 3 (.slice A1 n1 c1) n1 (rcells (withoutG RE.name s (R.take i)))) ∧ Below (w.heap.size + 2) W wr) (fun _ s6 _ => n - (intOf s6).toNat)
  case atStart => exact ⟨0, 0, 0, none, rfl, rfl, by omega, by omega, hide (World.ownsRow_nil _ _ _ _), Below.refl _ _⟩
  case round =>
    obtain ⟨i, n1, c1, A1, rfl, rfl, hi, hn1, hO, hB⟩ := hrel
    have hEr : Ext W wr := by
      have : Below W.heap.size W wr := by rw [hWs.out]; exact hB
      exact this
    have c0r : wr.cell? ⟨w.heap.size, 0, none⟩ = some (.slice A n c) := (hd.ext hEr).cell 0 rfl
    by_cases hin : i < n
    · obtain ⟨g, o, r, rfl, hr, k0, k1, k2⟩ := (hR.ext hEr).at_ hin
      unfold str at k0
      have htw := take_without R s i r hr
      replace hr := hide hr
      by_cases hs : r.name = s
      · have hb : (r.name == s) = true := by rw [hs]; exact beq_self_eq_true s
        have hb2 : (r.name != s) = false := by rw [hs]; simp
        rw [if_pos hs, List.append_nil] at htw
        have hO2 := hO.out
        rw [← htw] at hO2
        have hO3 := hide hO2
        replace htw := hide htw
        replace hs := hide hs
        clear hO2
        go_wp2_with fail
        go_roundw
        case rel => exact ⟨i + 1, n1, c1, A1, by go_num, rfl, by omega, by omega, hO3, hB⟩
        case measure => simp [intOf]; omega
      · have hb : (r.name == s) = false := beq_eq_false_iff_ne.2 hs
        have hb2 : (r.name != s) = true := bne_iff_ne.2 hs
        rw [if_neg hs] at htw
        have hO2 := hO.out
        have hsz : w.heap.size + 2 ≤ wr.heap.size := by rw [← hWs.out]; exact hEr.size
        have hge := own_ge hO2
        replace hge := hide hge
        replace htw := hide htw
        replace hs := hide hs
        go_wp2_with (at_builtin; refine wpList_appS (us := [.string ⟨r.name.toArray⟩, .slice r.A r.b.length r.c, .int .i64 r.sure]) (m := 1) elemF hO2 (.tmp 22) (.tmp 28) rfl rfl rfl rfl rfl (one_of rfl) (by omega) hsz (fun A2 c2 w3 ho3 hg3 hl3 => ?_))
        have ho4 : Hid (w3.ownsRow (w.heap.size + 2) 110 3 (.slice A2 (n1 + 1) c2) (n1 + 1) (rcells (withoutG RE.name s (R.take (i + 1))))) := hide (by
          rw [htw.out, rcells_append]
          exact ho3)
        have hB3 : Below (w.heap.size + 2) W w3 := hB.grown hg3 hsz hge.out
        go_roundw
        case rel => exact ⟨i + 1, n1 + 1, c2, A2, by go_num, rfl, by omega, by omega, ho4, hB3⟩
        case measure => simp [intOf]; omega
    · obtain rfl : i = n := by omega
      have hO2 := hO.out
      rw [List.take_of_length_le (by rw [← hlen.out]; exact Nat.le_refl _)] at hO2
      have hdr := hd.ext hEr
      have hrr := hr2.ext hEr
      have c1r : wr.cell? ⟨w.heap.size, 1, none⟩ = some (.int .i64 q) := hdr.cell 1 rfl
      have c2r : wr.cell? ⟨w.heap.size, 2, none⟩ = some (.int .i64 a) := hdr.cell 2 rfl
      have c3r : wr.cell? ⟨w.heap.size, 3, none⟩ = some (.bool st) := hdr.cell 3 rfl
      have fd0 := hdr.free 0
      have fr0 := hrr.free 0
      have fr1 := hrr.free 1
      have fr2 := hrr.free 2
      have fr3 := hrr.free 3
      have e0 : wr.cell? ⟨w.heap.size + 1, 0, none⟩ = some (.slice none 0 0) := hrr.cell 0 rfl
      have e1 : wr.cell? ⟨w.heap.size + 1, 1, none⟩ = some (.int .i64 0) := hrr.cell 1 rfl
      have e2 : wr.cell? ⟨w.heap.size + 1, 2, none⟩ = some (.int .i64 0) := hrr.cell 2 rfl
      have e3 : wr.cell? ⟨w.heap.size + 1, 3, none⟩ = some (.bool false) := hrr.cell 3 rfl
      replace hlen := hide hlen
      go_wp2_with fail
      have hge := own_ge hO2
      have hfin := rdisk_out hrr hO2 hge (hE.trans hEr) (Nat.le_refl _) (q := q) (a := a) (st := st)
      obtain ⟨wf, hwf⟩ : ∃ wf, wf = (((((wr.setCell ⟨w.heap.size, 0, none⟩ (.slice A1 n1 c1)).setCell ⟨w.heap.size + 1, 0, none⟩ (.slice A1 n1 c1)).setCell ⟨w.heap.size + 1, 1, none⟩ (.int .i64 q)).setCell ⟨w.heap.size + 1, 2, none⟩ (.int .i64 a)).setCell ⟨w.heap.size + 1, 3, none⟩ (.bool st)) := ⟨_, rfl⟩
      rw [← hwf] at hfin ⊢
      obtain ⟨z0, z1, z2, z3, hEf, hof⟩ := hfin
      refine bodyPost_ret (v := .agg #[.slice A1 n1 c1, .int .i64 q, .int .i64 a, .bool st]) (by simp [results, Tryz.results87, go_sem, z0, z1, z2, z3]) rfl ⟨A1, n1, c1, rfl, ?_⟩
      exact ⟨RS.of_own (w := w) hof (Nat.le_add_right _ 2) hN (fun r hr => (h.ok r (mem_without.1 hr).1).ext hEf) (Nat.le_trans (len_without_le _ _) (by rw [← h.len]; exact h.many)), hEf⟩
end Go.Proofs.YtohphanbnhiodaaGreat

/- loggiaref06: with. -/
namespace Go.Proofs.YtohphanbnhiodaaGreat
open Go.RowKit Go.Maps

/-- The end of a function that answers with a disk whose row of files has been made anew: b is the disk's own cell, r the answer's. -/
theorem rdisk_out2 {w0 wr : World} {b r base n1 c1 q a : Nat} {A1 : Option Addr} {st : Bool} {xs : List Value} {v0 v1 v2 v3 : Value} (hrr : Row wr r 29 #[v0, v1, v2, v3]) (ho : wr.ownsRow base 110 3 (.slice A1 n1 c1) n1 xs)
    (hge : ∀ k, (Value.slice A1 n1 c1).ownBlock = some k → k ≠ b ∧ k ≠ r) (hne : r ≠ b) (hE : Ext w0 wr) (hb : w0.heap.size ≤ b) (hbr : w0.heap.size ≤ r) {wf : World}
    (hwf : wf = (((((wr.setCell ⟨b, 0, none⟩ (.slice A1 n1 c1)).setCell ⟨r, 0, none⟩ (.slice A1 n1 c1)).setCell ⟨r, 1, none⟩ (.int .i64 q)).setCell ⟨r, 2, none⟩ (.int .i64 a)).setCell ⟨r, 3, none⟩ (.bool st)) := by rfl) :
    wf.cell? ⟨r, 0, none⟩ = some (.slice A1 n1 c1) ∧ wf.cell? ⟨r, 1, none⟩ = some (.int .i64 q) ∧ wf.cell? ⟨r, 2, none⟩ = some (.int .i64 a) ∧ wf.cell? ⟨r, 3, none⟩ = some (.bool st) ∧ Ext w0 wf ∧ wf.ownsRow base 110 3 (.slice A1 n1 c1) n1 xs := by
  have hr : Row wf r 29 #[.slice A1 n1 c1, .int .i64 q, .int .i64 a, .bool st] := by
    rw [hwf]
    exact ((((Row.away hrr (p := ⟨b, 0, none⟩) hne _).put 0 _).put 1 _).put 2 _).put 3 _
  refine ⟨hr.cell 0 rfl, hr.cell 1 rfl, hr.cell 2 rfl, hr.cell 3 rfl, ?_, ?_⟩
  · rw [hwf]
    exact ((((hE.setCell (p := ⟨b, 0, none⟩) hb _).setCell (p := ⟨r, 0, none⟩) hbr _).setCell (p := ⟨r, 1, none⟩) hbr _).setCell (p := ⟨r, 2, none⟩) hbr _).setCell (p := ⟨r, 3, none⟩) hbr _
  · rw [hwf]
    have hk1 : ∀ o : Nat, (Value.slice A1 n1 c1).ownBlock ≠ some (⟨b, o, none⟩ : Addr).block := fun o hh => (hge _ hh).1 rfl
    have hk2 : ∀ o : Nat, (Value.slice A1 n1 c1).ownBlock ≠ some (⟨r, o, none⟩ : Addr).block := fun o hh => (hge _ hh).2 rfl
    exact owns_set (owns_set (owns_set (owns_set (owns_set ho (hk1 _) _) (hk2 _) _) (hk2 _) _) (hk2 _) _) (hk2 _) _
/-- Where 'with' has come to: the row l behind the files t, is f in it? -/
def Ins (f : RE) (t l : List RE) (put : Bool) : Prop := if put then l = insG RE.name f t ∧ ∃ x ∈ t, f.name < x.name else l = t ∧ ∀ x ∈ t, ¬ f.name < x.name
theorem ins_append {f x : RE} : ∀ {t : List RE}, (∃ y ∈ t, f.name < y.name) → insG RE.name f (t ++ [x]) = insG RE.name f t ++ [x]
  | [], h => by obtain ⟨y, hy, _⟩ := h; cases hy
  | z :: t, h => by
    unfold insG
    rw [List.cons_append]
    by_cases hz : f.name < z.name
    · simp only [decide_eq_true hz, if_true, List.cons_append]
    · simp only [decide_eq_false hz, Bool.false_eq_true, if_false, List.cons_append]
      rw [ins_append]
      obtain ⟨y, hy, hlt⟩ := h
      rcases List.mem_cons.1 hy with h1 | h1
      · exact (hz (h1 ▸ hlt)).elim
      · exact ⟨y, h1, hlt⟩
theorem ins_at {f x : RE} : ∀ {t : List RE}, (∀ y ∈ t, ¬ f.name < y.name) → f.name < x.name → insG RE.name f (t ++ [x]) = t ++ [f] ++ [x]
  | [], _, h => by unfold insG; simp [h]
  | z :: t, h, hx => by
    unfold insG
    simp only [List.cons_append, decide_eq_false (h z (List.mem_cons_self ..)), Bool.false_eq_true, if_false]
    rw [ins_at (fun y hy => h y (List.mem_cons_of_mem _ hy)) hx]
theorem ins_none {f : RE} : ∀ {t : List RE}, (∀ y ∈ t, ¬ f.name < y.name) → insG RE.name f t = t ++ [f]
  | [], _ => rfl
  | z :: t, h => by
    unfold insG
    simp only [decide_eq_false (h z (List.mem_cons_self ..)), Bool.false_eq_true, if_false]
    rw [ins_none (fun y hy => h y (List.mem_cons_of_mem _ hy))]
    rfl
theorem Ins.later {f x : RE} {t l : List RE} (h : Ins f t l true) : Ins f (t ++ [x]) (l ++ [x]) true := by
  obtain ⟨h1, y, hy, hlt⟩ := h
  exact ⟨by rw [ins_append ⟨y, hy, hlt⟩, h1], y, List.mem_append_left _ hy, hlt⟩
theorem Ins.now {f x : RE} {t l : List RE} (h : Ins f t l false) (hx : f.name < x.name) : Ins f (t ++ [x]) (l ++ [f] ++ [x]) true := by
  obtain ⟨h1, h2⟩ := h
  exact ⟨by rw [ins_at h2 hx, h1], x, by simp, hx⟩
theorem Ins.past {f x : RE} {t l : List RE} (h : Ins f t l false) (hx : ¬ f.name < x.name) : Ins f (t ++ [x]) (l ++ [x]) false := by
  obtain ⟨h1, h2⟩ := h
  refine ⟨by rw [h1], fun y hy => ?_⟩
  rcases List.mem_append.1 hy with h3 | h3
  · exact h2 y h3
  · simp at h3; rw [h3]; exact hx
theorem Ins.len {f : RE} {t l : List RE} {b : Bool} (h : Ins f t l b) : l.length ≤ t.length + 1 := by
  cases b with
  | true => rw [h.1, len_ins]; exact Nat.le_refl _
  | false => rw [h.1]; omega
theorem take_one {α : Type} (R : List α) (i : Nat) (r : α) (h : R[i]? = some r) : R.take (i + 1) = R.take i ++ [r] := by
  obtain ⟨hi, hr⟩ := List.getElem?_eq_some_iff.1 h
  rw [List.take_succ_eq_append_getElem hi, hr]
set_option maxRecDepth 100000 in
set_option maxHeartbeats 4000000 in
theorem rwith_any (N : Nat → Prop) (A : Option Addr) (n c q a : Nat) (st : Bool) (R : List RE) (f : RE) (w : World) (h : RS w N A n c R) (hf : ROk w N f) (hN : ∀ k, N k → k < w.heap.size) (hcnt : (withG RE.name f R).length ≤ 1024) :
    Calls Tryz.prog 57 #[rdisk A n c q a st, f.agg] w fun e w' => ∃ A1 n1 c1, e = .returned (rdisk A1 n1 c1 q a st) ∧ RS w' N A1 n1 c1 (withG RE.name f R) ∧ Ext w w' := by
  obtain ⟨W, hW⟩ : ∃ W, W = ((w.alloc (.cells #[.slice A n c, .int .i64 q, .int .i64 a, .bool st] 29)).alloc (.cells #[str f.name, .slice f.A f.b.length f.c, .int .i64 f.sure] 110)).alloc (.cells #[.slice none 0 0, .int .i64 0, .int .i64 0, .bool false] 29) := ⟨_, rfl⟩
  have hE : Ext w W := by rw [hW]; exact (((Ext.refl w).alloc _).alloc _).alloc _
  have hWs : W.heap.size = w.heap.size + 3 := by rw [hW, size_alloc, size_alloc, size_alloc]
  have hd : Row W w.heap.size 29 #[.slice A n c, .int .i64 q, .int .i64 a, .bool st] := by rw [hW]; exact ((Row.new w _ _).alloc _).alloc _
  have hfr : Row W (w.heap.size + 1) 110 #[str f.name, .slice f.A f.b.length f.c, .int .i64 f.sure] := by
    have := Row.new (w.alloc (.cells #[.slice A n c, .int .i64 q, .int .i64 a, .bool st] 29)) 110 #[str f.name, .slice f.A f.b.length f.c, .int .i64 f.sure]
    rw [size_alloc] at this
    rw [hW]
    exact this.alloc _
  have hr2 : Row W (w.heap.size + 1 + 1) 29 #[.slice none 0 0, .int .i64 0, .int .i64 0, .bool false] := by
    have := Row.new ((w.alloc (.cells #[.slice A n c, .int .i64 q, .int .i64 a, .bool st] 29)).alloc (.cells #[str f.name, .slice f.A f.b.length f.c, .int .i64 f.sure] 110)) 29 #[.slice none 0 0, .int .i64 0, .int .i64 0, .bool false]
    rw [size_alloc, size_alloc] at this
    rw [hW]
    exact this
  obtain ⟨N2, hN2⟩ : ∃ N2 : Nat → Prop, N2 = fun k => N k ∨ (w.heap.size ≤ k ∧ k < w.heap.size + 3) := ⟨_, rfl⟩
  have hsub : ∀ k, k < w.heap.size → N2 k → N k := by
    intro k hk hn
    rw [hN2] at hn
    rcases hn with hn | hn
    · exact hn
    · omega
  have hN2s : ∀ k, N2 k → k < W.heap.size := by
    intro k hn
    rw [hN2] at hn
    rcases hn with hn | hn
    · have := hN k hn; omega
    · omega
  have hRW : RS W N2 A n c R := h.chg (Chg.of_ext hE (fun _ => False)) (fun _ _ h => h.elim) hsub
  have hwo := rwithout_any N2 A n c q a st R f.name W hRW hN2s
  have d0 : W.cell? ⟨w.heap.size, 0, none⟩ = some (.slice A n c) := hd.cell 0 rfl
  have d1 : W.cell? ⟨w.heap.size, 1, none⟩ = some (.int .i64 q) := hd.cell 1 rfl
  have d2 : W.cell? ⟨w.heap.size, 2, none⟩ = some (.int .i64 a) := hd.cell 2 rfl
  have d3 : W.cell? ⟨w.heap.size, 3, none⟩ = some (.bool st) := hd.cell 3 rfl
  have f0 : W.cell? ⟨w.heap.size + 1, 0, none⟩ = some (str f.name) := hfr.cell 0 rfl
  have hWx := hW.symm
  unfold rdisk str at hwo
  unfold str at hWx f0
  unfold rdisk RE.agg str
  replace hwo := hide hwo
  replace hWx := hide hWx
  clear hW
  replace hWs := hide hWs
  replace hcnt := hide hcnt
  go_enter Tryz.func57, Tryz.ntmps57
  go_wp2_with fail
  rw [hWx.out]
  go_wp2_with fail
  refine hwo.out.mono ?_
  rintro e w1 ⟨A1, n1, c1, rfl, hR1, hE1⟩
  have hd1 := hd.ext hE1
  have g0 : w1.cell? ⟨w.heap.size, 0, none⟩ = some (.slice A n c) := hd1.cell 0 rfl
  have g1 : w1.cell? ⟨w.heap.size, 1, none⟩ = some (.int .i64 q) := hd1.cell 1 rfl
  have g2 : w1.cell? ⟨w.heap.size, 2, none⟩ = some (.int .i64 a) := hd1.cell 2 rfl
  have g3 : w1.cell? ⟨w.heap.size, 3, none⟩ = some (.bool st) := hd1.cell 3 rfl
  have fd0 := hd1.free 0
  have fd1 := hd1.free 1
  have fd2 := hd1.free 2
  have fd3 := hd1.free 3
  go_upto_region 2 with (fail)
  obtain ⟨W1, hW1⟩ : ∃ W1, W1 = (((w1.setCell ⟨w.heap.size, 0, none⟩ (.slice A1 n1 c1)).setCell ⟨w.heap.size, 1, none⟩ (.int .i64 q)).setCell ⟨w.heap.size, 2, none⟩ (.int .i64 a)).setCell ⟨w.heap.size, 3, none⟩ (.bool st) := ⟨_, rfl⟩
  rw [← hW1]
  have hcW : Chg (fun k => k = w.heap.size) w1 W1 := by
    rw [hW1]
    exact (((Chg.of_set (S := fun k => k = w.heap.size) w1 (a := ⟨w.heap.size, 0, none⟩) _ rfl).trans (Chg.of_set (S := fun k => k = w.heap.size) _ (a := ⟨w.heap.size, 1, none⟩) _ rfl) fun _ _ h => h).trans (Chg.of_set (S := fun k => k = w.heap.size) _ (a := ⟨w.heap.size, 2, none⟩) _ rfl) fun _ _ h => h).trans (Chg.of_set (S := fun k => k = w.heap.size) _ (a := ⟨w.heap.size, 3, none⟩) _ rfl) fun _ _ h => h
  have hdW : Row W1 w.heap.size 29 #[.slice A1 n1 c1, .int .i64 q, .int .i64 a, .bool st] := by
    rw [hW1]
    exact (((hd1.put 0 _).put 1 _).put 2 _).put 3 _
  have hfW : Row W1 (w.heap.size + 1) 110 #[str f.name, .slice f.A f.b.length f.c, .int .i64 f.sure] := hcW.row (hfr.ext hE1) (by omega)
  have hrW : Row W1 (w.heap.size + 1 + 1) 29 #[.slice none 0 0, .int .i64 0, .int .i64 0, .bool false] := hcW.row (hr2.ext hE1) (by omega)
  have hRW1 : RS W1 N2 A1 n1 c1 (withoutG RE.name f.name R) := hR1.chg hcW (fun k _ hk => by rw [hN2, hk]; exact .inr ⟨Nat.le_refl _, by omega⟩) fun _ _ h => h
  have hEW1 : Ext w W1 := (hE.trans hE1).chg hcW fun i hi hh => by omega
  have hWsz : w.heap.size + 3 ≤ W1.heap.size := by rw [← hWs.out]; exact Nat.le_trans hE1.size hcW.size
  obtain ⟨R', hR'⟩ : ∃ R', R' = withoutG RE.name f.name R := ⟨_, rfl⟩
  rw [← hR'] at hRW1
  have hn1 := hRW1.len
  have hm1 := hRW1.many
  replace hn1 := hide hn1
  replace hR' := hide hR'
  clear hW1 hR1 g0 g1 g2 g3 fd0 fd1 fd2 fd3 d0 d1 d2 d3 f0 hd1 hRW
  go_wp2_with fail
  go_loopw [5, 6, 7] (fun s5 s6 s7 wr => ∃ (i n2 c2 : Nat) (A2 : Option Addr) (l : List RE) (put : Bool), s7 = .int .i64 i ∧ s5 = .slice A2 n2 c2 ∧ s6 = .bool put ∧ i ≤ n1 ∧ Hid ((put = true → n2 ≤ i + 1) ∧ (put = false → n2 ≤ i)) ∧ Hid (Ins f (R'.take i) l put) ∧ Hid (wr.ownsRow W1.heap.size 110 3 (.slice A2 n2 c2) n2 (rcells l)) ∧ Ext W1 wr) (fun _ _ s7 _ => n1 - (intOf s7).toNat)
  case atStart => exact ⟨0, 0, 0, none, [], false, rfl, rfl, rfl, by omega, hide ⟨fun _ => by omega, fun _ => by omega⟩, hide ⟨rfl, by simp⟩, hide (World.ownsRow_nil _ _ _ _), Ext.refl _⟩
  case round =>
    obtain ⟨i, n2, c2, A2, l, put, rfl, rfl, rfl, hi, hn2', hI, hO, hEr⟩ := hrel
    have c0r : wr.cell? ⟨w.heap.size, 0, none⟩ = some (.slice A1 n1 c1) := (hdW.ext hEr).cell 0 rfl
    have fr := hfW.ext hEr
    have f0r : wr.cell? ⟨w.heap.size + 1, 0, none⟩ = some (str f.name) := fr.cell 0 rfl
    have f1r : wr.cell? ⟨w.heap.size + 1, 1, none⟩ = some (.slice f.A f.b.length f.c) := fr.cell 1 rfl
    have f2r : wr.cell? ⟨w.heap.size + 1, 2, none⟩ = some (.int .i64 f.sure) := fr.cell 2 rfl
    unfold str at f0r
    by_cases hin : i < n1
    · obtain ⟨g, o, r, rfl, hr, kW0, kW1, kW2⟩ := hRW1.at_ hin
      unfold str at kW0
      have k0 := hEr.cell kW0
      have k1 := hEr.cell kW1
      have k2 := hEr.cell kW2
      have htk := take_one R' i r hr
      have hrs := (hRW1.ok r (List.mem_of_getElem? hr)).name
      have hlt := rless_any f.name r.name wr.drew hf.name hrs
      unfold str at hlt
      replace hr := hide hr
      replace htk := hide htk
      replace hlt := hide hlt
      have hO2 := hO.out
      have hsz := hEr.size
      cases put with
      | true =>
        have hn2 := hn2'.out.1 rfl
        have hI2 := hI.out.later (x := r)
        rw [← htk.out] at hI2
        replace hI2 := hide hI2
        have hO2d := World.ownsRow.drew hO2
        go_wp2_with fail
        refine wp_region_text follows (by kernel_rfl) (by kernel_rfl) (fun K hK => ?_)
        go_wp2_with fail
        refine ⟨by kernel_rfl, ?_⟩
        go_wp2_with (at_builtin; refine wpList_appS (us := [.string ⟨r.name.toArray⟩, .slice r.A r.b.length r.c, .int .i64 r.sure]) (m := 1) elemF hO2d (.tmp 36) (.tmp 42) rfl rfl rfl rfl rfl (one_of rfl) (by omega) hsz (fun A3 c3 w3 ho3 hg3 hl3 => ?_))
        have ho4 : Hid (w3.ownsRow W1.heap.size 110 3 (.slice A3 (n2 + 1) c3) (n2 + 1) (rcells (l ++ [r]))) := hide (by
          rw [rcells_append]
          exact ho3)
        have hE3 : Ext W1 w3 := hEr.drew.grown hg3 (own_ge hO2)
        go_roundw
        case rel => exact ⟨i + 1, n2 + 1, c3, A3, l ++ [r], true, by go_num, rfl, rfl, by omega, hide ⟨fun _ => by omega, nofun⟩, hI2, ho4, hE3⟩
        case measure => simp [intOf]; omega
      | false =>
        have hn2 := hn2'.out.2 rfl
        have hO2d := World.ownsRow.drew hO2
        by_cases hx : f.name < r.name
        · have hI2 := hI.out.now hx
          rw [← htk.out] at hI2
          replace hI2 := hide hI2
          have hlt2 := hlt.out
          rw [decide_eq_true hx] at hlt2
          replace hlt2 := hide hlt2
          replace hx := hide hx
          go_wp2_with fail
          refine wp_region_text follows (by kernel_rfl) (by kernel_rfl) (fun K hK => ?_)
          go_wp2_with fail
          refine hlt2.out.mono ?_
          rintro e w5 ⟨rfl, hE5⟩
          have hE5r : Ext wr w5 := (Ext.refl wr).drew.trans hE5
          have hE5W := hEr.trans hE5r
          have hO5 := hE5.owns hO2d
          have hsz5 := hE5W.size
          have c5 := hE5r.cell c0r
          have a5 := hE5r.cell f0r
          have b5 := hE5r.cell f1r
          have d5 := hE5r.cell f2r
          have hge := own_ge hO5
          replace hge := hide hge
          go_wp2_with fail
          refine ⟨by kernel_rfl, ?_⟩
          go_wp2_with (first | (at_builtin; refine wpList_appS (us := [.string ⟨f.name.toArray⟩, .slice f.A f.b.length f.c, .int .i64 f.sure]) (m := 1) elemF hO5 (.tmp 32) (.tmp 34) rfl rfl rfl rfl rfl (one_of rfl) (by omega) hsz5 (fun A3 c3 w3 ho3 hg3 hl3 => ?_); have hE3 : Ext W1 w3 := hE5W.grown hg3 hge.out; have hge3 := own_ge ho3; replace hge3 := hide hge3; have hsz3 := hE3.size; have m0 := hE3.cell kW0; have m1 := hE3.cell kW1; have m2 := hE3.cell kW2; have m3 : w3.cell? ⟨w.heap.size, 0, none⟩ = some (.slice (some ⟨g, o, none⟩) n1 c1) := (hdW.ext hE3).cell 0 rfl) | (at_builtin; refine wpList_appS (us := [.string ⟨r.name.toArray⟩, .slice r.A r.b.length r.c, .int .i64 r.sure]) (m := 1) elemF ho3 (.tmp 36) (.tmp 42) rfl rfl rfl rfl rfl (one_of rfl) (by omega) hsz3 (fun A4 c4 w4 ho4 hg4 hl4 => ?_)))
          have ho6 : Hid (w4.ownsRow W1.heap.size 110 3 (.slice A4 (n2 + 1 + 1) c4) (n2 + 1 + 1) (rcells (l ++ [f] ++ [r]))) := hide (by
            rw [rcells_append, rcells_append]
            exact ho4)
          have hE4 : Ext W1 w4 := hE3.grown hg4 hge3.out
          go_roundw
          case rel => exact ⟨i + 1, n2 + 1 + 1, c4, A4, l ++ [f] ++ [r], true, by go_num, rfl, rfl, by omega, hide ⟨fun _ => by omega, nofun⟩, hI2, ho6, hE4⟩
          case measure => simp [intOf]; omega
        · have hI2 := hI.out.past hx
          rw [← htk.out] at hI2
          replace hI2 := hide hI2
          have hlt2 := hlt.out
          rw [decide_eq_false hx] at hlt2
          replace hlt2 := hide hlt2
          replace hx := hide hx
          go_wp2_with fail
          refine wp_region_text follows (by kernel_rfl) (by kernel_rfl) (fun K hK => ?_)
          go_wp2_with fail
          refine hlt2.out.mono ?_
          rintro e w5 ⟨rfl, hE5⟩
          have hE5r : Ext wr w5 := (Ext.refl wr).drew.trans hE5
          have hE5W := hEr.trans hE5r
          have hO5 := hE5.owns hO2d
          have hsz5 := hE5W.size
          have c5 := hE5r.cell c0r
          have m0 := hE5W.cell kW0
          have m1 := hE5W.cell kW1
          have m2 := hE5W.cell kW2
          have hge := own_ge hO5
          replace hge := hide hge
          go_wp2_with fail
          refine ⟨by kernel_rfl, ?_⟩
          go_wp2_with (at_builtin; refine wpList_appS (us := [.string ⟨r.name.toArray⟩, .slice r.A r.b.length r.c, .int .i64 r.sure]) (m := 1) elemF hO5 (.tmp 36) (.tmp 42) rfl rfl rfl rfl rfl (one_of rfl) (by omega) hsz5 (fun A4 c4 w4 ho4 hg4 hl4 => ?_))
          have ho6 : Hid (w4.ownsRow W1.heap.size 110 3 (.slice A4 (n2 + 1) c4) (n2 + 1) (rcells (l ++ [r]))) := hide (by
            rw [rcells_append]
            exact ho4)
          have hE4 : Ext W1 w4 := hE5W.grown hg4 hge.out
          go_roundw
          case rel => exact ⟨i + 1, n2 + 1, c4, A4, l ++ [r], false, by go_num, rfl, rfl, by omega, hide ⟨nofun, fun _ => by omega⟩, hI2, ho6, hE4⟩
          case measure => simp [intOf]; omega
    · obtain rfl : i = n1 := by omega
      have hI2 := hI.out
      rw [List.take_of_length_le (by rw [← hn1.out]; exact Nat.le_refl _)] at hI2
      have hO2 := hO.out
      have hdr := hdW.ext hEr
      have hrr := hrW.ext hEr
      have c1r : wr.cell? ⟨w.heap.size, 1, none⟩ = some (.int .i64 q) := hdr.cell 1 rfl
      have c2r : wr.cell? ⟨w.heap.size, 2, none⟩ = some (.int .i64 a) := hdr.cell 2 rfl
      have c3r : wr.cell? ⟨w.heap.size, 3, none⟩ = some (.bool st) := hdr.cell 3 rfl
      have fd0 := hdr.free 0
      have fr0 := hrr.free 0
      have fr1 := hrr.free 1
      have fr2 := hrr.free 2
      have fr3 := hrr.free 3
      have e0 : wr.cell? ⟨w.heap.size + 1 + 1, 0, none⟩ = some (.slice none 0 0) := hrr.cell 0 rfl
      have e1 : wr.cell? ⟨w.heap.size + 1 + 1, 1, none⟩ = some (.int .i64 0) := hrr.cell 1 rfl
      have e2 : wr.cell? ⟨w.heap.size + 1 + 1, 2, none⟩ = some (.int .i64 0) := hrr.cell 2 rfl
      have e3 : wr.cell? ⟨w.heap.size + 1 + 1, 3, none⟩ = some (.bool false) := hrr.cell 3 rfl
      have hwit : withG RE.name f R = insG RE.name f R' := by rw [hR'.out]; rfl
      have hmem : ∀ x ∈ withG RE.name f R, ∀ wf, Ext w wf → ROk wf N x := fun x hx wf hwf => by
        rcases mem_with.1 hx with rfl | ⟨h1, _⟩
        · exact hf.ext hwf
        · exact (h.ok x h1).ext hwf
      have hgeN : ∀ k, k ≥ W1.heap.size → k ≠ w.heap.size ∧ k ≠ w.heap.size + 1 + 1 := fun k hk => ⟨by omega, by omega⟩
      replace hwit := hide hwit
      replace hmem := hide hmem
      replace hgeN := hide hgeN
      cases put with
      | true =>
        have hn2 := hn2'.out.1 rfl
        have hl : rcells l = rcells (withG RE.name f R) := by rw [hwit.out, hI2.1]
        rw [hl] at hO2
        replace hI2 := hide hI2
        replace hl := hide hl
        go_wp2_with fail
        have hfin := rdisk_out2 hrr hO2 (fun k hk => hgeN.out k (own_ge hO2 k hk)) (b := w.heap.size) (by omega) (hEW1.trans hEr) (Nat.le_refl _) (by omega) (q := q) (a := a) (st := st)
        obtain ⟨wf, hwf⟩ : ∃ wf, wf = (((((wr.setCell ⟨w.heap.size, 0, none⟩ (.slice A2 n2 c2)).setCell ⟨w.heap.size + 1 + 1, 0, none⟩ (.slice A2 n2 c2)).setCell ⟨w.heap.size + 1 + 1, 1, none⟩ (.int .i64 q)).setCell ⟨w.heap.size + 1 + 1, 2, none⟩ (.int .i64 a)).setCell ⟨w.heap.size + 1 + 1, 3, none⟩ (.bool st)) := ⟨_, rfl⟩
        rw [← hwf] at hfin ⊢
        obtain ⟨z0, z1, z2, z3, hEf, hof⟩ := hfin
        refine bodyPost_ret (v := .agg #[.slice A2 n2 c2, .int .i64 q, .int .i64 a, .bool st]) (by simp [results, Tryz.results57, go_sem, z0, z1, z2, z3]) rfl ⟨A2, n2, c2, rfl, ?_⟩
        exact ⟨RS.of_own (w := w) hof (by omega) hN (fun r hr => hmem.out r hr wf hEf) hcnt.out, hEf⟩
      | false =>
        have hn2 := hn2'.out.2 rfl
        have hl : rcells (l ++ [f]) = rcells (withG RE.name f R) := by rw [hwit.out, ins_none hI2.2, hI2.1]
        replace hI2 := hide hI2
        have hsz := hEr.size
        have hge := own_ge hO2
        replace hge := hide hge
        replace hl := hide hl
        go_wp2_with (at_builtin; refine wpList_appS (us := [.string ⟨f.name.toArray⟩, .slice f.A f.b.length f.c, .int .i64 f.sure]) (m := 1) elemF hO2 (.tmp 46) (.tmp 48) rfl rfl rfl rfl rfl (one_of rfl) (by omega) hsz (fun A3 c3 w3 ho3 hg3 hl3 => ?_); have hE3 : Ext W1 w3 := hEr.grown hg3 hge.out; have hd3 := hdW.ext hE3; have hr3 := hrW.ext hE3; have p0 := hd3.free 0; have p1 := hr3.free 0; have p2 := hr3.free 1; have p3 := hr3.free 2; have p4 := hr3.free 3; have t0 : w3.cell? ⟨w.heap.size, 0, none⟩ = some (.slice A1 i c1) := hd3.cell 0 rfl; have t1 : w3.cell? ⟨w.heap.size, 1, none⟩ = some (.int .i64 q) := hd3.cell 1 rfl; have t2 : w3.cell? ⟨w.heap.size, 2, none⟩ = some (.int .i64 a) := hd3.cell 2 rfl; have t3 : w3.cell? ⟨w.heap.size, 3, none⟩ = some (.bool st) := hd3.cell 3 rfl; have u0 : w3.cell? ⟨w.heap.size + 1 + 1, 0, none⟩ = some (.slice none 0 0) := hr3.cell 0 rfl; have u1 : w3.cell? ⟨w.heap.size + 1 + 1, 1, none⟩ = some (.int .i64 0) := hr3.cell 1 rfl; have u2 : w3.cell? ⟨w.heap.size + 1 + 1, 2, none⟩ = some (.int .i64 0) := hr3.cell 2 rfl; have u3 : w3.cell? ⟨w.heap.size + 1 + 1, 3, none⟩ = some (.bool false) := hr3.cell 3 rfl)
        have ho6 : w3.ownsRow W1.heap.size 110 3 (.slice A3 (n2 + 1) c3) (n2 + 1) (rcells (withG RE.name f R)) := by
          rw [← hl.out, rcells_append]
          exact ho3
        have hfin := rdisk_out2 hr3 ho6 (fun k hk => hgeN.out k (own_ge ho6 k hk)) (b := w.heap.size) (by omega) (hEW1.trans hE3) (Nat.le_refl _) (by omega) (q := q) (a := a) (st := st)
        obtain ⟨wf, hwf⟩ : ∃ wf, wf = (((((w3.setCell ⟨w.heap.size, 0, none⟩ (.slice A3 (n2 + 1) c3)).setCell ⟨w.heap.size + 1 + 1, 0, none⟩ (.slice A3 (n2 + 1) c3)).setCell ⟨w.heap.size + 1 + 1, 1, none⟩ (.int .i64 q)).setCell ⟨w.heap.size + 1 + 1, 2, none⟩ (.int .i64 a)).setCell ⟨w.heap.size + 1 + 1, 3, none⟩ (.bool st)) := ⟨_, rfl⟩
        rw [← hwf] at hfin ⊢
        obtain ⟨z0, z1, z2, z3, hEf, hof⟩ := hfin
        refine bodyPost_ret (v := .agg #[.slice A3 (n2 + 1) c3, .int .i64 q, .int .i64 a, .bool st]) (by simp [results, Tryz.results57, go_sem, z0, z1, z2, z3]) rfl ⟨A3, n2 + 1, c3, rfl, ?_⟩
        exact ⟨RS.of_own (w := w) hof (by omega) hN (fun r hr => hmem.out r hr wf hEf) hcnt.out, hEf⟩
end Go.Proofs.YtohphanbnhiodaaGreat

/- loggiaref06: List, SameNames. -/
namespace Go.Proofs.YtohphanbnhiodaaGreat
open Go.RowKit Go.Maps

def NamesPost (ns : List (List UInt8)) (w : World) (e : Ending) (w' : World) : Prop := ∃ A1 n1 c1, e = .returned (.slice A1 n1 c1) ∧ n1 = ns.length ∧ n1 ≤ 1024 ∧ Cells w' A1 (ns.map str) ∧ Ext w w'
set_option maxRecDepth 100000 in
set_option maxHeartbeats 1000000 in
theorem rlist_any (N : Nat → Prop) (A : Option Addr) (n c : Nat) (P : PD) (R : List RE) (w : World) (h : RS w N A n c R) (hP : R.map RE.pl = P.L) :
    Calls Tryz.prog 63 #[rdisk A n c P.quota P.armed P.stopped] w (NamesPost (listM P) w) := by
  obtain ⟨q, hq⟩ : ∃ q, q = P.quota := ⟨_, rfl⟩
  obtain ⟨a, ha⟩ : ∃ q, q = P.armed := ⟨_, rfl⟩
  obtain ⟨st, hst⟩ : ∃ q, q = P.stopped := ⟨_, rfl⟩
  have hm : listM P = if st then [] else R.map RE.name := by
    unfold listM
    rw [hst, ← hP, List.map_map]
    rfl
  rw [hm, ← hq, ← ha, ← hst]
  unfold rdisk
  obtain ⟨ns, hns⟩ : ∃ ns, ns = if st = true then [] else R.map RE.name := ⟨_, rfl⟩
  rw [← hns]
  replace hns := hide hns
  have hlen := h.len
  have hmany := h.many
  replace hlen := hide hlen
  replace hq := hide hq
  replace ha := hide ha
  replace hst := hide hst
  clear hm
  obtain ⟨W, hW⟩ : ∃ W, W = w.alloc (.cells #[.slice A n c, .int .i64 q, .int .i64 a, .bool st] 29) := ⟨_, rfl⟩
  have hE : Ext w W := by rw [hW]; exact (Ext.refl w).alloc _
  have hd : Row W w.heap.size 29 #[.slice A n c, .int .i64 q, .int .i64 a, .bool st] := by rw [hW]; exact Row.new w _ _
  have hR := h.ext hE
  have hWx := hide hW.symm
  clear hW
  go_enter Tryz.func63, Tryz.ntmps63
  go_wp2_with fail
  rw [hWx.out]
  go_loopw [3, 4] (fun s3 s4 wr => ∃ (i c1 : Nat) (A1 : Option Addr), s4 = .int .i64 i ∧ s3 = .slice A1 i c1 ∧ i ≤ n ∧ Hid (st = true → i = 0) ∧ Hid (wr.ownsRow W.heap.size 9 1 (.slice A1 i c1) i ((R.take i).map fun r => str r.name)) ∧ Ext W wr) (fun _ s4 _ => n - (intOf s4).toNat)
  case atStart => exact ⟨0, 0, none, rfl, rfl, by omega, hide (fun _ => rfl), hide (World.ownsRow_nil _ _ _ _), Ext.refl _⟩
  case round =>
    obtain ⟨i, c1, A1, rfl, rfl, hi, hsi, hO, hEr⟩ := hrel
    have c0r : wr.cell? ⟨w.heap.size, 0, none⟩ = some (.slice A n c) := (hd.ext hEr).cell 0 rfl
    have c3r : wr.cell? ⟨w.heap.size, 3, none⟩ = some (.bool st) := (hd.ext hEr).cell 3 rfl
    by_cases hin : i < n
    · cases st with
      | true =>
        obtain rfl := hsi.out rfl
        have fin : NamesPost ns w (.returned (.slice A1 0 c1)) wr := by
          rw [hns.out, if_pos rfl]
          exact ⟨A1, 0, c1, rfl, rfl, by omega, .inl rfl, hE.trans hEr⟩
        replace fin := hide fin
        go_wp2_with fail
        go_ret
        exact fin.out
      | false =>
        obtain ⟨g, o, r, rfl, hr, k0, k1, k2⟩ := (hR.ext hEr).at_ hin
        unfold str at k0
        have htk := take_one R i r hr
        replace hr := hide hr
        replace htk := hide htk
        have hO2 := hO.out
        have hsz := hEr.size
        go_wp2_with (at_builtin; refine wpList_appN (us := [.string ⟨r.name.toArray⟩]) elemS hO2 (.tmp 17) (.tmp 24) rfl rfl rfl rfl (one_of rfl) (by simp; omega) hsz (fun A3 c3 w3 ho3 hg3 hl3 => ?_))
        have ho4 : Hid (w3.ownsRow W.heap.size 9 1 (.slice A3 (i + 1) c3) (i + 1) ((R.take (i + 1)).map fun r => str r.name)) := hide (by
          rw [htk.out, List.map_append]
          exact ho3)
        have hE3 : Ext W w3 := hEr.grown hg3 (own_ge hO2)
        go_roundw
        case rel => exact ⟨i + 1, c3, A3, by go_num, rfl, by omega, hide nofun, ho4, hE3⟩
        case measure => simp [intOf]; omega
    · obtain rfl : i = n := by omega
      have hO2 := hO.out
      rw [List.take_of_length_le (by rw [← hlen.out]; exact Nat.le_refl _)] at hO2
      have fin : NamesPost ns w (.returned (.slice A1 i c1)) wr := by
        rw [hns.out]
        cases st with
        | true =>
          have := hsi.out rfl
          rw [if_pos rfl]
          exact ⟨A1, i, c1, rfl, this, hmany, .inl rfl, hE.trans hEr⟩
        | false =>
          rw [if_neg (by simp)]
          refine ⟨A1, i, c1, rfl, by rw [List.length_map]; exact hlen.out, hmany, ?_, hE.trans hEr⟩
          have := Cells.of_own hO2
          rw [List.map_map]
          exact this
      replace fin := hide fin
      go_wp2_with fail
      go_ret
      exact fin.out
set_option maxRecDepth 100000 in
set_option maxHeartbeats 1000000 in
theorem rsame_any (A B : Option Addr) (n m c c2 : Nat) (xs ys : List (List UInt8)) (w : World) (hn : n = xs.length) (hm : m = ys.length) (hA : Cells w A (xs.map str)) (hB : Cells w B (ys.map str)) (hn2 : n ≤ 1024) (hm2 : m ≤ 1024) :
    Calls Tryz.prog 64 #[.slice A n c, .slice B m c2] w fun e w' => e = .returned (.bool (decide (xs = ys))) ∧ Ext w w' := by
  replace hn := hide hn
  replace hm := hide hm
  by_cases hnm : n = m
  · subst hnm
    go_enter Tryz.func64, Tryz.ntmps64
    go_wp2_with fail
    go_loopw [5] (fun s5 wr => ∃ i : Nat, s5 = .int .i64 i ∧ i ≤ n ∧ Hid (xs.take i = ys.take i) ∧ Ext w wr) (fun s5 _ => n - (intOf s5).toNat)
    case atStart => exact ⟨0, rfl, by omega, hide rfl, Ext.refl _⟩
    case round =>
      obtain ⟨i, rfl, hi, hs, hE⟩ := hrel
      by_cases hin : i < n
      · have hx : i < xs.length := by rw [← hn.out]; exact hin
        have hy : i < ys.length := by rw [← hm.out]; exact hin
        obtain ⟨g, o, rfl, hc⟩ := hA.at_ (by rw [List.length_map]; omega)
        obtain ⟨g2, o2, rfl, hc2⟩ := hB.at_ (by rw [List.length_map]; omega)
        obtain ⟨x, hxe⟩ : ∃ x, x = xs[i] := ⟨_, rfl⟩
        obtain ⟨y, hye⟩ : ∃ y, y = ys[i] := ⟨_, rfl⟩
        have k1 : wr.cell? ⟨g, o + i, none⟩ = some (str x) := hE.cell (hc i (str x) (by simp [hx, hxe]))
        have k2 : wr.cell? ⟨g2, o2 + i, none⟩ = some (str y) := hE.cell (hc2 i (str y) (by simp [hy, hye]))
        clear hc hc2
        unfold str at k1 k2
        have hnx := take_one xs i x (by rw [hxe]; exact List.getElem?_eq_getElem hx)
        have hny := take_one ys i y (by rw [hye]; exact List.getElem?_eq_getElem hy)
        replace hnx := hide hnx
        replace hny := hide hny
        by_cases hxy : x = y
        · have q1 : (x == y) = true := by rw [hxy]; exact beq_self_eq_true y
          have q2 : (x != y) = false := by rw [hxy]; simp
          have hs2 : Hid (xs.take (i + 1) = ys.take (i + 1)) := hide (by rw [hnx.out, hny.out, hs.out, hxy])
          replace hxe := hide hxe
          replace hye := hide hye
          replace hxy := hide hxy
          go_wp2_with fail
          refine wp_region_text follows (by kernel_rfl) (by kernel_rfl) (fun K hK => ?_)
          go_wp2_with fail
          refine ⟨by kernel_rfl, ?_⟩
          go_wp2_with fail
          go_roundw
          case rel => exact ⟨i + 1, by go_num, by omega, hs2, hE.drew⟩
          case measure => simp [intOf]; omega
        · have q1 : (x == y) = false := beq_eq_false_iff_ne.2 hxy
          have q2 : (x != y) = true := bne_iff_ne.2 hxy
          have hs2 : Hid (decide (xs = ys) = false) := hide (decide_eq_false fun h => hxy (by rw [hxe, hye]; simp [h]))
          replace hxe := hide hxe
          replace hye := hide hye
          replace hxy := hide hxy
          go_wp2_with fail
          refine wp_region_text follows (by kernel_rfl) (by kernel_rfl) (fun K hK => ?_)
          go_wp2_with fail
          refine ⟨by kernel_rfl, ?_⟩
          go_wp2_with fail
          go_ret
          rw [hs2.out]
          exact ⟨rfl, hE.drew⟩
      · have hs2 : Hid (decide (xs = ys) = true) := hide (decide_eq_true (by
          have h1 := hs.out
          rw [List.take_of_length_le (by rw [← hn.out]; omega), List.take_of_length_le (by rw [← hm.out]; omega)] at h1
          exact h1))
        go_wp2_with fail
        go_ret
        rw [hs2.out]
        exact ⟨rfl, hE⟩
  · have hs2 : Hid (decide (xs = ys) = false) := hide (decide_eq_false fun h => hnm (by rw [hn.out, hm.out, h]))
    have q1 : ((n : Int) == m) = false := beq_eq_false_iff_ne.2 (by omega)
    have q2 : ((n : Int) != m) = true := bne_iff_ne.2 (by omega)
    go_enter Tryz.func64, Tryz.ntmps64
    go_wp2_with fail
    go_ret
    rw [hs2.out]
    exact ⟨rfl, Ext.refl _⟩
end Go.Proofs.YtohphanbnhiodaaGreat

/- loggiaref06: call, New, Arm. -/
namespace Go.Proofs.YtohphanbnhiodaaGreat
open Go.RowKit Go.Maps

set_option maxRecDepth 100000 in
set_option maxHeartbeats 1000000 in
theorem rcall_any (A : Option Addr) (n c q a : Nat) (w : World) (ha : a ≤ 9223372036854775807) :
    Calls Tryz.prog 56 #[rdisk A n c q a false] w fun e w' => e = .returned (.tuple #[rdisk A n c q (a - 1) (decide (a = 1)), .bool (decide (a = 1))]) ∧ Ext w w' := by
  unfold rdisk
  by_cases h0 : a = 0
  · subst h0
    go_enter Tryz.func56, Tryz.ntmps56
    go_wp2_with fail
    exact bodyPost_ret (v := .tuple #[.agg #[.slice A n c, .int .i64 q, .int .i64 0, .bool false], .bool false]) (by simp [results, Tryz.results56, go_sem]) rfl ⟨rfl, ((Ext.refl w).alloc _).alloc _⟩
  · by_cases h1 : a = 1
    · subst h1
      go_enter Tryz.func56, Tryz.ntmps56
      go_wp2_with fail
      go_region
      go_wp2_with fail
      exact bodyPost_ret (v := .tuple #[.agg #[.slice A n c, .int .i64 q, .int .i64 0, .bool true], .bool true]) (by simp [results, Tryz.results56, go_sem]) rfl ⟨rfl, (((Ext.refl w).alloc _).alloc _).drew⟩
    · obtain ⟨k, rfl⟩ : ∃ k, a = k + 2 := ⟨a - 2, by omega⟩
      have hd : decide (k + 2 = 1) = false := decide_eq_false (by omega)
      have hk : k + 2 - 1 = k + 1 := rfl
      rw [hd, hk]
      clear hd hk h0 h1
      go_enter Tryz.func56, Tryz.ntmps56
      go_wp2_with fail
      go_region
      go_wp2_with fail
      have hk1 : ((k : Int) + 2 - 1) = ((k + 1 : Nat) : Int) := by omega
      rw [hk1]
      exact bodyPost_ret (v := .tuple #[.agg #[.slice A n c, .int .i64 q, .int .i64 ((k + 1 : Nat) : Int), .bool false], .bool false]) (by simp [results, Tryz.results56, go_sem]) rfl ⟨rfl, (((Ext.refl w).alloc _).alloc _).drew⟩
set_option maxRecDepth 100000 in
theorem rnew_no (q : Int) (w : World) (hq : q < 0) :
    Calls Tryz.prog 5 #[.int .i64 q] w fun e w' => e = .returned (.tuple #[rdisk none 0 0 0 0 false, .int .i64 1]) ∧ Ext w w' := by
  go_enter Tryz.func5, Tryz.ntmps5
  go_wp2_with fail
  exact bodyPost_ret (v := .tuple #[.agg #[.slice none 0 0, .int .i64 0, .int .i64 0, .bool false], .int .i64 1]) (by simp [results, Tryz.results5, go_sem]) rfl ⟨rfl, (Ext.refl w).alloc _⟩
set_option maxRecDepth 100000 in
theorem rnew_yes (q : Nat) (w : World) :
    Calls Tryz.prog 5 #[.int .i64 q] w fun e w' => e = .returned (.tuple #[rdisk none 0 0 q 0 false, .int .i64 0]) ∧ Ext w w' := by
  go_enter Tryz.func5, Tryz.ntmps5
  go_wp2_with fail
  exact bodyPost_ret (v := .tuple #[.agg #[.slice none 0 0, .int .i64 q, .int .i64 0, .bool false], .int .i64 0]) (by simp [results, Tryz.results5, go_sem]) rfl ⟨rfl, (Ext.refl w).alloc _⟩
set_option maxRecDepth 100000 in
theorem rarm_any (A : Option Addr) (n c q a : Nat) (st : Bool) (k : Int) (w : World) :
    Calls Tryz.prog 22 #[rdisk A n c q a st, .int .i64 k] w fun e w' => e = .returned (rdisk A n c q k.toNat st) ∧ Ext w w' := by
  unfold rdisk
  have hmx : (max k 0 : Int) = (k.toNat : Nat) := by omega
  have hmy : (max 0 k : Int) = (k.toNat : Nat) := by omega
  replace hmx := hide hmx
  replace hmy := hide hmy
  go_enter Tryz.func22, Tryz.ntmps22
  go_wp2_with fail
  all_goals
    first | rw [hmx.out] | rw [hmy.out]
    exact bodyPost_ret (v := .agg #[.slice A n c, .int .i64 q, .int .i64 (k.toNat : Nat), .bool st]) (by simp [results, Tryz.results22, go_sem]) rfl ⟨rfl, ((Ext.refl w).alloc _).alloc _⟩
end Go.Proofs.YtohphanbnhiodaaGreat

