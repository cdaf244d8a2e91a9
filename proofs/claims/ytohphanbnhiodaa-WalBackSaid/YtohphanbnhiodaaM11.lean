/- loggia/event: Encode. -/
import Derived.Test.YtohphanbnhiodaaM10
import Derived.Test.YtohphanbnhiodaaM05
import Derived.Test.YtohphanbnhiodaaM06
import Derived.Deep.RegionHeld3
set_option linter.unusedSimpArgs false
set_option linter.unusedVariables false
namespace Go.Proofs.Ytohphanbnhiodaa
open Go.RowKit

/-- What Encode answers. -/
def EncP (w : World) (bt : Bt) (e : Ending) (w' : World) : Prop := Ext w w' ∧ ((checkB bt = 0 ∧ ∃ A c, e = .returned (.tuple #[.slice A (encB bt).length c, .int .i64 0]) ∧ Buf w' w.heap.size 5 A (encB bt).length c ((encB bt).map B8)) ∨ (checkB bt ≠ 0 ∧ e = .returned (.tuple #[.slice none 0 0, .int .i64 (checkB bt : Int)])))
theorem putEs_take {es : List Ev} {i : Nat} {e : Ev} (h : es[i]? = some e) : putEs (es.take (i + 1)) = putEs (es.take i) ++ putE e := by
  unfold putEs
  rw [take_one2 h, List.flatMap_append]
  simp
theorem putEs_take_len {es : List Ev} (h : ∀ e ∈ es, I64ok' e.at_ ∧ checkE e.fs = 0) (i : Nat) : (putEs (es.take i)).length ≤ 100000 * es.length := by
  have h1 := putEs_len (es := es.take i) fun e he => h e (List.mem_of_mem_take he)
  have h2 : ∀ {gs : List Ev}, (∀ e ∈ gs, I64ok' e.at_ ∧ checkE e.fs = 0) → sizeEs gs ≤ 90000 * gs.length := by
    intro gs
    induction gs with
    | nil => intro _; simp [sizeEs]
    | cons e gs ih =>
      intro h
      have h1 := ih fun x hx => h x (by simp [hx])
      have h2 := sizeE_le (h e (by simp)).2
      have h5 : sizeEs (e :: gs) = sizeE e + sizeEs gs := by unfold sizeEs; rw [List.map_cons, List.sum_cons]
      rw [h5, List.length_cons]
      omega
  have h3 := h2 (gs := es.take i) fun e he => h e (List.mem_of_mem_take he)
  have h4 : (es.take i).length ≤ es.length := by rw [List.length_take]; omega
  omega
set_option maxRecDepth 100000 in
set_option maxHeartbeats 4000000 in
theorem encode_any (bc : BtC) (w : World) (h : bc.Ok w) (ha : ∀ x ∈ bc.l, I64ok' x.e.at_) : Calls Try.prog 35 #[bc.val] w fun en w' => EncP w bc.bt en w' := by
  have hck0 := fun W (hE : Ext w W) => ckbatch_any bc W (h.ext hE)
  unfold EncP
  obtain ⟨seq, l, A, c⟩ := bc
  obtain ⟨hev, hmany, hsq⟩ := h
  unfold BtC.val BtC.bt at *
  simp only at hev hmany hsq ha hck0 ⊢
  obtain ⟨Z, hZ⟩ : ∃ Z, Z = checkB ⟨seq, l.map (·.e)⟩ := ⟨_, rfl⟩
  have hB := @checkB_ok ⟨seq, l.map (·.e)⟩
  simp only [List.length_map] at hB
  rw [← hZ] at hck0 hB ⊢
  obtain ⟨L, hL⟩ : ∃ L, L = l.map (·.e) := ⟨_, rfl⟩
  have haL : ∀ e ∈ L, I64ok' e.at_ := fun e he => by rw [hL] at he; obtain ⟨x, hx, rfl⟩ := List.mem_map.1 he; exact ha x hx
  have hLn : L.length = l.length := by rw [hL, List.length_map]
  rw [← hL] at hB ⊢
  obtain ⟨n, hn⟩ : ∃ n, n = l.length := ⟨_, rfl⟩
  rw [← hn] at hmany hck0 hB hLn ⊢
  obtain ⟨W, hW⟩ : ∃ W, W = w.alloc (.cells #[.int .i64 seq, .slice A n c] 50) := ⟨_, rfl⟩
  have hEW : Ext w W := by rw [hW]; exact (Ext.refl w).alloc _
  obtain ⟨b, hb⟩ : ∃ b, b = w.heap.size := ⟨_, rfl⟩
  have hr : Row W b 50 #[.int .i64 seq, .slice A n c] := by rw [hW, hb]; exact Row.new w _ _
  have y0 : W.cell? ⟨b, 0, none⟩ = some (.int .i64 seq) := hr.cell 0 rfl
  have y1 : W.cell? ⟨b, 1, none⟩ = some (.slice A n c) := hr.cell 1 rfl
  have hck := hide (hck0 W hEW)
  replace hn := hide hn
  replace hL := hide hL
  replace hW := hide hW
  replace hb := hide hb
  replace hZ := hide hZ
  clear hck0
  by_cases hz0 : Z = 0
  case neg =>
    have hz0' : ¬ (Z : Int) = 0 := by omega
    clear hB
    go_enter Try.func35, Try.ntmps35
    go_wp2_with fail
    rw [← hW.out]
    refine hck.out.mono ?_
    rintro en w1 ⟨rfl, hE1⟩
    go_wp2_with fail
    go_ret2
    exact ⟨hEW.trans hE1, .inr ⟨hz0, rfl⟩⟩
  case pos =>
    subst hz0
    obtain ⟨hn1, hn64, hckL, _, hs1, hs2⟩ := hB rfl
    have hall : ∀ e ∈ L, I64ok' e.at_ ∧ checkE e.fs = 0 := fun e he => ⟨haL e he, hckL e he⟩
    obtain ⟨q, hq⟩ : ∃ q, q = seq.toNat := ⟨_, rfl⟩
    have hqs : (q : Int) = seq := by omega
    have hwq : IntKind.u64.wrap seq = (q : Int) := by rw [← hqs]; exact wrap_u64 (by omega)
    have hwn := wrap_u64 (m := n) (by omega)
    have hql := vb_le10 (n := q) (by omega)
    have hnl := vb_le10 (n := n) (by omega)
    obtain ⟨L1, hL1⟩ : ∃ L1, L1 = vb q := ⟨_, rfl⟩
    obtain ⟨L2, hL2⟩ : ∃ L2, L2 = L1 ++ vb n := ⟨_, rfl⟩
    have hl1 : L1.length ≤ 10 := by rw [hL1]; exact hql
    have hl2 : L2.length ≤ 20 := by rw [hL2, List.length_append]; omega
    have henc : Hid (encB ⟨seq, L⟩ = L2 ++ putEs L) := hide (by unfold encB; simp only; rw [hLn, ← hq, hL2, hL1])
    have htl := putEs_take_len hall
    rw [hLn] at htl
    have hp1 : ∀ x, (x.cell? ⟨b, 0, none⟩ = some (.int .i64 seq) ∧ x.cell? ⟨b, 1, none⟩ = some (.slice A n c) ∧ Ext W x) → Calls Try.prog 57 #[.slice none 0 0, .int .u64 (q : Int)] x fun e y => ∃ A1 c1, e = .returned (.slice A1 L1.length c1) ∧ Own8 y w.heap.size A1 L1.length c1 L1 ∧ (y.cell? ⟨b, 0, none⟩ = some (.int .i64 seq) ∧ y.cell? ⟨b, 1, none⟩ = some (.slice A n c) ∧ Ext W y) := fun x ⟨h0, h1, hE⟩ =>
      (put_any none 0 0 q [] x rfl (.inl rfl) (fun _ => rfl) (by omega) (by omega)).mono fun e y hy => by
        obtain ⟨A1, c1, he, hb1, hEy⟩ := NewB.own hy (hEW.trans hE).size
        rw [List.nil_append, ← hL1] at he hb1
        exact ⟨A1, c1, he, hb1, hEy.cell h0, hEy.cell h1, hE.trans hEy⟩
    have hp2 : ∀ x A1 c1, Own8 x w.heap.size A1 L1.length c1 L1 → (x.cell? ⟨b, 0, none⟩ = some (.int .i64 seq) ∧ x.cell? ⟨b, 1, none⟩ = some (.slice A n c) ∧ Ext W x) → Calls Try.prog 57 #[.slice A1 L1.length c1, .int .u64 (n : Int)] x fun e y => ∃ A2 c2, e = .returned (.slice A2 L2.length c2) ∧ Own8 y w.heap.size A2 L2.length c2 L2 ∧ (y.cell? ⟨b, 0, none⟩ = some (.int .i64 seq) ∧ y.cell? ⟨b, 1, none⟩ = some (.slice A n c) ∧ Ext W y) := fun x A1 c1 hb1 ⟨h0, h1, hE⟩ =>
      (put_any A1 L1.length c1 n L1 x rfl hb1.2.cells hb1.nil_ (by omega) (by omega)).mono fun e y hy => by
        obtain ⟨A2, c2, he, hb2, hEy⟩ := NewB.own hy (hEW.trans hE).size
        rw [← hL2] at he hb2
        exact ⟨A2, c2, he, hb2, hEy.cell h0, hEy.cell h1, hE.trans hEy⟩
    have hS : ∀ x, Ext W x → x.drew.cell? ⟨b, 0, none⟩ = some (.int .i64 seq) ∧ x.drew.cell? ⟨b, 1, none⟩ = some (.slice A n c) ∧ Ext W x.drew := fun x hE => ⟨hE.drew.cell y0, hE.drew.cell y1, hE.drew⟩
    replace hp1 := hide hp1
    replace hp2 := hide hp2
    replace hS := hide hS
    replace hall := hide hall
    replace htl := hide htl
    replace hLn := hide hLn
    replace hqs := hide hqs
    clear hL1 hL2 hql hnl hckL haL hB hq
    go_enter Try.func35, Try.ntmps35
    go_wp2_with fail
    rw [← hW.out, ← hb.out]
    refine hck.out.mono ?_
    rintro en w1 ⟨rfl, hE1⟩
    have hS1 := hide (hS.out w1 hE1)
    go_wp2_with fail
    refine wp_region_held_drew (S := fun x => x.cell? ⟨b, 0, none⟩ = some (.int .i64 seq) ∧ x.cell? ⟨b, 1, none⟩ = some (.slice A n c) ∧ Ext W x) (by kernel_rfl) hS1.out (fun hHeld => ?_)
    refine wpAnyH_take (i := 0) (v := .pointer (some ⟨b, 0, none⟩)) rfl (by kernel_rfl) (by kernel_rfl) (by kernel_rfl) (fun _ _ _ h => h) (Or.inl ⟨by rfl, ?_⟩) (by assumption) ?_
    · intro w' hSw
      (try dsimp only at hSw)
      obtain ⟨z1, z2, z3⟩ := hSw
      go_simp
      try with_reducible rfl
      all_goals omega
    (try simp only [Act.put, List.setIfInBounds_toArray, List.set_cons_zero, List.set_cons_succ, List.getElem_toArray, List.getElem_cons_zero, List.getElem_cons_succ])
    refine wpAnyH_take (i := 1) (v := .int .i64 seq) rfl (by kernel_rfl) (by kernel_rfl) (by kernel_rfl) (fun _ _ _ h => h) (Or.inl ⟨by rfl, ?_⟩) (by assumption) ?_
    · intro w' hSw
      (try dsimp only at hSw)
      obtain ⟨z1, z2, z3⟩ := hSw
      go_simp
      try with_reducible rfl
      all_goals omega
    (try simp only [Act.put, List.setIfInBounds_toArray, List.set_cons_zero, List.set_cons_succ, List.getElem_toArray, List.getElem_cons_zero, List.getElem_cons_succ])
    refine wpAnyH_take (i := 2) (v := .int .u64 (q : Int)) rfl (by kernel_rfl) (by kernel_rfl) (by kernel_rfl) (fun _ _ _ h => h) (Or.inl ⟨by rfl, ?_⟩) (by assumption) ?_
    · intro w' hSw
      (try dsimp only at hSw)
      obtain ⟨z1, z2, z3⟩ := hSw
      go_simp
      try with_reducible rfl
      all_goals omega
    (try simp only [Act.put, List.setIfInBounds_toArray, List.set_cons_zero, List.set_cons_succ, List.getElem_toArray, List.getElem_cons_zero, List.getElem_cons_succ])
    refine wpAnyH_take (i := 4) (v := .pointer (some ⟨b, 1, none⟩)) rfl (by kernel_rfl) (by kernel_rfl) (by kernel_rfl) (fun _ _ _ h => h) (Or.inl ⟨by rfl, ?_⟩) (by assumption) ?_
    · intro w' hSw
      (try dsimp only at hSw)
      obtain ⟨z1, z2, z3⟩ := hSw
      go_simp
      try with_reducible rfl
      all_goals omega
    (try simp only [Act.put, List.setIfInBounds_toArray, List.set_cons_zero, List.set_cons_succ, List.getElem_toArray, List.getElem_cons_zero, List.getElem_cons_succ])
    refine wpAnyH_take (i := 5) (v := .slice A n c) rfl (by kernel_rfl) (by kernel_rfl) (by kernel_rfl) (fun _ _ _ h => h) (Or.inl ⟨by rfl, ?_⟩) (by assumption) ?_
    · intro w' hSw
      (try dsimp only at hSw)
      obtain ⟨z1, z2, z3⟩ := hSw
      go_simp
      try with_reducible rfl
      all_goals omega
    (try simp only [Act.put, List.setIfInBounds_toArray, List.set_cons_zero, List.set_cons_succ, List.getElem_toArray, List.getElem_cons_zero, List.getElem_cons_succ])
    refine wpAnyH_take (i := 6) (v := .int .i64 (n : Int)) rfl (by kernel_rfl) (by kernel_rfl) (by kernel_rfl) (fun _ _ _ h => h) (Or.inl ⟨by rfl, ?_⟩) (by assumption) ?_
    · intro w' hSw
      (try dsimp only at hSw)
      obtain ⟨z1, z2, z3⟩ := hSw
      go_simp
      try with_reducible rfl
      all_goals omega
    (try simp only [Act.put, List.setIfInBounds_toArray, List.set_cons_zero, List.set_cons_succ, List.getElem_toArray, List.getElem_cons_zero, List.getElem_cons_succ])
    refine wpAnyH_take (i := 7) (v := .int .u64 (n : Int)) rfl (by kernel_rfl) (by kernel_rfl) (by kernel_rfl) (fun _ _ _ h => h) (Or.inl ⟨by rfl, ?_⟩) (by assumption) ?_
    · intro w' hSw
      (try dsimp only at hSw)
      obtain ⟨z1, z2, z3⟩ := hSw
      go_simp
      try with_reducible rfl
      all_goals omega
    (try simp only [Act.put, List.setIfInBounds_toArray, List.set_cons_zero, List.set_cons_succ, List.getElem_toArray, List.getElem_cons_zero, List.getElem_cons_succ])
    refine wpAnyH_ready (rs := [3]) (by kernel_rfl) (by simp) ?_
    refine AllReadyH.cons rfl (fun K hK => ?_) AllReadyH.nil
    (first | go_at_call 57 | (go_simp; go_at_call 57)); (refine (hp1.out _ ‹_›).mono ?_; rintro en w3 ⟨A1, c1, rfl, hb1, hSc⟩)
    refine hK.out _ _ ?_ (fun hHeld1 => ?_)
    · exact hSc
    clear hK K
    (try simp only [Act.put, List.setIfInBounds_toArray, List.set_cons_zero, List.set_cons_succ, List.getElem_toArray, List.getElem_cons_zero, List.getElem_cons_succ])
    refine wpAnyH_ready (rs := [8]) (by kernel_rfl) (by simp) ?_
    refine AllReadyH.cons rfl (fun K hK => ?_) AllReadyH.nil
    (first | go_at_call 57 | (go_simp; go_at_call 57)); (refine (hp2.out _ _ _ hb1 hSc).mono ?_; rintro en w4 ⟨A2, c2, rfl, hb2, hSc2⟩)
    refine hK.out _ _ ?_ (fun hHeld2 => ?_)
    · exact hSc2
    clear hK K
    (try simp only [Act.put, List.setIfInBounds_toArray, List.set_cons_zero, List.set_cons_succ, List.getElem_toArray, List.getElem_cons_zero, List.getElem_cons_succ])
    refine wpAnyH_take (i := 9) (v := .slice A2 L2.length c2) rfl (by kernel_rfl) (by kernel_rfl) (by kernel_rfl) (fun _ _ _ h => h) (Or.inl ⟨by rfl, ?_⟩) (by assumption) ?_
    · intro w' hSw
      (try dsimp only at hSw)
      obtain ⟨z1, z2, z3⟩ := hSw
      go_simp
      try with_reducible rfl
      all_goals omega
    (try simp only [Act.put, List.setIfInBounds_toArray, List.set_cons_zero, List.set_cons_succ, List.getElem_toArray, List.getElem_cons_zero, List.getElem_cons_succ])
    refine wpAnyH_done (by kernel_rfl) ?_ _
    have hE4 := hide hSc2.2.2
    have y1' : w4.cell? ⟨b, 1, none⟩ = some (.slice A n c) := hSc2.2.1
    have hsz4 : w.heap.size ≤ w4.heap.size := (hEW.trans hE4.out).size
    replace hb2 := hide hb2
    clear hHeld hHeld1 hHeld2 hSc hSc2 hb1 hp1 hp2 hS hS1
    go_wp2_with fail
    go_loopw [5, 25] (fun s5 s25 wr => ∃ (i n4 c4 : Nat) (A4 : Option Addr) (K : List UInt8), s25 = .int .i64 (i : Int) ∧ s5 = .slice A4 n4 c4 ∧ i ≤ n ∧ n4 ≤ 10000000 ∧ Hid (K = L2 ++ putEs (L.take i)) ∧ Hid (Own8 wr w.heap.size A4 n4 c4 K) ∧ Hid (Ext w4 wr)) (fun _ s25 _ => n - (intOf s25).toNat)
    case atStart => exact ⟨0, L2.length, c2, A2, L2, rfl, rfl, by omega, by omega, hide (by simp [putEs]), hb2, hide (Ext.refl w4)⟩
    case round =>
      obtain ⟨i, n4, c4, A4, K, rfl, rfl, hi, hn4, hK, hb4, hE⟩ := hrel
      by_cases hin : i < n
      · obtain ⟨x, hx⟩ : ∃ x, l[i]? = some x := ⟨_, List.getElem?_eq_getElem (by rw [← hn.out]; exact hin)⟩
        have hxe : L[i]? = some x.e := by rw [hL.out, List.getElem?_map, hx]; rfl
        have hE0 := (hEW.trans hE4.out).trans hE.out
        have hxo := (hev.each x (List.mem_of_getElem? hx)).ext hE0
        have hxa := hall.out x.e (List.mem_of_getElem? hxe)
        obtain ⟨g, o, hA, k0, k1⟩ := ecells_at (hev.cells.ext hE0) hx
        have htk := putEs_take hxe
        obtain ⟨y, B, d⟩ := x
        simp only at hxe hxo hxa k0 k1 htk
        subst hA
        obtain ⟨Wf, hWf⟩ : ∃ Wf, Wf = wr.alloc (.cells #[.int .i64 y.at_, .slice B y.fs.length d] 55) := ⟨_, rfl⟩
        have hEf : Ext wr Wf := by rw [hWf]; exact (Ext.refl wr).alloc _
        have hKl : n4 = K.length := hb4.out.1
        have hpt := evput_any A4 n4 c4 K y B d Wf hKl (hb4.out.2.ext hEf).cells hb4.out.nil_ (by omega) (hxo.ext hEf) hxa.2 hxa.1
        obtain ⟨K6, hK6⟩ : ∃ K6, K6 = K ++ putE y := ⟨_, rfl⟩
        have hK62 : Hid (K6 = L2 ++ putEs (L.take (i + 1))) := hide (by rw [hK6, hK.out, htk, List.append_assoc])
        have hk6 : K6.length ≤ 10000000 := by
          rw [hK62.out, List.length_append]
          have := htl.out (i + 1)
          omega
        rw [← hK6] at hpt
        have hEf0 := hide (hE0.trans hEf)
        have hEfw := hide (hE.out.trans hEf)
        unfold Ev.val at hpt
        have hi0 : (0 : Int) ≤ i := by omega
        have hi1 : (i : Int) < n := by omega
        replace hpt := hide hpt
        replace hWf := hide hWf
        replace hKl := hide hKl
        clear hx hxe hK6 htk hE0
        go_wp2_with fail
        rw [← hWf.out]
        refine hpt.out.mono ?_
        rintro en w6 hy
        obtain ⟨A6, c6, rfl, hb6, hE6⟩ := NewB.own hy hEf0.out.size
        have hE46 := hide (hEfw.out.trans hE6)
        replace hb6 := hide hb6
        clear hy hE6
        go_wp2_with fail
        go_roundw
        case rel => exact ⟨i + 1, K6.length, c6, A6, K6, by go_num, rfl, by omega, by omega, hK62, hb6, hE46⟩
        case measure => simp [intOf]; omega
      · have hall2 : L.take i = L := List.take_of_length_le (by rw [hLn.out]; omega)
        have hKe : K = encB ⟨seq, L⟩ := by rw [hK.out, hall2, henc.out]
        obtain ⟨hbl, hbb⟩ := hb4.out
        subst hbl
        rw [hKe] at hbb
        have hEfin := hide ((hEW.trans hE4.out).trans hE.out)
        have hfin : ∃ A c, Ending.returned (.tuple #[.slice A4 K.length c4, .int .i64 0]) = .returned (.tuple #[.slice A (encB ⟨seq, L⟩).length c, .int .i64 0]) ∧ Buf wr w.heap.size 5 A (encB ⟨seq, L⟩).length c ((encB ⟨seq, L⟩).map B8) := ⟨A4, c4, by rw [hKe], hbb⟩
        replace hfin := hide hfin
        clear hbb hKe
        go_wp2_with fail
        go_ret2
        exact ⟨hEfin.out, .inl ⟨trivial, hfin.out⟩⟩
end Go.Proofs.Ytohphanbnhiodaa

/- loggia/wal: Writer.Append. -/
namespace Go.Proofs.Ytohphanbnhiodaa
open Go.RowKit Go.Maps

/-- The bytes of batches, one frame each, behind acc; or the first fault. -/
def appB : List Bt → List UInt8 → Except Nat (List UInt8)
  | [], acc => .ok acc
  | b :: l, acc => if checkB b = 0 then appB l (acc ++ frameL (encB b)) else .error (checkB b)
/-- What Append makes of the disk. -/
def AppP (base d : Nat) (F : Nat → Prop) (P : PD) (nm : List UInt8) (w : World) (m : Nat) (Z : Except Nat (List UInt8)) (e : Ending) (w' : World) : Prop := match Z with
  | .error k => e = .returned (.int .i64 (k : Int)) ∧ Ext w w'
  | .ok bs => if m = 0 then e = .returned (.int .i64 0) ∧ Ext w w' else ∃ wx, Ext w wx ∧ e = .returned (.int .i64 ((appendM P nm bs).2 : Int)) ∧ DNext base d F wx (appendM P nm bs).1 w'
theorem frameL_len (p : List UInt8) (h : p.length ≤ 100000) : (frameL p).length ≤ 100100 := by
  unfold frameL
  have h1 := vb_le10 (n := p.length) (by omega)
  rw [List.length_append, List.length_append, show (be4 (cnext 0 (vb p.length ++ p))).length = 4 from rfl]
  omega
theorem drop_oneB {l : List BtC} {i : Nat} {x : BtC} (h : l[i]? = some x) : l.drop i = x :: l.drop (i + 1) := by
  obtain ⟨hi, rfl⟩ := List.getElem?_eq_some_iff.1 h
  exact List.drop_eq_getElem_cons hi
set_option maxRecDepth 100000 in
set_option maxHeartbeats 4000000 in
theorem wappend_any (base b d n : Nat) (P : PD) (F : Nat → Prop) (nm : List UInt8) (l : List BtC) (A : Option Addr) (c : Nat) (w : World) (hw : WrR w b d n nm) (h : DS w base d P F) (hl : BsOk w A l) (hints : ∀ x ∈ l, ∀ y ∈ x.l, I64ok' y.e.at_) (hlen : l.length ≤ 1000)
    (hs : nm.length ≤ 9223372036854775807) (hbase : base ≤ w.heap.size) :
    Calls Try.prog 18 #[.pointer (some ⟨b, 0, none⟩), .slice A l.length c] w fun e w' => AppP base d F P nm w l.length (appB (l.map BtC.bt) []) e w' := by
  have hn := hide (wnone_any b d n nm w hw)
  obtain ⟨Z, hZ⟩ : ∃ Z, Z = appB (l.map BtC.bt) [] := ⟨_, rfl⟩
  rw [← hZ]
  obtain ⟨m, hm⟩ : ∃ m, m = l.length := ⟨_, rfl⟩
  rw [← hm] at hlen ⊢
  replace hm := hide hm
  replace hZ := hide hZ
  replace hw := hide hw
  replace hl := hide hl
  replace h := hide h
  go_enter Try.func18, Try.ntmps18
  go_wp2_with fail
  refine hn.out.mono ?_
  rintro e w1 ⟨rfl, rfl⟩
  go_wp2_with fail
  go_loopw [5, 7, 8, 9, 14] (fun s5 _ _ _ s14 wr => ∃ (i q cc : Nat) (C : Option Addr) (bs : List UInt8), s5 = .slice C q cc ∧ s14 = .int .i64 (i : Int) ∧ i ≤ m ∧ q ≤ i * 100100 ∧ Hid (q = bs.length) ∧ Hid (Z = appB ((l.drop i).map BtC.bt) bs) ∧ Hid (Buf wr w1.heap.size 5 C q cc (bs.map B8)) ∧ Hid (Ext w1 wr)) (fun _ _ _ _ s14 _ => m - (intOf s14).toNat)
  case atStart => exact ⟨0, 0, 0, none, [], rfl, rfl, by omega, by omega, hide rfl, hide hZ.out, hide (Buf.nil _ _ _), hide (Ext.refl _)⟩
  case round =>
    obtain ⟨i, q, cc, C, bs, rfl, rfl, hi, hq, hqb, hz, hbuf, hE⟩ := hrel
    by_cases him : i < m
    · obtain ⟨x, hx⟩ : ∃ x, l[i]? = some x := ⟨_, List.getElem?_eq_getElem (by have := hm.out; omega)⟩
      obtain ⟨g, o, hA, k0, k1⟩ := bcells_at (hl.out.ext hE.out).cells hx
      have hxm := List.mem_of_getElem? hx
      subst hA
      have hzz := hz.out
      rw [drop_oneB hx, List.map_cons, appB] at hzz
      have hxok := (hl.out.ext hE.out).each x hxm
      have hxi := hints x hxm
      obtain ⟨sq, xl, xA, xc⟩ := x
      simp only at k0 k1
      obtain ⟨w5, hw5⟩ : ∃ w5, w5 = wr.alloc (.cells #[.int .i64 sq, .slice xA xl.length xc] 50) := ⟨_, rfl⟩
      have hE5 : Ext wr w5 := by rw [hw5]; exact (Ext.refl wr).alloc _
      have henc := encode_any ⟨sq, xl, xA, xc⟩ w5 (hxok.ext hE5) hxi
      obtain ⟨bt, hbt⟩ : ∃ bt, bt = BtC.bt ⟨sq, xl, xA, xc⟩ := ⟨_, rfl⟩
      rw [← hbt] at henc hzz
      have hela : checkB bt = 0 → (encB bt).length ≤ 100000 := fun h => encB_len h (by
        rw [hbt]
        intro e he
        obtain ⟨y, hy, rfl⟩ := List.mem_map.1 he
        exact hxi y hy)
      unfold EncP BtC.val at henc
      simp only at henc
      obtain ⟨xn, hxn⟩ : ∃ xn, xn = xl.length := ⟨_, rfl⟩
      rw [← hxn] at henc k1 hw5
      replace hxn := hide hxn
      replace hbt := hide hbt
      replace henc := hide henc
      replace hw5 := hide hw5
      clear hx hxm hxok
      by_cases hck : checkB bt = 0
      · rw [if_pos hck] at hzz
        have hlb := hela hck
        replace hzz := hide hzz
        replace hlb := hide hlb
        clear hela
        go_wp2_with fail
        rw [← hw5.out]
        refine henc.out.mono ?_
        rintro e w6 ⟨hE6, ⟨_, A6, c6, rfl, hb6⟩ | ⟨hno, _⟩⟩
        case inr => exact absurd hck hno
        obtain ⟨p, hp⟩ : ∃ p, p = encB bt := ⟨_, rfl⟩
        have hlb' := hlb.out
        have hzz' := hzz.out
        rw [← hp] at hb6 hlb' hzz' ⊢
        replace hp := hide hp
        have hfl := frameL_len p hlb'
        have hbuf6 := hbuf.out.ext (hE5.trans hE6)
        have hput := fput_any C q cc bs A6 p.length c6 p w6 hbuf6.in8 hb6.in8 (by omega) (by omega)
        have hqn : (bs ++ frameL p).length = q + (frameL p).length := by rw [List.length_append, ← hqb.out]
        obtain ⟨bs2, hbs2⟩ : ∃ bs2, bs2 = bs ++ frameL p := ⟨_, rfl⟩
        rw [← hbs2] at hput hzz' hqn
        replace hbs2 := hide hbs2
        unfold PutP at hput
        replace hput := hide hput
        replace hzz' := hide hzz'
        have hE06 := hide (hE.out.trans (hE5.trans hE6))
        clear hzz hlb hck hbuf6 hb6
        go_wp2_with fail
        refine hput.out.mono ?_
        rintro e w7 ⟨A7, c7, rfl, hb7, hE7⟩
        go_wp2_with fail
        exact ⟨⟨i + 1, q + (frameL p).length, c7, A7, bs2, rfl, by go_num, by omega, by omega, hide hqn.symm, hide hzz'.out, hide (by rw [← hqn]; exact hb7.lower hE06.out.size), hide (hE06.out.trans hE7)⟩, by simp [intOf]; omega⟩
      · rw [if_neg hck] at hzz
        have hk0 : ¬ (checkB bt : Int) = 0 := by omega
        replace hzz := hide hzz
        clear hela
        go_wp2_with fail
        rw [← hw5.out]
        refine henc.out.mono ?_
        rintro e w6 ⟨hE6, ⟨hyes, _⟩ | ⟨_, rfl⟩⟩
        case inl => exact absurd hyes hck
        go_wp2_with fail
        go_ret
        rw [hzz.out]
        exact ⟨rfl, hE.out.trans (hE5.trans hE6)⟩
    · obtain rfl : i = m := by omega
      have hzz := hz.out
      rw [List.drop_of_length_le (by have := hm.out; omega)] at hzz
      unfold List.map appB at hzz
      replace hzz := hide hzz
      by_cases h0 : i = 0
      · have h0i : (i : Int) = 0 := by omega
        replace h0 := hide h0
        go_wp2_with fail
        go_ret
        rw [hzz.out]
        unfold AppP
        simp only
        rw [if_pos h0.out]
        exact ⟨rfl, hE.out⟩
      · have h0i : ¬ (i : Int) = 0 := by omega
        replace h0 := hide h0
        have hr := hw.out.ext hE.out
        have c0 := Row.cell hr 0 rfl
        have c1 := Row.cell hr 1 rfl
        have hap := append_any base d P F nm bs C q cc wr.drew ((h.out.ext hE.out).ext (Ext.refl wr).drew) hs hbuf.out.drew.in8.bytes (fun a ha hf => by
          have h1 := hbuf.out.base_le a ha
          have h2 := h.out.lt hf
          omega) hqb.out (by omega) (Nat.le_trans hbase hE.out.size)
        unfold str at hap
        obtain ⟨R, hR⟩ : ∃ R, R = appendM P nm bs := ⟨_, rfl⟩
        rw [← hR] at hap
        replace hap := hide hap
        replace hR := hide hR
        go_wp2_with fail
        refine wp_region_text follows (by kernel_rfl) (by kernel_rfl) (fun K hK => ?_)
        go_wp2_with fail
        refine hap.out.mono ?_
        rintro e w2 ⟨rfl, hN⟩
        go_wp2_with fail
        refine ⟨by kernel_rfl, ?_⟩
        go_wp2_with fail
        go_ret
        rw [hzz.out]
        unfold AppP
        simp only
        rw [if_neg h0.out, ← hR.out]
        exact ⟨wr.drew, hE.out.drew, rfl, hN⟩
end Go.Proofs.Ytohphanbnhiodaa

/- loggia/wal: Logs. -/
namespace Go.Proofs.Ytohphanbnhiodaa
open Go.RowKit Go.Maps

/-- The numbers of all logs' files. -/
def logsM (P : PD) : List Nat := (listM P).filterMap numW
def nats (l : List Nat) : List Value := l.map fun (k : Nat) => .int .i64 ((k : Nat) : Int)
set_option maxRecDepth 100000 in
theorem elemN : Elem Try.prog 40 3 1 8 := ⟨Try.underlying40, ⟨_, _, rfl, rfl, rfl, rfl, rfl⟩, by omega, by omega⟩
theorem fm_none {l : List (List UInt8)} {i : Nat} {s : List UInt8} (h : l[i]? = some s) (hn : numW s = none) : (l.take (i + 1)).filterMap numW = (l.take i).filterMap numW := by
  rw [take_one2 h, List.filterMap_append]
  simp [hn]
theorem fm_some {l : List (List UInt8)} {i k : Nat} {s : List UInt8} (h : l[i]? = some s) (hn : numW s = some k) : (l.take (i + 1)).filterMap numW = (l.take i).filterMap numW ++ [k] := by
  rw [take_one2 h, List.filterMap_append]
  simp [hn]
set_option maxRecDepth 100000 in
set_option maxHeartbeats 4000000 in
theorem logs_any (base d : Nat) (P : PD) (F : Nat → Prop) (w : World) (h : DS w base d P F) :
    Calls Try.prog 22 #[.pointer (some ⟨d, 0, none⟩)] w fun e w' => ∃ A c, e = .returned (.slice A (logsM P).length c) ∧ w'.ownsRow w.heap.size 3 1 (.slice A (logsM P).length c) (logsM P).length (nats (logsM P)) ∧ Ext w w' := by
  have hl := hide (list_any base d P F w h)
  obtain ⟨L, hL⟩ : ∃ L, L = listM P := ⟨_, rfl⟩
  unfold logsM
  rw [← hL] at hl ⊢
  replace hL := hide hL
  obtain ⟨Z, hZ⟩ : ∃ Z, Z = L.filterMap numW := ⟨_, rfl⟩
  rw [← hZ]
  replace hZ := hide hZ
  clear h
  go_enter Try.func22, Try.ntmps22
  go_wp2_with fail
  refine hl.out.mono ?_
  rintro e w1 ⟨A, n, c, rfl, hn, hcells, _, hn1, _, hE1⟩
  replace hn := hide hn
  replace hcells := hide hcells
  go_wp2_with fail
  go_loopw [3, 5, 6, 7, 11] (fun s3 _ _ _ s11 wr => ∃ (i q dd : Nat) (B : Option Addr) (outs : List Nat), s3 = .slice B q dd ∧ s11 = .int .i64 (i : Int) ∧ i ≤ n ∧ q ≤ i ∧ Hid (q = outs.length) ∧ Hid (outs = (L.take i).filterMap numW) ∧ Hid (wr.ownsRow w1.heap.size 3 1 (.slice B q dd) q (nats outs)) ∧ Hid (Ext w1 wr)) (fun _ _ _ _ s11 _ => n - (intOf s11).toNat)
  case atStart => exact ⟨0, 0, 0, none, [], rfl, rfl, by omega, by omega, hide rfl, hide rfl, hide ⟨rfl, .inl ⟨rfl, rfl⟩⟩, hide (Ext.refl _)⟩
  case round =>
    obtain ⟨i, q, dd, B, outs, rfl, rfl, hi, hqi, hq, ho, hown, hE⟩ := hrel
    by_cases hin : i < n
    · obtain ⟨s, hs⟩ : ∃ s, L[i]? = some s := ⟨_, List.getElem?_eq_getElem (by have := hn.out; omega)⟩
      obtain ⟨g, o, hA, hc⟩ := Cells.at_ (xs := L.map str) (hcells.out.ext hE.out) (by rw [List.length_map]; have := hn.out; omega)
      have hcell := hc i (str s) (by rw [List.getElem?_map, hs]; rfl)
      unfold str at hcell
      subst hA
      have hnum := number_any s wr
      cases hz : numW s with
      | none =>
        rw [hz] at hnum
        have hfm := hide (fm_none hs hz)
        replace hnum := hide hnum
        clear hc hs hz
        go_wp2_with fail
        refine hnum.out.mono ?_
        rintro e w2 ⟨hE2, rfl⟩
        go_wp2_with fail
        exact ⟨⟨i + 1, q, dd, B, outs, rfl, by go_num, by omega, by omega, hq, hide (by rw [hfm.out]; exact ho.out), hide (hE2.owns hown.out), hide (hE.out.trans hE2)⟩, by simp [intOf]; omega⟩
      | some k =>
        rw [hz] at hnum
        have hfm := hide (fm_some hs hz)
        replace hnum := hide hnum
        clear hc hs hz
        go_wp2_with fail
        refine hnum.out.mono ?_
        rintro e w2 ⟨hE2, rfl⟩
        have hown2 := hide (hE2.owns hown.out)
        have hb2 := (hE.out.trans hE2).size
        go_wp2_with (at_builtin; refine wpList_appZ (us := [.int .i64 (k : Int)]) (m := 1) elemN hown2.out rfl (.tmp 21) (.tmp 23) rfl rfl rfl rfl rfl (one_of rfl) (by omega) hb2 (fun A8 c8 w8 ho8 hg8 _ => ?_); replace ho8 := hide ho8; replace hg8 := hide hg8)
        refine ⟨⟨i + 1, q + 1, c8, A8, outs ++ [k], rfl, by go_num, by omega, by omega, hide (by rw [List.length_append, ← hq.out]; rfl), hide (by rw [hfm.out, ho.out]), hide (by unfold nats; rw [List.map_append]; exact ho8.out), hide ((hE.out.trans hE2).grown hg8.out fun k hk => (by obtain ⟨_, _, hb⟩ := owns_row hown2.out hk; exact hb))⟩, by simp [intOf]; omega⟩
    · obtain rfl : i = n := by omega
      have hoo := ho.out
      rw [List.take_of_length_le (by have := hn.out; omega), ← hZ.out] at hoo
      have hqz : q = Z.length := by rw [hq.out, hoo]
      replace hoo := hide hoo
      replace hqz := hide hqz
      go_wp2_with fail
      go_ret
      refine ⟨B, dd, by rw [← hqz.out]; rfl, ?_, hE1.trans hE.out⟩
      rw [← hqz.out, ← hoo.out]
      exact owns_lower hown.out hE1.size
end Go.Proofs.Ytohphanbnhiodaa

/- loggia/wal: Writer.Sync. -/
namespace Go.Proofs.Ytohphanbnhiodaa
open Go.RowKit Go.Maps

set_option maxRecDepth 100000 in
theorem wsync_any (base b d n : Nat) (P : PD) (F : Nat → Prop) (nm : List UInt8) (w : World) (hw : WrR w b d n nm) (h : DS w base d P F) (hs : nm.length ≤ 9223372036854775807) :
    Calls Try.prog 17 #[.pointer (some ⟨b, 0, none⟩)] w fun e w' => e = .returned (.int .i64 (if (syncM P nm).2 = 61 then 0 else ((syncM P nm).2 : Int))) ∧ ∃ wx, Ext w wx ∧ DNext base d F wx (syncM P nm).1 w' := by
  have hn := hide (wnone_any b d n nm w hw)
  have c0 := Row.cell hw 0 rfl
  have c1 := Row.cell hw 1 rfl
  have hsy := sync_any base d P F nm w.drew (h.ext (Ext.refl w).drew) hs
  unfold str at hsy
  obtain ⟨R, hR⟩ : ∃ R, R = syncM P nm := ⟨_, rfl⟩
  rw [← hR] at hsy ⊢
  replace hR := hide hR
  obtain ⟨P', k⟩ := R
  simp only at hsy ⊢
  replace hsy := hide hsy
  clear h
  by_cases hk : k = 61
  · rw [if_pos hk]
    have hki : (k : Int) = 61 := by omega
    replace hk := hide hk
    go_enter Try.func17, Try.ntmps17
    go_wp2_with fail
    refine hn.out.mono ?_
    rintro e w1 ⟨rfl, rfl⟩
    go_wp2_with fail; refine wp_region_text follows (by kernel_rfl) (by kernel_rfl) (fun K hK => ?_); go_wp2_with fail; refine hsy.out.mono ?_; rintro e w2 ⟨rfl, hN⟩; go_wp2_with fail; refine ⟨by kernel_rfl, ?_⟩; go_wp2_with fail; go_ret
    exact ⟨rfl, w1.drew, (Ext.refl w1).drew, hN⟩
  · rw [if_neg hk]
    have hki : ¬ (k : Int) = 61 := by omega
    replace hk := hide hk
    go_enter Try.func17, Try.ntmps17
    go_wp2_with fail
    refine hn.out.mono ?_
    rintro e w1 ⟨rfl, rfl⟩
    go_wp2_with fail; refine wp_region_text follows (by kernel_rfl) (by kernel_rfl) (fun K hK => ?_); go_wp2_with fail; refine hsy.out.mono ?_; rintro e w2 ⟨rfl, hN⟩; go_wp2_with fail; refine ⟨by kernel_rfl, ?_⟩; go_wp2_with fail; go_ret
    exact ⟨rfl, w1.drew, (Ext.refl w1).drew, hN⟩
end Go.Proofs.Ytohphanbnhiodaa

/- loggialaw15: one. -/
namespace Go.Proofs.Ytohphanbnhiodaa
open Go.RowKit

def oneB (n : Int) : Bt := ⟨n, [⟨5, [⟨[109, 115, 103], [97]⟩]⟩]⟩
theorem Row.owned {w : World} {g base k n : Nat} {t : TypeId} {cs : List Value} (h : Row w g t cs.toArray) (hl : cs.length = n * k) (hb : base ≤ g) (hc : n ≤ 1000000) : w.ownsRow base t k (.slice (some ⟨g, 0, none⟩) n n) n cs :=
  ⟨hl, .inr ⟨g, n, cs.toArray, rfl, hb, h, Nat.le_refl _, by unfold maxLen; omega, by simpa using hl, by rw [← hl]; simp⟩⟩
set_option maxRecDepth 100000 in
theorem one_any (n : Int) (w : World) : Calls Try.prog 26 #[.int .i64 n] w fun e w' => ∃ (g h : Nat), e = .returned (BtC.val ⟨n, [⟨⟨5, [⟨[109, 115, 103], [97]⟩]⟩, some ⟨h, 0, none⟩, 1⟩], some ⟨g, 0, none⟩, 1⟩) ∧ EvsOwn w' w.heap.size (some ⟨g, 0, none⟩) 1 [⟨⟨5, [⟨[109, 115, 103], [97]⟩]⟩, some ⟨h, 0, none⟩, 1⟩] ∧ Ext w w' := by
  go_enter Try.func26, Try.ntmps26
  go_wp2_with fail
  obtain ⟨w1, hw1⟩ : ∃ w1, w1 = w.alloc (.cells #[.int .i64 n, .slice (some ⟨w.heap.size + 1 + 1, 0, none⟩) 1 1] 50) := ⟨_, rfl⟩
  obtain ⟨w2, hw2⟩ : ∃ w2, w2 = w1.alloc (.cells #[.string ⟨#[109, 115, 103]⟩, .string ⟨#[97]⟩] 52) := ⟨_, rfl⟩
  obtain ⟨w3, hw3⟩ : ∃ w3, w3 = w2.alloc (.cells #[.int .i64 5, .slice (some ⟨w.heap.size + 1, 0, none⟩) 1 1] 55) := ⟨_, rfl⟩
  have hE1 : Ext w w1 := by rw [hw1]; exact (Ext.refl w).alloc _
  have hE2 : Ext w1 w2 := by rw [hw2]; exact (Ext.refl w1).alloc _
  have hE3 : Ext w2 w3 := by rw [hw3]; exact (Ext.refl w2).alloc _
  have hs1 : w1.heap.size = w.heap.size + 1 := by rw [hw1]; simp
  have hs2 : w2.heap.size = w.heap.size + 1 + 1 := by rw [hw2]; simp [hs1]
  have hr1 : Row w3 w.heap.size 50 #[.int .i64 n, .slice (some ⟨w.heap.size + 1 + 1, 0, none⟩) 1 1] := (show Row w1 _ _ _ by rw [hw1]; exact Row.new w _ _).ext (hE2.trans hE3)
  have hr2 : Row w3 (w.heap.size + 1) 52 #[.string ⟨#[109, 115, 103]⟩, .string ⟨#[97]⟩] := (show Row w2 _ _ _ by rw [hw2, ← hs1]; exact Row.new w1 _ _).ext hE3
  have hr3 : Row w3 (w.heap.size + 1 + 1) 55 #[.int .i64 5, .slice (some ⟨w.heap.size + 1, 0, none⟩) 1 1] := by rw [hw3, ← hs2]; exact Row.new w2 _ _
  have k0 : w3.cell? ⟨w.heap.size, 0, none⟩ = some (.int .i64 n) := hr1.cell 0 rfl
  have k1 : w3.cell? ⟨w.heap.size, 1, none⟩ = some (.slice (some ⟨w.heap.size + 1 + 1, 0, none⟩) 1 1) := hr1.cell 1 rfl
  rw [← hw1, ← hw2, ← hw3]
  clear hw1 hw2 hw3
  refine bodyPost_ret (v := .agg #[.int .i64 n, .slice (some ⟨w.heap.size + 1 + 1, 0, none⟩) 1 1]) (by simp [results, Try.results26, go_sem, k0, k1]) rfl ⟨w.heap.size + 1 + 1, w.heap.size + 1, rfl, ⟨Row.owned (cs := ecells [⟨⟨5, [⟨[109, 115, 103], [97]⟩]⟩, some ⟨w.heap.size + 1, 0, none⟩, 1⟩]) hr3 rfl (by omega) (by simp), fun x hx => ?_, fun x hx => ?_⟩, (hE1.trans hE2).trans hE3⟩
  · rw [List.mem_singleton.1 hx]
    exact ⟨Row.owned (cs := fcells [⟨[109, 115, 103], [97]⟩]) hr2 rfl (by omega) (by simp), by simp, by simp⟩
  · rw [List.mem_singleton.1 hx]
    unfold I64ok'
    simp
end Go.Proofs.Ytohphanbnhiodaa

/- 'append' as a step of a region that draws its order. -/
namespace Go.Proofs.Ytohphanbnhiodaa
open Go.RowKit

theorem step_app {P : Program} {ops : Array Oper} {o : Oper} {a : Act} {w : World} {K : Act → World → Prop} {Q : Exit → Act → World → Prop} {E0 : Prop} {t e size bytes : Nat} (E : Elem P t e size bytes) (hgd : o.guard = none)
    {base : Nat} {v : Value} {n : Nat} {xs : List Value} {A : Option Addr} {m c : Nat} {news : List Value} (hown : w.ownsRow base e size v n xs) (hr : Cells w A news) (s x : Operand)
    (ho : o.op = .call { callee := .builtin .append, args := #[s, x], argTypes := #[t, t] })
    (hs : a.eval s = v) (hx : a.eval x = .slice A m c) (hl : news.length = m * size) (h1 : ∀ u ∈ news, u.oneCell' = true) (hsz : n + m ≤ 4294967296) (hbase : base ≤ w.heap.size)
    (h : ∀ A1 c1 w', w'.ownsRow base e size (.slice A1 (n + m) c1) (n + m) (xs ++ news) → w.grownBy w' v.ownBlock → K (a.put o.dst (.slice A1 (n + m) c1)) w') :
    if Region.wanted o (yielded ops a.tmps) = true then Oper.wp P o a w K Q else E0 := by
  rw [if_pos (by simp [Region.wanted, hgd])]
  obtain ⟨A1, c1, w', hrun, h2, h3, h4⟩ := run_app (P := P) E w o.type hown (c := c) hr hl h1 hsz hbase
  unfold Oper.wp execOp
  simp only [ho, resolve, invoke, builtin, Sem.run_bind, Sem.run_pure, Result.andThen_ok, List.map_toArray, List.map_cons, List.map_nil, hs, hx, hrun]
  exact h A1 c1 w' h2 h3
theorem step_appZ {P : Program} {ops : Array Oper} {o : Oper} {a : Act} {w0 : World} {K : Act → World → Prop} {Q : Exit → Act → World → Prop} {E0 : Prop} {us : List Value} {T : TypeId} {t e size bytes m k : Nat} (E : Elem P t e size bytes) (hgd : o.guard = none)
    {base : Nat} {v : Value} {n : Nat} {xs : List Value} (hown : w0.ownsRow base e size v n xs) (hk : k = w0.heap.size) (s x : Operand)
    (ho : o.op = .call { callee := .builtin .append, args := #[s, x], argTypes := #[t, t] })
    (hs : a.eval s = v) (hx : a.eval x = .slice (some ⟨k, 0, none⟩) m m) (hl : us.length = m * size) (h1 : ∀ u ∈ us, u.oneCell' = true) (hsz : n + m ≤ 4294967296) (hbase : base ≤ w0.heap.size)
    (h : ∀ A1 c1 w', w'.ownsRow base e size (.slice A1 (n + m) c1) (n + m) (xs ++ us) → w0.grownBy w' v.ownBlock → K (a.put o.dst (.slice A1 (n + m) c1)) w') :
    if Region.wanted o (yielded ops a.tmps) = true then Oper.wp P o a (w0.alloc (.cells us.toArray T)) K Q else E0 := by
  subst hk
  refine step_app E hgd (((Ext.refl w0).alloc _).owns hown) (A := some ⟨w0.heap.size, 0, none⟩) (news := us) (.inr ⟨w0.heap.size, 0, rfl, fun i u hu => ?_⟩) s x ho hs hx hl h1 hsz (by simp; omega) fun A1 c1 w' h2 h3 => ?_
  · rw [Nat.zero_add, cell_of_row _ _ _ _ _ _ (heap_alloc_new w0 _)]
    simpa using hu
  · exact h A1 c1 w' h2 ⟨h3.os, h3.tape, h3.output, Nat.le_trans (by simp) h3.size, fun k hk hne => (h3.block k (by simp; omega) hne).trans (Below.heap_alloc w0 _ k hk)⟩
end Go.Proofs.Ytohphanbnhiodaa

/- loggia/wal: Scan. -/
namespace Go.Proofs.Ytohphanbnhiodaa
open Go.RowKit

def lenS : Value → Nat
  | .slice _ n _ => n
  | _ => 0
theorem okN_if {m : Nat} {q s : Int} : okN (if m = 0 then none else some q) s ↔ m = 0 ∨ s = q := by
  by_cases h : m = 0
  · rw [if_pos h]; simp [okN, h]
  · rw [if_neg h]; simp [okN, h]
theorem BtsOwn.snoc {w w1 w2 : World} {base c d : Nat} {A B : Option Addr} {read : List BtC} {x : BtC} (h : BtsOwn w base A c read) (hx : EvsOwn w base x.A x.c x.l ∧ x.l.length ≤ 64 ∧ 1 ≤ x.seq ∧ x.seq ≤ 1099511627776)
    (hE : Ext w w1) (hg : w1.grownBy w2 (Value.slice A read.length c).ownBlock) (ho : w2.ownsRow base 50 2 (.slice B (read.length + 1) d) (read.length + 1) (bcells read ++ x.cells)) : BtsOwn w2 base B d (read ++ [x]) := by
  have hl : (read ++ [x]).length = read.length + 1 := by rw [List.length_append]; rfl
  have ho1 := hE.owns h.own
  have hc : Chg (fun k => (Value.slice A read.length c).ownBlock = some k) w1 w2 := Chg.of_grown hg fun k _ hk => hk
  have hS : ∀ g t cs, Row w1 g t cs → t = 52 ∨ t = 55 → base ≤ g → ¬ (Value.slice A read.length c).ownBlock = some g := fun g t cs hr ht _ => by
    rcases ht with rfl | rfl
    · exact owns_unlike ho1 hr (by decide)
    · exact owns_unlike ho1 hr (by decide)
  refine ⟨by rw [hl, bcells_snoc]; exact ho, fun y hy => ?_⟩
  rcases List.mem_append.1 hy with hy | hy
  · exact ⟨((h.each y hy).1.ext hE).chg hc hS, (h.each y hy).2⟩
  · rw [List.mem_singleton.1 hy]
    exact ⟨(hx.1.ext hE).chg hc hS, hx.2⟩
set_option maxRecDepth 100000 in
set_option maxHeartbeats 4000000 in
theorem scan_any (A : Option Addr) (N c : Nat) (b : List UInt8) (w : World) (h : In8 w A N c b) (hle : N ≤ 1000000000) :
    Calls Try.prog 12 #[.slice A N c] w fun e w' => ScanP w (scanM b.length none b) e w' := by
  obtain rfl : N = b.length := h.len
  obtain ⟨Z, hZ⟩ : ∃ Z, Z = scanM b.length none b := ⟨_, rfl⟩
  rw [← hZ]
  have hZ0 := hide (show Z = aheadS [] 0 (scanM b.length none b) by rw [aheadS_nil]; exact hZ)
  replace h := hide h
  clear hZ
  go_enter Try.func12, Try.ntmps12
  go_wp2_with fail
  go_loopw [0, 5, 6, 7, 8, 9, 10, 11] (fun s0 s5 s6 s7 _ _ _ _ wr => ∃ (rr : List UInt8) (A3 : Option Addr) (c3 : Nat) (read : List BtC) (B : Option Addr) (d m nb k : Nat) (q : Int), s0 = .slice A3 rr.length c3 ∧ s5 = .slice B m d ∧ s6 = .int .i64 q ∧ s7 = .int .i64 (nb : Int) ∧ nb + rr.length ≤ 1000000000 ∧ m ≤ nb ∧ 0 ≤ q ∧ q ≤ 1099511627840 ∧ rr.length ≤ k ∧ Hid (m = read.length) ∧ Hid (Z = aheadS (read.map BtC.bt) nb (scanM k (if m = 0 then none else some q) rr)) ∧ Hid (BtsOwn wr w.heap.size B d read) ∧ Hid (In8 w A3 rr.length c3 rr) ∧ Hid (Ext w wr)) (fun s0 _ _ _ _ _ _ _ _ => lenS s0)
  case atStart => exact ⟨b, A, c, [], none, 0, 0, 0, b.length, 0, rfl, rfl, rfl, rfl, by omega, by omega, by omega, by omega, by omega, hide rfl, hide hZ0.out, hide (BtsOwn.nil _ _), hide h.out, hide (Ext.refl _)⟩
  case round =>
    obtain ⟨rr, A3, c3, read, B, d, m, nb, k, q, rfl, rfl, rfl, rfl, hnb, hmn, hq0, hq1, hk, hm, hz, hown, hin, hE⟩ := hrel
    by_cases hb0 : rr = []
    · subst hb0
      have hzz := hide (scan_end hz.out)
      go_wp2_with fail
      go_ret3
      exact ScanP.mk hE.out hzz.out hm.out hown.out
    · have hpos : (0 : Int) < rr.length := by have := List.length_pos_iff.2 hb0; omega
      have hgf := fget_any A3 rr.length c3 rr w wr hin.out hE.out (by omega)
      cases hg : getF rr with
      | error e =>
        have hzz := hide (scan_err hz.out hk hb0 hg)
        have he0 : ¬ (e : Int) = 0 := by have := getF_code hg; omega
        rw [hg] at hgf
        unfold GotF at hgf
        simp only at hgf
        replace hgf := hide hgf
        clear hg
        go_wp2_with fail
        refine hgf.out.mono ?_
        rintro en w1 ⟨hE1, rfl⟩
        go_wp2_with fail
        go_ret3
        exact ScanP.mk (hE.out.trans hE1) hzz.out hm.out (hown.out.ext hE1)
      | ok pr =>
        obtain ⟨p, r⟩ := pr
        have hsm := getF_small hg
        have hsp : p.length ≤ 1000000000 := by omega
        have hsi : (r.length : Int) ≤ rr.length := by omega
        rw [hg] at hgf
        unfold GotF at hgf
        simp only at hgf
        replace hgf := hide hgf
        cases hd : decB p with
        | none =>
          have hzz := hide (scan_dec hz.out hk hb0 hg hd)
          clear hg
          go_wp2_with fail
          refine hgf.out.mono ?_
          rintro en w1 ⟨hE1, P, cp, A4, c4, rfl, hip, hir⟩
          have hdc := decode_any P p.length cp p w1 w1 hip (Ext.refl _) hsp
          rw [hd] at hdc
          unfold DecP at hdc
          simp only at hdc
          replace hdc := hide hdc
          go_wp2_with fail
          refine hdc.out.mono ?_
          rintro en w2 ⟨hE2, rfl⟩
          go_wp2_with fail
          go_ret3
          exact ScanP.mk ((hE.out.trans (hE1.trans hE2)).alloc _) hzz.out hm.out (hown.out.ext ((hE1.trans hE2).trans ((Ext.refl w2).alloc _)))
        | some bt =>
          go_wp2_with fail
          refine hgf.out.mono ?_
          rintro en w1 ⟨hE1, P, cp, A4, c4, rfl, hip, hir⟩
          have hdc := decode_any P p.length cp p w1 w1 hip (Ext.refl _) hsp
          rw [hd] at hdc
          unfold DecP at hdc
          simp only at hdc
          replace hdc := hide hdc
          go_wp2_with fail
          refine hdc.out.mono ?_
          rintro en w2 ⟨hE2, l, B4, d4, hes, rfl, hev, hl64, hs1, hs2⟩
          obtain ⟨sq, es⟩ := bt
          simp only at hes hs1 hs2 ⊢
          obtain ⟨j, hj⟩ : ∃ j, j = l.length := ⟨_, rfl⟩
          rw [← hj] at hl64 ⊢
          obtain ⟨w5, hw5⟩ : ∃ w5, w5 = w2.alloc (.cells #[.int .i64 sq, .slice B4 j d4] 50) := ⟨_, rfl⟩
          have hE25 : Ext w2 w5 := by rw [hw5]; exact (Ext.refl w2).alloc _
          have hr5 : Row w5 w2.heap.size 50 #[.int .i64 sq, .slice B4 j d4] := by rw [hw5]; exact Row.new w2 _ _
          obtain ⟨g, hgg⟩ : ∃ g, g = w2.heap.size := ⟨_, rfl⟩
          rw [← hgg] at hr5
          have hEr5 := hE1.trans (hE2.trans hE25)
          have hE05 := hE.out.trans hEr5
          have hown5 := hown.out.ext hEr5
          have hx : EvsOwn w5 w.heap.size B4 d4 l ∧ l.length ≤ 64 ∧ 1 ≤ sq ∧ sq ≤ 1099511627776 := ⟨(hev.lower (Nat.le_trans hE.out.size hE1.size)).ext hE25, by omega, hs1, hs2⟩
          replace hj := hide hj
          have hbt : BtC.bt ⟨sq, l, B4, d4⟩ = ⟨sq, es⟩ := by unfold BtC.bt; simp only; rw [hes]
          have x0 := hr5.cell 0 rfl
          have x1 := hr5.cell 1 rfl
          have hwg := hr5.lt
          replace hdc := hide hdc
          replace hev := hide hev
          replace hes := hide hes
          by_cases hs : okN (if m = 0 then none else some q) sq
          · have hzz := scan_step hz.out hk hb0 hg hd hs
            simp only at hzz
            rw [okN_if] at hs
            have hq' : m = 0 ∨ (0 < m ∧ sq = q) := by omega
            have hesl : es.length = j := by rw [hes.out, List.length_map]; exact hj.out.symm
            have hnx : (if m + 1 = 0 then none else some (sq + (j : Int))) = some (sq + (j : Int)) := if_neg (by omega)
            rw [hesl, ← hbt] at hzz
            have hown5o : w5.ownsRow w.heap.size 50 2 (.slice B m d) m (bcells read) := by have := hown5.own; rw [← hm.out] at this; exact this
            have hblk : ∀ k, (Value.slice B m d).ownBlock = some k → k < g := fun k hk => by
              have ho2 := (hown.out.ext (hE1.trans hE2)).own
              rw [← hm.out] at ho2
              obtain ⟨cs, hrr, _⟩ := owns_row ho2 hk
              rw [hgg]
              exact hrr.lt
            have hbase5 : w.heap.size ≤ w5.heap.size := hE05.size
            have hS0 : w5.drew.cell? ⟨g, 0, none⟩ = some (.int .i64 sq) ∧ w5.drew.cell? ⟨g, 1, none⟩ = some (.slice B4 j d4) := ⟨x0, x1⟩
            have hEa : Ext w5.drew (w5.drew.alloc (.cells #[.int .i64 sq, .slice B4 j d4] 50)) := (Ext.refl _).alloc _
            have hSa : (w5.drew.alloc (.cells #[.int .i64 sq, .slice B4 j d4] 50)).cell? ⟨g, 0, none⟩ = some (.int .i64 sq) ∧ (w5.drew.alloc (.cells #[.int .i64 sq, .slice B4 j d4] 50)).cell? ⟨g, 1, none⟩ = some (.slice B4 j d4) := ⟨hEa.cell x0, hEa.cell x1⟩
            have hgr : ∀ w8, w5.drew.grownBy w8 (Value.slice B m d).ownBlock → w8.cell? ⟨g, 0, none⟩ = some (.int .i64 sq) ∧ w8.cell? ⟨g, 1, none⟩ = some (.slice B4 j d4) := fun w8 hg8 => by
              have hr8 := Row.grown (w := w5.drew) hr5.drew hg8 (fun e => by
                have := hblk _ e.symm
                omega)
              exact ⟨hr8.cell 0 rfl, hr8.cell 1 rfl⟩
            have hzz2 := hzz
            replace hzz := hide hzz
            replace hx := hide hx
            replace hr5 := hide hr5
            replace hown5 := hide hown5
            replace hE05 := hide hE05
            replace hgr := hide hgr
            replace hSa := hide hSa
            replace hS0 := hide hS0
            replace hown5o := hide hown5o
            have hsq64 : sq + (j : Int) ≤ 1099511627840 := by have := hj.out; omega
            have hmle : m + 1 ≤ 1000000000 := by omega
            rw [hw5, hgg] at x0
            clear hg hd hs hdc hgf x1 hzz2 hnx hblk hEa
            have hown5d := hide ((Ext.refl w5).drew.owns hown5o.out)
            have hbase5d : w.heap.size ≤ w5.drew.heap.size := hbase5
            rcases hq' with h0 | ⟨hmp, rfl⟩
            case' inl =>
              have h0i : ¬ (0 : Int) < m := by omega
              clear h0
              go_wp2_with fail
            case' inr =>
              have h0i : (0 : Int) < m := by omega
              clear hmp
              go_wp2_with fail
            all_goals
              rw [← hw5, ← hgg]
              replace hw5 := hide hw5
              replace hgg := hide hgg
              clear x0
              go_region_held3 (fun x => x.cell? ⟨g, 0, none⟩ = some (.int .i64 sq) ∧ x.cell? ⟨g, 1, none⟩ = some (.slice B4 j d4)) (first | exact hS0.out | exact hSa.out | exact hgr.out _ ‹_›) (first | (refine step_appZ (us := [.int .i64 sq, .slice B4 j d4]) (m := 1) elemBt rfl hown5d.out rfl (.tmp 46) (.tmp 48) rfl rfl rfl rfl (one_of rfl) (by omega) hbase5d (fun A8 c8 w8 ho8 hg8 => ?_)))
              go_wp2_with fail
              obtain rfl : m = read.length := hm.out
              obtain rfl : j = l.length := hj.out
              have hwr : IntKind.i64.wrap (sq + (l.length : Int)) = sq + (l.length : Int) := by
                simp [IntKind.wrap, IntKind.bits, IntKind.signed]
                omega
              refine ⟨⟨r, A4, c4, read ++ [⟨sq, l, B4, d4⟩], A8, c8, read.length + 1, nb + (rr.length - r.length), k - 1, sq + (l.length : Int), rfl, rfl, by rw [hwr], by rw [show (nb : Int) + ((rr.length : Int) - (r.length : Int)) = ((nb + (rr.length - r.length) : Nat) : Int) by omega], by omega, by omega, by omega, by omega, by omega, hide (by rw [List.length_append]; rfl), hide (by rw [if_neg (by omega), List.map_append]; exact hzz.out), hide (BtsOwn.snoc (x := ⟨sq, l, B4, d4⟩) hown5.out hx.out (Ext.refl w5).drew hg8 ho8), hide hir, hide (hE05.out.drew.grown hg8 fun k hk => (by obtain ⟨_, _, hb⟩ := owns_row hown5d.out hk; exact hb))⟩, by simp [lenS]; omega⟩
          · have hzz := hide (scan_seq hz.out hk hb0 hg hd hs)
            rw [okN_if] at hs
            have hmp : (0 : Int) < m := by omega
            have hsq : ¬ sq = q := fun h => hs (.inr h)
            rw [hw5, hgg] at x0
            replace hx := hide hx
            replace hr5 := hide hr5
            replace hown5 := hide hown5
            replace hE05 := hide hE05
            clear hg hd hs hdc hgf x1
            go_wp2_with fail
            rw [← hw5]
            go_ret3
            exact ScanP.mk hE05.out hzz.out hm.out hown5.out
end Go.Proofs.Ytohphanbnhiodaa

/- loggiaref04: Get. -/
namespace Go.Proofs.Ytohphanbnhiodaa
open Go.RowKit

set_option maxRecDepth 100000 in
set_option maxHeartbeats 4000000 in
theorem rfget_any (A : Option Addr) (n c : Nat) (l : List UInt8) (w0 w : World) (h : In8 w0 A n c l) (hw : Ext w0 w) (hle : n ≤ 1000000000) :
    Calls Try.prog 29 #[.slice A n c] w fun e w' => GotF w0 w (getF l) e w' := by
  have hg := rget_any A n c l w0 w h hw hle
  have hln := hide h.len
  obtain ⟨Z, hZ⟩ : ∃ Z, Z = getF l := ⟨_, rfl⟩
  rw [← hZ]
  unfold getF at hZ
  cases hv : getV 0 l with
  | error k =>
    rw [hv] at hg hZ
    simp only at hZ
    rcases getV_code l 0 k hv with rfl | rfl
    · rw [if_pos rfl] at hZ
      replace hZ := hide hZ
      replace hg := hide hg
      clear h hv
      go_enter Try.func29, Try.ntmps29
      go_wp2_with fail
      refine hg.out.mono ?_
      rintro e w1 ⟨hE1, rfl⟩
      go_wp2_with fail
      go_ret3
      exact GotF.no hE1 hZ.out
    · rw [if_neg (by omega)] at hZ
      replace hZ := hide hZ
      replace hg := hide hg
      clear h hv
      go_enter Try.func29, Try.ntmps29
      go_wp2_with fail
      refine hg.out.mono ?_
      rintro e w1 ⟨hE1, rfl⟩
      go_wp2_with fail
      go_ret3
      exact GotF.no hE1 hZ.out
  | ok p =>
    obtain ⟨m, r⟩ := p
    have hm64 := getV_lt64 hv
    have hrl := getV_less hv
    obtain ⟨hd, hhd, hhq⟩ := getV_other l 0 m r [] hv
    have hpre : l.length - r.length = hd.length := by rw [hhd, List.length_append]; omega
    rw [hv] at hg hZ
    simp only at hZ
    unfold Got at hg
    simp only at hg
    replace hg := hide hg
    clear hv hhq
    by_cases hbig : 16777216 < m
    · rw [if_pos hbig] at hZ
      replace hZ := hide hZ
      have hb' : (16777216 : Int) < m := by omega
      clear h
      go_enter Try.func29, Try.ntmps29
      go_wp2_with fail
      refine hg.out.mono ?_
      rintro e w1 ⟨hE1, A1, c1, rfl, hi1⟩
      go_wp2_with fail
      go_ret3
      exact GotF.no hE1 hZ.out
    · rw [if_neg hbig] at hZ
      have hb' : ¬ (16777216 : Int) < m := by omega
      have hwm : IntKind.i64.wrap (m : Int) = (m : Int) := by
        simp [IntKind.wrap, IntKind.bits, IntKind.signed]
        omega
      by_cases hsh : r.length < 4 + m
      · rw [if_pos hsh] at hZ
        replace hZ := hide hZ
        clear h
        by_cases hs4 : r.length < 4
        · have hs' : (r.length : Int) < 4 := by omega
          go_enter Try.func29, Try.ntmps29
          go_wp2_with fail
          refine hg.out.mono ?_
          rintro e w1 ⟨hE1, A1, c1, rfl, hi1⟩
          go_wp2_with fail
          go_ret3
          exact GotF.no hE1 hZ.out
        · have hs' : ¬ (r.length : Int) < 4 := by omega
          have hs2 : (r.length : Int) - 4 < (m : Int) := by omega
          have hrb : r.length ≤ 1000000000 := by have := hln.out; omega
          go_enter Try.func29, Try.ntmps29
          go_wp2_with fail
          refine hg.out.mono ?_
          rintro e w1 ⟨hE1, A1, c1, rfl, hi1⟩
          go_wp2_with fail
          go_ret3
          exact GotF.no hE1 hZ.out
      · rw [if_neg hsh] at hZ
        have hs' : ¬ (r.length : Int) < 4 := by omega
        have hs2 : ¬ (r.length : Int) - 4 < (m : Int) := by omega
        obtain ⟨hhr, hhi⟩ := h.headk .i64 (k := l.length - r.length) (by have := hln.out; omega) (z := (n : Int) - (r.length : Int)) (by have := hln.out; omega)
        rw [hpre] at hhr hhi
        have hrn : r.length ≤ n := by have := hln.out; omega
        have hrn2 : r.length ≤ 1000000000 := by omega
        replace hZ := hide hZ
        replace hhi := hide hhi
        replace hpre := hide hpre
        replace hhd := hide hhd
        clear h hrl
        go_enter Try.func29, Try.ntmps29
        go_wp2_with fail
        refine hg.out.mono ?_
        rintro e w1 ⟨hE1, A1, c1, rfl, hi1⟩
        obtain ⟨A2, c2, hpr, hpi⟩ := hi1.subk .i64 .i64 (fr := 4) (k := m) (by omega) (z0 := 4) (z := 4 + (m : Int)) rfl rfl
        obtain ⟨A3, c3, htr, hti⟩ := hi1.fromk .i64 (fr := 4 + m) (by omega) (z := 4 + (m : Int)) (by omega)
        have hE0 := hw.trans hE1
        have hEa : Ext w1 (w1.alloc (.cells #[] 5)) := (Ext.refl w1).alloc _
        have hby : Buf (w1.alloc (.cells #[] 5)) w1.heap.size 5 (some ⟨w1.heap.size, 0, none⟩) 0 0 [] := buf_new w1 [] 5 (by simp)
        have hs5 := hEa.size
        have hpl : ((r.drop 4).take m).length = m := by rw [List.length_take, List.length_drop]; omega
        have hhl : (l.take hd.length).length = hd.length := by rw [List.length_take, hhd.out, List.length_append]; omega
        have hhi1 := hhi.out.ext (hE0.trans hEa)
        have hpi1 := hpi
        obtain ⟨hh, hhhd⟩ : ∃ hh, hh = l.take hd.length := ⟨_, rfl⟩
        obtain ⟨pl, hpld⟩ : ∃ pl, pl = (r.drop 4).take m := ⟨_, rfl⟩
        have hz2 := hZ.out
        rw [hpre.out, ← hhhd, ← hpld] at hz2
        rw [← hhhd] at hhl hhi1
        rw [← hpld] at hpl hpi1
        have hdl : (r.drop (4 + m)).length = r.length - (4 + m) := List.length_drop
        have hrc := hide (hi1.bytes)
        have hln1 : hd.length + m ≤ 1000000000 := by have := hln.out; have := congrArg List.length hhd.out; rw [List.length_append] at this; omega
        replace hz2 := hide hz2
        replace hpld := hide hpld
        replace hhhd := hide hhhd
        replace hpl := hide hpl
        replace hhl := hide hhl
        replace hdl := hide hdl
        replace hpi := hide hpi
        replace hti := hide hti
        replace hi1 := hide hi1
        replace hby := hide hby
        replace hhi1 := hide hhi1
        replace hpi1 := hide hpi1
        replace hEa := hide hEa
        go_wp2_with (at_builtin; first
          | (refine wpList_buf elemB hby.out hhi1.out.bytes (.tmp 47) (.tmp 50) rfl rfl rfl rfl rfl (by rw [List.length_map]; exact hhl.out) (bytes_one _) (by omega) hs5 (fun A4 c4 w4 hb4 _ hE4 _ => ?_)
             have hE14 := hide (hE4 w1 hEa.out (Nat.le_refl _))
             have hE04 := hide (hE4 w0 (hE0.trans hEa.out) hE0.size)
             rw [Nat.zero_add, List.nil_append] at hb4
             replace hb4 := hide hb4
             clear hE4)
          | (refine wpList_buf elemB hb4.out ((hpi1.out.ext hE04.out).bytes) (.tmp 51) (.tmp 52) rfl rfl rfl rfl rfl (by rw [List.length_map]; exact hpl.out) (bytes_one _) (by omega) hE14.out.size (fun A5 c5 w5 hb5 _ hE5 _ => ?_)
             have hE15 := hide (hE5 w1 hE14.out (Nat.le_refl _))
             rw [← List.map_append] at hb5
             have hof := hide (of_any A5 _ c5 _ w5 w5 hb5.in8 (Ext.refl w5) (by omega))
             replace hb5 := hide hb5
             clear hE5 hE04 hb4))
        refine hof.out.mono ?_
        rintro e w6 ⟨rfl, rfl⟩
        obtain ⟨g, hg⟩ : ∃ g, g = cnext 0 (hh ++ pl) := ⟨_, rfl⟩
        have hz3 := hz2.out
        rw [← hg] at hz3
        obtain ⟨x0, hx0⟩ : ∃ x, r[0]? = some x := ⟨_, List.getElem?_eq_getElem (by omega)⟩
        obtain ⟨x1, hx1⟩ : ∃ x, r[1]? = some x := ⟨_, List.getElem?_eq_getElem (by omega)⟩
        obtain ⟨x2, hx2⟩ : ∃ x, r[2]? = some x := ⟨_, List.getElem?_eq_getElem (by omega)⟩
        obtain ⟨x3, hx3⟩ : ∃ x, r[3]? = some x := ⟨_, List.getElem?_eq_getElem (by omega)⟩
        have hbe : be (r.take 4) = x0.toNat * 16777216 + x1.toNat * 65536 + x2.toNat * 256 + x3.toNat := by
          rw [take_one2 hx3, be_snoc, take_one2 hx2, be_snoc, take_one2 hx1, be_snoc, take_one2 hx0, be_snoc]
          simp only [List.take_zero, be, List.foldl_nil]
          omega
        rw [hbe] at hz3
        obtain ⟨q, o, hA1, hc⟩ := Cells.at_ (xs := r.map B8) (hrc.out.ext (hE0.trans hE15.out).drew) (by rw [List.length_map]; omega)
        have c0 := hc 0 (B8 x0) (by rw [List.getElem?_map, hx0]; rfl)
        have c1' := hc 1 (B8 x1) (by rw [List.getElem?_map, hx1]; rfl)
        have c2' := hc 2 (B8 x2) (by rw [List.getElem?_map, hx2]; rfl)
        have c3' := hc 3 (B8 x3) (by rw [List.getElem?_map, hx3]; rfl)
        unfold B8 at c0 c1' c2' c3'
        simp [Addr.add] at c0 c1' c2' c3'
        have b0 := x0.toNat_lt
        have b1 := x1.toNat_lt
        have b2 := x2.toNat_lt
        have b3 := x3.toNat_lt
        subst hA1
        obtain ⟨y0, hy0⟩ : ∃ y, y = x0.toNat := ⟨_, rfl⟩
        obtain ⟨y1, hy1⟩ : ∃ y, y = x1.toNat := ⟨_, rfl⟩
        obtain ⟨y2, hy2⟩ : ∃ y, y = x2.toNat := ⟨_, rfl⟩
        obtain ⟨y3, hy3⟩ : ∃ y, y = x3.toNat := ⟨_, rfl⟩
        rw [← hy0] at hz3 c0 b0
        rw [← hy1] at hz3 c1' b1
        rw [← hy2] at hz3 c2' b2
        rw [← hy3] at hz3 c3' b3
        replace hy0 := hide hy0
        replace hy1 := hide hy1
        replace hy2 := hide hy2
        replace hy3 := hide hy3
        clear hx0 hx1 hx2 hx3 hbe hc
        have hE16 := hide hE15.out
        by_cases hgv : g = y0 * 16777216 + y1 * 65536 + y2 * 256 + y3
        · rw [if_pos hgv] at hz3
          have hgi : (g : Int) = (y0 : Int) * 16777216 + (y1 : Int) * 65536 + (y2 : Int) * 256 + (y3 : Int) := by omega
          replace hz3 := hide hz3
          go_wp2_with fail
          refine wp_region_text follows (by kernel_rfl) (by kernel_rfl) (fun K hK => ?_)
          go_wp2_with fail
          refine ⟨by kernel_rfl, ?_⟩
          go_wp2_with fail
          refine wp_region_text follows (by kernel_rfl) (by kernel_rfl) (fun K hK => ?_)
          go_wp2_with fail
          refine ⟨by kernel_rfl, ?_⟩
          go_wp2_with fail
          go_ret3
          rw [hz3.out]
          exact ⟨(hE1.trans hE16.out).drew.drew, A2, c2, A3, c3, by rw [hpl.out, hdl.out]; rfl, by rw [hpl.out]; exact hpi1.out.ext (hE0.trans hE16.out).drew.drew, by rw [hdl.out]; exact hti.out⟩
        · rw [if_neg hgv] at hz3
          have hgi : ¬ (g : Int) = (y0 : Int) * 16777216 + (y1 : Int) * 65536 + (y2 : Int) * 256 + (y3 : Int) := by omega
          replace hz3 := hide hz3
          go_wp2_with fail
          refine wp_region_text follows (by kernel_rfl) (by kernel_rfl) (fun K hK => ?_)
          go_wp2_with fail
          refine ⟨by kernel_rfl, ?_⟩
          go_wp2_with fail
          go_ret3
          exact GotF.no (hE1.trans hE16.out).drew hz3.out
end Go.Proofs.Ytohphanbnhiodaa

/- loggiaref15: Scan. -/
namespace Go.Proofs.Ytohphanbnhiodaa
open Go.RowKit

theorem BtsOwn.snocm {w w1 w2 : World} {base c d m : Nat} {A B : Option Addr} {read : List BtC} {x : BtC} (hm : m = read.length) (h : BtsOwn w base A c read) (hx : EvsOwn w base x.A x.c x.l ∧ x.l.length ≤ 64 ∧ 1 ≤ x.seq ∧ x.seq ≤ 1099511627776)
    (hE : Ext w w1) (hg : w1.grownBy w2 (Value.slice A m c).ownBlock) (ho : w2.ownsRow base 50 2 (.slice B (m + 1) d) (m + 1) (bcells read ++ x.cells)) : BtsOwn w2 base B d (read ++ [x]) := by
  subst hm
  exact BtsOwn.snoc h hx hE hg ho
set_option maxRecDepth 100000 in
set_option maxHeartbeats 4000000 in
theorem rscan_any (A : Option Addr) (N c : Nat) (b : List UInt8) (w : World) (h : In8 w A N c b) (hle : N ≤ 1000000000) :
    Calls Try.prog 13 #[.slice A N c] w fun e w' => ScanP w (scanM b.length none b) e w' := by
  obtain rfl : N = b.length := h.len
  obtain ⟨Z, hZ⟩ : ∃ Z, Z = scanM b.length none b := ⟨_, rfl⟩
  rw [← hZ]
  have hZ0 := hide (show Z = aheadS [] 0 (scanM b.length none b) by rw [aheadS_nil]; exact hZ)
  replace h := hide h
  clear hZ
  go_enter Try.func13, Try.ntmps13
  go_wp2_with fail
  go_loopw [0, 5, 7, 8, 9, 10, 11, 12] (fun s0 s5 _ _ _ _ _ _ wr => ∃ (rr : List UInt8) (A3 : Option Addr) (c3 : Nat) (read : List BtC) (B : Option Addr) (d m nb k : Nat) (q : Int), s0 = .slice A3 rr.length c3 ∧ s5 = .slice B m d ∧ nb + rr.length = b.length ∧ m ≤ nb ∧ rr.length ≤ k ∧ Hid (m = read.length) ∧ Hid (m = 0 ∨ ∃ y, read[m - 1]? = some y ∧ q = y.seq + (y.l.length : Int)) ∧ Hid (Z = aheadS (read.map BtC.bt) nb (scanM k (if m = 0 then none else some q) rr)) ∧ Hid (BtsOwn wr w.heap.size B d read) ∧ Hid (In8 w A3 rr.length c3 rr) ∧ Hid (Ext w wr)) (fun s0 _ _ _ _ _ _ _ _ => lenS s0)
  case atStart => exact ⟨b, A, c, [], none, 0, 0, 0, b.length, 0, rfl, rfl, by omega, by omega, by omega, hide rfl, hide (.inl rfl), hide hZ0.out, hide (BtsOwn.nil _ _), hide h.out, hide (Ext.refl _)⟩
  case round =>
    obtain ⟨rr, A3, c3, read, B, d, m, nb, k, q, rfl, rfl, hnb, hmn, hk, hm, hlast, hz, hown, hin, hE⟩ := hrel
    have hnbi : (b.length : Int) - (rr.length : Int) = (nb : Int) := by omega
    by_cases hb0 : rr = []
    · subst hb0
      obtain rfl : nb = b.length := by simpa using hnb
      have hzz := hide (scan_end hz.out)
      go_wp2_with fail
      go_ret3
      exact ScanP.mk hE.out hzz.out hm.out hown.out
    · have hpos : (0 : Int) < rr.length := by have := List.length_pos_iff.2 hb0; omega
      have hgf := rfget_any A3 rr.length c3 rr w wr hin.out hE.out (by omega)
      cases hg : getF rr with
      | error e =>
        have hzz := hide (scan_err hz.out hk hb0 hg)
        have he0 : ¬ (e : Int) = 0 := by have := getF_code hg; omega
        rw [hg] at hgf
        unfold GotF at hgf
        simp only at hgf
        replace hgf := hide hgf
        clear hg
        go_wp2_with fail
        refine hgf.out.mono ?_
        rintro en w1 ⟨hE1, rfl⟩
        go_wp2_with fail
        go_ret3
        exact ScanP.mk (hE.out.trans hE1) hzz.out hm.out (hown.out.ext hE1)
      | ok pr =>
        obtain ⟨p, r⟩ := pr
        have hsm := getF_small hg
        have hsp : p.length ≤ 1000000000 := by omega
        have hsi : (r.length : Int) ≤ rr.length := by omega
        rw [hg] at hgf
        unfold GotF at hgf
        simp only at hgf
        replace hgf := hide hgf
        cases hd : decB p with
        | none =>
          have hzz := hide (scan_dec hz.out hk hb0 hg hd)
          clear hg
          go_wp2_with fail
          refine hgf.out.mono ?_
          rintro en w1 ⟨hE1, P, cp, A4, c4, rfl, hip, hir⟩
          have hdc := rdecode_any P p.length cp p w1 w1 hip (Ext.refl _) hsp
          rw [hd] at hdc
          unfold DecP at hdc
          simp only at hdc
          replace hdc := hide hdc
          go_wp2_with fail
          refine hdc.out.mono ?_
          rintro en w2 ⟨hE2, rfl⟩
          go_wp2_with fail
          refine wp_region_text follows (by kernel_rfl) (by kernel_rfl) (fun K hK => ?_); go_wp2_with fail; refine ⟨by kernel_rfl, ?_⟩
          go_wp2_with fail
          go_ret3
          exact ScanP.mk ((hE.out.trans (hE1.trans hE2)).alloc _).drew hzz.out hm.out (hown.out.ext ((hE1.trans hE2).trans ((Ext.refl w2).alloc _).drew))
        | some bt =>
          go_wp2_with fail
          refine hgf.out.mono ?_
          rintro en w1 ⟨hE1, P, cp, A4, c4, rfl, hip, hir⟩
          have hdc := rdecode_any P p.length cp p w1 w1 hip (Ext.refl _) hsp
          rw [hd] at hdc
          unfold DecP at hdc
          simp only at hdc
          replace hdc := hide hdc
          go_wp2_with fail
          refine hdc.out.mono ?_
          rintro en w2 ⟨hE2, l, B4, d4, hes, rfl, hev, hl64, hs1, hs2⟩
          obtain ⟨sq, es⟩ := bt
          simp only at hes hs1 hs2 ⊢
          obtain ⟨j, hj⟩ : ∃ j, j = l.length := ⟨_, rfl⟩
          rw [← hj] at hl64 ⊢
          obtain ⟨w5, hw5⟩ : ∃ w5, w5 = w2.alloc (.cells #[.int .i64 sq, .slice B4 j d4] 50) := ⟨_, rfl⟩
          have hE25 : Ext w2 w5 := by rw [hw5]; exact (Ext.refl w2).alloc _
          have hr5 : Row w5 w2.heap.size 50 #[.int .i64 sq, .slice B4 j d4] := by rw [hw5]; exact Row.new w2 _ _
          obtain ⟨g, hgg⟩ : ∃ g, g = w2.heap.size := ⟨_, rfl⟩
          rw [← hgg] at hr5
          have hEr5 := hE1.trans (hE2.trans hE25)
          have hE05 := hE.out.trans hEr5
          have hown5 := hown.out.ext hEr5
          have hx : EvsOwn w5 w.heap.size B4 d4 l ∧ l.length ≤ 64 ∧ 1 ≤ sq ∧ sq ≤ 1099511627776 := ⟨(hev.lower (Nat.le_trans hE.out.size hE1.size)).ext hE25, by omega, hs1, hs2⟩
          replace hj := hide hj
          have hbt : BtC.bt ⟨sq, l, B4, d4⟩ = ⟨sq, es⟩ := by unfold BtC.bt; simp only; rw [hes]
          have x0 := hr5.cell 0 rfl
          have x1 := hr5.cell 1 rfl
          have hwg := hr5.lt
          replace hdc := hide hdc
          replace hev := hide hev
          replace hes := hide hes
          replace hj := hide hj
          have hsq64 : sq + (j : Int) ≤ 1099511627840 := by have := hj.out; omega
          have hmle : m + 1 ≤ 1000000000 := by omega
          have hown5o : w5.ownsRow w.heap.size 50 2 (.slice B m d) m (bcells read) := by have := hown5.own; rw [← hm.out] at this; exact this
          have hown5d := hide ((Ext.refl w5).drew.owns hown5o)
          have hbase5d : w.heap.size ≤ w5.drew.heap.size := hE05.size
          replace hx := hide hx
          replace hE05 := hide hE05
          replace hown5o := hide hown5o
          rcases Nat.eq_zero_or_pos m with h0 | hmp
          · have hs : okN (if m = 0 then none else some q) sq := okN_if.2 (.inl h0)
            have hzz := scan_step hz.out hk hb0 hg hd hs
            simp only at hzz
            have hesl : es.length = j := by rw [hes.out, List.length_map]; exact hj.out.symm
            rw [hesl, ← hbt] at hzz
            replace hzz := hide hzz
            have h0i : ¬ (0 : Int) < m := by omega
            replace hown5 := hide hown5
            clear hg hd hs hdc hgf h0
            go_wp2_with fail
            rw [← hw5, ← hgg]
            replace hw5 := hide hw5
            replace hgg := hide hgg
            refine wp_region_text follows (by kernel_rfl) (by kernel_rfl) (fun K hK => ?_); go_wp2_with fail; refine ⟨by kernel_rfl, ?_⟩
            go_wp2_with (at_builtin; refine wpList_appZ (us := [.int .i64 sq, .slice B4 j d4]) (m := 1) elemBt hown5d.out rfl (.tmp 69) (.tmp 71) rfl rfl rfl rfl rfl (one_of rfl) (by omega) hbase5d (fun A8 c8 w8 ho8 hg8 _ => ?_); replace ho8 := hide ho8; replace hg8 := hide hg8)
            obtain rfl : m = read.length := hm.out
            obtain rfl : j = l.length := hj.out
            refine ⟨⟨r, A4, c4, read ++ [⟨sq, l, B4, d4⟩], A8, c8, read.length + 1, nb + (rr.length - r.length), k - 1, sq + (l.length : Int), rfl, rfl, by omega, by omega, by omega, hide (by rw [List.length_append]; rfl), hide (.inr ⟨⟨sq, l, B4, d4⟩, by simp, rfl⟩), hide (by rw [if_neg (by omega), List.map_append]; exact hzz.out), hide (BtsOwn.snoc (x := ⟨sq, l, B4, d4⟩) hown5.out hx.out (Ext.refl w5).drew hg8.out ho8.out), hide hir, hide (hE05.out.drew.grown hg8.out fun k hk => (by obtain ⟨_, _, hb⟩ := owns_row hown5d.out hk; exact hb))⟩, by simp [lenS]; omega⟩
          · obtain ⟨y, hy, hqy⟩ := hlast.out.resolve_left (by omega)
            obtain ⟨g', o', hB, k0, k1⟩ := bcells_at hown5.ok.cells hy
            obtain ⟨hyl, hy1, hy2⟩ := (hown5.each y (List.mem_of_getElem? hy)).2
            obtain ⟨i, rfl⟩ : ∃ i, m = i + 1 := ⟨m - 1, by omega⟩
            rw [Nat.add_sub_cancel] at k0 k1
            obtain ⟨ys, yl, yA, yc⟩ := y
            simp only at k0 k1 hyl hy1 hy2 hqy
            obtain ⟨jy, hjy⟩ : ∃ jy, jy = yl.length := ⟨_, rfl⟩
            rw [← hjy] at k1 hyl hqy
            replace hjy := hide hjy
            subst hB
            replace hown5 := hide hown5
            clear hy
            by_cases hsq : sq = q
            · have hs : okN (if i + 1 = 0 then none else some q) sq := okN_if.2 (.inr hsq)
              have hzz := scan_step hz.out hk hb0 hg hd hs
              simp only at hzz
              have hesl : es.length = j := by rw [hes.out, List.length_map]; exact hj.out.symm
              rw [hesl, ← hbt] at hzz
              replace hzz := hide hzz
              have hsi2 : ys + (jy : Int) = sq := by omega
              replace hqy := hide hqy
              clear hg hd hs hdc hgf hsq
              go_wp2_with fail
              rw [← hw5, ← hgg]
              replace hw5 := hide hw5
              replace hgg := hide hgg
              refine wp_region_text follows (by kernel_rfl) (by kernel_rfl) (fun K hK => ?_); go_wp2_with fail; refine ⟨by kernel_rfl, ?_⟩
              go_wp2_with (at_builtin; refine wpList_appZ (us := [.int .i64 sq, .slice B4 j d4]) (m := 1) elemBt hown5d.out rfl (.tmp 69) (.tmp 71) rfl rfl rfl rfl rfl (one_of rfl) (by omega) hbase5d (fun A8 c8 w8 ho8 hg8 _ => ?_); replace ho8 := hide ho8; replace hg8 := hide hg8)
              obtain rfl : j = l.length := hj.out
              refine ⟨⟨r, A4, c4, read ++ [⟨sq, l, B4, d4⟩], A8, c8, i + 1 + 1, nb + (rr.length - r.length), k - 1, sq + (l.length : Int), rfl, rfl, by omega, by omega, by omega, hide (by rw [List.length_append, ← hm.out]; rfl), hide (.inr ⟨⟨sq, l, B4, d4⟩, by rw [Nat.add_sub_cancel, hm.out]; simp, rfl⟩), hide (by rw [if_neg (by omega), List.map_append]; exact hzz.out), hide (BtsOwn.snocm (x := ⟨sq, l, B4, d4⟩) hm.out hown5.out hx.out (Ext.refl w5).drew hg8.out ho8.out), hide hir, hide (hE05.out.drew.grown hg8.out fun k hk => (by obtain ⟨_, _, hb⟩ := owns_row hown5d.out hk; exact hb))⟩, by simp [lenS]; omega⟩
            · have hs : ¬ okN (if i + 1 = 0 then none else some q) sq := fun h => (okN_if.1 h).elim (by omega) hsq
              have hzz := hide (scan_seq hz.out hk hb0 hg hd hs)
              have hsi2 : ¬ sq = ys + (jy : Int) := by omega
              replace hqy := hide hqy
              clear hg hd hs hdc hgf hsq
              go_wp2_with fail
              rw [← hw5, ← hgg]
              replace hw5 := hide hw5
              replace hgg := hide hgg
              refine wp_region_text follows (by kernel_rfl) (by kernel_rfl) (fun K hK => ?_); go_wp2_with fail; refine ⟨by kernel_rfl, ?_⟩
              go_wp2_with fail
              go_ret3
              exact ScanP.mk hE05.out.drew hzz.out hm.out (hown5.out.ext (Ext.refl w5).drew)
end Go.Proofs.Ytohphanbnhiodaa

