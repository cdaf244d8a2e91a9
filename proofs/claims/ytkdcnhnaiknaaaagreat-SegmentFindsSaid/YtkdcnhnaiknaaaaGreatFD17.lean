/- Texts of one proof, joined. -/
import Derived.Test.YtkdcnhnaiknaaaaGreatFD16
import Derived.Test.YtkdcnhnaiknaaaaGreatFD05
import Derived.Test.YtkdcnhnaiknaaaaGreatFD04
import Derived.Test.YtkdcnhnaiknaaaaGreatFD11
import Derived.Test.YtkdcnhnaiknaaaaGreatFD07
import Derived.Laws.BitsAllLaws
import Derived.Test.YtkdcnhnaiknaaaaGreatFD02
import Derived.Deep.QuietTactic
import Derived.BigQuiet
import Derived.Deep.CutRange
import Derived.Deep.DeepCutAuto
import Derived.Test.YtkdcnhnaiknaaaaGreatFD03
import Derived.Laws.OwnMore
set_option linter.unusedSimpArgs false
set_option linter.unusedVariables false
namespace Go.Proofs.YtkdcnhnaiknaaaaGreat
section
open Go.RowKit Go.Shelf
attribute [local go_sem] Oper.semAt_some wide_depth wide_fn
theorem encells_part {w : World} {A : Option Addr} {l : List En} (h : Cells w A (encells l)) (hA : ∀ a, A = some a → a.spot = none) (i m : Nat) : Cells w (A.map fun a => a.add (i * 4)) (encells ((l.drop i).take m)) := by
  unfold encells
  rw [flat_take (f := En.cells) (k := 4) (fun _ => rfl), flat_part (f := En.cells) (k := 4) (fun _ => rfl)]
  exact h.part hA _ _
def DEnc (base h1 b1 b2 : Nat) (V : Value) (L : List UInt8) (w W : World) : Prop :=
  (∃ A c, Row W h1 25 #[.slice A L.length c] ∧ Own8 W base A L.length c L) ∧ Row W b1 94 #[V] ∧ Row W b2 3 #[.int .i64 16] ∧ Ext w W
theorem DEnc.alike {base h1 b1 b2 B : Nat} {V : Value} {L : List UInt8} {w W W1 : World} (h : DEnc base h1 b1 b2 V L w W) (ha : Alike B W W1) (hB : w.heap.size ≤ B) : DEnc base h1 b1 b2 V L w W1 := by
  obtain ⟨⟨A, c, r, o⟩, r1, r2, hE⟩ := h
  exact ⟨⟨A, c, ha.row r, o.1, ha.buf o.2⟩, ha.row r1, ha.row r2, ha.ext hE hB⟩
theorem DEnc.ext {base h1 b1 b2 : Nat} {V : Value} {L : List UInt8} {w W W1 : World} (h : DEnc base h1 b1 b2 V L w W) (ha : Ext W W1) : DEnc base h1 b1 b2 V L w W1 := by
  obtain ⟨⟨A, c, r, o⟩, r1, r2, hE⟩ := h
  exact ⟨⟨A, c, r.ext ha, o.ext ha⟩, r1.ext ha, r2.ext ha, hE.trans ha⟩
def thrB (a b c : Nat) (j : Nat) : List UInt8 := if j = 0 then [] else if j = 1 then vb a else if j = 2 then vb a ++ vb b else vb a ++ vb b ++ vb c
theorem thrB_next {a b c j : Nat} (hj : j < 3) {v : Nat} (hv : (v : Int) = thr (a : Int) (b : Int) (c : Int) j) : thrB a b c (j + 1) = thrB a b c j ++ vb v := by
  rcases (show j = 0 ∨ j = 1 ∨ j = 2 by omega) with rfl | rfl | rfl
  · have : v = a := by unfold thr at hv; simp at hv; omega
    subst this; simp [thrB]
  · have : v = b := by unfold thr at hv; simp at hv; omega
    subst this; simp [thrB]
  · have : v = c := by unfold thr at hv; simp at hv; omega
    subst this; simp [thrB]
set_option maxRecDepth 100000 in
set_option maxHeartbeats 4000000 in
theorem dbytes_any (l : List En) (A : Option Addr) (m c : Nat) (w : World) (hm : m = l.length) (h : Cells w A (encells l)) (hA : ∀ a, A = some a → a.spot = none) (hmc : m ≤ c) (hok : OkEs l) :
    Calls Tryz.prog 86 #[.slice A m c] w fun e w' => OwnB w w.heap.size (encEs l) e w' := by
  have hm6 : m ≤ 262144 := by rw [hm]; exact hok.few
  have hput := hide (fun A n c x l W h1 h2 h3 h4 h5 => put_any A n c x l W h1 h2 h3 h4 h5)
  have hptx := hide (fun A n c l s W h1 h2 h3 h4 h5 => putText_any A n c l s W h1 h2 h3 h4 h5)
  have hsh := hide (fun a b W h1 h2 => shared_any a b W h1 h2)
  have hwm := wrap_u64 (m := m) (by omega)
  replace hm := hide hm
  replace h := hide h
  replace hok := hide hok
  replace hA := hide hA
  refine (callsIn_wide (n := 0)).1 ?_
  refine callsIn_of_wp_marks Tryz.func86 rfl trivial ?_
  simp only [Tryz.ntmps86, List.size_toArray, List.length_cons, List.length_nil, Nat.reduceAdd, Nat.reduceSub, Array.replicate_succ, Array.replicate_zero, List.push_toArray, List.append_toArray, List.nil_append, List.cons_append]
  gi_wp2_with fail
  refine (callsIn_wide.2 (hput.out none 0 0 m [] w rfl (.inl rfl) (fun _ => rfl) (by omega) (by omega))).mono ?_
  rintro e w2 hNB
  obtain ⟨A2, c2, rfl, hB2, hE2⟩ := hNB
  rw [List.nil_append] at hB2 ⊢
  obtain ⟨k2, hk2⟩ : ∃ k, k = (vb m).length := ⟨_, rfl⟩
  rw [← hk2] at hB2 ⊢
  replace hB2 := hide hB2
  replace hk2 := hide hk2
  replace hE2 := hide hE2
  gi_wp2_with fail
  obtain ⟨W3, hW3⟩ : ∃ W3, W3 = w2.alloc (Obj.cells #[Value.slice A2 k2 c2] 25) := ⟨_, rfl⟩
  rw [← hW3]
  obtain ⟨h1, hh1⟩ : ∃ h1, h1 = w2.heap.size := ⟨_, rfl⟩
  have q1 : Row W3 h1 25 #[.slice A2 k2 c2] := by rw [hW3, hh1]; exact Row.new w2 _ _
  have hE23 : Ext w2 W3 := by rw [hW3]; exact (Ext.refl w2).alloc _
  have hsz3 : W3.heap.size = h1 + 1 := by rw [hW3, hh1]; simp
  have hh1w : w.heap.size ≤ h1 := by rw [hh1]; exact hE2.out.size
  have ho3 : Own8 W3 w.heap.size A2 k2 c2 (vb m) := ⟨hk2.out, hB2.out.ext hE23⟩
  rw [← hh1]
  refine (callsIn_wide.2 (chunkC_any A m c 16 W3 (by omega) (by omega))).mono ?_
  rintro e w4 ⟨b1, b2, rfl, rb1, rb2, hb1, hb2, hb12, hE4⟩
  have hP4 : DEnc w.heap.size h1 b1 b2 (.slice A m c) (vb m) w w4 := ⟨⟨A2, c2, by rw [← hk2.out]; exact q1.ext hE4, by rw [← hk2.out]; exact ho3.ext hE4⟩, rb1, rb2, (hE2.out.trans hE23).trans hE4⟩
  have hit := chunkC_iter A m c 16 b1 b2 w4 rb1 rb2 (by omega) (by omega) (by omega) hmc
  rw [hsz3] at hb1 hb2
  have hwsz := hP4.2.2.2.size
  replace hP4 := hide hP4
  replace hit := hide hit
  replace hW3 := hide hW3
  replace hh1 := hide hh1
  clear q1 hE4 rb1 rb2 hB2 hE23 hE2 hk2 hsz3 ho3
  gi_wp2_with fail
  unfold ChIterC at hit
  refine range_all (gf := 183) (lb := #[.pointer (some ⟨b1, 0, none⟩), .pointer (some ⟨b2, 0, none⟩)]) rfl (enters_of Tryz.func183 (by kernel_rfl) rfl) hit.out (fun _ => rfl) (fun _ _ h => h.others) (fun _ _ _ h => h.2.2.2.others) (KeepB.trans b1 b2) ?kb
    (fun pre W => DEnc w.heap.size h1 b1 b2 (.slice A m c) (vb m ++ partsE ((chunkL 16 l).take pre.length)) w W) (fun pre A B h ha => h.alike ha hwsz) (fun pre A B h hE => h.ext hE) ?h0 ?hround ?hdone
  case kb =>
    have hb1w := (hP4.out.2.1).lt
    have hb2w := (hP4.out.2.2.1).lt
    exact KeepB.alike hb1w hb2w
  case h0 =>
    intro W ha
    have := hP4.out.alike ha hwsz
    simpa [partsE] using this
  case hround =>
    rintro rl pre i W hI ⟨hi, hlt⟩
    subst hi
    have hnx := partsE_next (l := l) (r := pre.length) (by rw [← hm.out]; exact hlt)
    obtain ⟨j, hj⟩ : ∃ j, j = min 16 (m - pre.length * 16) := ⟨_, rfl⟩
    obtain ⟨cb, hcb⟩ : ∃ cb, cb = (l.drop (pre.length * 16)).take 16 := ⟨_, rfl⟩
    have hcbl : cb.length = j := by rw [hcb, hj, List.length_take, List.length_drop, hm.out]
    obtain ⟨A', hA'⟩ : ∃ A' : Option Addr, A' = A.map fun a => a.add (pre.length * 16 * 4) := ⟨_, rfl⟩
    have hok2 : Cells w A' (encells cb) := by rw [hA', hcb]; exact encells_part h.out hA.out _ _
    have hval : chunkVC A m 16 pre.length = .slice A' j j := by unfold chunkVC; rw [hA', hj]
    have hcok : ∀ x ∈ cb, okEn x := fun x hx => by rw [hcb] at hx; exact (hok.out.each x (List.mem_of_mem_drop (List.mem_of_mem_take hx))).1
    rw [← hcb] at hnx
    obtain ⟨L, hL⟩ : ∃ L, L = vb m ++ partsE ((chunkL 16 l).take pre.length) := ⟨_, rfl⟩
    rw [← hL] at hI
    have hLl : L.length ≤ 60000010 := by
      have h1 := partsE_take (fun e he => (hok.out.each e he).1) hok.out.few pre.length
      have h2 := vb_len10 (n := m) (by omega)
      rw [hL, List.length_append]
      omega
    have hj16 : j ≤ 16 := by omega
    obtain ⟨Y, hY⟩ : ∃ Y, Y = blockE [] cb := ⟨_, rfl⟩
    have hYl : Y.length ≤ 3200 := by have := blockE_len (l := cb) (last := []) hcok; rw [hY]; omega
    rw [← hY] at hnx
    rw [hval]
    clear hval
    replace hI := hide hI
    replace hok2 := hide hok2
    replace hA' := hide hA'
    replace hcb := hide hcb
    replace hj := hide hj
    replace hL := hide hL
    replace hcbl := hide hcbl
    replace hnx := hide hnx
    replace hcok := hide hcok
    replace hY := hide hY
    gi_wp2_with fail
    refine ⟨KeepsOthers.refl _, KeepB.refl _ _ _, fun W2 hA2 => ?_⟩
    have hI2 := hide (hI.out.alike hA2 hwsz)
    clear hA2 hI
    have hEw2 := hide hI2.out.2.2.2
    gi_wp2_with fail
    gi_loopw [5, 6, 21] (fun s5 s6 s21 wr => ∃ (i n5 c5 : Nat) (A5 : Option Addr) (X la : List UInt8), s5 = .slice A5 n5 c5 ∧ s6 = .string ⟨la.toArray⟩ ∧ s21 = .int .i64 (i : Int) ∧ i ≤ j ∧ n5 ≤ 3200 ∧ la.length ≤ 65 ∧ Hid (Y = X ++ blockE la (cb.drop i)) ∧ Hid (Own8 wr w.heap.size A5 n5 c5 X) ∧ Hid (Ext W2 wr)) (fun _ _ s21 _ => j - (intOf s21).toNat)
    case atStart => exact ⟨0, 0, 0, none, [], [], rfl, rfl, rfl, by omega, by omega, by simp, hide (by rw [hY.out]; rfl), hide ⟨rfl, Buf.nil _ _ _⟩, hide (Ext.refl _)⟩
    case round =>
      obtain ⟨i, n5, c5, A5, X, la, rfl, rfl, rfl, hij, hn5, hlal, hYX, hown, hE⟩ := hrel
      have hEwr : Hid (Ext w wr) := hide (hEw2.out.trans hE.out)
      by_cases hin : i < j
      · obtain ⟨x, hxi⟩ : ∃ x, cb[i]? = some x := ⟨_, List.getElem?_eq_getElem (by rw [hcbl.out]; exact hin)⟩
        obtain ⟨g, o, hAe, x0, x1, x2, x3⟩ := encells_at (hok2.out.ext hEwr.out) hxi
        subst hAe
        have hxo := hcok.out x (List.mem_of_getElem? hxi)
        have hYX2 := hYX.out
        rw [drop_step hxi] at hYX2
        obtain ⟨t, off, len, n⟩ := x
        obtain ⟨b0, b1', b2', b3'⟩ := hxo
        simp only at x0 x1 x2 x3 b0 b1' b2' b3'
        obtain ⟨k, hk⟩ : ∃ k, k = cpl la t := ⟨_, rfl⟩
        have hkt : k ≤ t.length := by rw [hk]; exact (cpl_le la t).2
        obtain ⟨X1, hX1⟩ : ∃ X1, X1 = X ++ vb k := ⟨_, rfl⟩
        obtain ⟨X2, hX2⟩ : ∃ X2, X2 = X1 ++ txL (t.drop k) := ⟨_, rfl⟩
        obtain ⟨X3, hX3⟩ : ∃ X3, X3 = X2 ++ thrB off len n 3 := ⟨_, rfl⟩
        have hYX3 : Y = X3 ++ blockE t (cb.drop (i + 1)) := by
          rw [hYX2, hX3, hX2, hX1, hk]
          show X ++ (enB la _ ++ blockE t _) = _
          unfold enB thrB
          simp
        have hX3l : X3.length ≤ 3200 := by rw [hYX3, List.length_append] at hYl; omega
        have hX2l : X2.length ≤ X3.length := by rw [hX3, List.length_append]; omega
        have hX1l : X1.length ≤ X2.length := by rw [hX2, List.length_append]; omega
        have htail := fun W => run_strtail t k hkt (z := (k : Int)) rfl W
        have hk65 : k ≤ 65 := by omega
        have hwk := wrap_u64 (m := k) (by omega)
        have hsc := hide (fun W => hsh.out la t W (by omega) (by omega))
        rw [← hk] at hsc
        obtain ⟨W5, hW5⟩ : ∃ W5, W5 = wr.alloc (.cells #[.string ⟨t.toArray⟩, .int .i64 (off : Int), .int .i64 (len : Int), .int .i64 (n : Int)] 97) := ⟨_, rfl⟩
        obtain ⟨g8, hg8⟩ : ∃ g8, g8 = wr.heap.size := ⟨_, rfl⟩
        have hr5 : Row W5 g8 97 #[.string ⟨t.toArray⟩, .int .i64 (off : Int), .int .i64 (len : Int), .int .i64 (n : Int)] := by rw [hW5, hg8]; exact Row.new wr _ _
        have hE5 : Ext wr W5 := by rw [hW5]; exact (Ext.refl wr).alloc _
        have ht9 : (⟨t.toArray⟩ : ByteArray).size = t.length := ByteArray.size_mk_toArray t
        replace hX1 := hide hX1
        replace hX2 := hide hX2
        replace hX3 := hide hX3
        replace hYX3 := hide hYX3
        replace hk := hide hk
        replace hxi := hide hxi
        replace hr5 := hide hr5
        replace hE5 := hide hE5
        replace hW5 := hide hW5
        replace hg8 := hide hg8
        replace ht9 := hide ht9
        clear hYX2
        gi_wp2_with fail
        rw [← hW5.out, ← hg8.out]
        refine (in_round (hsc.out W5)).mono ?_
        rintro e w6 ⟨rfl, hE6⟩
        have hr6 := hide (hr5.out.ext hE6)
        have hE6' := hide (hE5.out.trans hE6)
        have y0 := hr6.out.cell 0 rfl
        have hown6 := hown.out.ext hE6'.out
        have hsz6 : w.heap.size ≤ w6.heap.size := (hEwr.out.trans hE6'.out).size
        replace hown6 := hide hown6
        clear hE6
        gi_wp2_with fail
        refine (in_round (hput.out A5 n5 c5 k X w6 hown6.out.1 hown6.out.2.cells hown6.out.nil_ (by omega) (by omega))).mono ?_
        rintro e w7 hNB
        obtain ⟨A7, c7, rfl, hB7, hE7⟩ := hNB
        rw [← hX1.out] at hB7 ⊢
        have hr7 := hide (hr6.out.ext hE7)
        have y0 := hr7.out.cell 0 rfl
        have hE7' := hide (hE6'.out.trans hE7)
        have ho7 : Hid (Own8 w7 w.heap.size A7 X1.length c7 X1) := hide ⟨rfl, hB7.lower hsz6⟩
        obtain ⟨n7, hn7⟩ : ∃ n7, n7 = X1.length := ⟨_, rfl⟩
        rw [← hn7] at ho7 hX1l ⊢
        replace hn7 := hide hn7
        have hsz7 : w.heap.size ≤ w7.heap.size := (hEwr.out.trans hE7'.out).size
        clear hB7 hE7
        gi_wp2_with fail
        refine (in_round (hptx.out A7 n7 c7 X1 (t.drop k) w7 ho7.out.1 ho7.out.2.cells ho7.out.nil_ (by omega) (by rw [List.length_drop]; omega))).mono ?_
        rintro e w8 hNB
        obtain ⟨A8, c8, rfl, hB8, hE8⟩ := hNB
        rw [← hX2.out] at hB8 ⊢
        have hr8 := hide (hr7.out.ext hE8)
        have y0 := hr8.out.cell 0 rfl
        have y1 := hr8.out.cell 1 rfl
        have y2 := hr8.out.cell 2 rfl
        have y3 := hr8.out.cell 3 rfl
        have hE8' := hide (hE7'.out.trans hE8)
        have ho8 : Hid (Own8 w8 w.heap.size A8 X2.length c8 X2) := hide ⟨rfl, hB8.lower hsz7⟩
        obtain ⟨n8, hn8⟩ : ∃ n8, n8 = X2.length := ⟨_, rfl⟩
        rw [← hn8] at ho8 hX2l ⊢
        replace hn8 := hide hn8
        clear hB8 hE8
        gi_wp2_with fail
        gi_loopw [5, 46] (fun s5 s46 wv => ∃ (q n9 c9 : Nat) (A9 : Option Addr), s5 = .slice A9 n9 c9 ∧ s46 = .int .i64 (q : Int) ∧ q ≤ 3 ∧ n9 ≤ 3300 + 20 * q ∧ Hid (Own8 wv w.heap.size A9 n9 c9 (X2 ++ thrB off len n q)) ∧ Hid (Ext w8 wv)) (fun _ s46 _ => 3 - (intOf s46).toNat)
        case atStart => exact ⟨0, n8, c8, A8, rfl, rfl, by omega, by omega, hide (by rw [show thrB off len n 0 = [] from rfl, List.append_nil]; exact ho8.out), hide (Ext.refl _)⟩
        case round =>
          obtain ⟨q, n9, c9, A9, rfl, rfl, hq3, hn9, ho9, hE9⟩ := hrel
          by_cases hq : q < 3
          · have hx := fun W => run_three (a := (off : Int)) (b := (len : Int)) (c := (n : Int)) hq W
            have hbd := thr_bd (a := (off : Int)) (b := (len : Int)) (c := (n : Int)) q (by omega) (by omega) (by omega)
            obtain ⟨v, hv⟩ : ∃ v : Nat, (v : Int) = thr (off : Int) (len : Int) (n : Int) q := ⟨(thr (off : Int) (len : Int) (n : Int) q).toNat, by omega⟩
            rw [← hv] at hx hbd
            have hv6 : v ≤ 67108864 := by omega
            have hqi : (q : Int) < 3 := by omega
            have hwv := wrap_u64 (m := v) (by omega)
            have hnb := thrB_next hq hv
            have hl10 := vb_len10 (n := v) (by omega)
            obtain ⟨X9, hX9⟩ : ∃ X9, X9 = X2 ++ thrB off len n q := ⟨_, rfl⟩
            obtain ⟨X10, hX10⟩ : ∃ X10, X10 = X9 ++ vb v := ⟨_, rfl⟩
            rw [← hX9] at ho9
            have hXe : X10 = X2 ++ thrB off len n (q + 1) := by rw [hX10, hX9, hnb, List.append_assoc]
            have hX10l : X10.length ≤ 3300 + 20 * (q + 1) := by have := ho9.out.1; rw [hX10, List.length_append]; omega
            have hszr : w.heap.size ≤ wr.heap.size := ((hEwr.out.trans hE8'.out).trans hE9.out).size
            clear hbd hl10
            replace hv := hide hv
            replace hnb := hide hnb
            replace hX9 := hide hX9
            replace hX10 := hide hX10
            replace hXe := hide hXe
            gi_wp2_with fail
            refine (in_round (hput.out A9 n9 c9 v X9 wr ho9.out.1 ho9.out.2.cells ho9.out.nil_ (by omega) (by omega))).mono ?_
            rintro e w10 hNB
            obtain ⟨A10, c10, rfl, hB10, hE10⟩ := hNB
            rw [← hX10.out] at hB10 ⊢
            have ho10 : Hid (Own8 w10 w.heap.size A10 X10.length c10 (X2 ++ thrB off len n (q + 1))) := hide (by rw [← hXe.out]; exact ⟨rfl, hB10.lower hszr⟩)
            obtain ⟨n10, hn10⟩ : ∃ n10, n10 = X10.length := ⟨_, rfl⟩
            rw [← hn10] at ho10 hX10l ⊢
            replace hn10 := hide hn10
            have hE10' := hide (hE9.out.trans hE10)
            clear hB10 hE10
            gi_wp2_with fail
            exact ⟨⟨q + 1, n10, c10, A10, rfl, by congr 1, by omega, by omega, ho10, hE10'⟩, by simp only [intOf]; omega⟩
          · have hqi : ¬ (q : Int) < 3 := by omega
            have hq3e : q = 3 := by omega
            have ho10 : Hid (Own8 wr w.heap.size A9 n9 c9 X3) := hide (by rw [hX3.out]; have := ho9.out; rw [hq3e] at this; exact this)
            have hn93 : n9 ≤ 3200 := by have := ho10.out.1; omega
            have hr10 := hr8.out.ext hE9.out
            have y0 := hr10.cell 0 rfl
            have hE10' : Hid (Ext W2 wr) := hide ((hE.out.trans hE8'.out).trans hE9.out)
            have htl65 : t.length ≤ 65 := b0
            replace hr10 := hide hr10
            replace hq3e := hide hq3e
            clear y1 y2 y3
            gi_wp2_with fail
            exact ⟨⟨i + 1, n9, c9, A9, X3, t, rfl, rfl, by congr 1, by omega, by omega, htl65, hYX3, ho10, hE10'⟩, by simp only [intOf]; omega⟩
      · have hYe : Y = X := by rw [hYX.out, List.drop_eq_nil_of_le (by rw [hcbl.out]; omega), blockE, List.append_nil]
        obtain ⟨⟨A1, c1, r1, o1⟩, rb1, rb2, _⟩ := hI2.out.ext hE.out
        have f1 := r1.cell 0 rfl
        have hn5X := hown.out.1
        obtain ⟨nl, hnl⟩ : ∃ nl, nl = L.length := ⟨_, rfl⟩
        rw [← hnl] at f1 o1 hLl r1
        obtain ⟨L1, hL1⟩ : ∃ L1, L1 = L ++ vb n5 := ⟨_, rfl⟩
        have hl10 := vb_len10 (n := n5) (by omega)
        have hL1l : L1.length ≤ 60000020 := by rw [hL1, List.length_append]; omega
        have hw5 := wrap_u64 (m := n5) (by omega)
        have hszr := hEwr.out.size
        have hfin : L1 ++ X = vb m ++ partsE ((chunkL 16 l).take (pre.length + 1)) := by
          rw [hnx.out, hL1, hL.out, hYe, ← hn5X]; simp
        have hx9 := hown.out.2.cells
        have hXl : (X.map B8).length = n5 := by rw [List.length_map]; exact hn5X.symm
        replace hnl := hide hnl
        replace hL1 := hide hL1
        replace hYe := hide hYe
        replace r1 := hide r1
        replace o1 := hide o1
        replace rb1 := hide rb1
        replace rb2 := hide rb2
        replace hn5X := hide hn5X
        replace hfin := hide hfin
        replace hx9 := hide hx9
        replace hXl := hide hXl
        clear hl10
        gi_wp2_with fail
        refine (in_round (hput.out A1 nl c1 n5 L wr o1.out.1 o1.out.2.cells o1.out.nil_ (by omega) (by omega))).mono ?_
        rintro e w7 hNB
        obtain ⟨A7, c7, rfl, hB7, hE7⟩ := hNB
        rw [← hL1.out] at hB7 ⊢
        obtain ⟨n7, hn7⟩ : ∃ n7, n7 = L1.length := ⟨_, rfl⟩
        rw [← hn7] at hB7 hL1l ⊢
        have hsz7 := hE7.size
        have hx7 := hide (Cells.ext hx9.out hE7)
        replace hn7 := hide hn7
        replace hB7 := hide hB7
        replace hE7 := hide hE7
        have r17 := hide (r1.out.ext hE7.out)
        gi_wp2_with (gi_at_builtin; refine wpListIn_buf elemB hB7.out hx7.out (.tmp 61) (.tmp 62) rfl rfl rfl rfl rfl hXl.out (bytes_one _) (by omega) hsz7 (fun A10 c10 w10 hb10 hg10 hx10 hl10 => ?_); have hE10 := hx10 wr hE7.out (Nat.le_refl _); have r210 := r1.out.ext hE10; have u0 := r210.cell 0 rfl; have u1 := r210.free 0; replace r210 := hide r210; replace hb10 := hide hb10; replace hg10 := hide hg10; replace hE10 := hide hE10; clear hx10 hl10)
        have hb12 : Buf (w10.setCell ⟨h1, 0, none⟩ (.slice A10 (n7 + n5) c10)) w.heap.size 5 A10 (n7 + n5) c10 ((L1 ++ X).map B8) := by
          rw [List.map_append]
          exact (hb10.out.setCell (hb10.out.unlike r210.out (by decide)) _).lower hszr
        refine ⟨((hE.out.others).trans hE10.out.others).trans (KeepsOthers.setCell _ _ _), KeepB.of hI2.out.2.1 ((rb1.out.ext hE10.out).away (by simp; omega) _) hI2.out.2.2.1 ((rb2.out.ext hE10.out).away (by simp; omega) _), ⟨A10, c10, ?_, ?_⟩, (rb1.out.ext hE10.out).away (by simp; omega) _, (rb2.out.ext hE10.out).away (by simp; omega) _, (hEwr.out.trans hE10.out).setCell (by simpa using hh1w) _⟩
        · rw [show (pre ++ [pre.length]).length = pre.length + 1 by simp, ← hfin.out, List.length_append, ← hn7.out, ← hn5X.out]
          exact r210.out.put 0 _
        · rw [show (pre ++ [pre.length]).length = pre.length + 1 by simp, ← hfin.out]
          refine ⟨rfl, ?_⟩
          rw [List.length_append, ← hn7.out, ← hn5X.out]
          exact hb12
  case hdone =>
    rintro D xs W2 W3 W5 hD hI ⟨hF1, hF2, hF3, hF4⟩ hAl hk
    have henc := encEs_all l xs.length (by rw [← hm.out]; exact hF1)
    rw [← hm.out] at henc
    obtain ⟨⟨A1, c1, r1, o1⟩, rb1, rb2, hE5⟩ := (hI.ext hF4).alike hAl hwsz
    rw [← henc] at r1 o1
    have f1 := r1.cell 0 rfl
    obtain ⟨nl, hnl⟩ : ∃ nl, nl = (encEs l).length := ⟨_, rfl⟩
    rw [← hnl] at f1 o1
    replace hnl := hide hnl
    replace r1 := hide r1
    replace o1 := hide o1
    replace rb1 := hide rb1
    replace rb2 := hide rb2
    replace hE5 := hide hE5
    replace henc := hide henc
    replace hk := hide hk
    clear hI hF1 hF2 hF3 hF4 hAl
    gi_wp2_with fail
    refine leave_mark (B := w4.heap.size) rfl hk.out hD fun W ha => ⟨_, results_tmp rfl _ _ _, ?_⟩
    exact ⟨A1, c1, by rw [← hnl.out]; rfl, by rw [← hnl.out]; exact ⟨o1.out.1, ha.buf o1.out.2⟩, ha.ext hE5.out hwsz⟩
end
section
open Go.RowKit
set_option maxRecDepth 100000 in
theorem dEncode_any (l : List En) (A : Option Addr) (m c : Nat) (w : World) (hm : m = l.length) (h : Cells w A (encells l)) (hA : ∀ a, A = some a → a.spot = none) (hmc : m ≤ c) (hok : OkEs l) :
    Calls Tryz.prog 41 #[.slice A m c] w fun e w' => OkB w (encEs l) e w' := by
  have h1 := hide (dmay_any l A m c w hm h hok)
  have h2 := hide (fun W (hE : Ext w W) => dbytes_any l A m c W hm (h.ext hE) hA hmc hok)
  replace hm := hide hm
  replace hok := hide hok
  replace hA := hide hA
  replace h := hide h
  go_enter Tryz.func41, Tryz.ntmps41
  go_wp2_with fail
  refine h1.out.mono ?_
  rintro e w1 ⟨rfl, hE1⟩
  go_wp2_with fail
  refine (h2.out _ hE1).mono ?_
  rintro e w2 ⟨A2, c2, rfl, ho, hE2⟩
  go_wp2_with fail
  go_ret2
  exact ⟨A2, c2, rfl, ⟨ho.1, ho.2.lower hE1.size⟩, hE1.trans hE2⟩
def RdD (w0 : World) (g : Nat) (r : List UInt8) (W : World) : Prop := ∃ A c, Row W g 176 #[.slice A r.length c, .bool false] ∧ In8 w0 A r.length c r ∧ Ext w0 W
theorem RdD.ext {w0 : World} {g : Nat} {r : List UInt8} {W W1 : World} (h : RdD w0 g r W) (hE : Ext W W1) : RdD w0 g r W1 := by
  obtain ⟨A, c, r1, hi, h0⟩ := h
  exact ⟨A, c, r1.ext hE, hi, h0.trans hE⟩
def NumD (w0 : World) (g q : Nat) (r : List UInt8) (W : World) (e : Ending) (W' : World) : Prop := e = .returned (.int .i64 (q : Int)) ∧ RdD w0 g r W' ∧ Chg (fun k => k = g) W W'
set_option maxRecDepth 100000 in
set_option maxHeartbeats 1000000 in
theorem dnumber_any (w0 W : World) (g q : Nat) (r : List UInt8) (z : Int) (h : RdD w0 g (vb q ++ r) W) (hg : w0.heap.size ≤ g) (hz : (q : Int) ≤ z) (hz2 : z ≤ 1099511627776) (hle : (vb q ++ r).length ≤ 1000000000) :
    Calls Tryz.prog 97 #[.pointer (some ⟨g, 0, none⟩), .int .i64 z] W fun e W' => NumD w0 g q r W e W' := by
  obtain ⟨A, c, r1, hi, hE⟩ := h
  have hgt := get_any A (vb q ++ r).length c (vb q ++ r) w0 W hi hE hle
  rw [getV_put (by omega)] at hgt
  obtain ⟨n, hn⟩ : ∃ n, n = (vb q ++ r).length := ⟨_, rfl⟩
  rw [← hn] at hgt r1 hle
  obtain ⟨b, hb⟩ : ∃ b : Nat, z = (b : Int) := ⟨z.toNat, by omega⟩
  subst hb
  have k1 := r1.cell 0 rfl
  have hwb := wrap_u64 (m := b) (by omega)
  have hwq := wrap_i64 (q := q) (by omega)
  have hqb : ¬ (b : Int) < (q : Int) := by omega
  replace hgt := hide hgt
  replace r1 := hide r1
  replace hi := hide hi
  replace hE := hide hE
  replace hn := hide hn
  go_enter Tryz.func97, Tryz.ntmps97
  go_wp2_with fail
  refine hgt.out.mono ?_
  rintro e w1 ⟨hE1, A1, c1, rfl, hi1⟩
  have r11 := r1.out.ext hE1
  have k3 := r11.cell 1 rfl
  have k4 := r11.free 0
  have k5 := r11.cell 0 rfl
  replace r11 := hide r11
  replace hE1 := hide hE1
  replace hi1 := hide hi1
  go_wp2_with fail
  go_ret
  exact ⟨rfl, ⟨A1, c1, r11.out.put 0 _, hi1.out, (hE.out.trans hE1.out).setCell hg _⟩, (Chg.of_ext hE1.out _).trans (Chg.of_set (S := fun k => k = g) w1 _ rfl) fun _ _ h => h⟩
def TxtD (w0 : World) (g : Nat) (s r : List UInt8) (W : World) (e : Ending) (W' : World) : Prop := e = .returned (.string ⟨s.toArray⟩) ∧ RdD w0 g r W' ∧ Chg (fun k => k = g) W W'
set_option maxRecDepth 100000 in
set_option maxHeartbeats 1000000 in
theorem dtext_any (w0 W : World) (g : Nat) (s r : List UInt8) (h : RdD w0 g (txL s ++ r) W) (hg : w0.heap.size ≤ g) (hs : s.length ≤ 65) (hle : (txL s ++ r).length ≤ 1000000000) :
    Calls Tryz.prog 155 #[.pointer (some ⟨g, 0, none⟩)] W fun e W' => TxtD w0 g s r W e W' := by
  obtain ⟨A, c, r1, hi, hE⟩ := h
  have hgt := getText_any A (txL s ++ r).length c 65 (txL s ++ r) w0 W hi hE hle (by omega)
  rw [getT_put hs (by omega)] at hgt
  obtain ⟨n, hn⟩ : ∃ n, n = (txL s ++ r).length := ⟨_, rfl⟩
  rw [← hn] at hgt r1 hle
  have k1 := r1.cell 0 rfl
  replace hgt := hide hgt
  replace r1 := hide r1
  replace hi := hide hi
  replace hE := hide hE
  replace hn := hide hn
  go_enter Tryz.func155, Tryz.ntmps155
  go_wp2_with fail
  refine hgt.out.mono ?_
  rintro e w1 ⟨hE1, A1, c1, rfl, hi1⟩
  have r11 := r1.out.ext hE1
  have k3 := r11.cell 1 rfl
  have k4 := r11.free 0
  have k5 := r11.cell 0 rfl
  replace r11 := hide r11
  replace hE1 := hide hE1
  replace hi1 := hide hi1
  go_wp2_with fail
  go_ret
  exact ⟨rfl, ⟨A1, c1, r11.out.put 0 _, hi1.out, (hE.out.trans hE1.out).setCell hg _⟩, (Chg.of_ext hE1.out _).trans (Chg.of_set (S := fun k => k = g) w1 _ rfl) fun _ _ h => h⟩
end
section
open Go.RowKit
def FilR (w : World) (g : Nat) (f : List UInt8) : Prop := ∃ A c, Row w g 166 #[.slice A f.length c] ∧ In8 w A f.length c f
theorem FilR.ext {w w1 : World} {g : Nat} {f : List UInt8} (h : FilR w g f) (hE : Ext w w1) : FilR w1 g f := by
  obtain ⟨A, c, hr, hi⟩ := h
  exact ⟨A, c, hr.ext hE, hi.ext hE⟩
theorem get_toNat {f : List UInt8} {i : Nat} (h : i < f.length) : f.getD i 0 = f[i] := by rw [List.getD_eq_getElem?_getD, List.getElem?_eq_getElem h]; rfl
theorem fand_one {y : Nat} (h : y < 256) : bits .and .u8 (y : Int) 1 = ((y % 2 : Nat) : Int) := by
  have hf : ∀ k : Fin 256, bits .and .u8 ((k.val : Nat) : Int) 1 = ((k.val % 2 : Nat) : Int) := by decide +kernel
  exact hf ⟨y, h⟩
set_option maxRecDepth 100000 in
set_option maxHeartbeats 1000000 in
theorem has_any (g k : Nat) (f : List UInt8) (w : World) (h : FilR w g f) (hk : k < 8 * f.length) (hk2 : k < 1048576) :
    Calls Tryz.prog 109 #[.pointer (some ⟨g, 0, none⟩), .int .u64 (k : Int)] w fun e w' => e = .returned (.bool (hasB f k)) ∧ Ext w w' := by
  obtain ⟨A, c, hr, hi⟩ := h
  obtain ⟨b, o, rfl, hc⟩ := hi.bytes.at_ (by omega)
  have hkl : k / 8 < f.length := by omega
  have hcell := hc (k / 8) hkl
  have hgd := get_toNat hkl
  have hb : hasB f k = decide ((f[k / 8].toNat / 2 ^ (k % 8) % 2 = 1)) := by unfold hasB; rw [hgd]
  obtain ⟨x, hx⟩ : ∃ x, x = f[k / 8].toNat := ⟨_, rfl⟩
  have hx8 : x < 256 := by rw [hx]; exact f[k / 8].toNat_lt
  rw [← hx] at hcell hb
  rw [hb]
  have r0 := hr.cell 0 rfl
  obtain ⟨q, hq⟩ : ∃ q, q = k / 8 := ⟨_, rfl⟩
  obtain ⟨m, hm⟩ : ∃ m, m = k % 8 := ⟨_, rfl⟩
  rw [← hq] at hcell hkl
  rw [← hm]
  have hm8 : m < 8 := by omega
  have hqi : (k : Int) / 8 = (q : Int) := by omega
  have hmi : (k : Int) % 8 = (m : Int) := by omega
  obtain ⟨n, hn⟩ : ∃ n, n = f.length := ⟨_, rfl⟩
  rw [← hn] at r0 hkl
  replace hn := hide hn
  replace hq := hide hq
  replace hm := hide hm
  replace hx := hide hx
  clear hb hgd hc
  go_enter Tryz.func109, Tryz.ntmps109
  go_wp2_with fail
  go_ret
  refine ⟨ret_bool ?_, Ext.refl _⟩
  have hy : x / 2 ^ m < 256 := Nat.lt_of_le_of_lt (Nat.div_le_self _ _) hx8
  have e : (x : Int) / 2 ^ m = ((x / 2 ^ m : Nat) : Int) := by simp
  rw [e, fand_one hy]
  rw [Bool.eq_iff_iff, beq_iff_eq, decide_eq_true_iff]
  omega
theorem setB_has {f : List UInt8} {k : Nat} (hk : k / 8 < f.length) (h : hasB f k = true) : setB f k = f := by
  unfold setB
  have hx : (f.getD (k / 8) 0).toNat ||| 2 ^ (k % 8) = (f.getD (k / 8) 0).toNat := by
    unfold hasB at h
    have ht : (f.getD (k / 8) 0).toNat.testBit (k % 8) = true := by rw [Nat.testBit_eq_decide_div_mod_eq]; exact h
    apply Nat.eq_of_testBit_eq
    intro i
    rw [Nat.testBit_or, Nat.testBit_two_pow]
    by_cases hi : k % 8 = i
    · rw [← hi, ht]; rfl
    · rw [decide_eq_false hi, Bool.or_false]
  rw [hx, UInt8.ofNat_toNat]
  apply List.ext_getElem (by rw [List.length_set])
  intro i h1 h2
  rw [List.getElem_set]
  split
  · rename_i e
    subst e
    exact get_toNat hk
  · rfl
def FilO (w : World) (base g : Nat) (f : List UInt8) : Prop := ∃ b c cur, Row w g 166 #[.slice (some ⟨b, 0, none⟩) f.length c] ∧ base ≤ b ∧ Row w b 5 cur ∧ f.length ≤ c ∧ c ≤ cur.size ∧ cur.toList.take f.length = f.map B8
theorem FilO.ext {w w1 : World} {base g : Nat} {f : List UInt8} (h : FilO w base g f) (hE : Ext w w1) : FilO w1 base g f := by
  obtain ⟨b, c, cur, hr, hb, hr2, h1, h2, h3⟩ := h
  exact ⟨b, c, cur, hr.ext hE, hb, hr2.ext hE, h1, h2, h3⟩
theorem FilO.buf {w : World} {base g : Nat} {f : List UInt8} (h : FilO w base g f) : ∃ A c, Row w g 166 #[.slice A f.length c] ∧ Buf w base 5 A f.length c (f.map B8) := by
  obtain ⟨b, c, cur, hr, hb, hr2, h1, h2, h3⟩ := h
  exact ⟨_, c, hr, List.length_map .., h1, .inr ⟨b, cur, rfl, hb, hr2, h2, h3⟩⟩
theorem FilO.fil {w : World} {base g : Nat} {f : List UInt8} (h : FilO w base g f) : FilR w g f := by
  obtain ⟨A, c, hr, hb⟩ := h.buf
  exact ⟨A, c, hr, hb.in8⟩
def SetP (w : World) (base g : Nat) (f : List UInt8) (w' : World) : Prop := FilO w' base g f ∧ ∀ w0, Ext w0 w → w0.heap.size ≤ base → Ext w0 w'
set_option maxRecDepth 100000 in
set_option maxHeartbeats 1000000 in
theorem set_any (g k base : Nat) (f : List UInt8) (w : World) (h : FilO w base g f) (hk : k < 8 * f.length) (hk2 : k < 1048576) :
    Calls Tryz.prog 150 #[.pointer (some ⟨g, 0, none⟩), .int .u64 (k : Int)] w fun e w' => e = .returned (.bool (!hasB f k)) ∧ SetP w base g (setB f k) w' := by
  have hh := has_any g k f w h.fil hk hk2
  have hkl : k / 8 < f.length := by omega
  cases hv : hasB f k with
  | true =>
    rw [hv] at hh
    have hs := setB_has hkl hv
    rw [hs]
    replace hh := hide hh
    replace hs := hide hs
    replace hv := hide hv
    replace h := hide h
    go_enter Tryz.func150, Tryz.ntmps150
    go_wp2_with fail
    refine hh.out.mono ?_
    rintro e w1 ⟨rfl, hE⟩
    go_wp2_with fail
    go_ret
    exact ⟨rfl, h.out.ext hE, fun w0 h0 _ => h0.trans hE⟩
  | false =>
    rw [hv] at hh
    replace hv := hide hv
    obtain ⟨b, c, cur, hr, hb, hr2, h1, h2, h3⟩ := h
    have hcl : cur[k / 8]? = some (B8 f[k / 8]) := by
      have : (cur.toList.take f.length)[k / 8]? = some (B8 f[k / 8]) := by rw [h3, List.getElem?_map, List.getElem?_eq_getElem hkl]; rfl
      rw [List.getElem?_take, if_pos hkl] at this
      simpa using this
    have hgd := get_toNat hkl
    obtain ⟨x, hx⟩ : ∃ x, x = f[k / 8].toNat := ⟨_, rfl⟩
    have hx8 : x < 256 := by rw [hx]; exact f[k / 8].toNat_lt
    unfold B8 at hcl
    rw [← hx] at hcl
    obtain ⟨q, hq⟩ : ∃ q, q = k / 8 := ⟨_, rfl⟩
    obtain ⟨m, hm⟩ : ∃ m, m = k % 8 := ⟨_, rfl⟩
    rw [← hq] at hkl
    have hm8 : m < 8 := by omega
    have hqi : (k : Int) / 8 = (q : Int) := by omega
    have hmi : (k : Int) % 8 = (m : Int) := by omega
    obtain ⟨n, hn⟩ : ∃ n, n = f.length := ⟨_, rfl⟩
    rw [← hn] at hr hkl
    have hgb : g ≠ b := Row.unlike hr hr2 (by decide)
    replace hn := hide hn
    replace hq := hide hq
    replace hm := hide hm
    replace hx := hide hx
    replace hh := hide hh
    go_enter Tryz.func150, Tryz.ntmps150
    go_wp2_with fail
    refine hh.out.mono ?_
    rintro e w1 ⟨rfl, hE⟩
    have r0 := (hr.ext hE).cell 0 rfl
    have r1 := (hr2.ext hE).cell (k / 8) hcl
    rw [← hq.out] at r1
    have r2 := (hr2.ext hE).free q
    replace hE := hide hE
    go_wp2_with fail
    go_ret
    have hv2 : bits BinOp.or IntKind.u8 (x : Int) (2 ^ m % 256) = ((x ||| 2 ^ m : Nat) : Int) := by
      have hp : 2 ^ m < 256 := Nat.pow_lt_pow_right (n := 8) (by omega) hm8
      have e : (2 : Int) ^ m % 256 = ((2 ^ m : Nat) : Int) := by
        have : ∀ k : Fin 8, (2 : Int) ^ k.val % 256 = ((2 ^ k.val : Nat) : Int) := by decide
        exact this ⟨m, hm8⟩
      rw [e, u8_or_nat _ _ hx8 hp]
    rw [hv2]
    have hr3 := (hr2.ext hE.out).put q (.int .u8 ((x ||| 2 ^ m : Nat) : Int))
    have hr4 := (hr.ext hE.out).away (p := ⟨b, q, none⟩) (by simpa using hgb) (.int .u8 ((x ||| 2 ^ m : Nat) : Int))
    have hb8 : B8 (UInt8.ofNat ((f.getD (k / 8) 0).toNat ||| 2 ^ (k % 8))) = .int .u8 ((x ||| 2 ^ m : Nat) : Int) := by
      unfold B8
      rw [hgd, ← hx.out, ← hm.out, UInt8.toNat_ofNat', Nat.mod_eq_of_lt (or_lt hx8 hm8)]
    refine ⟨rfl, ⟨b, c, _, by rw [setB_len, ← hn.out]; exact hr4, hb, hr3, by rw [setB_len]; exact h1, by rw [Array.size_setIfInBounds]; exact h2, ?_⟩, fun w0 h0 hb0 => (h0.trans hE.out).setCell (by simp only; omega) _⟩
    unfold setB
    rw [List.length_set, ← hq.out, Array.toList_setIfInBounds, List.take_set, h3, List.map_set, hq.out, hb8]
set_option maxRecDepth 100000 in
theorem size_any (g : Nat) (f : List UInt8) (w : World) (h : FilR w g f) (hf : f.length ≤ 1000000000) : Calls Tryz.prog 108 #[.pointer (some ⟨g, 0, none⟩)] w fun e w' => e = .returned (.int .i64 ((8 * f.length : Nat) : Int)) ∧ w' = w := by
  obtain ⟨A, c, hr, hi⟩ := h
  have r0 := hr.cell 0 rfl
  obtain ⟨n, hn⟩ : ∃ n, n = f.length := ⟨_, rfl⟩
  rw [← hn] at r0 hf ⊢
  replace hn := hide hn
  go_enter Tryz.func108, Tryz.ntmps108
  go_wp2_with fail
  go_ret
  exact ⟨ret_int (by omega), rfl⟩
set_option maxRecDepth 100000 in
theorem fnone_no (g : Nat) (f : List UInt8) (w : World) (h : FilR w g f) (hf : 0 < f.length) : Calls Tryz.prog 91 #[.pointer (some ⟨g, 0, none⟩)] w fun e w' => e = .returned (.bool false) ∧ w' = w := by
  obtain ⟨A, c, hr, hi⟩ := h
  have r0 := hr.cell 0 rfl
  obtain ⟨n, hn⟩ : ∃ n, n = f.length := ⟨_, rfl⟩
  rw [← hn] at r0 hf
  have hn0 : ((n : Int) == 0) = false := beq_eq_false_iff_ne.2 (by omega)
  replace hn := hide hn
  go_enter Tryz.func91, Tryz.ntmps91
  go_wp2_with fail
  go_ret
  exact ⟨rfl, rfl⟩
end
section
open Go.RowKit
def fplA (s : List UInt8) (m : Nat) : Array Value := #[.int .u64 (fpl s m 0 : Int), .int .u64 (fpl s m 1 : Int), .int .u64 (fpl s m 2 : Int), .int .u64 (fpl s m 3 : Int)]
theorem u64_wrap (y : Int) : IntKind.u64.wrap y = y % 18446744073709551616 := by simp [IntKind.wrap, IntKind.bits, IntKind.signed]
theorem wrap_u64q {m : Nat} (h : m < 18446744073709551616) : IntKind.u64.wrap (m : Int) = (m : Int) := by rw [u64_wrap]; omega
set_option maxRecDepth 100000 in
set_option maxHeartbeats 2000000 in
theorem places_any (s : List UInt8) (m : Nat) (w : World) (hs : s.length ≤ 1000000000) (hm : 0 < m) (hm2 : m ≤ 1048576) :
    Calls Tryz.prog 107 #[.string ⟨s.toArray⟩, .int .i64 (m : Int)] w fun e w' => e = .returned (.agg (fplA s m)) ∧ Ext w w' := by
  obtain ⟨W0, hW0⟩ : ∃ W0, W0 = w.alloc (.cells #[.int .u64 0, .int .u64 0, .int .u64 0, .int .u64 0] 186) := ⟨_, rfl⟩
  obtain ⟨c, w1, hrun, hb, hE1, hsz1⟩ := run_bytes s W0
  clear hsz1
  obtain ⟨g4, hg4⟩ : ∃ g4, g4 = w.heap.size := ⟨_, rfl⟩
  have hr0 : Row W0 g4 186 #[.int .u64 0, .int .u64 0, .int .u64 0, .int .u64 0] := by rw [hW0, hg4]; exact Row.new w _ _
  have hr1 := hide (hr0.ext hE1)
  have hE0 : Ext w W0 := by rw [hW0]; exact (Ext.refl w).alloc _
  have hEw1 := hide (hE0.trans hE1)
  obtain ⟨b8, hb8⟩ : ∃ b8, b8 = W0.heap.size := ⟨_, rfl⟩
  rw [← hb8] at hrun hb
  obtain ⟨n, hn⟩ : ∃ n, n = s.length := ⟨_, rfl⟩
  rw [← hn] at hrun hs
  obtain ⟨h0, hh0⟩ : ∃ h0 : Nat, h0 = 14695981039346656037 := ⟨_, rfl⟩
  have hh00 : h0 < 18446744073709551616 := by omega
  have hf0 : h0 = fnv [] := hh0
  replace hb := hide hb
  replace hn := hide hn
  replace hb8 := hide hb8
  replace hW0 := hide hW0
  replace hg4 := hide hg4
  replace hE0 := hide hE0
  replace hE1 := hide hE1
  replace hr0 := hide hr0
  replace hh0 := hide hh0
  replace hf0 := hide hf0
  go_enter Tryz.func107, Tryz.ntmps107
  go_upto_region 2 with (fail)
  rw [← hW0.out, ← hg4.out]
  go_wp2_with fail
  go_loopw [5, 15] (fun s5 s15 wr => ∃ (i h : Nat), s5 = .int .u64 (h : Int) ∧ s15 = .int .i64 (i : Int) ∧ i ≤ n ∧ h < 18446744073709551616 ∧ Hid (h = fnv (s.take i)) ∧ wr = w1) (fun _ s15 _ => n - (intOf s15).toNat)
  case atStart => exact ⟨0, h0, by rw [hh0.out]; rfl, rfl, by omega, hh00, hf0, rfl⟩
  case round =>
    obtain ⟨i, h, rfl, rfl, hi, hh, hf, rfl⟩ := hrel
    by_cases hin : i < n
    · obtain ⟨x, hxi⟩ : ∃ x, s[i]? = some x := ⟨_, List.getElem?_eq_getElem (by rw [← hn.out]; exact hin)⟩
      obtain ⟨g, o, hA, hcl⟩ := hb.out.at_ (by rw [← hn.out]; omega)
      obtain ⟨rfl, rfl⟩ : g = b8 ∧ o = 0 := by injection hA with hA; injection hA with h1 h2; exact ⟨h1.symm, h2.symm⟩
      have hld := hcl i (by rw [← hn.out]; exact hin)
      rw [(List.getElem?_eq_some_iff.1 hxi).2, Nat.zero_add] at hld
      have hfn := hf.out
      have hnx : fnv (s.take (i + 1)) = fnvS h x := by rw [List.take_add_one, hxi, hfn]; exact fnv_snoc _ x
      obtain ⟨y, hy⟩ : ∃ y, y = x.toNat := ⟨_, rfl⟩
      rw [← hy] at hld
      have hy8 : y < 256 := by rw [hy]; exact x.toNat_lt
      have hxor := u64_xor_nat h y hh (by omega)
      obtain ⟨z, hz⟩ : ∃ z, z = h ^^^ y := ⟨_, rfl⟩
      rw [← hz] at hxor
      have hmul : IntKind.u64.wrap ((z : Int) * 1099511628211) = ((fnvS h x : Nat) : Int) := by
        rw [u64_wrap]; unfold fnvS; rw [← hy, ← hz]; omega
      obtain ⟨h2, hh2⟩ : ∃ h2, h2 = fnvS h x := ⟨_, rfl⟩
      have hlt2 : h2 < 18446744073709551616 := by rw [hh2]; exact fnvS_lt h x
      rw [← hh2] at hmul hnx
      replace hnx := hide hnx.symm
      replace hh2 := hide hh2
      replace hz := hide hz
      replace hy := hide hy
      replace hxi := hide hxi
      clear hfn hcl hA
      go_wp2_with fail
      exact ⟨⟨i + 1, h2, rfl, rfl, by omega, hlt2, hnx, trivial⟩, by simp only [intOf]; omega⟩
    · obtain rfl : i = n := by omega
      have hfn : h = fnv s := by rw [hf.out, List.take_of_length_le (by rw [← hn.out]; exact Nat.le_refl _)]
      obtain ⟨fs, hfs⟩ : ∃ fs, fs = h % 4294967296 := ⟨_, rfl⟩
      obtain ⟨d, hd⟩ : ∃ d, d = h / 4294967296 := ⟨_, rfl⟩
      obtain ⟨sd, hsd⟩ : ∃ sd, sd = d ||| 1 := ⟨_, rfl⟩
      have hd32 : d < 4294967296 := by omega
      have hsd32 : sd < 4294967296 := by rw [hsd]; exact Nat.or_lt_two_pow (n := 32) hd32 (by decide)
      have hfs32 : fs < 4294967296 := by omega
      have hand : bits .and .u64 (h : Int) 4294967295 = (fs : Int) := by
        rw [show (4294967295 : Int) = ((4294967295 : Nat) : Int) from rfl, u64_and_nat h 4294967295 hh (by omega), hfs]
        exact congrArg _ (Nat.and_two_pow_sub_one_eq_mod h 32)
      have hdv : (h : Int) / 4294967296 = (d : Int) := by omega
      have hor : bits .or .u64 (d : Int) 1 = (sd : Int) := by rw [hsd]; exact u64_or_nat d 1 (by omega) (by omega)
      have hpl : ∀ i, fpl s m i = (fs + i * sd) % m := fun i => by unfold fpl; rw [← hfn, ← hfs, ← hd, ← hsd]
      have hwm := wrap_u64q (m := m) (by omega)
      replace hfs := hide hfs
      replace hd := hide hd
      replace hsd := hide hsd
      replace hpl := hide hpl
      replace hfn := hide hfn
      clear hh0 hf0 hh00
      go_wp2_with fail
      obtain ⟨W2, hW2⟩ : ∃ W2, W2 = wr.alloc (.cells #[.int .u64 0, .int .u64 0, .int .u64 0, .int .u64 0] 186) := ⟨_, rfl⟩
      obtain ⟨g10, hg10⟩ : ∃ g10, g10 = wr.heap.size := ⟨_, rfl⟩
      rw [← hW2, ← hg10]
      have hr2 : Row W2 g10 186 #[.int .u64 0, .int .u64 0, .int .u64 0, .int .u64 0] := by rw [hW2, hg10]; exact Row.new wr _ _
      have hE2 : Ext w W2 := by rw [hW2]; exact hEw1.out.alloc _
      have hr42 : Row W2 g4 186 #[.int .u64 0, .int .u64 0, .int .u64 0, .int .u64 0] := by rw [hW2]; exact hr1.out.alloc _
      have hne : g4 ≠ g10 := by have := hr1.out.lt; omega
      have hgw : w.heap.size ≤ g10 := by rw [hg10]; exact hEw1.out.size
      have hg4w : w.heap.size ≤ g4 := by have := hg4.out; omega
      replace hr2 := hide hr2
      replace hE2 := hide hE2
      replace hr42 := hide hr42
      replace hW2 := hide hW2
      replace hg10 := hide hg10
      go_loopw [30] (fun s30 wv => ∃ (j : Nat) (cs : Array Value), s30 = .int .i64 (j : Int) ∧ j ≤ 4 ∧ Hid (cs.size = 4 ∧ ∀ k, k < j → cs[k]? = some (.int .u64 (fpl s m k : Int))) ∧ Hid (Row wv g10 186 cs) ∧ Hid (Row wv g4 186 #[.int .u64 0, .int .u64 0, .int .u64 0, .int .u64 0]) ∧ Hid (Ext w wv)) (fun s30 _ => 4 - (intOf s30).toNat)
      case atStart => exact ⟨0, _, rfl, by omega, hide ⟨rfl, fun k hk => by omega⟩, hr2, hr42, hE2⟩
      case round =>
        obtain ⟨j, cs, rfl, hj, hcs, hr, hr4, hE⟩ := hrel
        by_cases hj4 : j < 4
        · obtain ⟨p, hp⟩ : ∃ p, p = j * sd := ⟨_, rfl⟩
          have hp34 : p < 17179869184 := by
            have : j * sd ≤ 3 * 4294967296 := Nat.mul_le_mul (by omega) (by omega)
            omega
          obtain ⟨t, ht⟩ : ∃ t, t = fs + p := ⟨_, rfl⟩
          obtain ⟨v, hv⟩ : ∃ v, v = t % m := ⟨_, rfl⟩
          have hfv : v = fpl s m j := by rw [hpl.out, hv, ht, hp]
          have hwj := wrap_u64q (m := j) (by omega)
          have hmul2 : IntKind.u64.wrap ((j : Int) * (sd : Int)) = (p : Int) := by
            rw [show (j : Int) * (sd : Int) = (p : Int) by rw [hp]; simp]; exact wrap_u64q (by omega)
          have hadd : (fs : Int) + (p : Int) = (t : Int) := by omega
          have hwt := wrap_u64q (m := t) (by omega)
          have hmod : (t : Int) % (m : Int) = (v : Int) := by rw [hv]; simp
          have hm0 : ((m : Int) == 0) = false := beq_eq_false_iff_ne.2 (by omega)
          have hcj : ∃ u, cs[j]? = some u := ⟨_, Array.getElem?_eq_getElem (by rw [hcs.out.1]; exact hj4)⟩
          obtain ⟨u, hu⟩ := hcj
          have hk1 := hr.out.cell j hu
          have hk2 := hr.out.free j
          have hin2 : (j : Int) < 4 := by omega
          replace hp := hide hp
          replace ht := hide ht
          replace hv := hide hv
          replace hfv := hide hfv
          replace hu := hide hu
          go_wp2_with fail
          refine ⟨⟨j + 1, cs.setIfInBounds j (.int .u64 (v : Int)), by congr 1, by omega, hide ⟨by rw [Array.size_setIfInBounds]; exact hcs.out.1, fun k hk => ?_⟩, hide (hr.out.put j _), hide (hr4.out.away hne _), hide (hE.out.setCell hgw _)⟩, by simp only [intOf]; omega⟩
          rw [Array.getElem?_setIfInBounds]
          split
          · rename_i e
            subst e
            rw [if_pos (by rw [hcs.out.1]; exact hj4), hfv.out]
          · exact hcs.out.2 k (by omega)
        · have hj4i : ¬ (j : Int) < 4 := by omega
          have hce : cs = fplA s m := by
            obtain ⟨h1, h2⟩ := hcs.out
            apply Array.ext_getElem?
            intro k
            by_cases hk : k < 4
            · rw [h2 k (by omega)]
              rcases (show k = 0 ∨ k = 1 ∨ k = 2 ∨ k = 3 by omega) with rfl | rfl | rfl | rfl <;> rfl
            · rw [Array.getElem?_eq_none (by omega), Array.getElem?_eq_none (by show 4 ≤ k; omega)]
          rw [hce] at hr
          unfold fplA at hr
          obtain ⟨v0, hv0⟩ : ∃ v0, v0 = fpl s m 0 := ⟨_, rfl⟩
          obtain ⟨v1, hv1⟩ : ∃ v1, v1 = fpl s m 1 := ⟨_, rfl⟩
          obtain ⟨v2, hv2⟩ : ∃ v2, v2 = fpl s m 2 := ⟨_, rfl⟩
          obtain ⟨v3, hv3⟩ : ∃ v3, v3 = fpl s m 3 := ⟨_, rfl⟩
          rw [← hv0, ← hv1, ← hv2, ← hv3] at hr
          have hg1 := hr4.out.get
          have hg2 := hr4.out.free
          replace hv0 := hide hv0
          replace hv1 := hide hv1
          replace hv2 := hide hv2
          replace hv3 := hide hv3
          replace hce := hide hce
          go_wp2_with (refine wpList_load_row rfl 186 (.tmp 10) rfl g10 rfl 186 _ (0, 0) _ hr.out Tryz.underlying186 rfl (by kernel_rfl) ?_)
          have hrf := (((hr4.out.put 0 (.int .u64 (v0 : Int))).put 1 (.int .u64 (v1 : Int))).put 2 (.int .u64 (v2 : Int))).put 3 (.int .u64 (v3 : Int))
          have hEf := (((hE.out.setCell (p := ⟨g4, 0, none⟩) hg4w (.int .u64 (v0 : Int))).setCell (p := ⟨g4, 1, none⟩) hg4w (.int .u64 (v1 : Int))).setCell (p := ⟨g4, 2, none⟩) hg4w (.int .u64 (v2 : Int))).setCell (p := ⟨g4, 3, none⟩) hg4w (.int .u64 (v3 : Int))
          exact bodyPost_ret (results_cell_row rfl _ _ g4 186 #[.int .u64 (v0 : Int), .int .u64 (v1 : Int), .int .u64 (v2 : Int), .int .u64 (v3 : Int)] (0, 0) _ rfl hrf Tryz.underlying186 rfl (by kernel_rfl)) rfl ⟨by unfold fplA; rw [← hv0.out, ← hv1.out, ← hv2.out, ← hv3.out], hEf⟩
set_option maxRecDepth 100000 in
theorem run_fpl {s : List UInt8} {m i : Nat} (hi : i < 4) (W : World) : (Instr.index 186 (.agg (fplA s m)) (.int .i64 (i : Int))).run Tryz.prog W = .ok (.int .u64 (fpl s m i : Int)) W := by
  unfold fplA
  generalize fpl s m = F
  rcases (show i = 0 ∨ i = 1 ∨ i = 2 ∨ i = 3 by omega) with rfl | rfl | rfl | rfl
  · show _ = _
    kernel_rfl
  · show _ = _
    kernel_rfl
  · show _ = _
    kernel_rfl
  · show _ = _
    kernel_rfl
end
section
open Go.RowKit
theorem mayB_yes {f s : List UInt8} (h : ∀ j, j < 4 → hasB f (fpl s (8 * f.length) j) = true) : mayB f s = true := by
  unfold mayB
  rw [h 0 (by omega), h 1 (by omega), h 2 (by omega), h 3 (by omega)]
  rfl
theorem mayB_no {f s : List UInt8} {j : Nat} (hj : j < 4) (h : hasB f (fpl s (8 * f.length) j) = false) : mayB f s = false := by
  unfold mayB
  rcases (show j = 0 ∨ j = 1 ∨ j = 2 ∨ j = 3 by omega) with rfl | rfl | rfl | rfl <;> rw [h] <;> simp
set_option maxRecDepth 100000 in
set_option maxHeartbeats 1000000 in
theorem may_any (g : Nat) (f s : List UInt8) (w : World) (h : FilR w g f) (hf : 0 < f.length) (hf2 : f.length ≤ 131072) (hs : s.length ≤ 1000000000) :
    Calls Tryz.prog 60 #[.pointer (some ⟨g, 0, none⟩), .string ⟨s.toArray⟩] w fun e w' => e = .returned (.bool (mayB f s)) ∧ Ext w w' := by
  have hno := hide (fnone_no g f w h hf)
  have hsz := hide (size_any g f w h (by omega))
  obtain ⟨m, hm⟩ : ∃ m, m = 8 * f.length := ⟨_, rfl⟩
  have hm0 : 0 < m := by omega
  have hm1 : m ≤ 1048576 := by omega
  have hpl := hide (fun W => places_any s m W hs hm0 hm1)
  have hix := hide (fun i (hi : i < 4) W => run_fpl (s := s) (m := m) hi W)
  have hha := hide (fun W j (hE : Ext w W) => has_any g (fpl s m j) f W (h.ext hE) (by rw [← hm]; exact fpl_lt s j hm0) (Nat.lt_of_lt_of_le (fpl_lt s j hm0) hm1))
  have hyes := hide (fun hh => mayB_yes (f := f) (s := s) hh)
  have hn := hide (fun j hj hh => mayB_no (f := f) (s := s) (j := j) hj hh)
  rw [← hm] at hsz hyes hn
  obtain ⟨Z, hZ⟩ : ∃ Z, Z = mayB f s := ⟨_, rfl⟩
  rw [← hZ] at hyes hn ⊢
  replace hZ := hide hZ
  replace hm := hide hm
  replace h := hide h
  go_enter Tryz.func60, Tryz.ntmps60
  go_wp2_with fail
  refine hno.out.mono ?_
  rintro e w1 ⟨rfl, hw⟩
  obtain rfl := hw.symm
  have r0 := h.out
  obtain ⟨A, c, hr, _⟩ := r0
  have k0 := hr.cell 0 rfl
  replace hr := hide hr
  go_wp2_with fail
  refine hsz.out.mono ?_
  rintro e w1 ⟨rfl, hw⟩
  obtain rfl := hw.symm
  go_wp2_with fail
  refine (hpl.out _).mono ?_
  rintro e w2 ⟨rfl, hE2⟩
  replace hE2 := hide hE2
  go_wp2_with fail
  go_loopw [15] (fun s15 wr => ∃ i : Nat, s15 = .int .i64 (i : Int) ∧ i ≤ 4 ∧ Hid (∀ j, j < i → hasB f (fpl s m j) = true) ∧ Hid (Ext w wr)) (fun s15 _ => 4 - (intOf s15).toNat)
  case atStart => exact ⟨0, rfl, by omega, hide (fun j hj => by omega), hE2⟩
  case round =>
    obtain ⟨i, rfl, hi, hall, hE⟩ := hrel
    by_cases hi4 : i < 4
    · have hx := hix.out i hi4
      have hi4i : (i : Int) < 4 := by omega
      have hc := hha.out wr i hE.out
      obtain ⟨p, hp⟩ : ∃ p, p = fpl s m i := ⟨_, rfl⟩
      rw [← hp] at hx hc
      obtain ⟨v, hv⟩ : ∃ v, v = hasB f p := ⟨_, rfl⟩
      rw [← hv] at hc
      replace hc := hide hc
      have k1 := hE.out.cell k0
      have hnx : Hid (v = true → ∀ j, j < i + 1 → hasB f (fpl s m j) = true) := hide fun hvt j hj => by
        by_cases e : j = i
        · rw [e, ← hp, ← hv, hvt]
        · exact hall.out j (by omega)
      have hbad : Hid (v = false → Z = false) := hide fun hvf => hn.out i hi4 (by rw [← hp, ← hv, hvf])
      replace hp := hide hp
      replace hv := hide hv
      cases v with
      | true =>
        replace hnx := hide (hnx.out rfl)
        go_wp2_with fail
        refine hc.out.mono ?_
        rintro e w3 ⟨rfl, hE3⟩
        replace hE3 := hide (hE.out.trans hE3)
        go_wp2_with fail
        exact ⟨⟨i + 1, by congr 1, by omega, hnx, hE3⟩, by simp only [intOf]; omega⟩
      | false =>
        obtain rfl : Z = false := hbad.out rfl
        go_wp2_with fail
        refine hc.out.mono ?_
        rintro e w3 ⟨rfl, hE3⟩
        replace hE3 := hide (hE.out.trans hE3)
        go_wp2_with fail
        go_ret
        exact ⟨rfl, hE3.out⟩
    · have hi4i : ¬ (i : Int) < 4 := by omega
      obtain rfl : Z = true := hyes.out fun j hj => hall.out j (by omega)
      go_wp2_with fail
      go_ret
      exact ⟨rfl, hE.out⟩
end
section
open Go.RowKit
def pAdd (f s : List UInt8) (m : Nat) : Nat → List UInt8
  | 0 => f
  | j + 1 => setB (pAdd f s m j) (fpl s m j)
theorem pAdd_len (f s : List UInt8) (m : Nat) : ∀ j, (pAdd f s m j).length = f.length
  | 0 => rfl
  | j + 1 => by rw [pAdd, setB_len, pAdd_len f s m j]
theorem pAdd_all (f s : List UInt8) : pAdd f s (8 * f.length) 4 = addB f s := rfl
theorem foldA_len (f : List UInt8) : ∀ l : List (List UInt8), (l.foldl addB f).length = f.length := by
  intro l
  induction l generalizing f with
  | nil => rfl
  | cons c l ih => rw [List.foldl_cons, ih, addB_len]
theorem foldA_snoc (f : List UInt8) {l : List (List UInt8)} {i : Nat} {x : List UInt8} (h : l[i]? = some x) : (l.take (i + 1)).foldl addB f = addB ((l.take i).foldl addB f) x := by
  rw [List.take_add_one, h, List.foldl_append]; rfl
def AddP (w0 : World) (base g : Nat) (f : List UInt8) (e : Ending) (w' : World) : Prop := ∃ z : Int, e = .returned (.int .i64 z) ∧ FilO w' base g f ∧ Ext w0 w'
set_option maxRecDepth 100000 in
set_option maxHeartbeats 2000000 in
theorem add_any (g base : Nat) (f : List UInt8) (A : Option Addr) (n c : Nat) (ts : List (List UInt8)) (w0 w : World) (h : FilO w base g f) (hf : 0 < f.length) (hf2 : f.length ≤ 131072) (hn : n = ts.length) (hts : Cells w0 A (ts.map strV)) (hE : Ext w0 w) (hb : w0.heap.size ≤ base) (hn9 : n ≤ 1000000000) (hlen : ∀ t ∈ ts, t.length ≤ 1000000000) :
    Calls Tryz.prog 90 #[.pointer (some ⟨g, 0, none⟩), .slice A n c] w fun e w' => AddP w0 base g (ts.foldl addB f) e w' := by
  have hno := hide (fnone_no g f w h.fil hf)
  obtain ⟨m, hm⟩ : ∃ m, m = 8 * f.length := ⟨_, rfl⟩
  have hm0 : 0 < m := by omega
  have hm1 : m ≤ 1048576 := by omega
  have hsz := hide (fun W (F : List UInt8) (hF : FilO W base g F) (hl : F.length = f.length) => size_any g F W hF.fil (by omega))
  have hpl := hide (fun s W (hs : s.length ≤ 1000000000) => places_any s m W hs hm0 hm1)
  have hix := hide (fun s i (hi : i < 4) W => run_fpl (s := s) (m := m) hi W)
  have hse := hide (fun s j W (F : List UInt8) (hF : FilO W base g F) (hl : F.length = f.length) => set_any g (fpl s m j) base F W hF (by rw [hl, ← hm]; exact fpl_lt s j hm0) (Nat.lt_of_lt_of_le (fpl_lt s j hm0) hm1))
  obtain ⟨Z, hZ⟩ : ∃ Z, Z = ts.foldl addB f := ⟨_, rfl⟩
  rw [← hZ]
  have r0 := h
  obtain ⟨b, cc, cur, hr, _⟩ := r0
  have k0 := hr.cell 0 rfl
  clear hr
  replace hZ := hide hZ
  replace hm := hide hm
  replace h := hide h
  replace hn := hide hn
  replace hts := hide hts
  replace hE := hide hE
  replace hlen := hide hlen
  go_enter Tryz.func90, Tryz.ntmps90
  go_wp2_with fail
  refine hno.out.mono ?_
  rintro e w1 ⟨rfl, hw⟩
  obtain rfl := hw.symm
  go_wp2_with fail
  go_loopw [5, 14] (fun s5 s14 wr => ∃ (i : Nat) (z : Int), s5 = .int .i64 z ∧ s14 = .int .i64 (i : Int) ∧ i ≤ n ∧ Hid (FilO wr base g ((ts.take i).foldl addB f)) ∧ Hid (Ext w0 wr)) (fun _ s14 _ => n - (intOf s14).toNat)
  case atStart => exact ⟨0, 0, rfl, rfl, by omega, h, hE⟩
  case round =>
    obtain ⟨i, z, rfl, rfl, hi, hF, hE2⟩ := hrel
    by_cases hin : i < n
    · obtain ⟨x, hxi⟩ : ∃ x, ts[i]? = some x := ⟨_, List.getElem?_eq_getElem (by rw [← hn.out]; exact hin)⟩
      obtain ⟨ga, o, hA, hcl⟩ := hts.out.at_ (by rw [List.length_map, ← hn.out]; omega)
      subst hA
      have hld := hE2.out.cell (hcl i (strV x) (by rw [List.getElem?_map, hxi]; rfl))
      unfold strV at hld
      have hxl := hlen.out x (List.mem_of_getElem? hxi)
      have hsn := foldA_snoc f hxi
      obtain ⟨F, hFe⟩ : ∃ F, F = (ts.take i).foldl addB f := ⟨_, rfl⟩
      rw [← hFe] at hF hsn
      have hFl : F.length = f.length := by rw [hFe]; exact foldA_len _ _
      have hc1 := hide (hsz.out wr F hF.out hFl)
      rw [hFl, ← hm.out] at hc1
      have hc2 := hide (fun W => hpl.out x W hxl)
      have hr0 := hF.out
      obtain ⟨b2, cc2, cur2, hr2, _⟩ := hr0
      have k2 := hr2.cell 0 rfl
      clear hr2 hcl
      replace hxi := hide hxi
      replace hFe := hide hFe
      replace hsn := hide hsn
      replace hFl := hide hFl
      go_wp2_with fail
      refine hc1.out.mono ?_
      rintro e w3 ⟨rfl, hw⟩
      obtain rfl := hw.symm
      go_wp2_with fail
      refine (hc2.out _).mono ?_
      rintro e w4 ⟨rfl, hE4⟩
      have hF4 := hide (hF.out.ext hE4)
      have hE04 := hide (hE2.out.trans hE4)
      clear hE4
      go_wp2_with fail
      go_loopw [5, 24] (fun s5 s24 wv => ∃ (j : Nat) (z : Int), s5 = .int .i64 z ∧ s24 = .int .i64 (j : Int) ∧ j ≤ 4 ∧ Hid (FilO wv base g (pAdd F x m j)) ∧ Hid (Ext w0 wv)) (fun _ s24 _ => 4 - (intOf s24).toNat)
      case atStart => exact ⟨0, _, rfl, rfl, by omega, hF4, hE04⟩
      case round =>
        obtain ⟨j, z2, rfl, rfl, hj, hFj, hEj⟩ := hrel
        by_cases hj4 : j < 4
        · have hx := hix.out x j hj4
          have hj4i : (j : Int) < 4 := by omega
          have hc3 := hse.out x j wr (pAdd F x m j) hFj.out (by rw [pAdd_len]; exact hFl.out)
          have hnx : setB (pAdd F x m j) (fpl x m j) = pAdd F x m (j + 1) := rfl
          rw [hnx] at hc3
          obtain ⟨p, hp⟩ : ∃ p, p = fpl x m j := ⟨_, rfl⟩
          rw [← hp] at hx hc3
          obtain ⟨v, hv⟩ : ∃ v, v = !hasB (pAdd F x m j) p := ⟨_, rfl⟩
          rw [← hv] at hc3
          have hr0 := hFj.out
          obtain ⟨b3, cc3, cur3, hr3, _⟩ := hr0
          have k3 := hr3.cell 0 rfl
          clear hr3 hnx
          replace hc3 := hide hc3
          replace hp := hide hp
          replace hv := hide hv
          cases v with
          | true =>
            go_wp2_with fail
            refine hc3.out.mono ?_
            rintro e w5 ⟨rfl, hF5, hE5⟩
            replace hF5 := hide hF5
            replace hE5 := hide (hE5 w0 hEj.out hb)
            go_wp2_with fail
            exact ⟨⟨j + 1, _, rfl, by congr 1, by omega, hF5, hE5⟩, by simp only [intOf]; omega⟩
          | false =>
            go_wp2_with fail
            refine hc3.out.mono ?_
            rintro e w5 ⟨rfl, hF5, hE5⟩
            replace hF5 := hide hF5
            replace hE5 := hide (hE5 w0 hEj.out hb)
            go_wp2_with fail
            exact ⟨⟨j + 1, _, rfl, by congr 1, by omega, hF5, hE5⟩, by simp only [intOf]; omega⟩
        · have hj4i : ¬ (j : Int) < 4 := by omega
          have hFe4 : Hid (FilO wr base g ((ts.take (i + 1)).foldl addB f)) := hide (by
            rw [hsn.out, ← pAdd_all, hFl.out, ← hm.out]
            have := hFj.out
            rw [show j = 4 by omega] at this
            exact this)
          go_wp2_with fail
          exact ⟨⟨i + 1, _, rfl, rfl, by omega, hFe4, hEj⟩, by simp only [intOf]; omega⟩
    · obtain rfl : i = n := by omega
      have hFz : FilO wr base g Z := by
        have := hF.out
        rw [List.take_of_length_le (by rw [← hn.out]; exact Nat.le_refl _)] at this
        rw [hZ.out]; exact this
      replace hFz := hide hFz
      go_wp2_with fail
      go_ret
      exact ⟨_, rfl, hFz.out, hE2.out⟩
def NewF (w : World) (f : List UInt8) (e : Ending) (w' : World) : Prop := ∃ g, e = .returned (.tuple #[.pointer (some ⟨g, 0, none⟩), .int .i64 0]) ∧ w.heap.size ≤ g ∧ FilO w' w.heap.size g f ∧ Ext w w'
set_option maxRecDepth 100000 in
set_option maxHeartbeats 1000000 in
theorem fnew_any (n : Nat) (w : World) (hn : n ≤ 262144) : Calls Tryz.prog 89 #[.int .i64 (n : Int)] w fun e w' => NewF w (List.replicate (filL n) 0) e w' := by
  obtain ⟨x, hx⟩ : ∃ x : Nat, (x : Int) = max ((n * 10 : Nat) : Int) 64 := ⟨max (n * 10) 64, by omega⟩
  have hxe : (x : Int) = max (10 * (n : Int)) 64 := by omega
  obtain ⟨y, hy⟩ : ∃ y : Nat, (y : Int) = min (x : Int) 1048576 := ⟨min x 1048576, by omega⟩
  have hmax := fun (W : World) => run_max2e (P := Tryz.prog) #[3, 3] 3 hxe W
  have hmin := fun (W : World) => run_min2 (P := Tryz.prog) #[3, 3] 3 hy W
  obtain ⟨k, hk⟩ : ∃ k, k = (y + 7) / 8 := ⟨_, rfl⟩
  have hkf : k = filL n := by unfold filL; omega
  have hy8 : y ≤ 1048576 := by omega
  have hky : ((y : Int) + 7) / 8 = (k : Int) := by omega
  have hk9 : k ≤ 131072 := by omega
  have hmk : ∀ W : World, (Instr.makeSlice 25 (.int .i64 (k : Int)) (.int .i64 (k : Int))).run Tryz.prog W = .ok (.slice (some ⟨W.heap.size, 0, none⟩) k k) (W.alloc (.cells (madeCells #[.int .u8 0] k) 5)) := fun W => by
    have h := run_make (P := Tryz.prog) W 25 5 _ _ Tryz.underlying25 rfl rfl .i64 .i64 (k : Int) (k : Int) (by omega) (by omega) (by show (1 : Int) * k ≤ _; omega) (by omega)
    rw [h]
    simp only [Int.toNat_natCast]
    show Result.ok _ (W.alloc (.cells (madeCells #[.int .u8 0] (k * 1)) 5)) = _
    rw [Nat.mul_one]
  replace hx := hide hx
  replace hxe := hide hxe
  replace hy := hide hy
  replace hk := hide hk
  replace hkf := hide hkf
  go_enter Tryz.func89, Tryz.ntmps89
  go_wp2_with fail
  go_ret2
  have h1 := Row.new w 5 (madeCells #[.int .u8 0] k)
  have h2 := Row.new (w.alloc (.cells (madeCells #[.int .u8 0] k) 5)) 166 #[.slice (some ⟨w.heap.size, 0, none⟩) k k]
  rw [World.size_alloc] at h2
  refine ⟨w.heap.size + 1, rfl, by omega, ⟨w.heap.size, k, _, by rw [List.length_replicate, ← hkf.out]; exact h2, Nat.le_refl _, h1.alloc _, by rw [List.length_replicate, ← hkf.out]; exact Nat.le_refl _, by rw [size_madeCells]; exact Nat.le_refl _, ?_⟩, ((Ext.refl w).alloc _).alloc _⟩
  rw [List.length_replicate, ← hkf.out, toList_madeCells_one, List.take_of_length_le (by simp), List.map_replicate]
  rfl
def NewF1 (w : World) (f : List UInt8) (e : Ending) (w' : World) : Prop := ∃ g, e = .returned (.pointer (some ⟨g, 0, none⟩)) ∧ w.heap.size ≤ g ∧ FilO w' w.heap.size g f ∧ Ext w w'
set_option maxRecDepth 100000 in
set_option maxHeartbeats 1000000 in
theorem fof_any (A : Option Addr) (n c : Nat) (ts : List (List UInt8)) (w : World) (hn : n = ts.length) (hts : Cells w A (ts.map strV)) (hn9 : n ≤ 1000000000) (hlen : ∀ t ∈ ts, t.length ≤ 1000000000) :
    Calls Tryz.prog 45 #[.slice A n c] w fun e w' => NewF1 w (ofB ts) e w' := by
  obtain ⟨x, hx⟩ : ∃ x : Nat, (x : Int) = min (n : Int) 262144 := ⟨min n 262144, by omega⟩
  have hmin := fun (W : World) => run_min2 (P := Tryz.prog) #[3, 3] 3 hx W
  have hxn : x = min ts.length 262144 := by omega
  have hnw := hide (fun W => fnew_any x W (by omega))
  have hadd := hide (fun g W (h : FilO W w.heap.size g (List.replicate (filL x) 0)) (hE : Ext w W) => add_any g w.heap.size (List.replicate (filL x) 0) A n c ts w W h (by rw [List.length_replicate]; have := filL_bd x; omega) (by rw [List.length_replicate]; have := filL_bd x; omega) hn hts hE (Nat.le_refl _) hn9 hlen)
  have hof : ts.foldl addB (List.replicate (filL x) 0) = ofB ts := by unfold ofB; rw [hxn]
  rw [hof] at hadd
  replace hx := hide hx
  replace hxn := hide hxn
  replace hn := hide hn
  replace hof := hide hof
  replace hts := hide hts
  replace hlen := hide hlen
  go_enter Tryz.func45, Tryz.ntmps45
  go_wp2_with fail
  refine (hnw.out _).mono ?_
  rintro e w1 ⟨g, rfl, hg, hF, hE⟩
  replace hF := hide hF
  replace hE := hide hE
  go_wp2_with fail
  refine (hadd.out g _ hF.out hE.out).mono ?_
  rintro e w2 ⟨z, rfl, hF2, hE2⟩
  replace hF2 := hide hF2
  replace hE2 := hide hE2
  go_wp2_with fail
  go_ret
  exact ⟨g, rfl, hg, hF2.out, hE2.out⟩
set_option maxRecDepth 100000 in
set_option maxHeartbeats 1000000 in
theorem fbytes_any (g : Nat) (f : List UInt8) (w : World) (h : FilR w g f) (hf : 0 < f.length) (hf2 : f.length ≤ 131072) :
    Calls Tryz.prog 46 #[.pointer (some ⟨g, 0, none⟩)] w fun e w' => NewB w f e w' := by
  have hno := hide (fnone_no g f w h hf)
  obtain ⟨A, c, hr, hi⟩ := h
  have k0 := hr.cell 0 rfl
  have hcl := hide (clone_any A f.length c f w rfl hi.bytes hi.nil_ (by omega))
  obtain ⟨n, hn⟩ : ∃ n, n = f.length := ⟨_, rfl⟩
  rw [← hn] at k0 hcl
  replace hn := hide hn
  replace hr := hide hr
  replace hi := hide hi
  go_enter Tryz.func46, Tryz.ntmps46
  go_wp2_with fail
  refine hno.out.mono ?_
  rintro e w1 ⟨rfl, hw⟩
  obtain rfl := hw.symm
  go_wp2_with fail
  refine hcl.out.mono ?_
  rintro e w2 ⟨A1, c1, rfl, hB, hE⟩
  replace hB := hide hB
  replace hE := hide hE
  go_wp2_with fail
  go_ret
  exact ⟨A1, c1, by rw [← hn.out]; rfl, by rw [← hn.out]; exact hB.out, hE.out⟩
set_option maxRecDepth 100000 in
set_option maxHeartbeats 1000000 in
theorem fread_any (A : Option Addr) (n c : Nat) (f : List UInt8) (w : World) (h : In8 w A n c f) (hf : 8 ≤ n) (hf2 : n ≤ 131072) :
    Calls Tryz.prog 53 #[.slice A n c] w fun e w' => NewF w f e w' := by
  have hcl := hide (clone_any A n c f w h.len h.bytes h.nil_ (by omega))
  have hln := hide h.len
  replace h := hide h
  go_enter Tryz.func53, Tryz.ntmps53
  go_wp2_with fail
  refine hcl.out.mono ?_
  rintro e w1 ⟨A1, c1, rfl, hB, hE⟩
  replace hB := hide hB
  replace hE := hide hE
  go_wp2_with fail
  go_ret2
  have h2 := Row.new w1 166 #[.slice A1 n c1]
  obtain ⟨h3, h4, h5⟩ := hB.out
  rcases h5 with ⟨_, h6⟩ | ⟨b, cur, rfl, hb, hr, hc, ht⟩
  · omega
  · exact ⟨w1.heap.size, rfl, hE.out.size, ⟨b, c1, cur, by rw [← hln.out]; exact h2, hb, hr.alloc _, by rw [← hln.out]; exact h4, hc, by rw [← hln.out]; exact ht⟩, hE.out.alloc _⟩
end
end Go.Proofs.YtkdcnhnaiknaaaaGreat
