/- A row of terms that is sorted: symMerge, where the left part is one element. -/
import Derived.Test.YtkdcnhnaiknaaaaGreatNB10
import Derived.Test.YtkdcnhnaiknaaaaGreatNB08
set_option linter.unusedSimpArgs false
set_option linter.unusedVariables false
namespace Go.Proofs.YtkdcnhnaiknaaaaGreat
open Go.RowKit

theorem set_swap2 {α : Type} (y z : α) (B : List α) : ∀ A : List α, ((A ++ z :: y :: B).set A.length y).set (A.length + 1) z = A ++ y :: z :: B
  | [] => rfl
  | a :: A => by simp [set_swap2 y z B A]
theorem seg_left {α : Type} {P A R : List α} {i : Nat} (h : i < A.length) : (P ++ (A ++ R))[P.length + i]? = A[i]? := by
  rw [List.getElem?_append_right (by omega), show P.length + i - P.length = i by omega, List.getElem?_append_left h]
theorem seg_right {α : Type} {P A B R : List α} {i : Nat} (h : i < B.length) : (P ++ (A ++ (B ++ R)))[P.length + A.length + i]? = B[i]? := by
  rw [List.getElem?_append_right (by omega), List.getElem?_append_right (by omega), show P.length + A.length + i - P.length - A.length = i by omega, List.getElem?_append_left h]
/-- What is left of a row when its merging is over. -/
def SymP (g : Nat) (P A B Q : List TmV) (w : World) (e : Ending) (w' : World) : Prop := e = .returned (.tuple #[]) ∧ ∃ M, Mrg A B M ∧ TR w' g (P ++ (M ++ Q)) ∧ Chg (fun k => k = g) w w'
set_option maxRecDepth 100000 in
set_option maxHeartbeats 2000000 in
theorem sym_left (g c a m b : Nat) (D P B Q : List TmV) (z : TmV) (w : World) (hTR : TR w g D) (hD : D = P ++ ([z] ++ (B ++ Q))) (ha : a = P.length) (hm : m = a + 1) (hb : b = m + B.length) (hB : Srt B) (hle : D.length ≤ 1073741824) :
    Calls Tryz.prog 199 #[.slice (some ⟨g, 0, none⟩) D.length c, .int .i64 (a : Int), .int .i64 (m : Int), .int .i64 (b : Int), cmpV] w (SymP g P [z] B Q w) := by
  obtain ⟨dl, hdl⟩ : ∃ n, n = D.length := ⟨_, rfl⟩
  have hbd : b ≤ dl := by rw [hdl, hD]; simp only [List.length_append, List.length_singleton]; omega
  rw [← hdl] at hle ⊢
  have hz : D[a]? = some z := by rw [hD, ha]; exact seg_left (P := P) (A := [z]) (i := 0) (by simp)
  have hy : ∀ i, i < B.length → D[m + i]? = B[i]? := fun i hi => by rw [hD, hm, ha]; exact seg_right (P := P) (A := [z]) hi
  have hma : (m : Int) - (a : Int) = 1 := by omega
  have hab : a < b := by omega
  have hmb : m ≤ b := by omega
  have hcmp := fun x y W => tcmp_any x y W
  unfold tagg at hcmp
  unfold cmpV
  replace hcmp := hide hcmp
  replace hTR := hide hTR
  replace hD := hide hD
  replace hdl := hide hdl
  replace hz := hide hz
  replace hy := hide hy
  replace hB := hide hB
  replace ha := hide ha
  replace hm := hide hm
  replace hb := hide hb
  go_enter Tryz.func199, Tryz.ntmps199
  go_wp2_with fail
  go_loopw [10, 11] (fun s10 s11 wr => ∃ i j : Nat, s10 = .int .i64 (i : Int) ∧ s11 = .int .i64 (j : Int) ∧ m ≤ i ∧ i ≤ j ∧ j ≤ b ∧ Hid ((∀ y ∈ B.take (i - m), y.1 < z.1) ∧ (∀ y ∈ B.drop (j - m), ¬ y.1 < z.1) ∧ Ext w wr)) (fun s10 s11 _ => (intOf s11).toNat - (intOf s10).toNat)
  case atStart => exact ⟨m, b, rfl, rfl, Nat.le_refl _, hmb, Nat.le_refl _, hide ⟨by rw [Nat.sub_self]; nofun, by rw [show b - m = B.length by have := hb.out; omega, List.drop_length]; nofun, Ext.refl _⟩⟩
  case round =>
    obtain ⟨i, j, rfl, rfl, hmi, hij, hjb, hI⟩ := hrel
    by_cases hlt : i < j
    · obtain ⟨h, hh⟩ : ∃ h : Nat, ((i : Int) + (j : Int)) / 2 = (h : Int) := ⟨(i + j) / 2, by omega⟩
      have hih : i ≤ h := by omega
      have hhj : h < j := by omega
      obtain ⟨y, hyB⟩ : ∃ y, B[h - m]? = some y := ⟨_, List.getElem?_eq_getElem (by have := hb.out; omega)⟩
      have hyD : D[h]? = some y := by have := hy.out (h - m) (by have := hb.out; omega); rw [show m + (h - m) = h by omega] at this; rw [this]; exact hyB
      have ht1 := (hTR.out.ext hI.out.2.2).at_ hyD
      have ht2 := (hTR.out.ext hI.out.2.2).at_ hz.out
      have hS1 : wr.cell? ⟨g, h * 2, none⟩ = some (.string ⟨y.1.toArray⟩) ∧ wr.cell? ⟨g, h * 2 + 1, none⟩ = some (.slice y.2.1 y.2.2.1 y.2.2.2) ∧ wr.cell? ⟨g, a * 2, none⟩ = some (.string ⟨z.1.toArray⟩) ∧ wr.cell? ⟨g, a * 2 + 1, none⟩ = some (.slice z.2.1 z.2.2.1 z.2.2.2) ∧ Ext wr wr := ⟨ht1.1, ht1.2, ht2.1, ht2.2, Ext.refl wr⟩
      have hkp : ∀ w0 w1 : World, (w0.cell? ⟨g, h * 2, none⟩ = some (.string ⟨y.1.toArray⟩) ∧ w0.cell? ⟨g, h * 2 + 1, none⟩ = some (.slice y.2.1 y.2.2.1 y.2.2.2) ∧ w0.cell? ⟨g, a * 2, none⟩ = some (.string ⟨z.1.toArray⟩) ∧ w0.cell? ⟨g, a * 2 + 1, none⟩ = some (.slice z.2.1 z.2.2.1 z.2.2.2) ∧ Ext wr w0) → Ext w0 w1 → (w1.cell? ⟨g, h * 2, none⟩ = some (.string ⟨y.1.toArray⟩) ∧ w1.cell? ⟨g, h * 2 + 1, none⟩ = some (.slice y.2.1 y.2.2.1 y.2.2.2) ∧ w1.cell? ⟨g, a * 2, none⟩ = some (.string ⟨z.1.toArray⟩) ∧ w1.cell? ⟨g, a * 2 + 1, none⟩ = some (.slice z.2.1 z.2.2.1 z.2.2.2) ∧ Ext wr w1) := fun w0 w1 h1 h3 => ⟨h3.cell h1.1, h3.cell h1.2.1, h3.cell h1.2.2.1, h3.cell h1.2.2.2.1, h1.2.2.2.2.trans h3⟩
      have hS0 := hkp _ _ hS1 (Ext.refl wr).drew
      have b1 : (h : Int) < (dl : Int) := by omega
      have b2 : (a : Int) < (dl : Int) := by omega
      replace hS1 := hide hS1
      replace hS0 := hide hS0
      replace hkp := hide hkp
      replace hyB := hide hyB
      replace hyD := hide hyD
      replace hh := hide hh
      clear ht1 ht2
      go_upto_region 5 with (fail)
      rw [hh.out]
      go_region_held3 (fun x => x.cell? ⟨g, h * 2, none⟩ = some (.string ⟨y.1.toArray⟩) ∧ x.cell? ⟨g, h * 2 + 1, none⟩ = some (.slice y.2.1 y.2.2.1 y.2.2.2) ∧ x.cell? ⟨g, a * 2, none⟩ = some (.string ⟨z.1.toArray⟩) ∧ x.cell? ⟨g, a * 2 + 1, none⟩ = some (.slice z.2.1 z.2.2.1 z.2.2.2) ∧ Ext wr x) (first | exact hS0.out | exact hS1.out | exact ‹_› | exact hkp.out _ _ ‹_› ‹_›) (first
        | (go_at_call 137; refine (hcmp.out y z _).mono ?_; rintro e w5 ⟨zc, rfl, hzc, hz1, hz2, hE5⟩))
      have hE6 := hI.out.2.2.trans ((Ext.refl wr).drew.trans hE5)
      by_cases hyz : y.1 < z.1
      · have hzb : decide (zc < 0) = true := decide_eq_true (hzc.2 hyz)
        have hzn := hzc.2 hyz
        replace hzc := hide hzc
        go_wp2_with fail
        go_roundw
        case rel => exact ⟨h + 1, j, by go_num, rfl, by omega, by omega, hjb, hide ⟨fun x hx => nlt_lt (hB.out.take_le hyB.out x (by rw [show h - m + 1 = h + 1 - m by omega]; exact hx)) hyz, hI.out.2.1, hE6⟩⟩
        case measure => simp [intOf]; omega
      · have hzn : ¬ zc < 0 := fun hc => hyz (hzc.1 hc)
        have hzb : decide (zc < 0) = false := decide_eq_false hzn
        replace hzc := hide hzc
        go_wp2_with fail
        go_roundw
        case rel => exact ⟨i, h, rfl, rfl, hmi, hih, by omega, hide ⟨hI.out.1, fun x hx => nlt_trans hyz (hB.out.drop_ge hyB.out x hx), hE6⟩⟩
        case measure => simp [intOf]; omega
    · obtain rfl : i = j := by omega
      have hib : i ≤ dl := by omega
      have hai : (i : Int) - 1 = ((i - 1 : Nat) : Int) := by have := hm.out; omega
      have hM : Mrg [z] B (B.take (i - m) ++ z :: B.drop (i - m)) := one_left hB.out hI.out.1 hI.out.2.1
      have hT := hTR.out.ext hI.out.2.2
      have hC := Chg.of_ext hI.out.2.2 (fun k => k = g)
      have ham := hm.out
      obtain ⟨wo, rfl⟩ : ∃ wo, wo = wr := ⟨_, rfl⟩
      replace hT := hide hT
      replace hC := hide hC
      replace hM := hide hM
      replace hai := hide hai
      replace ham := hide ham
      go_wp2_with fail
      go_loopw [13] (fun s13 wr => ∃ (k : Nat) (E : List TmV), s13 = .int .i64 (k : Int) ∧ a ≤ k ∧ k + 1 ≤ i ∧ Hid (E = P ++ (B.take (k - a) ++ z :: (B.drop (k - a) ++ Q)) ∧ TR wr g E ∧ Chg (fun k => k = g) w wr)) (fun s13 _ => i - (intOf s13).toNat)
      case atStart => exact ⟨a, D, rfl, Nat.le_refl _, by have := ham.out; omega, hide ⟨by rw [Nat.sub_self]; exact hD.out, hT.out, hC.out⟩⟩
      case round =>
        obtain ⟨k, E, rfl, hak, hki, hK⟩ := hrel
        have hPa := ha.out
        have hmo := hm.out
        have hbo := hb.out
        by_cases hlt : k + 1 < i
        · have hki1 : (k : Int) < (i : Int) - 1 := by omega
          obtain ⟨y, hyB⟩ : ∃ y, B[k - a]? = some y := ⟨_, List.getElem?_eq_getElem (by omega)⟩
          have hd : B.drop (k - a) = y :: B.drop (k - a + 1) := by
            obtain ⟨hl, he⟩ := List.getElem?_eq_some_iff.1 hyB
            rw [List.drop_eq_getElem_cons hl, he]
          have htk : B.take (k - a + 1) = B.take (k - a) ++ [y] := by
            obtain ⟨hl, he⟩ := List.getElem?_eq_some_iff.1 hyB
            rw [List.take_succ_eq_append_getElem hl, he]
          have hPl : (P ++ B.take (k - a)).length = k := by rw [List.length_append, List.length_take]; omega
          have hEq : E = (P ++ B.take (k - a)) ++ z :: y :: (B.drop (k - a + 1) ++ Q) := by rw [hK.out.1, hd]; simp
          have hEl : E.length = dl := by rw [hK.out.1, hdl.out, hD.out]; simp only [List.length_append, List.length_cons, List.length_take, List.length_drop, List.length_nil]; omega
          have hz1 : E[k]? = some z := by rw [hEq, List.getElem?_append_right (by omega), hPl, Nat.sub_self]; rfl
          have hy1 : E[k + 1]? = some y := by rw [hEq, List.getElem?_append_right (by omega), hPl, show k + 1 - k = 1 by omega]; rfl
          have hset := set_swap2 y z (B.drop (k - a + 1) ++ Q) (P ++ B.take (k - a))
          rw [hPl, ← hEq] at hset
          have q1 := hK.out.2.1.at_ hz1
          have q2 := hK.out.2.1.at_ hy1
          have x0 := q1.1
          have x1 := q1.2
          have y0 := q2.1
          have y1 := q2.2
          have fr := hK.out.2.1.free
          replace hset := hide hset
          replace hEq := hide hEq
          replace hEl := hide hEl
          replace hd := hide hd
          replace htk := hide htk
          replace hPl := hide hPl
          replace hz1 := hide hz1
          replace hy1 := hide hy1
          replace hyB := hide hyB
          replace hPa := hide hPa
          replace hmo := hide hmo
          replace hbo := hide hbo
          clear q1 q2
          go_wp2_with fail
          refine wp_region_text follows (by kernel_rfl) (by kernel_rfl) (fun K hK => ?_)
          go_wp2_with fail
          refine ⟨by kernel_rfl, ?_⟩
          go_wp2_with fail
          have h1 := hK.out.2.1.put (i := k) (by have := hEl.out; omega) y
          have h2 := h1.put (i := k + 1) (by rw [List.length_set]; have := hEl.out; omega) z
          have hc := (hK.out.2.2.trans (setT_chg wr g k y) fun _ _ h => h).trans (setT_chg _ g (k + 1) z) fun _ _ h => h
          rw [hset.out] at h2
          go_roundw
          case rel => exact ⟨k + 1, _, by go_num, by omega, by omega, hide ⟨by rw [show k + 1 - a = k - a + 1 by omega, htk.out]; simp, h2.drew, hc.trans (Chg.of_ext (Ext.refl _).drew _) fun _ _ h => h⟩⟩
          case measure => simp [intOf]; omega
        · have hki1 : ¬ (k : Int) < (i : Int) - 1 := by omega
          have hfin : SymP g P [z] B Q w (.returned (.tuple #[])) wr := by
            refine ⟨rfl, _, hM.out, ?_, hK.out.2.2⟩
            have he := hK.out.1
            rw [show k - a = i - m by omega] at he
            rw [show P ++ (B.take (i - m) ++ z :: B.drop (i - m) ++ Q) = E by rw [he]; simp]
            exact hK.out.2.1
          replace hfin := hide hfin
          replace hPa := hide hPa
          replace hmo := hide hmo
          replace hbo := hide hbo
          go_wp2_with fail
          go_end0
          exact hfin.out
end Go.Proofs.YtkdcnhnaiknaaaaGreat

/- A row of terms that is sorted: symMerge, where the right part is one element. -/
namespace Go.Proofs.YtkdcnhnaiknaaaaGreat
open Go.RowKit

set_option maxRecDepth 100000 in
set_option maxHeartbeats 2000000 in
theorem sym_right (g c a m b : Nat) (D P A Q : List TmV) (z : TmV) (w : World) (hTR : TR w g D) (hD : D = P ++ (A ++ ([z] ++ Q))) (ha : a = P.length) (hm : m = a + A.length) (hb : b = m + 1) (hA : Srt A) (hA1 : 1 < A.length) (hle : D.length ≤ 1073741824) :
    Calls Tryz.prog 199 #[.slice (some ⟨g, 0, none⟩) D.length c, .int .i64 (a : Int), .int .i64 (m : Int), .int .i64 (b : Int), cmpV] w (SymP g P A [z] Q w) := by
  obtain ⟨dl, hdl⟩ : ∃ n, n = D.length := ⟨_, rfl⟩
  have hbd : b ≤ dl := by rw [hdl, hD]; simp only [List.length_append, List.length_singleton]; omega
  rw [← hdl] at hle ⊢
  have hz : D[m]? = some z := by rw [hD, hm, ha]; exact seg_right (P := P) (B := [z]) (i := 0) (by simp)
  have hy : ∀ i, i < A.length → D[a + i]? = A[i]? := fun i hi => by rw [hD, ha]; exact seg_left hi
  have hma : ¬ (m : Int) - (a : Int) = 1 := by omega
  have hmab : ((m : Int) - (a : Int) == 1) = false := beq_eq_false_iff_ne.2 hma
  have hbm : (b : Int) - (m : Int) = 1 := by omega
  have ham : a < m := by omega
  have hmb : m < b := by omega
  have hcmp := fun x y W => tcmp_any x y W
  unfold tagg at hcmp
  unfold cmpV
  replace hcmp := hide hcmp
  replace hTR := hide hTR
  replace hD := hide hD
  replace hdl := hide hdl
  replace hz := hide hz
  replace hy := hide hy
  replace hA := hide hA
  replace ha := hide ha
  replace hm := hide hm
  replace hb := hide hb
  go_enter Tryz.func199, Tryz.ntmps199
  go_wp2_with fail
  go_loopw [14, 15] (fun s14 s15 wr => ∃ i j : Nat, s14 = .int .i64 (i : Int) ∧ s15 = .int .i64 (j : Int) ∧ a ≤ i ∧ i ≤ j ∧ j ≤ m ∧ Hid ((∀ x ∈ A.take (i - a), ¬ z.1 < x.1) ∧ (∀ x ∈ A.drop (j - a), z.1 < x.1) ∧ Ext w wr)) (fun s14 s15 _ => (intOf s15).toNat - (intOf s14).toNat)
  case atStart => exact ⟨a, m, rfl, rfl, Nat.le_refl _, by omega, Nat.le_refl _, hide ⟨by rw [Nat.sub_self]; nofun, by rw [show m - a = A.length by have := hm.out; omega, List.drop_length]; nofun, Ext.refl _⟩⟩
  case round =>
    obtain ⟨i, j, rfl, rfl, hai, hij, hjm, hI⟩ := hrel
    by_cases hlt : i < j
    · obtain ⟨h, hh⟩ : ∃ h : Nat, ((i : Int) + (j : Int)) / 2 = (h : Int) := ⟨(i + j) / 2, by omega⟩
      have hih : i ≤ h := by omega
      have hhj : h < j := by omega
      obtain ⟨y, hyA⟩ : ∃ y, A[h - a]? = some y := ⟨_, List.getElem?_eq_getElem (by have := hm.out; omega)⟩
      have hyD : D[h]? = some y := by have := hy.out (h - a) (by have := hm.out; omega); rw [show a + (h - a) = h by omega] at this; rw [this]; exact hyA
      have ht1 := (hTR.out.ext hI.out.2.2).at_ hz.out
      have ht2 := (hTR.out.ext hI.out.2.2).at_ hyD
      have hS1 : wr.cell? ⟨g, m * 2, none⟩ = some (.string ⟨z.1.toArray⟩) ∧ wr.cell? ⟨g, m * 2 + 1, none⟩ = some (.slice z.2.1 z.2.2.1 z.2.2.2) ∧ wr.cell? ⟨g, h * 2, none⟩ = some (.string ⟨y.1.toArray⟩) ∧ wr.cell? ⟨g, h * 2 + 1, none⟩ = some (.slice y.2.1 y.2.2.1 y.2.2.2) ∧ Ext wr wr := ⟨ht1.1, ht1.2, ht2.1, ht2.2, Ext.refl wr⟩
      have hkp : ∀ w0 w1 : World, (w0.cell? ⟨g, m * 2, none⟩ = some (.string ⟨z.1.toArray⟩) ∧ w0.cell? ⟨g, m * 2 + 1, none⟩ = some (.slice z.2.1 z.2.2.1 z.2.2.2) ∧ w0.cell? ⟨g, h * 2, none⟩ = some (.string ⟨y.1.toArray⟩) ∧ w0.cell? ⟨g, h * 2 + 1, none⟩ = some (.slice y.2.1 y.2.2.1 y.2.2.2) ∧ Ext wr w0) → Ext w0 w1 → (w1.cell? ⟨g, m * 2, none⟩ = some (.string ⟨z.1.toArray⟩) ∧ w1.cell? ⟨g, m * 2 + 1, none⟩ = some (.slice z.2.1 z.2.2.1 z.2.2.2) ∧ w1.cell? ⟨g, h * 2, none⟩ = some (.string ⟨y.1.toArray⟩) ∧ w1.cell? ⟨g, h * 2 + 1, none⟩ = some (.slice y.2.1 y.2.2.1 y.2.2.2) ∧ Ext wr w1) := fun w0 w1 h1 h3 => ⟨h3.cell h1.1, h3.cell h1.2.1, h3.cell h1.2.2.1, h3.cell h1.2.2.2.1, h1.2.2.2.2.trans h3⟩
      have hS0 := hkp _ _ hS1 (Ext.refl wr).drew
      have b1 : (h : Int) < (dl : Int) := by omega
      have b2 : (m : Int) < (dl : Int) := by omega
      replace hS1 := hide hS1
      replace hS0 := hide hS0
      replace hkp := hide hkp
      replace hyA := hide hyA
      replace hyD := hide hyD
      replace hh := hide hh
      clear ht1 ht2
      go_upto_region 17 with (fail)
      rw [hh.out]
      by_cases hyz : z.1 < y.1
      · have hyz' := hide hyz
        go_region_held3 (fun x => x.cell? ⟨g, m * 2, none⟩ = some (.string ⟨z.1.toArray⟩) ∧ x.cell? ⟨g, m * 2 + 1, none⟩ = some (.slice z.2.1 z.2.2.1 z.2.2.2) ∧ x.cell? ⟨g, h * 2, none⟩ = some (.string ⟨y.1.toArray⟩) ∧ x.cell? ⟨g, h * 2 + 1, none⟩ = some (.slice y.2.1 y.2.2.1 y.2.2.2) ∧ Ext wr x) (first | exact hS0.out | exact hS1.out | exact ‹_› | exact hkp.out _ _ ‹_› ‹_›) (first
          | (go_at_call 137; refine (hcmp.out z y _).mono ?_; rintro e w5 ⟨zc, rfl, hzc, hz1, hz2, hE5⟩; have hzn := hzc.2 hyz'.out; have hzb : decide (zc < 0) = true := decide_eq_true hzn; replace hzc := hide hzc))
        have hE6 := hI.out.2.2.trans ((Ext.refl wr).drew.trans hE5)
        go_wp2_with fail
        go_roundw
        case rel => exact ⟨i, h, rfl, rfl, hai, hih, by omega, hide ⟨hI.out.1, fun x hx => lt_nlt hyz (hA.out.drop_ge hyA.out x hx), hE6⟩⟩
        case measure => simp [intOf]; omega
      · have hyz' := hide hyz
        go_region_held3 (fun x => x.cell? ⟨g, m * 2, none⟩ = some (.string ⟨z.1.toArray⟩) ∧ x.cell? ⟨g, m * 2 + 1, none⟩ = some (.slice z.2.1 z.2.2.1 z.2.2.2) ∧ x.cell? ⟨g, h * 2, none⟩ = some (.string ⟨y.1.toArray⟩) ∧ x.cell? ⟨g, h * 2 + 1, none⟩ = some (.slice y.2.1 y.2.2.1 y.2.2.2) ∧ Ext wr x) (first | exact hS0.out | exact hS1.out | exact ‹_› | exact hkp.out _ _ ‹_› ‹_›) (first
          | (go_at_call 137; refine (hcmp.out z y _).mono ?_; rintro e w5 ⟨zc, rfl, hzc, hz1, hz2, hE5⟩; have hzn : ¬ zc < 0 := fun hc => hyz'.out (hzc.1 hc); have hzb : decide (zc < 0) = false := decide_eq_false hzn; replace hzc := hide hzc))
        have hE6 := hI.out.2.2.trans ((Ext.refl wr).drew.trans hE5)
        go_wp2_with fail
        go_roundw
        case rel => exact ⟨h + 1, j, by go_num, rfl, by omega, by omega, hjm, hide ⟨fun x hx => nlt_trans (hA.out.take_le hyA.out x (by rw [show h - a + 1 = h + 1 - a by omega]; exact hx)) hyz, hI.out.2.1, hE6⟩⟩
        case measure => simp [intOf]; omega
    · obtain rfl : i = j := by omega
      have hM : Mrg A [z] (A.take (i - a) ++ z :: A.drop (i - a)) := one_right hA.out hI.out.1 hI.out.2.1
      have hT := hTR.out.ext hI.out.2.2
      have hC := Chg.of_ext hI.out.2.2 (fun k => k = g)
      have hmo := hm.out
      obtain ⟨wo, rfl⟩ : ∃ wo, wo = wr := ⟨_, rfl⟩
      replace hT := hide hT
      replace hC := hide hC
      replace hM := hide hM
      replace hmo := hide hmo
      go_wp2_with fail
      go_loopw [17] (fun s17 wr => ∃ (k : Nat) (E : List TmV), s17 = .int .i64 (k : Int) ∧ i ≤ k ∧ k ≤ m ∧ Hid (E = P ++ (A.take (k - a) ++ z :: (A.drop (k - a) ++ Q)) ∧ TR wr g E ∧ Chg (fun k => k = g) w wr)) (fun s17 _ => (intOf s17).toNat)
      case atStart => exact ⟨m, D, rfl, by omega, Nat.le_refl _, hide ⟨by rw [show m - a = A.length by have := hmo.out; omega, List.take_length, List.drop_length]; exact hD.out, hT.out, hC.out⟩⟩
      case round =>
        obtain ⟨k, E, rfl, hik, hkm, hK⟩ := hrel
        have hPa := ha.out
        have hmo := hm.out
        have hbo := hb.out
        by_cases hlt : i < k
        · obtain ⟨k1, hk1⟩ : ∃ k1, k = k1 + 1 := ⟨k - 1, by omega⟩
          obtain ⟨y, hyA⟩ : ∃ y, A[k1 - a]? = some y := ⟨_, List.getElem?_eq_getElem (by omega)⟩
          have hd : A.drop (k1 - a) = y :: A.drop (k - a) := by
            obtain ⟨hl, he⟩ := List.getElem?_eq_some_iff.1 hyA
            rw [List.drop_eq_getElem_cons hl, he, show k1 - a + 1 = k - a by omega]
          have htk : A.take (k - a) = A.take (k1 - a) ++ [y] := by
            obtain ⟨hl, he⟩ := List.getElem?_eq_some_iff.1 hyA
            rw [show k - a = k1 - a + 1 by omega, List.take_succ_eq_append_getElem hl, he]
          have hPl : (P ++ A.take (k1 - a)).length = k1 := by rw [List.length_append, List.length_take]; omega
          have hEq : E = (P ++ A.take (k1 - a)) ++ y :: z :: (A.drop (k - a) ++ Q) := by rw [hK.out.1, htk]; simp
          have hEl : E.length = dl := by rw [hK.out.1, hdl.out, hD.out]; simp only [List.length_append, List.length_cons, List.length_take, List.length_drop, List.length_nil]; omega
          have hz1 : E[k]? = some z := by rw [hEq, List.getElem?_append_right (by omega), hPl, show k - k1 = 1 by omega]; rfl
          have hy1 : E[k1]? = some y := by rw [hEq, List.getElem?_append_right (by omega), hPl, Nat.sub_self]; rfl
          have hset := set_swap y z (A.drop (k - a) ++ Q) (P ++ A.take (k1 - a))
          rw [hPl, ← hEq, ← hk1] at hset
          have q1 := hK.out.2.1.at_ hz1
          have q2 := hK.out.2.1.at_ hy1
          have x0 := q1.1
          have x1 := q1.2
          have y0 := q2.1
          have y1 := q2.2
          have fr := hK.out.2.1.free
          have o1 : k1 < k := by omega
          have o2 : k ≤ k1 + 1 := by omega
          have o3 : i ≤ k1 := by omega
          have b4 : IntKind.i64.wrap ((k : Int) - 1) = (k1 : Int) := by rw [IntWalk.i64_in _ (by omega)]; omega
          have b1 : (k : Int) < (dl : Int) := by omega
          have b2 : (k1 : Int) < (dl : Int) := by omega
          replace hset := hide hset
          replace hEq := hide hEq
          replace hEl := hide hEl
          replace hd := hide hd
          replace htk := hide htk
          replace hPl := hide hPl
          replace hz1 := hide hz1
          replace hy1 := hide hy1
          replace hyA := hide hyA
          replace hPa := hide hPa
          replace hmo := hide hmo
          replace hbo := hide hbo
          replace hk1 := hide hk1
          clear q1 q2
          go_wp2_with fail
          refine wp_region_text follows (by kernel_rfl) (by kernel_rfl) (fun K hK => ?_)
          go_wp2_with fail
          refine ⟨by kernel_rfl, ?_⟩
          go_wp2_with fail
          have h1 := hK.out.2.1.put (i := k) (by have := hEl.out; omega) y
          have h2 := h1.put (i := k1) (by rw [List.length_set]; have := hEl.out; omega) z
          have hc := (hK.out.2.2.trans (setT_chg wr g k y) fun _ _ h => h).trans (setT_chg _ g k1 z) fun _ _ h => h
          rw [hset.out] at h2
          go_roundw
          case rel => exact ⟨k1, _, rfl, o3, by omega, hide ⟨by rw [hd.out]; simp, h2.drew, hc.trans (Chg.of_ext (Ext.refl _).drew _) fun _ _ h => h⟩⟩
          case measure => simp [intOf]; omega
        · have hki1 : ¬ (i : Int) < (k : Int) := by omega
          obtain rfl : i = k := by omega
          have hfin : SymP g P A [z] Q w (.returned (.tuple #[])) wr := by
            refine ⟨rfl, _, hM.out, ?_, hK.out.2.2⟩
            have he := hK.out.1
            rw [show P ++ (A.take (i - a) ++ z :: A.drop (i - a) ++ Q) = E by rw [he]; simp]
            exact hK.out.2.1
          replace hfin := hide hfin
          replace hPa := hide hPa
          replace hmo := hide hmo
          replace hbo := hide hbo
          go_wp2_with fail
          go_end0
          exact hfin.out
end Go.Proofs.YtkdcnhnaiknaaaaGreat

/- A row of terms that is sorted: symMerge. -/
namespace Go.Proofs.YtkdcnhnaiknaaaaGreat
open Go.RowKit

/-- Where the search for the cut begins. -/
structure LoHi (a m b mid N lo hi : Nat) : Prop where
  le : lo ≤ hi
  alo : a ≤ lo
  him : hi ≤ m
  hmid : hi ≤ mid
  nhi : m + hi ≤ N
  nlo : N ≤ b + lo
  one : lo = a ∨ N = b + lo
  two : hi = m ∨ N = m + hi
theorem lohi_left {a m b mid N : Nat} (hN : N = mid + m) (h1 : mid < m) (h2 : a < m) (h3 : m < b) (h4 : mid = (a + b) / 2) : LoHi a m b mid N (N - b) mid := ⟨by omega, by omega, by omega, by omega, by omega, by omega, .inr (by omega), .inr (by omega)⟩
theorem lohi_right {a m b mid N : Nat} (hN : N = mid + m) (h1 : ¬ mid < m) (h2 : a < m) (h3 : m < b) (h4 : mid = (a + b) / 2) : LoHi a m b mid N a m := ⟨by omega, by omega, by omega, by omega, by omega, by omega, .inl rfl, .inl rfl⟩
/-- What the search keeps. -/
structure SeaI (D : List TmV) (N lo hi s r : Nat) : Prop where
  ls : lo ≤ s
  sr : s ≤ r
  rh : r ≤ hi
  lo : s = lo ∨ ∃ x y, D[s - 1]? = some x ∧ D[N - s]? = some y ∧ ¬ y.1 < x.1
  hi : r = hi ∨ ∃ x y, D[r]? = some x ∧ D[N - 1 - r]? = some y ∧ y.1 < x.1
theorem SeaI.cut {D P A B Q : List TmV} {a m b mid N lo hi s : Nat} (h : SeaI D N lo hi s s) (hL : LoHi a m b mid N lo hi) (hD : D = P ++ (A ++ (B ++ Q))) (ha : a = P.length) (hm : m = a + A.length) (hb : b = m + B.length) : CutP A B (s - a) (N - s - m) := by
  have gA : ∀ i, a ≤ i → i < m → D[i]? = A[i - a]? := fun i h1 h2 => by
    rw [hD, ← seg_left (P := P) (A := A) (R := B ++ Q) (i := i - a) (by omega), ← ha, show a + (i - a) = i by omega]
  have gB : ∀ i, m ≤ i → i < b → D[i]? = B[i - m]? := fun i h1 h2 => by
    rw [hD, ← seg_right (P := P) (A := A) (B := B) (R := Q) (i := i - m) (by omega), ← ha, ← hm, show m + (i - m) = i by omega]
  have := h.ls; have := h.sr; have := h.rh; have := hL.le; have := hL.alo; have := hL.him; have := hL.nhi; have := hL.nlo
  refine ⟨by omega, by omega, ?_, ?_⟩
  · by_cases e1 : s - a = 0
    · exact .inl e1
    · by_cases e2 : N - s - m = B.length
      · exact .inr (.inl e2)
      · rcases h.lo with e | ⟨x, y, hx, hy, hxy⟩
        · rcases hL.one with f | f
          · omega
          · omega
        · refine .inr (.inr ⟨x, y, ?_, ?_, hxy⟩)
          · rw [show s - a - 1 = s - 1 - a by omega, ← gA (s - 1) (by omega) (by omega)]; exact hx
          · rw [← gB (N - s) (by omega) (by omega)]; exact hy
  · by_cases e1 : s - a = A.length
    · exact .inl e1
    · by_cases e2 : N - s - m = 0
      · exact .inr (.inl e2)
      · rcases h.hi with e | ⟨x, y, hx, hy, hxy⟩
        · rcases hL.two with f | f
          · omega
          · omega
        · refine .inr (.inr ⟨x, y, ?_, ?_, hxy⟩)
          · rw [← gA s (by omega) (by omega)]; exact hx
          · rw [show N - s - m - 1 = N - 1 - s - m by omega, ← gB (N - 1 - s) (by omega) (by omega)]; exact hy
set_option maxRecDepth 100000 in
set_option maxHeartbeats 4000000 in
theorem sym_mid (g c a m b : Nat) (D P A B Q : List TmV) (w : World) (hTR : TR w g D) (hD : D = P ++ (A ++ (B ++ Q))) (ha : a = P.length) (hm : m = a + A.length) (hb : b = m + B.length) (hA : Srt A) (hB : Srt B) (hA1 : 1 < A.length) (hB1 : 1 < B.length) (hle : D.length ≤ 1073741824)
    (ih : ∀ (a m b : Nat) (D P A' B' Q : List TmV) (w : World), A'.length + B'.length < A.length + B.length → TR w g D → D = P ++ (A' ++ (B' ++ Q)) → a = P.length → m = a + A'.length → b = m + B'.length → Srt A' → Srt B' → 0 < A'.length → 0 < B'.length → D.length ≤ 1073741824 → Calls Tryz.prog 199 #[.slice (some ⟨g, 0, none⟩) D.length c, .int .i64 (a : Int), .int .i64 (m : Int), .int .i64 (b : Int), cmpV] w (SymP g P A' B' Q w)) :
    Calls Tryz.prog 199 #[.slice (some ⟨g, 0, none⟩) D.length c, .int .i64 (a : Int), .int .i64 (m : Int), .int .i64 (b : Int), cmpV] w (SymP g P A B Q w) := by
  obtain ⟨dl, hdl⟩ : ∃ n, n = D.length := ⟨_, rfl⟩
  have hbd : b ≤ dl := by rw [hdl, hD]; simp only [List.length_append]; omega
  have hrot : ∀ (s e : Nat) (T : List TmV) (x : World), TR x g D → RotI T D m (m - s) (e - m) → s < m → m < e → Calls Tryz.prog 218 #[.slice (some ⟨g, 0, none⟩) dl c, .int .i64 (s : Int), .int .i64 (m : Int), .int .i64 (e : Int), cmpV] x fun en w' => en = .returned (.tuple #[]) ∧ TR w' g T ∧ Chg (fun k => k = g) x w' := fun s e T x h1 h2 h3 h4 => by
    have := rotate_any g c s m e D T cmpV x h1 h2 h3 h4 hle
    rw [← hdl] at this
    exact this
  have ih' : ∀ (a m b : Nat) (E P A' B' Q : List TmV) (w : World), A'.length + B'.length < A.length + B.length → TR w g E → E.length = dl → E = P ++ (A' ++ (B' ++ Q)) → a = P.length → m = a + A'.length → b = m + B'.length → Srt A' → Srt B' → 0 < A'.length → 0 < B'.length → Calls Tryz.prog 199 #[.slice (some ⟨g, 0, none⟩) dl c, .int .i64 (a : Int), .int .i64 (m : Int), .int .i64 (b : Int), cmpV] w (SymP g P A' B' Q w) := fun a m b E P A' B' Q w h1 h2 h3 h4 h5 h6 h7 h8 h9 h10 h11 => by
    have := ih a m b E P A' B' Q w h1 h2 h4 h5 h6 h7 h8 h9 h10 h11 (by omega)
    rw [h3] at this
    exact this
  rw [← hdl] at hle ⊢
  have hmab : ((m : Int) - (a : Int) == 1) = false := beq_eq_false_iff_ne.2 (by omega)
  have hbmb : ((b : Int) - (m : Int) == 1) = false := beq_eq_false_iff_ne.2 (by omega)
  have ham : a < m := by omega
  have hmb : m < b := by omega
  obtain ⟨mid, hmid⟩ : ∃ k, k = (a + b) / 2 := ⟨_, rfl⟩
  obtain ⟨N, hN⟩ : ∃ k, k = mid + m := ⟨_, rfl⟩
  have hmidi : ((a : Int) + (b : Int)) / 2 = (mid : Int) := by omega
  have hNi : (mid : Int) + (m : Int) = (N : Int) := by omega
  have hmidb : mid < b := by omega
  have hmida : a < mid := by omega
  have hNd : N ≤ 2147483648 := by omega
  have hcmp := fun x y W => tcmp_any x y W
  unfold tagg at hcmp
  unfold cmpV at hrot ih' ⊢
  clear ih
  replace hcmp := hide hcmp
  replace hTR := hide hTR
  replace hD := hide hD
  replace hdl := hide hdl
  replace hA := hide hA
  replace hB := hide hB
  replace ha := hide ha
  replace hm := hide hm
  replace hb := hide hb
  replace hrot := hide hrot
  replace ih' := hide ih'
  replace hmid := hide hmid
  replace hN := hide hN
  replace hmidi := hide hmidi
  replace hNi := hide hNi
  go_enter Tryz.func199, Tryz.ntmps199
  go_upto_if 140 with (fail)
  rw [hmidi.out, hNi.out]
  go_cut [20, 21] from 138 to 146 (fun s20 s21 wv => ∃ lo hi : Nat, s20 = .int .i64 (lo : Int) ∧ s21 = .int .i64 (hi : Int) ∧ Hid (LoHi a m b mid N lo hi) ∧ wv = w)
  case first =>
    by_cases hmm : mid < m
    · have hl := hide (lohi_left hN.out hmm ham hmb hmid.out)
      have hnb : (N : Int) - (b : Int) = ((N - b : Nat) : Int) := by have := hmid.out; have := hN.out; omega
      replace hnb := hide hnb
      go_wp2_with fail
      go_meet
      case rel => exact ⟨N - b, mid, by rw [hnb.out], rfl, hl, rfl⟩
    · have hl := hide (lohi_right hN.out hmm ham hmb hmid.out)
      go_wp2_with fail
      go_meet
      case rel => exact ⟨a, m, rfl, rfl, hl, rfl⟩
  case rest =>
    obtain ⟨lo, hi, rfl, rfl, hL, rfl⟩ := hcut
    have hlh := hL.out.le
    have hlo := hL.out.alo
    have hhm := hL.out.him
    have hnh := hL.out.nhi
    have hnl := hL.out.nlo
    obtain ⟨wo, rfl⟩ : ∃ wo, wo = wc := ⟨_, rfl⟩
    go_wp2_with fail
    go_loopw [20, 21] (fun s20 s21 wr => ∃ s r : Nat, s20 = .int .i64 (s : Int) ∧ s21 = .int .i64 (r : Int) ∧ lo ≤ s ∧ s ≤ r ∧ r ≤ hi ∧ Hid (SeaI D N lo hi s r ∧ Ext wo wr)) (fun s20 s21 _ => (intOf s21).toNat - (intOf s20).toNat)
    case atStart => exact ⟨lo, hi, rfl, rfl, Nat.le_refl _, hlh, Nat.le_refl _, hide ⟨⟨Nat.le_refl _, hlh, Nat.le_refl _, .inl rfl, .inl rfl⟩, Ext.refl _⟩⟩
    case round =>
      obtain ⟨s, r, rfl, rfl, hls, hsr, hrh, hI⟩ := hrel
      by_cases hlt : s < r
      · obtain ⟨h, hh⟩ : ∃ h : Nat, ((s : Int) + (r : Int)) / 2 = (h : Int) := ⟨(s + r) / 2, by omega⟩
        have hsh : s ≤ h := by omega
        have hhr : h < r := by omega
        obtain ⟨e, he⟩ : ∃ e, e = N - 1 - h := ⟨_, rfl⟩
        have hei : (N : Int) - 1 - (h : Int) = (e : Int) := by omega
        have hew : IntKind.i64.wrap ((N : Int) - 1 - (h : Int)) = (e : Int) := by rw [IntWalk.i64_in _ (by omega)]; omega
        have hed : e < dl := by omega
        obtain ⟨x0, hx0⟩ : ∃ x, D[h]? = some x := ⟨_, List.getElem?_eq_getElem (by have := hdl.out; omega)⟩
        obtain ⟨y, hy⟩ : ∃ y, D[e]? = some y := ⟨_, List.getElem?_eq_getElem (by have := hdl.out; omega)⟩
        have ht1 := (hTR.out.ext hI.out.2).at_ hy
        have ht2 := (hTR.out.ext hI.out.2).at_ hx0
        have hS1 : wr.cell? ⟨g, e * 2, none⟩ = some (.string ⟨y.1.toArray⟩) ∧ wr.cell? ⟨g, e * 2 + 1, none⟩ = some (.slice y.2.1 y.2.2.1 y.2.2.2) ∧ wr.cell? ⟨g, h * 2, none⟩ = some (.string ⟨x0.1.toArray⟩) ∧ wr.cell? ⟨g, h * 2 + 1, none⟩ = some (.slice x0.2.1 x0.2.2.1 x0.2.2.2) ∧ Ext wr wr := ⟨ht1.1, ht1.2, ht2.1, ht2.2, Ext.refl wr⟩
        have hkp : ∀ w0 w1 : World, (w0.cell? ⟨g, e * 2, none⟩ = some (.string ⟨y.1.toArray⟩) ∧ w0.cell? ⟨g, e * 2 + 1, none⟩ = some (.slice y.2.1 y.2.2.1 y.2.2.2) ∧ w0.cell? ⟨g, h * 2, none⟩ = some (.string ⟨x0.1.toArray⟩) ∧ w0.cell? ⟨g, h * 2 + 1, none⟩ = some (.slice x0.2.1 x0.2.2.1 x0.2.2.2) ∧ Ext wr w0) → Ext w0 w1 → (w1.cell? ⟨g, e * 2, none⟩ = some (.string ⟨y.1.toArray⟩) ∧ w1.cell? ⟨g, e * 2 + 1, none⟩ = some (.slice y.2.1 y.2.2.1 y.2.2.2) ∧ w1.cell? ⟨g, h * 2, none⟩ = some (.string ⟨x0.1.toArray⟩) ∧ w1.cell? ⟨g, h * 2 + 1, none⟩ = some (.slice x0.2.1 x0.2.2.1 x0.2.2.2) ∧ Ext wr w1) := fun w0 w1 h1 h3 => ⟨h3.cell h1.1, h3.cell h1.2.1, h3.cell h1.2.2.1, h3.cell h1.2.2.2.1, h1.2.2.2.2.trans h3⟩
        have hS0 := hkp _ _ hS1 (Ext.refl wr).drew
        have b1 : (h : Int) < (dl : Int) := by omega
        have b2 : (e : Int) < (dl : Int) := by omega
        replace hS1 := hide hS1
        replace hS0 := hide hS0
        replace hkp := hide hkp
        replace hx0 := hide hx0
        replace hy := hide hy
        replace hh := hide hh
        replace he := hide he
        replace hei := hide hei
        clear ht1 ht2
        go_upto_region 35 with (fail)
        rw [hh.out]
        by_cases hyz : y.1 < x0.1
        · have hyz' := hide hyz
          go_region_held3 (fun x => x.cell? ⟨g, e * 2, none⟩ = some (.string ⟨y.1.toArray⟩) ∧ x.cell? ⟨g, e * 2 + 1, none⟩ = some (.slice y.2.1 y.2.2.1 y.2.2.2) ∧ x.cell? ⟨g, h * 2, none⟩ = some (.string ⟨x0.1.toArray⟩) ∧ x.cell? ⟨g, h * 2 + 1, none⟩ = some (.slice x0.2.1 x0.2.2.1 x0.2.2.2) ∧ Ext wr x) (first | exact hS0.out | exact hS1.out | exact ‹_› | exact hkp.out _ _ ‹_› ‹_›) (first
            | (go_at_call 137; refine (hcmp.out y x0 _).mono ?_; rintro e w5 ⟨zc, rfl, hzc, hz1, hz2, hE5⟩; have hzn := hzc.2 hyz'.out; have hzb : decide (zc < 0) = true := decide_eq_true hzn; replace hzc := hide hzc))
          have hE6 := hI.out.2.trans ((Ext.refl wr).drew.trans hE5)
          go_wp2_with fail
          go_roundw
          case rel => exact ⟨s, h, rfl, rfl, hls, hsh, by omega, hide ⟨⟨hls, hsh, by omega, hI.out.1.lo, .inr ⟨x0, y, hx0.out, by rw [← he.out]; exact hy.out, hyz⟩⟩, hE6⟩⟩
          case measure => simp [intOf]; omega
        · have hyz' := hide hyz
          go_region_held3 (fun x => x.cell? ⟨g, e * 2, none⟩ = some (.string ⟨y.1.toArray⟩) ∧ x.cell? ⟨g, e * 2 + 1, none⟩ = some (.slice y.2.1 y.2.2.1 y.2.2.2) ∧ x.cell? ⟨g, h * 2, none⟩ = some (.string ⟨x0.1.toArray⟩) ∧ x.cell? ⟨g, h * 2 + 1, none⟩ = some (.slice x0.2.1 x0.2.2.1 x0.2.2.2) ∧ Ext wr x) (first | exact hS0.out | exact hS1.out | exact ‹_› | exact hkp.out _ _ ‹_› ‹_›) (first
            | (go_at_call 137; refine (hcmp.out y x0 _).mono ?_; rintro e w5 ⟨zc, rfl, hzc, hz1, hz2, hE5⟩; have hzn : ¬ zc < 0 := fun hc => hyz'.out (hzc.1 hc); have hzb : decide (zc < 0) = false := decide_eq_false hzn; replace hzc := hide hzc))
          have hE6 := hI.out.2.trans ((Ext.refl wr).drew.trans hE5)
          go_wp2_with fail
          go_roundw
          case rel => exact ⟨h + 1, r, by go_num, rfl, by omega, by omega, hrh, hide ⟨⟨by omega, by omega, hrh, .inr ⟨x0, y, by rw [show h + 1 - 1 = h by omega]; exact hx0.out, by rw [show N - (h + 1) = e by have := he.out; omega]; exact hy.out, hyz⟩, hI.out.1.hi⟩, hE6⟩⟩
          case measure => simp [intOf]; omega
      · obtain rfl : s = r := by omega
        have hcp := hI.out.1.cut hL.out hD.out ha.out hm.out hb.out
        obtain ⟨p, hp⟩ : ∃ p, p = s - a := ⟨_, rfl⟩
        obtain ⟨q, hq⟩ : ∃ q, q = N - s - m := ⟨_, rfl⟩
        obtain ⟨en, hen⟩ : ∃ en, en = N - s := ⟨_, rfl⟩
        rw [← hp, ← hq] at hcp
        obtain ⟨A1, hA1e⟩ : ∃ x, x = A.take p := ⟨_, rfl⟩
        obtain ⟨A2, hA2e⟩ : ∃ x, x = A.drop p := ⟨_, rfl⟩
        obtain ⟨B1, hB1e⟩ : ∃ x, x = B.take q := ⟨_, rfl⟩
        obtain ⟨B2, hB2e⟩ : ∃ x, x = B.drop q := ⟨_, rfl⟩
        have hmg := fun M1 M2 (h1 : Mrg A1 B1 M1) (h2 : Mrg A2 B2 M2) => hcp.mrg hA.out hB.out (M1 := M1) (M2 := M2) (by rw [← hA1e, ← hB1e]; exact h1) (by rw [← hA2e, ← hB2e]; exact h2)
        have hAA : A = A1 ++ A2 := by rw [hA1e, hA2e, List.take_append_drop]
        have hBB : B = B1 ++ B2 := by rw [hB1e, hB2e, List.take_append_drop]
        have hsA := hA.out
        have hsB := hB.out
        have ham' := hm.out
        have hbm' := hb.out
        have haP := ha.out
        rw [hAA] at hsA ham'
        rw [hBB] at hsB hbm'
        rw [List.length_append] at ham' hbm'
        have l1 : A1.length = p := by rw [hA1e, List.length_take]; have := hcp.ile; omega
        have l2 : B1.length = q := by rw [hB1e, List.length_take]; have := hcp.jle; omega
        have hDD : D = P ++ (A1 ++ (A2 ++ (B1 ++ (B2 ++ Q)))) := by rw [hD.out, hAA, hBB]; simp
        obtain ⟨T, hT⟩ : ∃ T, T = P ++ (A1 ++ (B1 ++ (A2 ++ (B2 ++ Q)))) := ⟨_, rfl⟩
        have hTl : T.length = dl := by rw [hdl.out, hDD, hT]; simp only [List.length_append]; omega
        have heni : (N : Int) - (s : Int) = (en : Int) := by omega
        have hrI : s < m → m < en → RotI T D m (m - s) (en - m) := fun h1 h2 => ⟨⟨P ++ A1, A2, B1, B2 ++ Q, by rw [hDD]; simp, by rw [List.length_append]; omega, by omega, by omega, by rw [hT]; simp⟩, by omega, by omega⟩
        have hno : ¬ (s < m ∧ m < en) → D = T := fun h => by
          rw [hDD, hT]
          by_cases h1 : s < m
          · have : B1 = [] := List.length_eq_zero_iff.1 (by have := fun h2 => h ⟨h1, h2⟩; omega)
            rw [this]; rfl
          · have : A2 = [] := List.length_eq_zero_iff.1 (by omega)
            rw [this]; rfl
        have hl1 : A1.length + B1.length < A.length + B.length := by rw [hAA, hBB, List.length_append, List.length_append]; have := hmid.out; have := hN.out; omega
        have hl2 : A2.length + B2.length < A.length + B.length := by rw [hAA, hBB, List.length_append, List.length_append]; have := hmid.out; have := hN.out; omega
        have k1 : mid = s + B1.length := by have := hN.out; omega
        have k2 : en = mid + A2.length := by have := hN.out; omega
        have k3 : b = en + B2.length := by have := hN.out; omega
        have k4 : s = a + A1.length := by omega
        have hTw := hTR.out.ext hI.out.2
        have hCw := Chg.of_ext hI.out.2 (fun k => k = g)
        have hsen : s < b := by omega
        have henb : en ≤ b := by omega
        have hmen : m ≤ en := by omega
        obtain ⟨we, rfl⟩ : ∃ we, we = wr := ⟨_, rfl⟩
        replace hrI := hide hrI
        replace hno := hide hno
        replace hmg := hide hmg
        replace hT := hide hT
        replace hTl := hide hTl
        replace hDD := hide hDD
        replace heni := hide heni
        replace hl1 := hide hl1
        replace hl2 := hide hl2
        replace hsA := hide hsA
        replace hsB := hide hsB
        replace k1 := hide k1
        replace k2 := hide k2
        replace k3 := hide k3
        replace k4 := hide k4
        replace hTw := hide hTw
        replace hCw := hide hCw
        replace haP := hide haP
        replace hen := hide hen
        clear hp hq hcp hA1e hA2e hB1e hB2e hAA hBB ham' hbm' l1 l2
        obtain ⟨t1, ht1⟩ : ∃ t : Bool, t = (decide (s < m) && decide (m < en)) := ⟨_, rfl⟩
        replace ht1 := hide ht1
        go_upto_region 39 with (fail)
        rw [heni.out]
        go_cut [185] from 178 to 185 (fun sx wv => sx = .bool t1 ∧ wv = we)
        case first =>
          by_cases c1 : s < m
          · have c1b : decide (s < m) = true := decide_eq_true c1
            by_cases c2 : m < en
            · have c2b : decide (m < en) = true := decide_eq_true c2
              have ht := ht1.out
              rw [c1b, c2b] at ht
              replace ht := hide ht
              go_wp2_with fail
              go_meet
              case rel => exact ⟨by rw [ht.out]; rfl, rfl⟩
            · have c2b : decide (m < en) = false := decide_eq_false c2
              have ht := ht1.out
              rw [c1b, c2b] at ht
              replace ht := hide ht
              go_wp2_with fail
              go_meet
              case rel => exact ⟨by rw [ht.out]; rfl, rfl⟩
          · have c1b : decide (s < m) = false := decide_eq_false c1
            have ht := ht1.out
            rw [c1b] at ht
            replace ht := hide ht
            go_wp2_with fail
            go_meet
            case rel => exact ⟨by rw [ht.out]; rfl, rfl⟩
        case' rest => obtain ⟨rfl, rfl⟩ := hcut
        go_upto_if 185 with (fail)
        go_cut [24] from 186 to 191 (fun s24 wv => s24 = .int .i64 (en : Int) ∧ Hid (TR wv g T ∧ Chg (fun k => k = g) wo wv))
        case first =>
          cases t1 with
          | true =>
            have hc := ht1.out.symm
            simp only [Bool.and_eq_true, decide_eq_true_eq] at hc
            have hr := hide (hrot.out s en T wc hTw.out (hrI.out hc.1 hc.2) hc.1 hc.2)
            clear hc
            go_wp2_with fail
            refine hr.out.mono ?_
            rintro e w6 ⟨rfl, hT6, hC6⟩
            go_wp2_with fail
            go_meet
            case rel => exact ⟨rfl, hide ⟨hT6, hCw.out.trans hC6 fun _ _ h => h⟩⟩
          | false =>
            have hDT := hide (hno.out fun h => by have := ht1.out; rw [decide_eq_true h.1, decide_eq_true h.2] at this; cases this)
            go_wp2_with fail
            go_meet
            case rel => exact ⟨rfl, hide ⟨by rw [← hDT.out]; exact hTw.out, hCw.out⟩⟩
        case rest =>
          obtain ⟨rfl, hTC⟩ := hcut
          obtain ⟨wf, rfl⟩ : ∃ wf, wf = wc := ⟨_, rfl⟩
          clear hrI hno hTw hCw hrot hcmp
          have j1 : a < s → s < mid → Calls Tryz.prog 199 #[.slice (some ⟨g, 0, none⟩) dl c, .int .i64 (a : Int), .int .i64 (s : Int), .int .i64 (mid : Int), cmpV] wf (SymP g P A1 B1 (A2 ++ (B2 ++ Q)) wf) := fun h1 h2 =>
            ih'.out a s mid T P A1 B1 (A2 ++ (B2 ++ Q)) wf hl1.out hTC.out.1 hTl.out hT.out haP.out k4.out k1.out hsA.out.left hsB.out.left (by have := k4.out; omega) (by have := k1.out; omega)
          have n1 : ¬ (a < s ∧ s < mid) → Mrg A1 B1 (A1 ++ B1) := fun h => by
            by_cases h1 : a < s
            · have : B1 = [] := List.length_eq_zero_iff.1 (by have := k1.out; have := fun h2 => h ⟨h1, h2⟩; omega)
              rw [this, List.append_nil]; exact Mrg.nil_right hsA.out.left
            · have : A1 = [] := List.length_eq_zero_iff.1 (by have := k4.out; omega)
              rw [this]; exact Mrg.nil_left hsB.out.left
          have hsm : s ≤ mid := by have := k1.out; omega
          have hme : mid ≤ en := by have := k2.out; omega
          unfold cmpV at j1
          replace j1 := hide j1
          replace n1 := hide n1
          obtain ⟨t2, ht2⟩ : ∃ t : Bool, t = (decide (a < s) && decide (s < mid)) := ⟨_, rfl⟩
          replace ht2 := hide ht2
          go_upto_region 41 with (fail)
          go_cut [199] from 192 to 199 (fun sx wv => sx = .bool t2 ∧ wv = wf)
          case first =>
            by_cases c1 : a < s
            · have c1b : decide (a < s) = true := decide_eq_true c1
              by_cases c2 : s < mid
              · have c2b : decide (s < mid) = true := decide_eq_true c2
                have ht := ht2.out
                rw [c1b, c2b] at ht
                replace ht := hide ht
                go_wp2_with fail
                go_meet
                case rel => exact ⟨by rw [ht.out]; rfl, rfl⟩
              · have c2b : decide (s < mid) = false := decide_eq_false c2
                have ht := ht2.out
                rw [c1b, c2b] at ht
                replace ht := hide ht
                go_wp2_with fail
                go_meet
                case rel => exact ⟨by rw [ht.out]; rfl, rfl⟩
            · have c1b : decide (a < s) = false := decide_eq_false c1
              have ht := ht2.out
              rw [c1b] at ht
              replace ht := hide ht
              go_wp2_with fail
              go_meet
              case rel => exact ⟨by rw [ht.out]; rfl, rfl⟩
          case' rest => obtain ⟨rfl, rfl⟩ := hcut
          go_upto_if 199 with (fail)
          go_cut [24] from 200 to 205 (fun s24 wv => s24 = .int .i64 (en : Int) ∧ ∃ M1, Hid (Mrg A1 B1 M1 ∧ TR wv g (P ++ (M1 ++ (A2 ++ (B2 ++ Q)))) ∧ Chg (fun k => k = g) wo wv))
          case first =>
            cases t2 with
            | true =>
              have hc := ht2.out.symm
              simp only [Bool.and_eq_true, decide_eq_true_eq] at hc
              have hr := hide (j1.out hc.1 hc.2)
              clear hc
              go_wp2_with fail
              refine hr.out.mono ?_
              rintro e w6 ⟨rfl, M1, hM1, hT6, hC6⟩
              go_wp2_with fail
              go_meet
              case rel => exact ⟨rfl, M1, hide ⟨hM1, hT6, hTC.out.2.trans hC6 fun _ _ h => h⟩⟩
            | false =>
              have hm1 := hide (n1.out fun h => by have := ht2.out; rw [decide_eq_true h.1, decide_eq_true h.2] at this; cases this)
              go_wp2_with fail
              go_meet
              case rel => exact ⟨rfl, _, hide ⟨hm1.out, by rw [List.append_assoc, ← hT.out]; exact hTC.out.1, hTC.out.2⟩⟩
          case rest =>
            obtain ⟨rfl, M1, hM⟩ := hcut
            obtain ⟨wg, rfl⟩ : ∃ wg, wg = wc := ⟨_, rfl⟩
            have hM1l := hM.out.1.2.len
            rw [List.length_append] at hM1l
            have hPM : (P ++ M1).length = mid := by rw [List.length_append]; have := k1.out; have := k4.out; have := haP.out; omega
            have hEl : (P ++ (M1 ++ (A2 ++ (B2 ++ Q)))).length = dl := by rw [← hTl.out, hT.out]; simp only [List.length_append]; omega
            have j2 : mid < en → en < b → Calls Tryz.prog 199 #[.slice (some ⟨g, 0, none⟩) dl c, .int .i64 (mid : Int), .int .i64 (en : Int), .int .i64 (b : Int), cmpV] wg (SymP g (P ++ M1) A2 B2 Q wg) := fun h1 h2 =>
              ih'.out mid en b _ (P ++ M1) A2 B2 Q wg hl2.out hM.out.2.1 hEl (by simp) hPM.symm k2.out k3.out hsA.out.right hsB.out.right (by have := k2.out; omega) (by have := k3.out; omega)
            have n2 : ¬ (mid < en ∧ en < b) → Mrg A2 B2 (A2 ++ B2) := fun h => by
              by_cases h1 : mid < en
              · have : B2 = [] := List.length_eq_zero_iff.1 (by have := k3.out; have := fun h2 => h ⟨h1, h2⟩; omega)
                rw [this, List.append_nil]; exact Mrg.nil_right hsA.out.right
              · have : A2 = [] := List.length_eq_zero_iff.1 (by have := k2.out; omega)
                rw [this]; exact Mrg.nil_left hsB.out.right
            have hfin : ∀ (M2 : List TmV) (x : World), Mrg A2 B2 M2 → TR x g ((P ++ M1) ++ (M2 ++ Q)) → Chg (fun k => k = g) wo x → SymP g P A B Q wo (.returned (.tuple #[])) x := fun M2 x h1 h2 h3 =>
              ⟨rfl, M1 ++ M2, hmg.out M1 M2 hM.out.1 h1, by rw [List.append_assoc, ← List.append_assoc P]; exact h2, h3⟩
            unfold cmpV at j2
            replace j2 := hide j2
            replace n2 := hide n2
            replace hfin := hide hfin
            replace hM1l := hide hM1l
            replace hPM := hide hPM
            replace hEl := hide hEl
            by_cases c1 : mid < en
            · by_cases c2 : en < b
              · have hr := hide (j2.out c1 c2)
                have c1b : decide (mid < en) = true := decide_eq_true c1
                have c2b : decide (en < b) = true := decide_eq_true c2
                go_wp2_with fail
                refine hr.out.mono ?_
                rintro e w6 ⟨rfl, M2, hM2, hT6, hC6⟩
                go_wp2_with fail
                go_end0
                exact hfin.out M2 w6 hM2 hT6 (hM.out.2.2.trans hC6 fun _ _ h => h)
              · have c1b : decide (mid < en) = true := decide_eq_true c1
                have c2b : decide (en < b) = false := decide_eq_false c2
                have hm1 := hide (n2.out fun h => c2 h.2)
                go_wp2_with fail
                go_end0
                exact hfin.out _ wg hm1.out (by have := hM.out.2.1; simpa only [List.append_assoc] using this) hM.out.2.2
            · have c1b : decide (mid < en) = false := decide_eq_false c1
              have hm1 := hide (n2.out fun h => c1 h.1)
              go_wp2_with fail
              go_end0
              exact hfin.out _ wg hm1.out (by have := hM.out.2.1; simpa only [List.append_assoc] using this) hM.out.2.2
theorem symmerge_any (g c : Nat) : ∀ (n a m b : Nat) (D P A B Q : List TmV) (w : World), A.length + B.length < n → TR w g D → D = P ++ (A ++ (B ++ Q)) → a = P.length → m = a + A.length → b = m + B.length → Srt A → Srt B → 0 < A.length → 0 < B.length → D.length ≤ 1073741824 →
    Calls Tryz.prog 199 #[.slice (some ⟨g, 0, none⟩) D.length c, .int .i64 (a : Int), .int .i64 (m : Int), .int .i64 (b : Int), cmpV] w (SymP g P A B Q w)
  | 0, _, _, _, _, _, _, _, _, _, h, _, _, _, _, _, _, _, _, _, _ => absurd h (Nat.not_lt_zero _)
  | n + 1, a, m, b, D, P, A, B, Q, w, h, hT, hD, ha, hm, hb, hA, hB, hA0, hB0, hle => by
    by_cases hA1 : A.length = 1
    · obtain ⟨z, rfl⟩ := List.length_eq_one_iff.1 hA1
      exact sym_left g c a m b D P B Q z w hT hD ha hm hb hB hle
    · by_cases hB1 : B.length = 1
      · obtain ⟨z, rfl⟩ := List.length_eq_one_iff.1 hB1
        exact sym_right g c a m b D P A Q z w hT hD ha hm hb hA (by omega) hle
      · exact sym_mid g c a m b D P A B Q w hT hD ha hm hb hA hB (by omega) (by omega) hle fun a m b D P A' B' Q w hlt => symmerge_any g c n a m b D P A' B' Q w (by omega)
end Go.Proofs.YtkdcnhnaiknaaaaGreat

/- A row of terms that is sorted: stable, SortStableFunc. -/
namespace Go.Proofs.YtkdcnhnaiknaaaaGreat
open Go.RowKit

/-- Sorted blocks of k, the last one shorter. -/
inductive Bk (k : Nat) : List TmV → List TmV → Prop
  | nil : Bk k [] []
  | last (X S : List TmV) : 0 < X.length → X.length ≤ k → Std X S → Bk k X S
  | cons (X S d e : List TmV) : X.length = k → Std X S → 0 < d.length → Bk k d e → Bk k (X ++ d) (S ++ e)
/-- Sorted blocks of k, all whole. -/
inductive BdS (k : Nat) : List TmV → List TmV → Prop
  | nil : BdS k [] []
  | snoc (d e X S : List TmV) : BdS k d e → X.length = k → Std X S → BdS k (d ++ X) (e ++ S)
theorem Bk.len {k : Nat} {d e : List TmV} (h : Bk k d e) : e.length = d.length := by
  induction h with
  | nil => rfl
  | last X S _ _ h => exact h.2.len
  | cons X S d e _ h _ _ ih => rw [List.length_append, List.length_append, ih, h.2.len]
theorem BdS.len {k : Nat} {d e : List TmV} (h : BdS k d e) : e.length = d.length := by
  induction h with
  | nil => rfl
  | snoc d e X S _ _ h ih => rw [List.length_append, List.length_append, ih, h.2.len]
theorem Bk.empty {k : Nat} {e : List TmV} (h : Bk k [] e) : e = [] := List.length_eq_zero_iff.1 h.len
theorem Bk.push {k : Nat} {X S d e : List TmV} (hk : 0 < k) (hX : X.length = k) (hS : Std X S) (h : Bk k d e) : Bk k (X ++ d) (S ++ e) := by
  by_cases hd : d = []
  · subst hd
    rw [h.empty, List.append_nil, List.append_nil]
    exact .last X S (by omega) (by omega) hS
  · exact .cons X S d e hX hS (List.length_pos_iff.2 hd) h
theorem BdS.bk {k : Nat} {d e : List TmV} (hk : 0 < k) (h : BdS k d e) : ∀ {d' e' : List TmV}, Bk k d' e' → Bk k (d ++ d') (e ++ e') := by
  induction h with
  | nil => exact fun h => h
  | snoc d e X S _ hX hS ih =>
    intro d' e' h
    rw [List.append_assoc, List.append_assoc]
    exact ih (Bk.push hk hX hS h)
theorem Bk.two {k : Nat} {d e : List TmV} (h : Bk k d e) (hk : 0 < k) (hl : 2 * k ≤ d.length) : ∃ X S Y T d' e', d = X ++ (Y ++ d') ∧ e = S ++ (T ++ e') ∧ X.length = k ∧ Y.length = k ∧ Std X S ∧ Std Y T ∧ Bk k d' e' := by
  cases h with
  | nil => simp at hl; omega
  | last X S h1 h2 h3 => omega
  | cons X S d e hX hS hd h2 =>
    rw [List.length_append] at hl
    cases h2 with
    | nil => simp at hd
    | last Y T h1 h3 h4 => exact ⟨X, S, d, e, [], [], by simp, by simp, hX, by omega, hS, h4, .nil⟩
    | cons Y T d' e' hY hT hd' h3 => exact ⟨X, S, Y, T, d', e', rfl, rfl, hX, hY, hS, hT, h3⟩
theorem Bk.few {k : Nat} {d e : List TmV} (h : Bk k d e) (hl : d.length < 2 * k) : (d.length ≤ k ∧ Bk (2 * k) d e) ∨ (∃ X S Y T, d = X ++ Y ∧ e = S ++ T ∧ X.length = k ∧ 0 < Y.length ∧ Std X S ∧ Std Y T) := by
  cases h with
  | nil => exact .inl ⟨Nat.zero_le _, .nil⟩
  | last X S h1 h2 h3 => exact .inl ⟨h2, .last _ _ h1 (by omega) h3⟩
  | cons X S d e hX hS hd h2 =>
    rw [List.length_append] at hl
    cases h2 with
    | nil => simp at hd
    | last Y T h1 h3 h4 => exact .inr ⟨X, S, d, e, rfl, rfl, hX, h1, hS, h4⟩
    | cons Y T d' e' hY hT hd' h3 => rw [List.length_append] at hl; omega
theorem Bk.whole {k : Nat} {d e : List TmV} (h : Bk k d e) (hl : d.length ≤ k) : Std d e := by
  cases h with
  | nil => exact ⟨List.Pairwise.nil, Stb.refl _⟩
  | last X S h1 h2 h3 => exact h3
  | cons X S d e hX hS hd h2 => rw [List.length_append] at hl; omega
set_option maxRecDepth 100000 in
set_option maxHeartbeats 4000000 in
theorem stable_any (g c : Nat) (D : List TmV) (w : World) (hTR : TR w g D) (hle : D.length ≤ 268435456) :
    Calls Tryz.prog 179 #[.slice (some ⟨g, 0, none⟩) D.length c, .int .i64 (D.length : Int), cmpV] w fun e w' => e = .returned (.tuple #[]) ∧ ∃ E, Std D E ∧ TR w' g E ∧ Chg (fun k => k = g) w w' := by
  obtain ⟨n, hn⟩ : ∃ n, n = D.length := ⟨_, rfl⟩
  have hins : ∀ (a b : Nat) (E P X Q : List TmV) (x : World), TR x g E → E.length = n → E = P ++ (X ++ Q) → a = P.length → b = P.length + X.length → Calls Tryz.prog 198 #[.slice (some ⟨g, 0, none⟩) n c, .int .i64 (a : Int), .int .i64 (b : Int), cmpV] x fun e w' => e = .returned (.tuple #[]) ∧ ∃ S, Std X S ∧ TR w' g (P ++ (S ++ Q)) ∧ Chg (fun k => k = g) x w' := fun a b E P X Q x h1 h2 h3 h4 h5 => by
    have := insertion_any g c a b E P X Q x h1 h3 h4 h5 (by omega)
    rw [h2] at this
    exact this
  have hsym : ∀ (a m b : Nat) (E P A B Q : List TmV) (x : World), TR x g E → E.length = n → E = P ++ (A ++ (B ++ Q)) → a = P.length → m = a + A.length → b = m + B.length → Srt A → Srt B → 0 < A.length → 0 < B.length → Calls Tryz.prog 199 #[.slice (some ⟨g, 0, none⟩) n c, .int .i64 (a : Int), .int .i64 (m : Int), .int .i64 (b : Int), cmpV] x (SymP g P A B Q x) := fun a m b E P A B Q x h1 h2 h3 h4 h5 h6 h7 h8 h9 h10 => by
    have := symmerge_any g c _ a m b E P A B Q x (Nat.lt_succ_self _) h1 h3 h4 h5 h6 h7 h8 h9 h10 (by omega)
    rw [h2] at this
    exact this
  rw [← hn] at hle ⊢
  unfold cmpV at hins hsym ⊢
  replace hins := hide hins
  replace hsym := hide hsym
  replace hTR := hide hTR
  replace hn := hide hn
  go_enter Tryz.func179, Tryz.ntmps179
  go_wp2_with fail
  go_loopw [7, 8] (fun s7 s8 wr => ∃ (a : Nat) (d : List TmV), s7 = .int .i64 (a : Int) ∧ s8 = .int .i64 ((a : Int) + 20) ∧ a ≤ n ∧ Hid (BdS 20 (D.take a) d ∧ TR wr g (d ++ D.drop a) ∧ Chg (fun k => k = g) w wr)) (fun s7 _ _ => n - (intOf s7).toNat)
  case atStart => exact ⟨0, [], rfl, rfl, Nat.zero_le _, hide ⟨.nil, hTR.out, Chg.refl _ _⟩⟩
  case round =>
    obtain ⟨a, d, rfl, rfl, han, hI⟩ := hrel
    have hdl : d.length = a := by rw [hI.out.1.len, List.length_take]; have := hn.out; omega
    have hEl : (d ++ D.drop a).length = n := by rw [List.length_append, List.length_drop]; have := hn.out; omega
    by_cases hb : a + 20 ≤ n
    · have hbi : (a : Int) + 20 ≤ (n : Int) := by omega
      have h1 := hins.out a (a + 20) _ d ((D.drop a).take 20) (D.drop (a + 20)) wr hI.out.2.1 hEl (by rw [← List.drop_drop, List.take_append_drop]) hdl.symm (by rw [List.length_take, List.length_drop]; have := hn.out; omega)
      have hca : ((a + 20 : Nat) : Int) = (a : Int) + 20 := by omega
      rw [hca] at h1
      have hX20 : ((D.drop a).take 20).length = 20 := by rw [List.length_take, List.length_drop]; have := hn.out; omega
      have htk : D.take (a + 20) = D.take a ++ (D.drop a).take 20 := by rw [List.take_add]
      replace h1 := hide h1
      replace hdl := hide hdl
      replace hEl := hide hEl
      replace htk := hide htk
      replace hX20 := hide hX20
      replace hca := hide hca
      go_wp2_with fail
      refine h1.out.mono ?_
      rintro e w1 ⟨rfl, S, hS, hT, hC⟩
      replace hT := hide hT
      replace hC := hide hC
      replace hS := hide hS
      go_wp2_with fail
      go_roundw
      case rel => exact ⟨a + 20, d ++ S, by go_num, by go_num, hb, hide ⟨by rw [htk.out]; exact .snoc _ _ _ _ hI.out.1 hX20.out hS.out, by rw [List.append_assoc]; exact hT.out, hI.out.2.2.trans hC.out fun _ _ h => h⟩⟩
      case measure => simp [intOf]; omega
    · have hbi : ¬ (a : Int) + 20 ≤ (n : Int) := by omega
      have h1 := hide (hins.out a n _ d (D.drop a) [] wr hI.out.2.1 hEl (by rw [List.append_nil]) hdl.symm (by rw [List.length_drop]; have := hn.out; omega))
      have hXl : (D.drop a).length ≤ 20 := by rw [List.length_drop]; have := hn.out; omega
      have hDa := List.take_append_drop a D
      obtain ⟨wo, rfl⟩ : ∃ wo, wo = wr := ⟨_, rfl⟩
      replace hdl := hide hdl
      replace hEl := hide hEl
      replace hXl := hide hXl
      replace hDa := hide hDa
      go_wp2_with fail
      refine h1.out.mono ?_
      rintro e w1 ⟨rfl, S, hS, hT, hC⟩
      have hBk : Bk 20 D (d ++ S) := by
        rw [← hDa.out]
        refine hI.out.1.bk (by omega) ?_
        by_cases he : D.drop a = []
        · have := hS.2.len
          rw [he] at this ⊢
          rw [List.length_eq_zero_iff.1 this]
          exact .nil
        · exact .last _ _ (List.length_pos_iff.2 he) hXl.out hS
      rw [List.append_nil] at hT
      have hC2 := hI.out.2.2.trans hC fun _ _ h => h
      replace hBk := hide hBk
      replace hT := hide hT
      replace hC2 := hide hC2
      replace hS := hide hS
      replace hC := hide hC
      clear h1
      go_wp2_with fail
      go_loopw [6] (fun s6 wr => ∃ (k : Nat) (E : List TmV), s6 = .int .i64 (k : Int) ∧ 20 ≤ k ∧ k ≤ 2 * n + 20 ∧ Hid (Bk k D E ∧ TR wr g E ∧ Chg (fun k => k = g) w wr)) (fun s6 _ => n - (intOf s6).toNat)
      case atStart => exact ⟨20, d ++ S, rfl, Nat.le_refl _, by omega, hide ⟨hBk.out, hT.out, hC2.out⟩⟩
      case round =>
        obtain ⟨k, E, rfl, hk20, hkn, hJ⟩ := hrel
        obtain ⟨wq, rfl⟩ : ∃ wq, wq = wr := ⟨_, rfl⟩
        by_cases hlt : k < n
        · have hko : Bk k D E := hJ.out.1
          have hTo := hJ.out.2.1
          have hCo := hJ.out.2.2
          replace hko := hide hko
          replace hTo := hide hTo
          replace hCo := hide hCo
          go_wp2_with fail
          go_loopw [7, 8] (fun s7 s8 wr => ∃ (a b : Nat) (d e d' e' : List TmV), s7 = .int .i64 (a : Int) ∧ s8 = .int .i64 (b : Int) ∧ a ≤ n ∧ b ≤ n + 2 * k ∧ Hid (b = a + 2 * k ∧ d.length = a ∧ BdS (2 * k) d e ∧ Bk k d' e' ∧ D = d ++ d' ∧ TR wr g (e ++ e') ∧ Chg (fun k => k = g) w wr)) (fun s7 _ _ => n - (intOf s7).toNat)
          case atStart => exact ⟨0, 2 * k, [], [], D, E, rfl, by congr 1, Nat.zero_le _, by omega, hide ⟨by omega, rfl, .nil, hko.out, rfl, hTo.out, hCo.out⟩⟩
          case round =>
            obtain ⟨a, b, d, e, d', e', rfl, rfl, han, hbn, hK⟩ := hrel
            obtain ⟨hba, hda, hBd, hBk', hDd, hT, hC⟩ := hK.out
            have hel := hBd.len
            have hel' := hBk'.len
            have hnD := hn.out
            rw [hDd, List.length_append] at hnD
            have hEl : (e ++ e').length = n := by rw [List.length_append]; omega
            have hcm : ((a + k : Nat) : Int) = (a : Int) + (k : Int) := by omega
            by_cases hb2 : b ≤ n
            · obtain ⟨X, S, Y, T, d2, e2, hd2, he2, hXl, hYl, hXS, hYT, hB2⟩ := hBk'.two (by omega) (by omega)
              have h1 := hsym.out a (a + k) b _ e S T e2 wr hT hEl (by rw [he2]) (by omega) (by rw [hXS.2.len]; omega) (by rw [hYT.2.len]; omega) hXS.1 hYT.1 (by rw [hXS.2.len]; omega) (by rw [hYT.2.len]; omega)
              rw [hcm] at h1
              replace h1 := hide h1
              replace hba := hide hba
              replace hda := hide hda
              replace hBd := hide hBd
              replace hDd := hide hDd
              replace hC := hide hC
              replace hd2 := hide hd2
              replace hXl := hide hXl
              replace hYl := hide hYl
              replace hXS := hide hXS
              replace hYT := hide hYT
              replace hB2 := hide hB2
              clear hT hBk' hel hel' hnD hEl hcm he2
              go_wp2_with fail
              refine h1.out.mono ?_
              rintro en w1 ⟨rfl, M, hM, hTM, hCM⟩
              replace hM := hide hM
              replace hTM := hide hTM
              replace hCM := hide hCM
              go_wp2_with fail
              go_roundw
              case rel => exact ⟨b, b + 2 * k, d ++ (X ++ Y), e ++ M, d2, e2, rfl, by congr 1, hb2, by omega, hide ⟨rfl, by rw [List.length_append, List.length_append]; have := hba.out; have := hda.out; have := hXl.out; have := hYl.out; omega, .snoc _ _ _ _ hBd.out (by rw [List.length_append]; have := hXl.out; have := hYl.out; omega) (hXS.out.mrg hYT.out hM.out), hB2.out, by rw [hDd.out, hd2.out]; simp, by rw [List.append_assoc]; exact hTM.out, hC.out.trans hCM.out fun _ _ h => h⟩⟩
              case measure => have := hba.out; simp [intOf]; omega
            · have hfew := hBk'.few (by omega)
              by_cases hm : a + k < n
              · rcases hfew with ⟨h1, h2⟩ | ⟨X, S, Y, T, hd2, he2, hXl, hYl, hXS, hYT⟩
                · omega
                · have hYn : n = a + k + Y.length := by rw [hd2, List.length_append] at hnD; omega
                  have h1 := hsym.out a (a + k) n _ e S T [] wr hT hEl (by rw [he2, List.append_nil]) (by omega) (by rw [hXS.2.len]; omega) (by rw [hYT.2.len]; omega) hXS.1 hYT.1 (by rw [hXS.2.len]; omega) (by rw [hYT.2.len]; omega)
                  rw [hcm] at h1
                  have hfin : ∀ (M : List TmV) (x : World), Mrg S T M → TR x g (e ++ (M ++ [])) → Chg (fun k => k = g) wr x → Bk (2 * k) D (e ++ M) ∧ TR x g (e ++ M) ∧ Chg (fun k => k = g) w x := fun M x h2 h3 h4 =>
                    ⟨by rw [hDd]; exact hBd.bk (by omega) (by rw [hd2]; exact .last _ _ (by rw [List.length_append]; omega) (by rw [List.length_append]; omega) (hXS.mrg hYT h2)), by rw [List.append_nil] at h3; exact h3, hC.trans h4 fun _ _ h => h⟩
                  have hmi : (a : Int) + (k : Int) < (n : Int) := by omega
                  replace h1 := hide h1
                  replace hfin := hide hfin
                  clear hba hda hBd hBk' hDd hT hC hd2 he2 hXl hYl hXS hYT hYn hK hel hel' hnD hEl hcm
                  go_wp2_with fail
                  refine h1.out.mono ?_
                  rintro en w1 ⟨rfl, M, hM, hTM, hCM⟩
                  have hf := hide (hfin.out M w1 hM hTM hCM)
                  clear hM hTM hCM
                  go_wp2_with fail
                  go_roundw
                  case rel => exact ⟨2 * k, e ++ M, by congr 1; omega, by omega, by omega, hf⟩
                  case measure => simp [intOf]; omega
              · have hfin : Bk (2 * k) D (e ++ e') := by
                  rcases hfew with ⟨h1, h2⟩ | ⟨X, S, Y, T, hd2, he2, hXl, hYl, hXS, hYT⟩
                  · rw [hDd]; exact hBd.bk (by omega) h2
                  · rw [hd2, List.length_append] at hnD; omega
                have hmi : ¬ (a : Int) + (k : Int) < (n : Int) := by omega
                have hf := hide (And.intro hfin (And.intro hT hC))
                clear hba hda hBd hBk' hDd hT hC hK hel hel' hnD hEl hcm hfew hfin
                go_wp2_with fail
                go_roundw
                case rel => exact ⟨2 * k, e ++ e', by congr 1; omega, by omega, by omega, hf⟩
                case measure => simp [intOf]; omega
        · have hfin : Std D E := hJ.out.1.whole (by have := hn.out; omega)
          replace hfin := hide hfin
          go_wp2_with fail
          go_end0
          exact ⟨rfl, E, hfin.out, hJ.out.2.1, hJ.out.2.2⟩
set_option maxRecDepth 100000 in
theorem sortstable_any (g c : Nat) (D : List TmV) (w : World) (hTR : TR w g D) (hle : D.length ≤ 268435456) :
    Calls Tryz.prog 136 #[.slice (some ⟨g, 0, none⟩) D.length c, cmpV] w fun e w' => e = .returned (.tuple #[]) ∧ ∃ E, Std D E ∧ TR w' g E ∧ Chg (fun k => k = g) w w' := by
  have h := stable_any g c D w hTR hle
  obtain ⟨n, hn⟩ : ∃ n, n = D.length := ⟨_, rfl⟩
  rw [← hn] at h hle ⊢
  unfold cmpV at h ⊢
  replace h := hide h
  replace hn := hide hn
  go_enter Tryz.func136, Tryz.ntmps136
  go_wp2_with fail
  refine h.out.mono ?_
  rintro e w1 ⟨rfl, E, hE, hT, hC⟩
  go_wp2_with fail
  go_end0
  exact ⟨rfl, E, hE, hT, hC⟩
end Go.Proofs.YtkdcnhnaiknaaaaGreat

/- Rows of terms with their places' rows. -/
namespace Go.Proofs.YtkdcnhnaiknaaaaGreat
open Go.RowKit

theorem valsOf_map {β γ : Type} (g : β → γ) (l : List (List UInt8 × β)) (s : List UInt8) : valsOf (l.map fun x => (x.1, g x.2)) s = (valsOf l s).map g := by
  unfold valsOf
  rw [List.filter_map, List.map_map, List.map_map]
  rfl
theorem Std.stabM {β γ : Type} {D E : List (List UInt8 × β)} (h : Std D E) (g : β → γ) : Stab (D.map fun x => (x.1, g x.2)) (E.map fun x => (x.1, g x.2)) := by
  refine ⟨?_, fun s => by rw [valsOf_map, valsOf_map, h.2.vals]⟩
  rw [List.pairwise_map]
  exact h.1
/-- A row of terms, each with a row of places of the call's own, no two alike. -/
structure TmsOk (w : World) (base : Nat) (D : List TmV) (R : List (List UInt8 × List Int)) : Prop where
  len : D.length = R.length
  each : ∀ (i : Nat) (x : TmV) (p : List UInt8 × List Int), D[i]? = some x → R[i]? = some p → x.1 = p.1 ∧ Buf w base 3 x.2.1 x.2.2.1 x.2.2.2 (p.2.map IV)
  apart : ∀ (i j : Nat) (x y : TmV), D[i]? = some x → D[j]? = some y → i ≠ j → ∀ a b, x.2.1 = some a → y.2.1 = some b → a.block ≠ b.block
theorem TmsOk.nil (w : World) (base : Nat) : TmsOk w base [] [] := ⟨rfl, nofun, nofun⟩
theorem TmsOk.keep {w w1 : World} {base : Nat} {D : List TmV} {R : List (List UInt8 × List Int)} (h : TmsOk w base D R) (hk : ∀ A n c xs, Buf w base 3 A n c xs → Buf w1 base 3 A n c xs) : TmsOk w1 base D R :=
  ⟨h.len, fun i x p hx hp => ⟨(h.each i x p hx hp).1, hk _ _ _ _ (h.each i x p hx hp).2⟩, h.apart⟩
theorem TmsOk.ext {w w1 : World} {base : Nat} {D : List TmV} {R : List (List UInt8 × List Int)} (h : TmsOk w base D R) (hE : Ext w w1) : TmsOk w1 base D R := h.keep fun _ _ _ _ hb => hb.ext hE
/-- One more, with a row made after the world w0. -/
theorem TmsOk.snoc {w w1 : World} {base : Nat} {D : List TmV} {R : List (List UInt8 × List Int)} (h : TmsOk w base D R) (hk : ∀ A n c xs, Buf w base 3 A n c xs → Buf w1 base 3 A n c xs) {x : TmV} {p : List UInt8 × List Int} (hx : x.1 = p.1) (hb : Buf w1 base 3 x.2.1 x.2.2.1 x.2.2.2 (p.2.map IV)) (hn : ∀ a, x.2.1 = some a → w.heap.size ≤ a.block) : TmsOk w1 base (D ++ [x]) (R ++ [p]) := by
  have hlt : ∀ (i : Nat) (y : TmV), D[i]? = some y → ∀ b, y.2.1 = some b → b.block < w.heap.size := fun i y hy b hb => by
    have hi := (List.getElem?_eq_some_iff.1 hy).1
    obtain ⟨q, hq⟩ : ∃ q, R[i]? = some q := ⟨_, List.getElem?_eq_getElem (by rw [← h.len]; exact hi)⟩
    exact (h.each i y q hy hq).2.lt b hb
  have hcase : ∀ (i : Nat) (y : TmV), (D ++ [x])[i]? = some y → D[i]? = some y ∨ (i = D.length ∧ y = x) := fun i y hy => by
    by_cases hi : i < D.length
    · rw [List.getElem?_append_left hi] at hy; exact .inl hy
    · rw [List.getElem?_append_right (by omega)] at hy
      have h2 := (List.getElem?_eq_some_iff.1 hy).1
      rw [List.length_singleton] at h2
      have h3 : i - D.length = 0 := by omega
      rw [h3] at hy
      exact .inr ⟨by omega, by simpa using hy.symm⟩
  refine ⟨by rw [List.length_append, List.length_append, h.len]; rfl, fun i y q hy hq => ?_, fun i j y z hy hz hij a b ha hb' => ?_⟩
  · rcases hcase i y hy with hy | ⟨hi, rfl⟩
    · have hi := (List.getElem?_eq_some_iff.1 hy).1
      rw [List.getElem?_append_left (by rw [← h.len]; exact hi)] at hq
      have := h.each i y q hy hq
      exact ⟨this.1, hk _ _ _ _ this.2⟩
    · rw [List.getElem?_append_right (by rw [hi, h.len]; exact Nat.le_refl _), hi, h.len, Nat.sub_self] at hq
      obtain rfl : p = q := by simpa using hq
      exact ⟨hx, hb⟩
  · rcases hcase i y hy with hy1 | ⟨hi, rfl⟩ <;> rcases hcase j z hz with hz1 | ⟨hj, rfl⟩
    · exact h.apart i j y z hy1 hz1 hij a b ha hb'
    · have := hlt i y hy1 a ha; have := hn b hb'; omega
    · have := hlt j z hz1 b hb'; have := hn a ha; omega
    · omega
end Go.Proofs.YtkdcnhnaiknaaaaGreat

/- Frames that stand one behind the other, plainly. -/
namespace Go.Proofs.YtkdcnhnaiknaaaaGreat
open Go.RowKit

/-- The payloads of at most f frames that stand from the beginning on; and why there is no other one. -/
def splitG : Nat → List UInt8 → List (List UInt8) × Nat
  | 0, _ => ([], 0)
  | f + 1, l => if l = [] then ([], 0) else match getF l with
    | .error k => ([], k)
    | .ok (p, r) => (p :: (splitG f r).1, (splitG f r).2)
def splitF (l : List UInt8) : List (List UInt8) × Nat := splitG l.length l
theorem splitG_succ (f : Nat) (l : List UInt8) : splitG (f + 1) l = if l = [] then ([], 0) else match getF l with
    | .error k => ([], k)
    | .ok (p, r) => (p :: (splitG f r).1, (splitG f r).2) := rfl
theorem splitG_more : ∀ (f g : Nat) (l : List UInt8), l.length ≤ f → l.length ≤ g → splitG f l = splitG g l
  | 0, 0, l, _, _ => rfl
  | 0, g + 1, l, h, _ => by
    have : l = [] := List.length_eq_zero_iff.1 (by omega)
    subst this
    rfl
  | f + 1, 0, l, _, h => by
    have : l = [] := List.length_eq_zero_iff.1 (by omega)
    subst this
    rfl
  | f + 1, g + 1, l, h1, h2 => by
    unfold splitG
    split
    · rfl
    · cases hg : getF l with
      | error k => rfl
      | ok q =>
        obtain ⟨p, r⟩ := q
        have := (getF_less hg).1
        simp only
        rw [splitG_more f g r (by omega) (by omega)]
theorem splitF_nil : splitF [] = ([], 0) := rfl
theorem splitF_err {l : List UInt8} {k : Nat} (hl : l ≠ []) (h : getF l = .error k) : splitF l = ([], k) := by
  have hp := List.length_pos_iff.2 hl
  unfold splitF
  rw [show l.length = l.length - 1 + 1 by omega, splitG_succ, if_neg hl, h]
theorem splitF_ok {l p r : List UInt8} (hl : l ≠ []) (h : getF l = .ok (p, r)) : splitF l = (p :: (splitF r).1, (splitF r).2) := by
  have hp := List.length_pos_iff.2 hl
  have hr := (getF_less h).1
  unfold splitF
  rw [show l.length = l.length - 1 + 1 by omega, splitG_succ, if_neg hl, h]
  simp only
  rw [splitG_more (l.length - 1) r.length r (by omega) (by omega)]
theorem splitF_join : ∀ (ps : List (List UInt8)), (∀ p ∈ ps, p.length ≤ 16777216) → splitF (joinL ps) = (ps, 0)
  | [], _ => rfl
  | p :: ps, h => by
    have hg : getF (joinL (p :: ps)) = .ok (p, joinL ps) := getF_put (h p (List.mem_cons_self ..)) _
    have hne : joinL (p :: ps) ≠ [] := by
      intro e
      rw [e] at hg
      have := (getF_less hg).1
      simp at this
    rw [splitF_ok hne hg, splitF_join ps fun q hq => h q (List.mem_cons_of_mem _ hq)]
theorem splitG_small : ∀ (f : Nat) (l : List UInt8), ∀ p ∈ (splitG f l).1, p.length ≤ 16777216 ∧ p.length ≤ l.length
  | 0, l, p, h => by cases h
  | f + 1, l, p, h => by
    unfold splitG at h
    split at h
    · cases h
    · cases hg : getF l with
      | error k => rw [hg] at h; cases h
      | ok q =>
        obtain ⟨p1, r⟩ := q
        have hl := getF_less hg
        rw [hg] at h
        rcases List.mem_cons.1 h with rfl | h
        · exact ⟨hl.2.1, hl.2.2⟩
        · have := splitG_small f r p h
          exact ⟨this.1, by omega⟩
theorem splitF_small {l p : List UInt8} (h : p ∈ (splitF l).1) : p.length ≤ 16777216 ∧ p.length ≤ l.length := splitG_small _ l p h
theorem splitG_count : ∀ (f : Nat) (l : List UInt8), (splitG f l).1.length ≤ f
  | 0, l => Nat.le_refl _
  | f + 1, l => by
    unfold splitG
    split
    · exact Nat.zero_le _
    · cases hg : getF l with
      | error k => exact Nat.zero_le _
      | ok q =>
        obtain ⟨p1, r⟩ := q
        have := splitG_count f r
        simp only [List.length_cons]
        omega
theorem splitF_count (l : List UInt8) : (splitF l).1.length ≤ l.length := splitG_count _ l
theorem splitG_code : ∀ (f : Nat) (l : List UInt8), (splitG f l).2 = 0 ∨ (splitG f l).2 = 40 ∨ (splitG f l).2 = 41
  | 0, l => .inl rfl
  | f + 1, l => by
    unfold splitG
    split
    · exact .inl rfl
    · cases hg : getF l with
      | error k => exact .inr (getF_code hg)
      | ok q =>
        obtain ⟨p1, r⟩ := q
        exact splitG_code f r
theorem splitF_code (l : List UInt8) : (splitF l).2 = 0 ∨ (splitF l).2 = 40 ∨ (splitF l).2 = 41 := splitG_code _ l
end Go.Proofs.YtkdcnhnaiknaaaaGreat

