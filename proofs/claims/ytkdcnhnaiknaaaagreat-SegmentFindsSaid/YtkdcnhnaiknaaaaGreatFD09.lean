/- Texts of one proof, joined. -/
import Derived.Test.YtkdcnhnaiknaaaaGreatFD08
import Derived.Test.YtkdcnhnaiknaaaaGreatShelf
import Derived.Deep.CutRange
import Derived.Deep.DeepCutAuto
import Derived.Deep.RegionHeld3
import Derived.Deep.QuietTactic
import Derived.BigQuiet
import Derived.IntWalk
set_option linter.unusedSimpArgs false
set_option linter.unusedVariables false
namespace Go.Proofs.YtkdcnhnaiknaaaaGreat
section
open Go.RowKit
theorem comp_lt : ∀ (a b : List UInt8), (Lib.compareBytes a b < 0 ↔ a < b) ∧ -1 ≤ Lib.compareBytes a b ∧ Lib.compareBytes a b ≤ 1
  | [], [] => ⟨by simp [Lib.compareBytes], by simp [Lib.compareBytes], by simp [Lib.compareBytes]⟩
  | [], _ :: _ => ⟨by simp [Lib.compareBytes], by simp [Lib.compareBytes], by simp [Lib.compareBytes]⟩
  | _ :: _, [] => ⟨by simp [Lib.compareBytes], by simp [Lib.compareBytes], by simp [Lib.compareBytes]⟩
  | x :: xs, y :: ys => by
    have ih := comp_lt xs ys
    rw [Lib.compareBytes, List.cons_lt_cons_iff]
    by_cases h1 : x < y
    · rw [if_pos h1]; exact ⟨⟨fun _ => .inl h1, fun _ => by decide⟩, by decide, by decide⟩
    · rw [if_neg h1]
      by_cases h2 : y < x
      · rw [if_pos h2]
        refine ⟨⟨fun h => absurd h (by decide), fun h => ?_⟩, by decide, by decide⟩
        rcases h with h | ⟨h, _⟩
        · exact absurd h h1
        · rw [h] at h2; exact absurd h2 (UInt8.lt_irrefl _)
      · rw [if_neg h2]
        have he : x = y := UInt8.le_antisymm (UInt8.not_lt.1 h2) (UInt8.not_lt.1 h1)
        refine ⟨⟨fun h => .inr ⟨he, ih.1.1 h⟩, fun h => ?_⟩, ih.2⟩
        rcases h with h | ⟨_, h⟩
        · exact absurd h h1
        · exact ih.1.2 h
def tagg (x : TmV) : Value := .agg #[.string ⟨x.1.toArray⟩, .slice x.2.1 x.2.2.1 x.2.2.2]
def cmpV : Value := .func (.func 137) #[] #[]
def CmpP (x y : TmV) (w : World) (e : Ending) (w' : World) : Prop := ∃ z : Int, e = .returned (.int .i64 z) ∧ (z < 0 ↔ x.1 < y.1) ∧ -1 ≤ z ∧ z ≤ 1 ∧ Ext w w'
set_option maxRecDepth 100000 in
theorem tcmp_any (x y : TmV) (w : World) : Calls Tryz.prog 137 #[tagg x, tagg y] w (CmpP x y w) := by
  have hcmp := hide (fun W => Tryz.strings_Compare ⟨x.1.toArray⟩ ⟨y.1.toArray⟩ W)
  unfold tagg
  go_enter Tryz.func137, Tryz.ntmps137
  go_wp2_with fail
  refine (hcmp.out _).mono ?_
  rintro e w1 ⟨rfl, rfl⟩
  go_wp2_with fail
  go_ret
  have h := comp_lt x.1 y.1
  exact ⟨_, rfl, h.1, h.2.1, h.2.2, ((Ext.refl w).alloc _).alloc _⟩
structure InsI (D E P X Q : List TmV) (i : Nat) : Prop where
  hi : P.length ≤ i ∧ i ≤ P.length + X.length
  ex : ∃ S, E = P ++ (S ++ (X.drop (i - P.length) ++ Q)) ∧ Std (X.take (i - P.length)) S
structure InsJ (E P S R : List TmV) (z : TmV) (k : Nat) : Prop where
  hk : k ≤ S.length
  eq : E = P ++ (S.take k ++ z :: (S.drop k ++ R))
  gt : ∀ y ∈ S.drop k, z.1 < y.1
theorem InsJ.len {E P S R : List TmV} {z : TmV} {k : Nat} (h : InsJ E P S R z k) : E.length = P.length + S.length + 1 + R.length := by
  rw [h.eq]
  simp only [List.length_append, List.length_cons, List.length_take, List.length_drop]
  have := h.hk
  omega
theorem InsJ.here {E P S R : List TmV} {z : TmV} {k : Nat} (h : InsJ E P S R z k) : E[P.length + k]? = some z := by
  have := h.hk
  rw [h.eq, List.getElem?_append_right (by omega), List.getElem?_append_right (by rw [List.length_take]; omega), List.length_take, show P.length + k - P.length - min k S.length = 0 by omega]
  rfl
theorem InsJ.ahead {E P S R : List TmV} {z : TmV} {k : Nat} (h : InsJ E P S R z (k + 1)) : ∃ y, E[P.length + k]? = some y ∧ S[k]? = some y := by
  have := h.hk
  obtain ⟨y, hy⟩ : ∃ y, S[k]? = some y := ⟨_, List.getElem?_eq_getElem (by omega)⟩
  refine ⟨y, ?_, hy⟩
  rw [h.eq, List.getElem?_append_right (by omega), List.getElem?_append_left (by rw [List.length_take]; omega), show P.length + k - P.length = k by omega, List.getElem?_take, if_pos (by omega)]
  exact hy
theorem set_swap {α : Type} (y z : α) (B : List α) : ∀ A : List α, ((A ++ y :: z :: B).set (A.length + 1) y).set A.length z = A ++ z :: y :: B
  | [] => rfl
  | a :: A => by simp [set_swap y z B A]
theorem InsJ.next {E P S R : List TmV} {z y : TmV} {k : Nat} (h : InsJ E P S R z (k + 1)) (hy : S[k]? = some y) (hlt : z.1 < y.1) : InsJ ((E.set (P.length + (k + 1)) y).set (P.length + k) z) P S R z k := by
  have hk := h.hk
  have hd : S.drop k = y :: S.drop (k + 1) := by
    obtain ⟨hl, he⟩ := List.getElem?_eq_some_iff.1 hy
    rw [List.drop_eq_getElem_cons hl, he]
  have ht : S.take (k + 1) = S.take k ++ [y] := by rw [List.take_succ_eq_append_getElem (by omega)]; congr 2; exact (List.getElem?_eq_some_iff.1 hy).2
  refine ⟨by omega, ?_, ?_⟩
  · have hl : (P ++ S.take k).length = P.length + k := by rw [List.length_append, List.length_take]; omega
    have := set_swap y z (S.drop (k + 1) ++ R) (P ++ S.take k)
    rw [hl] at this
    rw [h.eq, ht, hd, show P ++ (S.take k ++ [y] ++ z :: (S.drop (k + 1) ++ R)) = (P ++ S.take k) ++ y :: z :: (S.drop (k + 1) ++ R) by simp, ← Nat.add_assoc, this]
    simp
  · rw [hd]
    intro x hx
    rcases List.mem_cons.1 hx with rfl | hx
    · exact hlt
    · exact h.gt x hx
theorem InsJ.start {D E P X Q S : List TmV} {i : Nat} {z : TmV} (hE : E = P ++ (S ++ (X.drop (i - P.length) ++ Q))) (hS : Std (X.take (i - P.length)) S) (hz : X[i - P.length]? = some z) : InsJ E P S (X.drop (i - P.length + 1) ++ Q) z S.length := by
  obtain ⟨hl, he⟩ := List.getElem?_eq_some_iff.1 hz
  refine ⟨Nat.le_refl _, ?_, by rw [List.drop_length]; nofun⟩
  rw [hE, List.take_length, List.drop_length, List.nil_append, List.drop_eq_getElem_cons hl, he]
  rfl
theorem InsJ.done {D E P X Q S : List TmV} {i k : Nat} {z : TmV} (h : InsJ E P S (X.drop (i - P.length + 1) ++ Q) z k) (hS : Std (X.take (i - P.length)) S) (hz : X[i - P.length]? = some z) (hPi : P.length ≤ i) (hle : k = 0 ∨ ∃ y, S[k - 1]? = some y ∧ ¬ z.1 < y.1) : InsI D E P X Q (i + 1) := by
  obtain ⟨hl, he⟩ := List.getElem?_eq_some_iff.1 hz
  refine ⟨⟨by omega, by omega⟩, S.take k ++ z :: S.drop k, ?_, ?_⟩
  · rw [h.eq, show i + 1 - P.length = i - P.length + 1 by omega]
    simp only [List.append_assoc, List.cons_append]
  · rw [show i + 1 - P.length = i - P.length + 1 by omega, List.take_succ_eq_append_getElem hl, he]
    have h1 : Std [z] [z] := ⟨List.pairwise_singleton .., Stb.refl _⟩
    refine hS.mrg h1 (one_right hS.1 (fun x hx => ?_) h.gt)
    rcases hle with rfl | ⟨y, hy, hyz⟩
    · cases hx
    · by_cases e : k = 0
      · rw [e] at hx; cases hx
      · exact nlt_trans (hS.1.take_le hy x (by rw [show k - 1 + 1 = k by omega]; exact hx)) hyz
end
section
open Go.RowKit
set_option maxRecDepth 100000 in
set_option maxHeartbeats 2000000 in
theorem insertion_any (g c a b : Nat) (D P X Q : List TmV) (w : World) (h : TR w g D) (hD : D = P ++ (X ++ Q)) (ha : a = P.length) (hb : b = P.length + X.length) (hle : D.length ≤ 1073741824) :
    Calls Tryz.prog 198 #[.slice (some ⟨g, 0, none⟩) D.length c, .int .i64 (a : Int), .int .i64 (b : Int), cmpV] w fun e w' => e = .returned (.tuple #[]) ∧ ∃ S, Std X S ∧ TR w' g (P ++ (S ++ Q)) ∧ Chg (fun k => k = g) w w' := by
  obtain ⟨dl, hdl⟩ : ∃ n, n = D.length := ⟨_, rfl⟩
  have hbd : b ≤ dl := by rw [hdl, hD]; simp only [List.length_append]; omega
  rw [← hdl] at hle ⊢
  have hale : a ≤ 1073741824 := by omega
  have hble : b ≤ 1073741824 := by omega
  unfold cmpV
  by_cases hX : X = []
  · have hba : b = a := by rw [hb, ha, hX]; rfl
    subst hba
    have hfin : TR w g (P ++ ([] ++ Q)) := by rw [← hX, ← hD]; exact h
    have hstd : Std X [] := by rw [hX]; exact ⟨List.Pairwise.nil, Stb.refl _⟩
    replace hfin := hide hfin
    replace hstd := hide hstd
    clear hX hD ha hb h hdl
    go_enter Tryz.func198, Tryz.ntmps198
    go_wp2_with fail
    go_loopw [8] (fun s8 wr => s8 = .int .i64 ((b : Int) + 1) ∧ wr = w) (fun _ _ => 0)
    case atStart => exact ⟨rfl, rfl⟩
    case round =>
      obtain ⟨rfl, rfl⟩ := hrel
      have hlt : ¬ ((b : Int) + 1 < (b : Int)) := by omega
      go_wp2_with fail
      go_end0
      exact ⟨rfl, [], hstd.out, hfin.out, Chg.refl _ _⟩
  · have hXl : 0 < X.length := List.length_pos_iff.2 hX
    have hI : InsI D D P X Q (a + 1) := ⟨⟨by omega, by omega⟩, X.take 1, by
      rw [show a + 1 - P.length = 1 by omega, ← List.append_assoc (X.take 1), List.take_append_drop]; exact hD, by
      rw [show a + 1 - P.length = 1 by omega]
      refine ⟨?_, Stb.refl _⟩
      cases X with
      | nil => exact absurd rfl hX
      | cons x X => exact List.pairwise_singleton ..⟩
    replace h := hide h
    replace hD := hide hD
    replace hdl := hide hdl
    replace hI := hide hI
    replace ha := hide ha
    replace hb := hide hb
    have hcmp := fun x y W => tcmp_any x y W
    unfold tagg at hcmp
    replace hcmp := hide hcmp
    clear hX
    go_enter Tryz.func198, Tryz.ntmps198
    go_wp2_with fail
    go_loopw [8] (fun s8 wr => ∃ (i : Nat) (E : List TmV), s8 = .int .i64 (i : Int) ∧ i ≤ b ∧ Hid (a < i ∧ InsI D E P X Q i ∧ TR wr g E ∧ Chg (fun k => k = g) w wr)) (fun s8 _ => b - (intOf s8).toNat)
    case atStart => exact ⟨a + 1, D, by go_num, by have := hb.out; have := ha.out; omega, hide ⟨by omega, hI.out, h.out, Chg.refl _ _⟩⟩
    case round =>
      obtain ⟨i, E, rfl, hi, hJ⟩ := hrel
      obtain ⟨wo, rfl⟩ : ∃ wo, wo = wr := ⟨_, rfl⟩
      by_cases hib : i < b
      · obtain ⟨hai, ⟨hi1, S, hE, hS⟩, hT, hC⟩ := hJ.out
        have ha' := ha.out
        have hb' := hb.out
        obtain ⟨z, hz⟩ : ∃ z, X[i - P.length]? = some z := ⟨_, List.getElem?_eq_getElem (by omega)⟩
        have hSl : S.length = i - P.length := by rw [hS.2.len, List.length_take]; omega
        have hst := InsJ.start (D := D) hE hS hz
        have hdone := fun (E' : List TmV) (k : Nat) (h : InsJ E' P S (X.drop (i - P.length + 1) ++ Q) z k) (hle : k = 0 ∨ ∃ y, S[k - 1]? = some y ∧ ¬ z.1 < y.1) => h.done (D := D) hS hz hi1.1 hle
        have hlen := hst.len
        have hlE : E.length = dl := by rw [hdl.out, hD.out, hlen]; simp only [List.length_append, List.length_drop]; omega
        obtain ⟨R, hR⟩ : ∃ R, R = X.drop (i - P.length + 1) ++ Q := ⟨_, rfl⟩
        rw [← hR] at hst hdone hlen
        have hlR : P.length + S.length + 1 + R.length = dl := by omega
        have hSi : i = a + S.length := by omega
        replace hst := hide hst
        replace hdone := hide hdone
        replace hT := hide hT
        replace hC := hide hC
        replace hlR := hide hlR
        replace hSi := hide hSi
        replace ha' := hide ha'
        clear hE hS hz hlen hlE hR hJ hI h hb' hSl hi1
        go_wp2_with fail
        go_loopw [9] (fun s9 wr => ∃ (j k : Nat) (E : List TmV), s9 = .int .i64 (j : Int) ∧ j ≤ i ∧ Hid (j = a + k ∧ InsJ E P S R z k ∧ TR wr g E ∧ Chg (fun k => k = g) w wr)) (fun s9 _ => (intOf s9).toNat)
        case atStart => exact ⟨i, S.length, E, rfl, Nat.le_refl _, hide ⟨hSi.out, hst.out, hT.out, hC.out⟩⟩
        case round =>
          obtain ⟨j, k, E, rfl, hji, hK⟩ := hrel
          by_cases hk0 : k = 0
          · have hja : ¬ (a : Int) < (j : Int) := by have := hK.out.1; omega
            have hjb : decide ((a : Int) < (j : Int)) = false := decide_eq_false hja
            have hjc : decide (a < j) = false := decide_eq_false (by omega)
            replace hk0 := hide hk0
            go_wp2_with fail
            go_quiet (fail)
            go_wp2_with fail
            go_roundw
            case rel => exact ⟨i + 1, E, by go_num, by omega, hide ⟨by omega, hdone.out E k hK.out.2.1 (.inl hk0.out), hK.out.2.2.1.ext ((Ext.refl wr).drewN _), hK.out.2.2.2.trans (Chg.of_ext ((Ext.refl wr).drewN _) _) fun _ _ h => h⟩⟩
            case measure => simp [intOf]; omega
          · obtain ⟨k1, rfl⟩ : ∃ k1, k = k1 + 1 := ⟨k - 1, by omega⟩
            obtain ⟨j1, hj1⟩ : ∃ j1, j = j1 + 1 := ⟨j - 1, by have := hK.out.1; omega⟩
            obtain ⟨y, hy, hyS⟩ := hK.out.2.1.ahead
            have hhere := hK.out.2.1.here
            have hjk : j1 = a + k1 := by have := hK.out.1; omega
            have ht1 := hK.out.2.2.1.at_ (i := j) (x := z) (by rw [hj1, hjk, ha'.out]; exact hhere)
            have ht2 := hK.out.2.2.1.at_ (i := j1) (x := y) (by rw [hjk, ha'.out]; exact hy)
            have hS1 : wr.cell? ⟨g, j * 2, none⟩ = some (.string ⟨z.1.toArray⟩) ∧ wr.cell? ⟨g, j * 2 + 1, none⟩ = some (.slice z.2.1 z.2.2.1 z.2.2.2) ∧ wr.cell? ⟨g, j1 * 2, none⟩ = some (.string ⟨y.1.toArray⟩) ∧ wr.cell? ⟨g, j1 * 2 + 1, none⟩ = some (.slice y.2.1 y.2.2.1 y.2.2.2) ∧ Ext wr wr := ⟨ht1.1, ht1.2, ht2.1, ht2.2, Ext.refl wr⟩
            have hkp : ∀ w0 w1 : World, (w0.cell? ⟨g, j * 2, none⟩ = some (.string ⟨z.1.toArray⟩) ∧ w0.cell? ⟨g, j * 2 + 1, none⟩ = some (.slice z.2.1 z.2.2.1 z.2.2.2) ∧ w0.cell? ⟨g, j1 * 2, none⟩ = some (.string ⟨y.1.toArray⟩) ∧ w0.cell? ⟨g, j1 * 2 + 1, none⟩ = some (.slice y.2.1 y.2.2.1 y.2.2.2) ∧ Ext wr w0) → Ext w0 w1 → (w1.cell? ⟨g, j * 2, none⟩ = some (.string ⟨z.1.toArray⟩) ∧ w1.cell? ⟨g, j * 2 + 1, none⟩ = some (.slice z.2.1 z.2.2.1 z.2.2.2) ∧ w1.cell? ⟨g, j1 * 2, none⟩ = some (.string ⟨y.1.toArray⟩) ∧ w1.cell? ⟨g, j1 * 2 + 1, none⟩ = some (.slice y.2.1 y.2.2.1 y.2.2.2) ∧ Ext wr w1) := fun w0 w1 h1 h3 => ⟨h3.cell h1.1, h3.cell h1.2.1, h3.cell h1.2.2.1, h3.cell h1.2.2.2.1, h1.2.2.2.2.trans h3⟩
            have hS0 := hkp _ _ hS1 (Ext.refl wr).drew
            have hlj : j < dl := by have := hlR.out; have := hK.out.2.1.hk; have := ha'.out; omega
            have hjb : decide (a < j) = true := decide_eq_true (by omega)
            have b1 : (j : Int) < (dl : Int) := by omega
            have b2 : (j1 : Int) < (dl : Int) := by omega
            have b3 : (0 : Int) ≤ (j : Int) - 1 := by omega
            have b4 : IntKind.i64.wrap ((j : Int) - 1) = (j1 : Int) := by rw [IntWalk.i64_in _ (by omega)]; omega
            replace hj1 := hide hj1
            have fr := hK.out.2.2.1.free
            replace hS1 := hide hS1
            replace hS0 := hide hS0
            replace hkp := hide hkp
            replace hy := hide hy
            replace hyS := hide hyS
            replace hhere := hide hhere
            replace hjk := hide hjk
            clear ht1 ht2
            go_wp2_with fail
            go_region_held3 (fun x => x.cell? ⟨g, j * 2, none⟩ = some (.string ⟨z.1.toArray⟩) ∧ x.cell? ⟨g, j * 2 + 1, none⟩ = some (.slice z.2.1 z.2.2.1 z.2.2.2) ∧ x.cell? ⟨g, j1 * 2, none⟩ = some (.string ⟨y.1.toArray⟩) ∧ x.cell? ⟨g, j1 * 2 + 1, none⟩ = some (.slice y.2.1 y.2.2.1 y.2.2.2) ∧ Ext wr x) (first | exact hS0.out | exact hS1.out | exact ‹_› | exact hkp.out _ _ ‹_› ‹_›) (first
              | (go_at_call 137; refine (hcmp.out z y _).mono ?_; rintro e w5 ⟨zc, rfl, hzc, hz1, hz2, hE5⟩))
            have hE6 := (Ext.refl wr).drew.trans hE5
            have hT5 := hK.out.2.2.1.ext hE6
            have hC5 := hK.out.2.2.2.trans (Chg.of_ext hE6 (fun k => k = g)) fun _ _ h => h
            by_cases hlt : z.1 < y.1
            · have hzn := hzc.2 hlt
              have hzb : decide (zc < 0) = true := decide_eq_true hzn
              have q1 := hT5.at_ (i := j) (x := z) (by rw [hj1.out, hjk.out, ha'.out]; exact hhere.out)
              have q2 := hT5.at_ (i := j1) (x := y) (by rw [hjk.out, ha'.out]; exact hy.out)
              have x0 := q1.1
              have x1 := q1.2
              have y0 := q2.1
              have y1 := q2.2
              have fr5 := hT5.free
              have o1 : j1 < j := by have := hj1.out; omega
              have o2 : j ≤ j1 + 1 := by have := hj1.out; omega
              replace hzc := hide hzc
              clear q1 q2 fr
              go_wp2_with fail
              refine wp_region_text follows (by kernel_rfl) (by kernel_rfl) (fun K hK => ?_)
              go_wp2_with fail
              refine ⟨by kernel_rfl, ?_⟩
              go_wp2_with fail
              have hP1 : P.length + (k1 + 1) = j := by have := hj1.out; have := hjk.out; have := ha'.out; omega
              have hP0 : P.length + k1 = j1 := by have := hjk.out; have := ha'.out; omega
              have hN := hK.out.2.1.next hyS.out hlt
              rw [hP1, hP0] at hN
              have hlE := hK.out.2.1.len
              have hlR' := hlR.out
              have h1 := hT5.put (i := j) (by omega) y
              have h2 := h1.put (i := j1) (by rw [List.length_set]; omega) z
              have hc := (hC5.trans (setT_chg w5 g j y) fun _ _ h => h).trans (setT_chg _ g j1 z) fun _ _ h => h
              go_roundw
              case rel => exact ⟨j1, k1, _, rfl, by omega, hide ⟨hjk.out, hN, h2.drew, hc.trans (Chg.of_ext (Ext.refl _).drew _) fun _ _ h => h⟩⟩
              case measure => simp [intOf]; omega
            · have hzn : ¬ zc < 0 := fun h => hlt (hzc.1 h)
              have hzb : decide (zc < 0) = false := decide_eq_false hzn
              have hfin := hdone.out E (k1 + 1) hK.out.2.1 (.inr ⟨y, hyS.out, hlt⟩)
              replace hzc := hide hzc
              replace hfin := hide hfin
              go_wp2_with fail
              go_roundw
              case rel => exact ⟨i + 1, E, by go_num, by omega, hide ⟨by omega, hfin.out, hT5, hC5⟩⟩
              case measure => simp [intOf]; omega
      · go_wp2_with fail
        go_end0
        obtain ⟨hai, ⟨hi1, S, hE, hS⟩, hT, hC⟩ := hJ.out
        have hie : i - P.length = X.length := by have := hb.out; omega
        rw [hie, List.take_length] at hS
        rw [hie, List.drop_length, List.nil_append] at hE
        exact ⟨rfl, S, hS, hE ▸ hT, hC⟩
end
section
open Go.RowKit
theorem set_swap2 {α : Type} (y z : α) (B : List α) : ∀ A : List α, ((A ++ z :: y :: B).set A.length y).set (A.length + 1) z = A ++ y :: z :: B
  | [] => rfl
  | a :: A => by simp [set_swap2 y z B A]
theorem seg_left {α : Type} {P A R : List α} {i : Nat} (h : i < A.length) : (P ++ (A ++ R))[P.length + i]? = A[i]? := by
  rw [List.getElem?_append_right (by omega), show P.length + i - P.length = i by omega, List.getElem?_append_left h]
theorem seg_right {α : Type} {P A B R : List α} {i : Nat} (h : i < B.length) : (P ++ (A ++ (B ++ R)))[P.length + A.length + i]? = B[i]? := by
  rw [List.getElem?_append_right (by omega), List.getElem?_append_right (by omega), show P.length + A.length + i - P.length - A.length = i by omega, List.getElem?_append_left h]
def SymP (g : Nat) (P A B Q : List TmV) (w : World) (e : Ending) (w' : World) : Prop := e = .returned (.tuple #[]) ∧ ∃ M, Mrg A B M ∧ TR w' g (P ++ (M ++ Q)) ∧ Chg (fun k => k = g) w w'
set_option maxRecDepth 100000 in
set_option maxHeartbeats 2000000 in
theorem sym_left (g c a m b : Nat) (D P B Q : List TmV) (z : TmV) (w : World) (hTR : TR w g D) (hD : D = P ++ ([z] ++ (B ++ Q))) (ha : a = P.length) (hm : m = a + 1) (hb : b = m + B.length) (hB : Srt B) (hle : D.length ≤ 1073741824) :
    Calls Tryz.prog 199 #[.slice (some ⟨g, 0, none⟩) D.length c, .int .i64 (a : Int), .int .i64 (m : Int), .int .i64 (b : Int), cmpV] w (SymP g P [z] B Q w) := by
  obtain ⟨dl, hdl⟩ : ∃ n, n = D.length := ⟨_, rfl⟩
  have hbd : b ≤ dl := by rw [hdl, hD]; simp only [List.length_append, List.length_singleton]; omega
  rw [← hdl] at hle ⊢
  have hz : D[a]? = some z := by rw [hD, ha]; exact seg_left (P := P) (A := [z]) (i := 0) (by simp)
  have hy : ∀ i, i < B.length → D[m + i]? = B[i]? := fun i hi => by rw [hD, hm, ha]; exact seg_right (P := P) (A := [z]) hi
  have hma : (m : Int) - (a : Int) = 1 := by omega
  have hab : a < b := by omega
  have hmb : m ≤ b := by omega
  have hcmp := fun x y W => tcmp_any x y W
  unfold tagg at hcmp
  unfold cmpV
  replace hcmp := hide hcmp
  replace hTR := hide hTR
  replace hD := hide hD
  replace hdl := hide hdl
  replace hz := hide hz
  replace hy := hide hy
  replace hB := hide hB
  replace ha := hide ha
  replace hm := hide hm
  replace hb := hide hb
  go_enter Tryz.func199, Tryz.ntmps199
  go_wp2_with fail
  go_loopw [10, 11] (fun s10 s11 wr => ∃ i j : Nat, s10 = .int .i64 (i : Int) ∧ s11 = .int .i64 (j : Int) ∧ m ≤ i ∧ i ≤ j ∧ j ≤ b ∧ Hid ((∀ y ∈ B.take (i - m), y.1 < z.1) ∧ (∀ y ∈ B.drop (j - m), ¬ y.1 < z.1) ∧ Ext w wr)) (fun s10 s11 _ => (intOf s11).toNat - (intOf s10).toNat)
  case atStart => exact ⟨m, b, rfl, rfl, Nat.le_refl _, hmb, Nat.le_refl _, hide ⟨by rw [Nat.sub_self]; nofun, by rw [show b - m = B.length by have := hb.out; omega, List.drop_length]; nofun, Ext.refl _⟩⟩
  case round =>
    obtain ⟨i, j, rfl, rfl, hmi, hij, hjb, hI⟩ := hrel
    by_cases hlt : i < j
    · obtain ⟨h, hh⟩ : ∃ h : Nat, ((i : Int) + (j : Int)) / 2 = (h : Int) := ⟨(i + j) / 2, by omega⟩
      have hih : i ≤ h := by omega
      have hhj : h < j := by omega
      obtain ⟨y, hyB⟩ : ∃ y, B[h - m]? = some y := ⟨_, List.getElem?_eq_getElem (by have := hb.out; omega)⟩
      have hyD : D[h]? = some y := by have := hy.out (h - m) (by have := hb.out; omega); rw [show m + (h - m) = h by omega] at this; rw [this]; exact hyB
      have ht1 := (hTR.out.ext hI.out.2.2).at_ hyD
      have ht2 := (hTR.out.ext hI.out.2.2).at_ hz.out
      have hS1 : wr.cell? ⟨g, h * 2, none⟩ = some (.string ⟨y.1.toArray⟩) ∧ wr.cell? ⟨g, h * 2 + 1, none⟩ = some (.slice y.2.1 y.2.2.1 y.2.2.2) ∧ wr.cell? ⟨g, a * 2, none⟩ = some (.string ⟨z.1.toArray⟩) ∧ wr.cell? ⟨g, a * 2 + 1, none⟩ = some (.slice z.2.1 z.2.2.1 z.2.2.2) ∧ Ext wr wr := ⟨ht1.1, ht1.2, ht2.1, ht2.2, Ext.refl wr⟩
      have hkp : ∀ w0 w1 : World, (w0.cell? ⟨g, h * 2, none⟩ = some (.string ⟨y.1.toArray⟩) ∧ w0.cell? ⟨g, h * 2 + 1, none⟩ = some (.slice y.2.1 y.2.2.1 y.2.2.2) ∧ w0.cell? ⟨g, a * 2, none⟩ = some (.string ⟨z.1.toArray⟩) ∧ w0.cell? ⟨g, a * 2 + 1, none⟩ = some (.slice z.2.1 z.2.2.1 z.2.2.2) ∧ Ext wr w0) → Ext w0 w1 → (w1.cell? ⟨g, h * 2, none⟩ = some (.string ⟨y.1.toArray⟩) ∧ w1.cell? ⟨g, h * 2 + 1, none⟩ = some (.slice y.2.1 y.2.2.1 y.2.2.2) ∧ w1.cell? ⟨g, a * 2, none⟩ = some (.string ⟨z.1.toArray⟩) ∧ w1.cell? ⟨g, a * 2 + 1, none⟩ = some (.slice z.2.1 z.2.2.1 z.2.2.2) ∧ Ext wr w1) := fun w0 w1 h1 h3 => ⟨h3.cell h1.1, h3.cell h1.2.1, h3.cell h1.2.2.1, h3.cell h1.2.2.2.1, h1.2.2.2.2.trans h3⟩
      have hS0 := hkp _ _ hS1 (Ext.refl wr).drew
      have b1 : (h : Int) < (dl : Int) := by omega
      have b2 : (a : Int) < (dl : Int) := by omega
      replace hS1 := hide hS1
      replace hS0 := hide hS0
      replace hkp := hide hkp
      replace hyB := hide hyB
      replace hyD := hide hyD
      replace hh := hide hh
      clear ht1 ht2
      go_upto_region 5 with (fail)
      rw [hh.out]
      go_region_held3 (fun x => x.cell? ⟨g, h * 2, none⟩ = some (.string ⟨y.1.toArray⟩) ∧ x.cell? ⟨g, h * 2 + 1, none⟩ = some (.slice y.2.1 y.2.2.1 y.2.2.2) ∧ x.cell? ⟨g, a * 2, none⟩ = some (.string ⟨z.1.toArray⟩) ∧ x.cell? ⟨g, a * 2 + 1, none⟩ = some (.slice z.2.1 z.2.2.1 z.2.2.2) ∧ Ext wr x) (first | exact hS0.out | exact hS1.out | exact ‹_› | exact hkp.out _ _ ‹_› ‹_›) (first
        | (go_at_call 137; refine (hcmp.out y z _).mono ?_; rintro e w5 ⟨zc, rfl, hzc, hz1, hz2, hE5⟩))
      have hE6 := hI.out.2.2.trans ((Ext.refl wr).drew.trans hE5)
      by_cases hyz : y.1 < z.1
      · have hzb : decide (zc < 0) = true := decide_eq_true (hzc.2 hyz)
        have hzn := hzc.2 hyz
        replace hzc := hide hzc
        go_wp2_with fail
        go_roundw
        case rel => exact ⟨h + 1, j, by go_num, rfl, by omega, by omega, hjb, hide ⟨fun x hx => nlt_lt (hB.out.take_le hyB.out x (by rw [show h - m + 1 = h + 1 - m by omega]; exact hx)) hyz, hI.out.2.1, hE6⟩⟩
        case measure => simp [intOf]; omega
      · have hzn : ¬ zc < 0 := fun hc => hyz (hzc.1 hc)
        have hzb : decide (zc < 0) = false := decide_eq_false hzn
        replace hzc := hide hzc
        go_wp2_with fail
        go_roundw
        case rel => exact ⟨i, h, rfl, rfl, hmi, hih, by omega, hide ⟨hI.out.1, fun x hx => nlt_trans hyz (hB.out.drop_ge hyB.out x hx), hE6⟩⟩
        case measure => simp [intOf]; omega
    · obtain rfl : i = j := by omega
      have hib : i ≤ dl := by omega
      have hai : (i : Int) - 1 = ((i - 1 : Nat) : Int) := by have := hm.out; omega
      have hM : Mrg [z] B (B.take (i - m) ++ z :: B.drop (i - m)) := one_left hB.out hI.out.1 hI.out.2.1
      have hT := hTR.out.ext hI.out.2.2
      have hC := Chg.of_ext hI.out.2.2 (fun k => k = g)
      have ham := hm.out
      obtain ⟨wo, rfl⟩ : ∃ wo, wo = wr := ⟨_, rfl⟩
      replace hT := hide hT
      replace hC := hide hC
      replace hM := hide hM
      replace hai := hide hai
      replace ham := hide ham
      go_wp2_with fail
      go_loopw [13] (fun s13 wr => ∃ (k : Nat) (E : List TmV), s13 = .int .i64 (k : Int) ∧ a ≤ k ∧ k + 1 ≤ i ∧ Hid (E = P ++ (B.take (k - a) ++ z :: (B.drop (k - a) ++ Q)) ∧ TR wr g E ∧ Chg (fun k => k = g) w wr)) (fun s13 _ => i - (intOf s13).toNat)
      case atStart => exact ⟨a, D, rfl, Nat.le_refl _, by have := ham.out; omega, hide ⟨by rw [Nat.sub_self]; exact hD.out, hT.out, hC.out⟩⟩
      case round =>
        obtain ⟨k, E, rfl, hak, hki, hK⟩ := hrel
        have hPa := ha.out
        have hmo := hm.out
        have hbo := hb.out
        by_cases hlt : k + 1 < i
        · have hki1 : (k : Int) < (i : Int) - 1 := by omega
          obtain ⟨y, hyB⟩ : ∃ y, B[k - a]? = some y := ⟨_, List.getElem?_eq_getElem (by omega)⟩
          have hd : B.drop (k - a) = y :: B.drop (k - a + 1) := by
            obtain ⟨hl, he⟩ := List.getElem?_eq_some_iff.1 hyB
            rw [List.drop_eq_getElem_cons hl, he]
          have htk : B.take (k - a + 1) = B.take (k - a) ++ [y] := by
            obtain ⟨hl, he⟩ := List.getElem?_eq_some_iff.1 hyB
            rw [List.take_succ_eq_append_getElem hl, he]
          have hPl : (P ++ B.take (k - a)).length = k := by rw [List.length_append, List.length_take]; omega
          have hEq : E = (P ++ B.take (k - a)) ++ z :: y :: (B.drop (k - a + 1) ++ Q) := by rw [hK.out.1, hd]; simp
          have hEl : E.length = dl := by rw [hK.out.1, hdl.out, hD.out]; simp only [List.length_append, List.length_cons, List.length_take, List.length_drop, List.length_nil]; omega
          have hz1 : E[k]? = some z := by rw [hEq, List.getElem?_append_right (by omega), hPl, Nat.sub_self]; rfl
          have hy1 : E[k + 1]? = some y := by rw [hEq, List.getElem?_append_right (by omega), hPl, show k + 1 - k = 1 by omega]; rfl
          have hset := set_swap2 y z (B.drop (k - a + 1) ++ Q) (P ++ B.take (k - a))
          rw [hPl, ← hEq] at hset
          have q1 := hK.out.2.1.at_ hz1
          have q2 := hK.out.2.1.at_ hy1
          have x0 := q1.1
          have x1 := q1.2
          have y0 := q2.1
          have y1 := q2.2
          have fr := hK.out.2.1.free
          replace hset := hide hset
          replace hEq := hide hEq
          replace hEl := hide hEl
          replace hd := hide hd
          replace htk := hide htk
          replace hPl := hide hPl
          replace hz1 := hide hz1
          replace hy1 := hide hy1
          replace hyB := hide hyB
          replace hPa := hide hPa
          replace hmo := hide hmo
          replace hbo := hide hbo
          clear q1 q2
          go_wp2_with fail
          refine wp_region_text follows (by kernel_rfl) (by kernel_rfl) (fun K hK => ?_)
          go_wp2_with fail
          refine ⟨by kernel_rfl, ?_⟩
          go_wp2_with fail
          have h1 := hK.out.2.1.put (i := k) (by have := hEl.out; omega) y
          have h2 := h1.put (i := k + 1) (by rw [List.length_set]; have := hEl.out; omega) z
          have hc := (hK.out.2.2.trans (setT_chg wr g k y) fun _ _ h => h).trans (setT_chg _ g (k + 1) z) fun _ _ h => h
          rw [hset.out] at h2
          go_roundw
          case rel => exact ⟨k + 1, _, by go_num, by omega, by omega, hide ⟨by rw [show k + 1 - a = k - a + 1 by omega, htk.out]; simp, h2.drew, hc.trans (Chg.of_ext (Ext.refl _).drew _) fun _ _ h => h⟩⟩
          case measure => simp [intOf]; omega
        · have hki1 : ¬ (k : Int) < (i : Int) - 1 := by omega
          have hfin : SymP g P [z] B Q w (.returned (.tuple #[])) wr := by
            refine ⟨rfl, _, hM.out, ?_, hK.out.2.2⟩
            have he := hK.out.1
            rw [show k - a = i - m by omega] at he
            rw [show P ++ (B.take (i - m) ++ z :: B.drop (i - m) ++ Q) = E by rw [he]; simp]
            exact hK.out.2.1
          replace hfin := hide hfin
          replace hPa := hide hPa
          replace hmo := hide hmo
          replace hbo := hide hbo
          go_wp2_with fail
          go_end0
          exact hfin.out
end
section
open Go.RowKit
set_option maxRecDepth 100000 in
set_option maxHeartbeats 2000000 in
theorem sym_right (g c a m b : Nat) (D P A Q : List TmV) (z : TmV) (w : World) (hTR : TR w g D) (hD : D = P ++ (A ++ ([z] ++ Q))) (ha : a = P.length) (hm : m = a + A.length) (hb : b = m + 1) (hA : Srt A) (hA1 : 1 < A.length) (hle : D.length ≤ 1073741824) :
    Calls Tryz.prog 199 #[.slice (some ⟨g, 0, none⟩) D.length c, .int .i64 (a : Int), .int .i64 (m : Int), .int .i64 (b : Int), cmpV] w (SymP g P A [z] Q w) := by
  obtain ⟨dl, hdl⟩ : ∃ n, n = D.length := ⟨_, rfl⟩
  have hbd : b ≤ dl := by rw [hdl, hD]; simp only [List.length_append, List.length_singleton]; omega
  rw [← hdl] at hle ⊢
  have hz : D[m]? = some z := by rw [hD, hm, ha]; exact seg_right (P := P) (B := [z]) (i := 0) (by simp)
  have hy : ∀ i, i < A.length → D[a + i]? = A[i]? := fun i hi => by rw [hD, ha]; exact seg_left hi
  have hma : ¬ (m : Int) - (a : Int) = 1 := by omega
  have hmab : ((m : Int) - (a : Int) == 1) = false := beq_eq_false_iff_ne.2 hma
  have hbm : (b : Int) - (m : Int) = 1 := by omega
  have ham : a < m := by omega
  have hmb : m < b := by omega
  have hcmp := fun x y W => tcmp_any x y W
  unfold tagg at hcmp
  unfold cmpV
  replace hcmp := hide hcmp
  replace hTR := hide hTR
  replace hD := hide hD
  replace hdl := hide hdl
  replace hz := hide hz
  replace hy := hide hy
  replace hA := hide hA
  replace ha := hide ha
  replace hm := hide hm
  replace hb := hide hb
  go_enter Tryz.func199, Tryz.ntmps199
  go_wp2_with fail
  go_loopw [14, 15] (fun s14 s15 wr => ∃ i j : Nat, s14 = .int .i64 (i : Int) ∧ s15 = .int .i64 (j : Int) ∧ a ≤ i ∧ i ≤ j ∧ j ≤ m ∧ Hid ((∀ x ∈ A.take (i - a), ¬ z.1 < x.1) ∧ (∀ x ∈ A.drop (j - a), z.1 < x.1) ∧ Ext w wr)) (fun s14 s15 _ => (intOf s15).toNat - (intOf s14).toNat)
  case atStart => exact ⟨a, m, rfl, rfl, Nat.le_refl _, by omega, Nat.le_refl _, hide ⟨by rw [Nat.sub_self]; nofun, by rw [show m - a = A.length by have := hm.out; omega, List.drop_length]; nofun, Ext.refl _⟩⟩
  case round =>
    obtain ⟨i, j, rfl, rfl, hai, hij, hjm, hI⟩ := hrel
    by_cases hlt : i < j
    · obtain ⟨h, hh⟩ : ∃ h : Nat, ((i : Int) + (j : Int)) / 2 = (h : Int) := ⟨(i + j) / 2, by omega⟩
      have hih : i ≤ h := by omega
      have hhj : h < j := by omega
      obtain ⟨y, hyA⟩ : ∃ y, A[h - a]? = some y := ⟨_, List.getElem?_eq_getElem (by have := hm.out; omega)⟩
      have hyD : D[h]? = some y := by have := hy.out (h - a) (by have := hm.out; omega); rw [show a + (h - a) = h by omega] at this; rw [this]; exact hyA
      have ht1 := (hTR.out.ext hI.out.2.2).at_ hz.out
      have ht2 := (hTR.out.ext hI.out.2.2).at_ hyD
      have hS1 : wr.cell? ⟨g, m * 2, none⟩ = some (.string ⟨z.1.toArray⟩) ∧ wr.cell? ⟨g, m * 2 + 1, none⟩ = some (.slice z.2.1 z.2.2.1 z.2.2.2) ∧ wr.cell? ⟨g, h * 2, none⟩ = some (.string ⟨y.1.toArray⟩) ∧ wr.cell? ⟨g, h * 2 + 1, none⟩ = some (.slice y.2.1 y.2.2.1 y.2.2.2) ∧ Ext wr wr := ⟨ht1.1, ht1.2, ht2.1, ht2.2, Ext.refl wr⟩
      have hkp : ∀ w0 w1 : World, (w0.cell? ⟨g, m * 2, none⟩ = some (.string ⟨z.1.toArray⟩) ∧ w0.cell? ⟨g, m * 2 + 1, none⟩ = some (.slice z.2.1 z.2.2.1 z.2.2.2) ∧ w0.cell? ⟨g, h * 2, none⟩ = some (.string ⟨y.1.toArray⟩) ∧ w0.cell? ⟨g, h * 2 + 1, none⟩ = some (.slice y.2.1 y.2.2.1 y.2.2.2) ∧ Ext wr w0) → Ext w0 w1 → (w1.cell? ⟨g, m * 2, none⟩ = some (.string ⟨z.1.toArray⟩) ∧ w1.cell? ⟨g, m * 2 + 1, none⟩ = some (.slice z.2.1 z.2.2.1 z.2.2.2) ∧ w1.cell? ⟨g, h * 2, none⟩ = some (.string ⟨y.1.toArray⟩) ∧ w1.cell? ⟨g, h * 2 + 1, none⟩ = some (.slice y.2.1 y.2.2.1 y.2.2.2) ∧ Ext wr w1) := fun w0 w1 h1 h3 => ⟨h3.cell h1.1, h3.cell h1.2.1, h3.cell h1.2.2.1, h3.cell h1.2.2.2.1, h1.2.2.2.2.trans h3⟩
      have hS0 := hkp _ _ hS1 (Ext.refl wr).drew
      have b1 : (h : Int) < (dl : Int) := by omega
      have b2 : (m : Int) < (dl : Int) := by omega
      replace hS1 := hide hS1
      replace hS0 := hide hS0
      replace hkp := hide hkp
      replace hyA := hide hyA
      replace hyD := hide hyD
      replace hh := hide hh
      clear ht1 ht2
      go_upto_region 17 with (fail)
      rw [hh.out]
      by_cases hyz : z.1 < y.1
      · have hyz' := hide hyz
        go_region_held3 (fun x => x.cell? ⟨g, m * 2, none⟩ = some (.string ⟨z.1.toArray⟩) ∧ x.cell? ⟨g, m * 2 + 1, none⟩ = some (.slice z.2.1 z.2.2.1 z.2.2.2) ∧ x.cell? ⟨g, h * 2, none⟩ = some (.string ⟨y.1.toArray⟩) ∧ x.cell? ⟨g, h * 2 + 1, none⟩ = some (.slice y.2.1 y.2.2.1 y.2.2.2) ∧ Ext wr x) (first | exact hS0.out | exact hS1.out | exact ‹_› | exact hkp.out _ _ ‹_› ‹_›) (first
          | (go_at_call 137; refine (hcmp.out z y _).mono ?_; rintro e w5 ⟨zc, rfl, hzc, hz1, hz2, hE5⟩; have hzn := hzc.2 hyz'.out; have hzb : decide (zc < 0) = true := decide_eq_true hzn; replace hzc := hide hzc))
        have hE6 := hI.out.2.2.trans ((Ext.refl wr).drew.trans hE5)
        go_wp2_with fail
        go_roundw
        case rel => exact ⟨i, h, rfl, rfl, hai, hih, by omega, hide ⟨hI.out.1, fun x hx => lt_nlt hyz (hA.out.drop_ge hyA.out x hx), hE6⟩⟩
        case measure => simp [intOf]; omega
      · have hyz' := hide hyz
        go_region_held3 (fun x => x.cell? ⟨g, m * 2, none⟩ = some (.string ⟨z.1.toArray⟩) ∧ x.cell? ⟨g, m * 2 + 1, none⟩ = some (.slice z.2.1 z.2.2.1 z.2.2.2) ∧ x.cell? ⟨g, h * 2, none⟩ = some (.string ⟨y.1.toArray⟩) ∧ x.cell? ⟨g, h * 2 + 1, none⟩ = some (.slice y.2.1 y.2.2.1 y.2.2.2) ∧ Ext wr x) (first | exact hS0.out | exact hS1.out | exact ‹_› | exact hkp.out _ _ ‹_› ‹_›) (first
          | (go_at_call 137; refine (hcmp.out z y _).mono ?_; rintro e w5 ⟨zc, rfl, hzc, hz1, hz2, hE5⟩; have hzn : ¬ zc < 0 := fun hc => hyz'.out (hzc.1 hc); have hzb : decide (zc < 0) = false := decide_eq_false hzn; replace hzc := hide hzc))
        have hE6 := hI.out.2.2.trans ((Ext.refl wr).drew.trans hE5)
        go_wp2_with fail
        go_roundw
        case rel => exact ⟨h + 1, j, by go_num, rfl, by omega, by omega, hjm, hide ⟨fun x hx => nlt_trans (hA.out.take_le hyA.out x (by rw [show h - a + 1 = h + 1 - a by omega]; exact hx)) hyz, hI.out.2.1, hE6⟩⟩
        case measure => simp [intOf]; omega
    · obtain rfl : i = j := by omega
      have hM : Mrg A [z] (A.take (i - a) ++ z :: A.drop (i - a)) := one_right hA.out hI.out.1 hI.out.2.1
      have hT := hTR.out.ext hI.out.2.2
      have hC := Chg.of_ext hI.out.2.2 (fun k => k = g)
      have hmo := hm.out
      obtain ⟨wo, rfl⟩ : ∃ wo, wo = wr := ⟨_, rfl⟩
      replace hT := hide hT
      replace hC := hide hC
      replace hM := hide hM
      replace hmo := hide hmo
      go_wp2_with fail
      go_loopw [17] (fun s17 wr => ∃ (k : Nat) (E : List TmV), s17 = .int .i64 (k : Int) ∧ i ≤ k ∧ k ≤ m ∧ Hid (E = P ++ (A.take (k - a) ++ z :: (A.drop (k - a) ++ Q)) ∧ TR wr g E ∧ Chg (fun k => k = g) w wr)) (fun s17 _ => (intOf s17).toNat)
      case atStart => exact ⟨m, D, rfl, by omega, Nat.le_refl _, hide ⟨by rw [show m - a = A.length by have := hmo.out; omega, List.take_length, List.drop_length]; exact hD.out, hT.out, hC.out⟩⟩
      case round =>
        obtain ⟨k, E, rfl, hik, hkm, hK⟩ := hrel
        have hPa := ha.out
        have hmo := hm.out
        have hbo := hb.out
        by_cases hlt : i < k
        · obtain ⟨k1, hk1⟩ : ∃ k1, k = k1 + 1 := ⟨k - 1, by omega⟩
          obtain ⟨y, hyA⟩ : ∃ y, A[k1 - a]? = some y := ⟨_, List.getElem?_eq_getElem (by omega)⟩
          have hd : A.drop (k1 - a) = y :: A.drop (k - a) := by
            obtain ⟨hl, he⟩ := List.getElem?_eq_some_iff.1 hyA
            rw [List.drop_eq_getElem_cons hl, he, show k1 - a + 1 = k - a by omega]
          have htk : A.take (k - a) = A.take (k1 - a) ++ [y] := by
            obtain ⟨hl, he⟩ := List.getElem?_eq_some_iff.1 hyA
            rw [show k - a = k1 - a + 1 by omega, List.take_succ_eq_append_getElem hl, he]
          have hPl : (P ++ A.take (k1 - a)).length = k1 := by rw [List.length_append, List.length_take]; omega
          have hEq : E = (P ++ A.take (k1 - a)) ++ y :: z :: (A.drop (k - a) ++ Q) := by rw [hK.out.1, htk]; simp
          have hEl : E.length = dl := by rw [hK.out.1, hdl.out, hD.out]; simp only [List.length_append, List.length_cons, List.length_take, List.length_drop, List.length_nil]; omega
          have hz1 : E[k]? = some z := by rw [hEq, List.getElem?_append_right (by omega), hPl, show k - k1 = 1 by omega]; rfl
          have hy1 : E[k1]? = some y := by rw [hEq, List.getElem?_append_right (by omega), hPl, Nat.sub_self]; rfl
          have hset := set_swap y z (A.drop (k - a) ++ Q) (P ++ A.take (k1 - a))
          rw [hPl, ← hEq, ← hk1] at hset
          have q1 := hK.out.2.1.at_ hz1
          have q2 := hK.out.2.1.at_ hy1
          have x0 := q1.1
          have x1 := q1.2
          have y0 := q2.1
          have y1 := q2.2
          have fr := hK.out.2.1.free
          have o1 : k1 < k := by omega
          have o2 : k ≤ k1 + 1 := by omega
          have o3 : i ≤ k1 := by omega
          have b4 : IntKind.i64.wrap ((k : Int) - 1) = (k1 : Int) := by rw [IntWalk.i64_in _ (by omega)]; omega
          have b1 : (k : Int) < (dl : Int) := by omega
          have b2 : (k1 : Int) < (dl : Int) := by omega
          replace hset := hide hset
          replace hEq := hide hEq
          replace hEl := hide hEl
          replace hd := hide hd
          replace htk := hide htk
          replace hPl := hide hPl
          replace hz1 := hide hz1
          replace hy1 := hide hy1
          replace hyA := hide hyA
          replace hPa := hide hPa
          replace hmo := hide hmo
          replace hbo := hide hbo
          replace hk1 := hide hk1
          clear q1 q2
          go_wp2_with fail
          refine wp_region_text follows (by kernel_rfl) (by kernel_rfl) (fun K hK => ?_)
          go_wp2_with fail
          refine ⟨by kernel_rfl, ?_⟩
          go_wp2_with fail
          have h1 := hK.out.2.1.put (i := k) (by have := hEl.out; omega) y
          have h2 := h1.put (i := k1) (by rw [List.length_set]; have := hEl.out; omega) z
          have hc := (hK.out.2.2.trans (setT_chg wr g k y) fun _ _ h => h).trans (setT_chg _ g k1 z) fun _ _ h => h
          rw [hset.out] at h2
          go_roundw
          case rel => exact ⟨k1, _, rfl, o3, by omega, hide ⟨by rw [hd.out]; simp, h2.drew, hc.trans (Chg.of_ext (Ext.refl _).drew _) fun _ _ h => h⟩⟩
          case measure => simp [intOf]; omega
        · have hki1 : ¬ (i : Int) < (k : Int) := by omega
          obtain rfl : i = k := by omega
          have hfin : SymP g P A [z] Q w (.returned (.tuple #[])) wr := by
            refine ⟨rfl, _, hM.out, ?_, hK.out.2.2⟩
            have he := hK.out.1
            rw [show P ++ (A.take (i - a) ++ z :: A.drop (i - a) ++ Q) = E by rw [he]; simp]
            exact hK.out.2.1
          replace hfin := hide hfin
          replace hPa := hide hPa
          replace hmo := hide hmo
          replace hbo := hide hbo
          go_wp2_with fail
          go_end0
          exact hfin.out
end
section
open Go.RowKit
structure LoHi (a m b mid N lo hi : Nat) : Prop where
  le : lo ≤ hi
  alo : a ≤ lo
  him : hi ≤ m
  hmid : hi ≤ mid
  nhi : m + hi ≤ N
  nlo : N ≤ b + lo
  one : lo = a ∨ N = b + lo
  two : hi = m ∨ N = m + hi
theorem lohi_left {a m b mid N : Nat} (hN : N = mid + m) (h1 : mid < m) (h2 : a < m) (h3 : m < b) (h4 : mid = (a + b) / 2) : LoHi a m b mid N (N - b) mid := ⟨by omega, by omega, by omega, by omega, by omega, by omega, .inr (by omega), .inr (by omega)⟩
theorem lohi_right {a m b mid N : Nat} (hN : N = mid + m) (h1 : ¬ mid < m) (h2 : a < m) (h3 : m < b) (h4 : mid = (a + b) / 2) : LoHi a m b mid N a m := ⟨by omega, by omega, by omega, by omega, by omega, by omega, .inl rfl, .inl rfl⟩
structure SeaI (D : List TmV) (N lo hi s r : Nat) : Prop where
  ls : lo ≤ s
  sr : s ≤ r
  rh : r ≤ hi
  lo : s = lo ∨ ∃ x y, D[s - 1]? = some x ∧ D[N - s]? = some y ∧ ¬ y.1 < x.1
  hi : r = hi ∨ ∃ x y, D[r]? = some x ∧ D[N - 1 - r]? = some y ∧ y.1 < x.1
theorem SeaI.cut {D P A B Q : List TmV} {a m b mid N lo hi s : Nat} (h : SeaI D N lo hi s s) (hL : LoHi a m b mid N lo hi) (hD : D = P ++ (A ++ (B ++ Q))) (ha : a = P.length) (hm : m = a + A.length) (hb : b = m + B.length) : CutP A B (s - a) (N - s - m) := by
  have gA : ∀ i, a ≤ i → i < m → D[i]? = A[i - a]? := fun i h1 h2 => by
    rw [hD, ← seg_left (P := P) (A := A) (R := B ++ Q) (i := i - a) (by omega), ← ha, show a + (i - a) = i by omega]
  have gB : ∀ i, m ≤ i → i < b → D[i]? = B[i - m]? := fun i h1 h2 => by
    rw [hD, ← seg_right (P := P) (A := A) (B := B) (R := Q) (i := i - m) (by omega), ← ha, ← hm, show m + (i - m) = i by omega]
  have := h.ls; have := h.sr; have := h.rh; have := hL.le; have := hL.alo; have := hL.him; have := hL.nhi; have := hL.nlo
  refine ⟨by omega, by omega, ?_, ?_⟩
  · by_cases e1 : s - a = 0
    · exact .inl e1
    · by_cases e2 : N - s - m = B.length
      · exact .inr (.inl e2)
      · rcases h.lo with e | ⟨x, y, hx, hy, hxy⟩
        · rcases hL.one with f | f
          · omega
          · omega
        · refine .inr (.inr ⟨x, y, ?_, ?_, hxy⟩)
          · rw [show s - a - 1 = s - 1 - a by omega, ← gA (s - 1) (by omega) (by omega)]; exact hx
          · rw [← gB (N - s) (by omega) (by omega)]; exact hy
  · by_cases e1 : s - a = A.length
    · exact .inl e1
    · by_cases e2 : N - s - m = 0
      · exact .inr (.inl e2)
      · rcases h.hi with e | ⟨x, y, hx, hy, hxy⟩
        · rcases hL.two with f | f
          · omega
          · omega
        · refine .inr (.inr ⟨x, y, ?_, ?_, hxy⟩)
          · rw [← gA s (by omega) (by omega)]; exact hx
          · rw [show N - s - m - 1 = N - 1 - s - m by omega, ← gB (N - 1 - s) (by omega) (by omega)]; exact hy
set_option maxRecDepth 100000 in
set_option maxHeartbeats 4000000 in
theorem sym_mid (g c a m b : Nat) (D P A B Q : List TmV) (w : World) (hTR : TR w g D) (hD : D = P ++ (A ++ (B ++ Q))) (ha : a = P.length) (hm : m = a + A.length) (hb : b = m + B.length) (hA : Srt A) (hB : Srt B) (hA1 : 1 < A.length) (hB1 : 1 < B.length) (hle : D.length ≤ 1073741824)
    (ih : ∀ (a m b : Nat) (D P A' B' Q : List TmV) (w : World), A'.length + B'.length < A.length + B.length → TR w g D → D = P ++ (A' ++ (B' ++ Q)) → a = P.length → m = a + A'.length → b = m + B'.length → Srt A' → Srt B' → 0 < A'.length → 0 < B'.length → D.length ≤ 1073741824 → Calls Tryz.prog 199 #[.slice (some ⟨g, 0, none⟩) D.length c, .int .i64 (a : Int), .int .i64 (m : Int), .int .i64 (b : Int), cmpV] w (SymP g P A' B' Q w)) :
    Calls Tryz.prog 199 #[.slice (some ⟨g, 0, none⟩) D.length c, .int .i64 (a : Int), .int .i64 (m : Int), .int .i64 (b : Int), cmpV] w (SymP g P A B Q w) := by
  obtain ⟨dl, hdl⟩ : ∃ n, n = D.length := ⟨_, rfl⟩
  have hbd : b ≤ dl := by rw [hdl, hD]; simp only [List.length_append]; omega
  have hrot : ∀ (s e : Nat) (T : List TmV) (x : World), TR x g D → RotI T D m (m - s) (e - m) → s < m → m < e → Calls Tryz.prog 218 #[.slice (some ⟨g, 0, none⟩) dl c, .int .i64 (s : Int), .int .i64 (m : Int), .int .i64 (e : Int), cmpV] x fun en w' => en = .returned (.tuple #[]) ∧ TR w' g T ∧ Chg (fun k => k = g) x w' := fun s e T x h1 h2 h3 h4 => by
    have := rotate_any g c s m e D T cmpV x h1 h2 h3 h4 hle
    rw [← hdl] at this
    exact this
  have ih' : ∀ (a m b : Nat) (E P A' B' Q : List TmV) (w : World), A'.length + B'.length < A.length + B.length → TR w g E → E.length = dl → E = P ++ (A' ++ (B' ++ Q)) → a = P.length → m = a + A'.length → b = m + B'.length → Srt A' → Srt B' → 0 < A'.length → 0 < B'.length → Calls Tryz.prog 199 #[.slice (some ⟨g, 0, none⟩) dl c, .int .i64 (a : Int), .int .i64 (m : Int), .int .i64 (b : Int), cmpV] w (SymP g P A' B' Q w) := fun a m b E P A' B' Q w h1 h2 h3 h4 h5 h6 h7 h8 h9 h10 h11 => by
    have := ih a m b E P A' B' Q w h1 h2 h4 h5 h6 h7 h8 h9 h10 h11 (by omega)
    rw [h3] at this
    exact this
  rw [← hdl] at hle ⊢
  have hmab : ((m : Int) - (a : Int) == 1) = false := beq_eq_false_iff_ne.2 (by omega)
  have hbmb : ((b : Int) - (m : Int) == 1) = false := beq_eq_false_iff_ne.2 (by omega)
  have ham : a < m := by omega
  have hmb : m < b := by omega
  obtain ⟨mid, hmid⟩ : ∃ k, k = (a + b) / 2 := ⟨_, rfl⟩
  obtain ⟨N, hN⟩ : ∃ k, k = mid + m := ⟨_, rfl⟩
  have hmidi : ((a : Int) + (b : Int)) / 2 = (mid : Int) := by omega
  have hNi : (mid : Int) + (m : Int) = (N : Int) := by omega
  have hmidb : mid < b := by omega
  have hmida : a < mid := by omega
  have hNd : N ≤ 2147483648 := by omega
  have hcmp := fun x y W => tcmp_any x y W
  unfold tagg at hcmp
  unfold cmpV at hrot ih' ⊢
  clear ih
  replace hcmp := hide hcmp
  replace hTR := hide hTR
  replace hD := hide hD
  replace hdl := hide hdl
  replace hA := hide hA
  replace hB := hide hB
  replace ha := hide ha
  replace hm := hide hm
  replace hb := hide hb
  replace hrot := hide hrot
  replace ih' := hide ih'
  replace hmid := hide hmid
  replace hN := hide hN
  replace hmidi := hide hmidi
  replace hNi := hide hNi
  go_enter Tryz.func199, Tryz.ntmps199
  go_upto_if 140 with (fail)
  rw [hmidi.out, hNi.out]
  go_cut [20, 21] from 138 to 146 (fun s20 s21 wv => ∃ lo hi : Nat, s20 = .int .i64 (lo : Int) ∧ s21 = .int .i64 (hi : Int) ∧ Hid (LoHi a m b mid N lo hi) ∧ wv = w)
  case first =>
    by_cases hmm : mid < m
    · have hl := hide (lohi_left hN.out hmm ham hmb hmid.out)
      have hnb : (N : Int) - (b : Int) = ((N - b : Nat) : Int) := by have := hmid.out; have := hN.out; omega
      replace hnb := hide hnb
      go_wp2_with fail
      go_meet
      case rel => exact ⟨N - b, mid, by rw [hnb.out], rfl, hl, rfl⟩
    · have hl := hide (lohi_right hN.out hmm ham hmb hmid.out)
      go_wp2_with fail
      go_meet
      case rel => exact ⟨a, m, rfl, rfl, hl, rfl⟩
  case rest =>
    obtain ⟨lo, hi, rfl, rfl, hL, rfl⟩ := hcut
    have hlh := hL.out.le
    have hlo := hL.out.alo
    have hhm := hL.out.him
    have hnh := hL.out.nhi
    have hnl := hL.out.nlo
    obtain ⟨wo, rfl⟩ : ∃ wo, wo = wc := ⟨_, rfl⟩
    go_wp2_with fail
    go_loopw [20, 21] (fun s20 s21 wr => ∃ s r : Nat, s20 = .int .i64 (s : Int) ∧ s21 = .int .i64 (r : Int) ∧ lo ≤ s ∧ s ≤ r ∧ r ≤ hi ∧ Hid (SeaI D N lo hi s r ∧ Ext wo wr)) (fun s20 s21 _ => (intOf s21).toNat - (intOf s20).toNat)
    case atStart => exact ⟨lo, hi, rfl, rfl, Nat.le_refl _, hlh, Nat.le_refl _, hide ⟨⟨Nat.le_refl _, hlh, Nat.le_refl _, .inl rfl, .inl rfl⟩, Ext.refl _⟩⟩
    case round =>
      obtain ⟨s, r, rfl, rfl, hls, hsr, hrh, hI⟩ := hrel
      by_cases hlt : s < r
      · obtain ⟨h, hh⟩ : ∃ h : Nat, ((s : Int) + (r : Int)) / 2 = (h : Int) := ⟨(s + r) / 2, by omega⟩
        have hsh : s ≤ h := by omega
        have hhr : h < r := by omega
        obtain ⟨e, he⟩ : ∃ e, e = N - 1 - h := ⟨_, rfl⟩
        have hei : (N : Int) - 1 - (h : Int) = (e : Int) := by omega
        have hew : IntKind.i64.wrap ((N : Int) - 1 - (h : Int)) = (e : Int) := by rw [IntWalk.i64_in _ (by omega)]; omega
        have hed : e < dl := by omega
        obtain ⟨x0, hx0⟩ : ∃ x, D[h]? = some x := ⟨_, List.getElem?_eq_getElem (by have := hdl.out; omega)⟩
        obtain ⟨y, hy⟩ : ∃ y, D[e]? = some y := ⟨_, List.getElem?_eq_getElem (by have := hdl.out; omega)⟩
        have ht1 := (hTR.out.ext hI.out.2).at_ hy
        have ht2 := (hTR.out.ext hI.out.2).at_ hx0
        have hS1 : wr.cell? ⟨g, e * 2, none⟩ = some (.string ⟨y.1.toArray⟩) ∧ wr.cell? ⟨g, e * 2 + 1, none⟩ = some (.slice y.2.1 y.2.2.1 y.2.2.2) ∧ wr.cell? ⟨g, h * 2, none⟩ = some (.string ⟨x0.1.toArray⟩) ∧ wr.cell? ⟨g, h * 2 + 1, none⟩ = some (.slice x0.2.1 x0.2.2.1 x0.2.2.2) ∧ Ext wr wr := ⟨ht1.1, ht1.2, ht2.1, ht2.2, Ext.refl wr⟩
        have hkp : ∀ w0 w1 : World, (w0.cell? ⟨g, e * 2, none⟩ = some (.string ⟨y.1.toArray⟩) ∧ w0.cell? ⟨g, e * 2 + 1, none⟩ = some (.slice y.2.1 y.2.2.1 y.2.2.2) ∧ w0.cell? ⟨g, h * 2, none⟩ = some (.string ⟨x0.1.toArray⟩) ∧ w0.cell? ⟨g, h * 2 + 1, none⟩ = some (.slice x0.2.1 x0.2.2.1 x0.2.2.2) ∧ Ext wr w0) → Ext w0 w1 → (w1.cell? ⟨g, e * 2, none⟩ = some (.string ⟨y.1.toArray⟩) ∧ w1.cell? ⟨g, e * 2 + 1, none⟩ = some (.slice y.2.1 y.2.2.1 y.2.2.2) ∧ w1.cell? ⟨g, h * 2, none⟩ = some (.string ⟨x0.1.toArray⟩) ∧ w1.cell? ⟨g, h * 2 + 1, none⟩ = some (.slice x0.2.1 x0.2.2.1 x0.2.2.2) ∧ Ext wr w1) := fun w0 w1 h1 h3 => ⟨h3.cell h1.1, h3.cell h1.2.1, h3.cell h1.2.2.1, h3.cell h1.2.2.2.1, h1.2.2.2.2.trans h3⟩
        have hS0 := hkp _ _ hS1 (Ext.refl wr).drew
        have b1 : (h : Int) < (dl : Int) := by omega
        have b2 : (e : Int) < (dl : Int) := by omega
        replace hS1 := hide hS1
        replace hS0 := hide hS0
        replace hkp := hide hkp
        replace hx0 := hide hx0
        replace hy := hide hy
        replace hh := hide hh
        replace he := hide he
        replace hei := hide hei
        clear ht1 ht2
        go_upto_region 35 with (fail)
        rw [hh.out]
        by_cases hyz : y.1 < x0.1
        · have hyz' := hide hyz
          go_region_held3 (fun x => x.cell? ⟨g, e * 2, none⟩ = some (.string ⟨y.1.toArray⟩) ∧ x.cell? ⟨g, e * 2 + 1, none⟩ = some (.slice y.2.1 y.2.2.1 y.2.2.2) ∧ x.cell? ⟨g, h * 2, none⟩ = some (.string ⟨x0.1.toArray⟩) ∧ x.cell? ⟨g, h * 2 + 1, none⟩ = some (.slice x0.2.1 x0.2.2.1 x0.2.2.2) ∧ Ext wr x) (first | exact hS0.out | exact hS1.out | exact ‹_› | exact hkp.out _ _ ‹_› ‹_›) (first
            | (go_at_call 137; refine (hcmp.out y x0 _).mono ?_; rintro e w5 ⟨zc, rfl, hzc, hz1, hz2, hE5⟩; have hzn := hzc.2 hyz'.out; have hzb : decide (zc < 0) = true := decide_eq_true hzn; replace hzc := hide hzc))
          have hE6 := hI.out.2.trans ((Ext.refl wr).drew.trans hE5)
          go_wp2_with fail
          go_roundw
          case rel => exact ⟨s, h, rfl, rfl, hls, hsh, by omega, hide ⟨⟨hls, hsh, by omega, hI.out.1.lo, .inr ⟨x0, y, hx0.out, by rw [← he.out]; exact hy.out, hyz⟩⟩, hE6⟩⟩
          case measure => simp [intOf]; omega
        · have hyz' := hide hyz
          go_region_held3 (fun x => x.cell? ⟨g, e * 2, none⟩ = some (.string ⟨y.1.toArray⟩) ∧ x.cell? ⟨g, e * 2 + 1, none⟩ = some (.slice y.2.1 y.2.2.1 y.2.2.2) ∧ x.cell? ⟨g, h * 2, none⟩ = some (.string ⟨x0.1.toArray⟩) ∧ x.cell? ⟨g, h * 2 + 1, none⟩ = some (.slice x0.2.1 x0.2.2.1 x0.2.2.2) ∧ Ext wr x) (first | exact hS0.out | exact hS1.out | exact ‹_› | exact hkp.out _ _ ‹_› ‹_›) (first
            | (go_at_call 137; refine (hcmp.out y x0 _).mono ?_; rintro e w5 ⟨zc, rfl, hzc, hz1, hz2, hE5⟩; have hzn : ¬ zc < 0 := fun hc => hyz'.out (hzc.1 hc); have hzb : decide (zc < 0) = false := decide_eq_false hzn; replace hzc := hide hzc))
          have hE6 := hI.out.2.trans ((Ext.refl wr).drew.trans hE5)
          go_wp2_with fail
          go_roundw
          case rel => exact ⟨h + 1, r, by go_num, rfl, by omega, by omega, hrh, hide ⟨⟨by omega, by omega, hrh, .inr ⟨x0, y, by rw [show h + 1 - 1 = h by omega]; exact hx0.out, by rw [show N - (h + 1) = e by have := he.out; omega]; exact hy.out, hyz⟩, hI.out.1.hi⟩, hE6⟩⟩
          case measure => simp [intOf]; omega
      · obtain rfl : s = r := by omega
        have hcp := hI.out.1.cut hL.out hD.out ha.out hm.out hb.out
        obtain ⟨p, hp⟩ : ∃ p, p = s - a := ⟨_, rfl⟩
        obtain ⟨q, hq⟩ : ∃ q, q = N - s - m := ⟨_, rfl⟩
        obtain ⟨en, hen⟩ : ∃ en, en = N - s := ⟨_, rfl⟩
        rw [← hp, ← hq] at hcp
        obtain ⟨A1, hA1e⟩ : ∃ x, x = A.take p := ⟨_, rfl⟩
        obtain ⟨A2, hA2e⟩ : ∃ x, x = A.drop p := ⟨_, rfl⟩
        obtain ⟨B1, hB1e⟩ : ∃ x, x = B.take q := ⟨_, rfl⟩
        obtain ⟨B2, hB2e⟩ : ∃ x, x = B.drop q := ⟨_, rfl⟩
        have hmg := fun M1 M2 (h1 : Mrg A1 B1 M1) (h2 : Mrg A2 B2 M2) => hcp.mrg hA.out hB.out (M1 := M1) (M2 := M2) (by rw [← hA1e, ← hB1e]; exact h1) (by rw [← hA2e, ← hB2e]; exact h2)
        have hAA : A = A1 ++ A2 := by rw [hA1e, hA2e, List.take_append_drop]
        have hBB : B = B1 ++ B2 := by rw [hB1e, hB2e, List.take_append_drop]
        have hsA := hA.out
        have hsB := hB.out
        have ham' := hm.out
        have hbm' := hb.out
        have haP := ha.out
        rw [hAA] at hsA ham'
        rw [hBB] at hsB hbm'
        rw [List.length_append] at ham' hbm'
        have l1 : A1.length = p := by rw [hA1e, List.length_take]; have := hcp.ile; omega
        have l2 : B1.length = q := by rw [hB1e, List.length_take]; have := hcp.jle; omega
        have hDD : D = P ++ (A1 ++ (A2 ++ (B1 ++ (B2 ++ Q)))) := by rw [hD.out, hAA, hBB]; simp
        obtain ⟨T, hT⟩ : ∃ T, T = P ++ (A1 ++ (B1 ++ (A2 ++ (B2 ++ Q)))) := ⟨_, rfl⟩
        have hTl : T.length = dl := by rw [hdl.out, hDD, hT]; simp only [List.length_append]; omega
        have heni : (N : Int) - (s : Int) = (en : Int) := by omega
        have hrI : s < m → m < en → RotI T D m (m - s) (en - m) := fun h1 h2 => ⟨⟨P ++ A1, A2, B1, B2 ++ Q, by rw [hDD]; simp, by rw [List.length_append]; omega, by omega, by omega, by rw [hT]; simp⟩, by omega, by omega⟩
        have hno : ¬ (s < m ∧ m < en) → D = T := fun h => by
          rw [hDD, hT]
          by_cases h1 : s < m
          · have : B1 = [] := List.length_eq_zero_iff.1 (by have := fun h2 => h ⟨h1, h2⟩; omega)
            rw [this]; rfl
          · have : A2 = [] := List.length_eq_zero_iff.1 (by omega)
            rw [this]; rfl
        have hl1 : A1.length + B1.length < A.length + B.length := by rw [hAA, hBB, List.length_append, List.length_append]; have := hmid.out; have := hN.out; omega
        have hl2 : A2.length + B2.length < A.length + B.length := by rw [hAA, hBB, List.length_append, List.length_append]; have := hmid.out; have := hN.out; omega
        have k1 : mid = s + B1.length := by have := hN.out; omega
        have k2 : en = mid + A2.length := by have := hN.out; omega
        have k3 : b = en + B2.length := by have := hN.out; omega
        have k4 : s = a + A1.length := by omega
        have hTw := hTR.out.ext hI.out.2
        have hCw := Chg.of_ext hI.out.2 (fun k => k = g)
        have hsen : s < b := by omega
        have henb : en ≤ b := by omega
        have hmen : m ≤ en := by omega
        obtain ⟨we, rfl⟩ : ∃ we, we = wr := ⟨_, rfl⟩
        replace hrI := hide hrI
        replace hno := hide hno
        replace hmg := hide hmg
        replace hT := hide hT
        replace hTl := hide hTl
        replace hDD := hide hDD
        replace heni := hide heni
        replace hl1 := hide hl1
        replace hl2 := hide hl2
        replace hsA := hide hsA
        replace hsB := hide hsB
        replace k1 := hide k1
        replace k2 := hide k2
        replace k3 := hide k3
        replace k4 := hide k4
        replace hTw := hide hTw
        replace hCw := hide hCw
        replace haP := hide haP
        replace hen := hide hen
        clear hp hq hcp hA1e hA2e hB1e hB2e hAA hBB ham' hbm' l1 l2
        obtain ⟨t1, ht1⟩ : ∃ t : Bool, t = (decide (s < m) && decide (m < en)) := ⟨_, rfl⟩
        replace ht1 := hide ht1
        go_upto_region 39 with (fail)
        rw [heni.out]
        go_cut [185] from 178 to 185 (fun sx wv => sx = .bool t1 ∧ wv = we)
        case first =>
          by_cases c1 : s < m
          · have c1b : decide (s < m) = true := decide_eq_true c1
            by_cases c2 : m < en
            · have c2b : decide (m < en) = true := decide_eq_true c2
              have ht := ht1.out
              rw [c1b, c2b] at ht
              replace ht := hide ht
              go_wp2_with fail
              go_meet
              case rel => exact ⟨by rw [ht.out]; rfl, rfl⟩
            · have c2b : decide (m < en) = false := decide_eq_false c2
              have ht := ht1.out
              rw [c1b, c2b] at ht
              replace ht := hide ht
              go_wp2_with fail
              go_meet
              case rel => exact ⟨by rw [ht.out]; rfl, rfl⟩
          · have c1b : decide (s < m) = false := decide_eq_false c1
            have ht := ht1.out
            rw [c1b] at ht
            replace ht := hide ht
            go_wp2_with fail
            go_meet
            case rel => exact ⟨by rw [ht.out]; rfl, rfl⟩
        case' rest => obtain ⟨rfl, rfl⟩ := hcut
        go_upto_if 185 with (fail)
        go_cut [24] from 186 to 191 (fun s24 wv => s24 = .int .i64 (en : Int) ∧ Hid (TR wv g T ∧ Chg (fun k => k = g) wo wv))
        case first =>
          cases t1 with
          | true =>
            have hc := ht1.out.symm
            simp only [Bool.and_eq_true, decide_eq_true_eq] at hc
            have hr := hide (hrot.out s en T wc hTw.out (hrI.out hc.1 hc.2) hc.1 hc.2)
            clear hc
            go_wp2_with fail
            refine hr.out.mono ?_
            rintro e w6 ⟨rfl, hT6, hC6⟩
            go_wp2_with fail
            go_meet
            case rel => exact ⟨rfl, hide ⟨hT6, hCw.out.trans hC6 fun _ _ h => h⟩⟩
          | false =>
            have hDT := hide (hno.out fun h => by have := ht1.out; rw [decide_eq_true h.1, decide_eq_true h.2] at this; cases this)
            go_wp2_with fail
            go_meet
            case rel => exact ⟨rfl, hide ⟨by rw [← hDT.out]; exact hTw.out, hCw.out⟩⟩
        case rest =>
          obtain ⟨rfl, hTC⟩ := hcut
          obtain ⟨wf, rfl⟩ : ∃ wf, wf = wc := ⟨_, rfl⟩
          clear hrI hno hTw hCw hrot hcmp
          have j1 : a < s → s < mid → Calls Tryz.prog 199 #[.slice (some ⟨g, 0, none⟩) dl c, .int .i64 (a : Int), .int .i64 (s : Int), .int .i64 (mid : Int), cmpV] wf (SymP g P A1 B1 (A2 ++ (B2 ++ Q)) wf) := fun h1 h2 =>
            ih'.out a s mid T P A1 B1 (A2 ++ (B2 ++ Q)) wf hl1.out hTC.out.1 hTl.out hT.out haP.out k4.out k1.out hsA.out.left hsB.out.left (by have := k4.out; omega) (by have := k1.out; omega)
          have n1 : ¬ (a < s ∧ s < mid) → Mrg A1 B1 (A1 ++ B1) := fun h => by
            by_cases h1 : a < s
            · have : B1 = [] := List.length_eq_zero_iff.1 (by have := k1.out; have := fun h2 => h ⟨h1, h2⟩; omega)
              rw [this, List.append_nil]; exact Mrg.nil_right hsA.out.left
            · have : A1 = [] := List.length_eq_zero_iff.1 (by have := k4.out; omega)
              rw [this]; exact Mrg.nil_left hsB.out.left
          have hsm : s ≤ mid := by have := k1.out; omega
          have hme : mid ≤ en := by have := k2.out; omega
          unfold cmpV at j1
          replace j1 := hide j1
          replace n1 := hide n1
          obtain ⟨t2, ht2⟩ : ∃ t : Bool, t = (decide (a < s) && decide (s < mid)) := ⟨_, rfl⟩
          replace ht2 := hide ht2
          go_upto_region 41 with (fail)
          go_cut [199] from 192 to 199 (fun sx wv => sx = .bool t2 ∧ wv = wf)
          case first =>
            by_cases c1 : a < s
            · have c1b : decide (a < s) = true := decide_eq_true c1
              by_cases c2 : s < mid
              · have c2b : decide (s < mid) = true := decide_eq_true c2
                have ht := ht2.out
                rw [c1b, c2b] at ht
                replace ht := hide ht
                go_wp2_with fail
                go_meet
                case rel => exact ⟨by rw [ht.out]; rfl, rfl⟩
              · have c2b : decide (s < mid) = false := decide_eq_false c2
                have ht := ht2.out
                rw [c1b, c2b] at ht
                replace ht := hide ht
                go_wp2_with fail
                go_meet
                case rel => exact ⟨by rw [ht.out]; rfl, rfl⟩
            · have c1b : decide (a < s) = false := decide_eq_false c1
              have ht := ht2.out
              rw [c1b] at ht
              replace ht := hide ht
              go_wp2_with fail
              go_meet
              case rel => exact ⟨by rw [ht.out]; rfl, rfl⟩
          case' rest => obtain ⟨rfl, rfl⟩ := hcut
          go_upto_if 199 with (fail)
          go_cut [24] from 200 to 205 (fun s24 wv => s24 = .int .i64 (en : Int) ∧ ∃ M1, Hid (Mrg A1 B1 M1 ∧ TR wv g (P ++ (M1 ++ (A2 ++ (B2 ++ Q)))) ∧ Chg (fun k => k = g) wo wv))
          case first =>
            cases t2 with
            | true =>
              have hc := ht2.out.symm
              simp only [Bool.and_eq_true, decide_eq_true_eq] at hc
              have hr := hide (j1.out hc.1 hc.2)
              clear hc
              go_wp2_with fail
              refine hr.out.mono ?_
              rintro e w6 ⟨rfl, M1, hM1, hT6, hC6⟩
              go_wp2_with fail
              go_meet
              case rel => exact ⟨rfl, M1, hide ⟨hM1, hT6, hTC.out.2.trans hC6 fun _ _ h => h⟩⟩
            | false =>
              have hm1 := hide (n1.out fun h => by have := ht2.out; rw [decide_eq_true h.1, decide_eq_true h.2] at this; cases this)
              go_wp2_with fail
              go_meet
              case rel => exact ⟨rfl, _, hide ⟨hm1.out, by rw [List.append_assoc, ← hT.out]; exact hTC.out.1, hTC.out.2⟩⟩
          case rest =>
            obtain ⟨rfl, M1, hM⟩ := hcut
            obtain ⟨wg, rfl⟩ : ∃ wg, wg = wc := ⟨_, rfl⟩
            have hM1l := hM.out.1.2.len
            rw [List.length_append] at hM1l
            have hPM : (P ++ M1).length = mid := by rw [List.length_append]; have := k1.out; have := k4.out; have := haP.out; omega
            have hEl : (P ++ (M1 ++ (A2 ++ (B2 ++ Q)))).length = dl := by rw [← hTl.out, hT.out]; simp only [List.length_append]; omega
            have j2 : mid < en → en < b → Calls Tryz.prog 199 #[.slice (some ⟨g, 0, none⟩) dl c, .int .i64 (mid : Int), .int .i64 (en : Int), .int .i64 (b : Int), cmpV] wg (SymP g (P ++ M1) A2 B2 Q wg) := fun h1 h2 =>
              ih'.out mid en b _ (P ++ M1) A2 B2 Q wg hl2.out hM.out.2.1 hEl (by simp) hPM.symm k2.out k3.out hsA.out.right hsB.out.right (by have := k2.out; omega) (by have := k3.out; omega)
            have n2 : ¬ (mid < en ∧ en < b) → Mrg A2 B2 (A2 ++ B2) := fun h => by
              by_cases h1 : mid < en
              · have : B2 = [] := List.length_eq_zero_iff.1 (by have := k3.out; have := fun h2 => h ⟨h1, h2⟩; omega)
                rw [this, List.append_nil]; exact Mrg.nil_right hsA.out.right
              · have : A2 = [] := List.length_eq_zero_iff.1 (by have := k2.out; omega)
                rw [this]; exact Mrg.nil_left hsB.out.right
            have hfin : ∀ (M2 : List TmV) (x : World), Mrg A2 B2 M2 → TR x g ((P ++ M1) ++ (M2 ++ Q)) → Chg (fun k => k = g) wo x → SymP g P A B Q wo (.returned (.tuple #[])) x := fun M2 x h1 h2 h3 =>
              ⟨rfl, M1 ++ M2, hmg.out M1 M2 hM.out.1 h1, by rw [List.append_assoc, ← List.append_assoc P]; exact h2, h3⟩
            unfold cmpV at j2
            replace j2 := hide j2
            replace n2 := hide n2
            replace hfin := hide hfin
            replace hM1l := hide hM1l
            replace hPM := hide hPM
            replace hEl := hide hEl
            by_cases c1 : mid < en
            · by_cases c2 : en < b
              · have hr := hide (j2.out c1 c2)
                have c1b : decide (mid < en) = true := decide_eq_true c1
                have c2b : decide (en < b) = true := decide_eq_true c2
                go_wp2_with fail
                refine hr.out.mono ?_
                rintro e w6 ⟨rfl, M2, hM2, hT6, hC6⟩
                go_wp2_with fail
                go_end0
                exact hfin.out M2 w6 hM2 hT6 (hM.out.2.2.trans hC6 fun _ _ h => h)
              · have c1b : decide (mid < en) = true := decide_eq_true c1
                have c2b : decide (en < b) = false := decide_eq_false c2
                have hm1 := hide (n2.out fun h => c2 h.2)
                go_wp2_with fail
                go_end0
                exact hfin.out _ wg hm1.out (by have := hM.out.2.1; simpa only [List.append_assoc] using this) hM.out.2.2
            · have c1b : decide (mid < en) = false := decide_eq_false c1
              have hm1 := hide (n2.out fun h => c1 h.1)
              go_wp2_with fail
              go_end0
              exact hfin.out _ wg hm1.out (by have := hM.out.2.1; simpa only [List.append_assoc] using this) hM.out.2.2
theorem symmerge_any (g c : Nat) : ∀ (n a m b : Nat) (D P A B Q : List TmV) (w : World), A.length + B.length < n → TR w g D → D = P ++ (A ++ (B ++ Q)) → a = P.length → m = a + A.length → b = m + B.length → Srt A → Srt B → 0 < A.length → 0 < B.length → D.length ≤ 1073741824 →
    Calls Tryz.prog 199 #[.slice (some ⟨g, 0, none⟩) D.length c, .int .i64 (a : Int), .int .i64 (m : Int), .int .i64 (b : Int), cmpV] w (SymP g P A B Q w)
  | 0, _, _, _, _, _, _, _, _, _, h, _, _, _, _, _, _, _, _, _, _ => absurd h (Nat.not_lt_zero _)
  | n + 1, a, m, b, D, P, A, B, Q, w, h, hT, hD, ha, hm, hb, hA, hB, hA0, hB0, hle => by
    by_cases hA1 : A.length = 1
    · obtain ⟨z, rfl⟩ := List.length_eq_one_iff.1 hA1
      exact sym_left g c a m b D P B Q z w hT hD ha hm hb hB hle
    · by_cases hB1 : B.length = 1
      · obtain ⟨z, rfl⟩ := List.length_eq_one_iff.1 hB1
        exact sym_right g c a m b D P A Q z w hT hD ha hm hb hA (by omega) hle
      · exact sym_mid g c a m b D P A B Q w hT hD ha hm hb hA hB (by omega) (by omega) hle fun a m b D P A' B' Q w hlt => symmerge_any g c n a m b D P A' B' Q w (by omega)
end
end Go.Proofs.YtkdcnhnaiknaaaaGreat
