/- loggiaref06: Read. -/
import Derived.Test.YticnncgbfpgeaaaDrI
namespace Go.Proofs.Yticnncgbfpgeaaa
open Go.RowKit Go.Maps

/-- What the document's Read answers. -/
def RReadPost (P : PD) (s : List UInt8) (fr n : Int) (w : World) (e : Ending) (w' : World) : Prop :=
  ∃ A k c, e = .returned (.tuple #[.slice A k c, .int .i64 (readM P s fr n).2]) ∧ Bs w' A (readM P s fr n).1 ∧ k = (readM P s fr n).1.length ∧ Ext w w'
theorem rread_err {P : PD} {s : List UInt8} {fr n : Int} {w w' : World} {k : Nat} (h : readM P s fr n = ([], k)) (he : Ext w w') : RReadPost P s fr n w (.returned (.tuple #[.slice none 0 0, .int .i64 k])) w' := by
  unfold RReadPost
  rw [h]
  exact ⟨none, 0, 0, rfl, .inl rfl, rfl, he⟩
set_option maxRecDepth 100000 in
set_option maxHeartbeats 2000000 in
theorem rread_any (N : Nat → Prop) (A : Option Addr) (n c : Nat) (P : PD) (R : List RE) (s : List UInt8) (fr k : Int) (w : World) (h : RS w N A n c R) (hP : R.map RE.pl = P.L) (hs : s.length ≤ 9223372036854775807) (hf1 : -9223372036854775808 ≤ fr) (hf2 : fr ≤ 9223372036854775807)
    (hn1 : -9223372036854775808 ≤ k) (hn2 : k ≤ 9223372036854775807) :
    Calls Try.prog 37 #[rdisk A n c P.quota P.armed P.stopped, str s, .int .i64 fr, .int .i64 k] w (RReadPost P s fr k w) := by
  obtain ⟨q, hq⟩ : ∃ q, q = P.quota := ⟨_, rfl⟩
  obtain ⟨a, ha'⟩ : ∃ q, q = P.armed := ⟨_, rfl⟩
  obtain ⟨st, hst⟩ : ∃ q, q = P.stopped := ⟨_, rfl⟩
  rw [← hq, ← ha', ← hst]
  obtain ⟨W, hW⟩ : ∃ W, W = w.alloc (.cells #[.slice A n c, .int .i64 q, .int .i64 a, .bool st] 36) := ⟨_, rfl⟩
  have hE : Ext w W := by rw [hW]; exact (Ext.refl w).alloc _
  have hd : Row W w.heap.size 36 #[.slice A n c, .int .i64 q, .int .i64 a, .bool st] := by rw [hW]; exact Row.new w _ _
  have hnm := rnamed_any s W hs
  have hfa := rfind_any N A n c q a st R s W (h.ext hE)
  have hWx := hide hW.symm
  clear hW
  have d0 : W.cell? ⟨w.heap.size, 0, none⟩ = some (.slice A n c) := hd.cell 0 rfl
  have d1 : W.cell? ⟨w.heap.size, 1, none⟩ = some (.int .i64 q) := hd.cell 1 rfl
  have d2 : W.cell? ⟨w.heap.size, 2, none⟩ = some (.int .i64 a) := hd.cell 2 rfl
  have d3 : W.cell? ⟨w.heap.size, 3, none⟩ = some (.bool st) := hd.cell 3 rfl
  unfold rdisk str at hfa ⊢
  unfold str at hnm
  replace hfa := hide hfa
  replace hq := hide hq
  replace ha' := hide ha'
  cases hnmd : namedM s with
  | false =>
    have hres : readM P s fr k = ([], 60) := by unfold readM; rw [hnmd]; rfl
    have fin := rread_err hres hE
    rw [hnmd] at hnm
    replace hnm := hide hnm
    replace fin := hide fin
    replace hst := hide hst
    clear hres hnmd
    go_enter Try.func37, Try.ntmps37
    go_wp2_with fail
    rw [hWx.out]
    refine hnm.out.mono ?_
    rintro e w1 ⟨rfl, hw1⟩
    replace hw1 := hw1.symm
    subst hw1
    go_wp2_with fail
    go_ret2
    exact fin.out
  | true =>
    rw [hnmd] at hnm
    replace hnm := hide hnm
    cases st with
    | true =>
      have hres : readM P s fr k = ([], 63) := by unfold readM; rw [hnmd, ← hst]; rfl
      have fin := rread_err hres hE
      replace fin := hide fin
      replace hst := hide hst
      clear hres hnmd
      go_enter Try.func37, Try.ntmps37
      go_wp2_with fail
      rw [hWx.out]
      refine hnm.out.mono ?_
      rintro e w1 ⟨rfl, hw1⟩
      replace hw1 := hw1.symm
      subst hw1
      go_wp2_with fail
      go_ret2
      exact fin.out
    | false =>
      rcases rfind_pl hP s with ⟨i, r, hf, hr, hn, hfd⟩ | ⟨hf, hfd⟩
      · have hfa2 := hfa.out
        rw [hf] at hfa2
        simp only [Option.getD_some, Option.isSome_some] at hfa2
        replace hfa2 := hide hfa2
        have hin : i < n := by rw [h.len]; exact (List.getElem?_eq_some_iff.1 hr).1
        obtain ⟨g, o, r', hAg, hr', k0, k1, k2⟩ := (h.ext hE).at_ hin
        obtain rfl : r' = r := by rw [hr] at hr'; cases hr'; rfl
        subst hAg
        have hrm := List.mem_of_getElem? hr
        have hok := h.ok r' hrm
        have hgl := World.block_lt_of_cell? W ⟨g, o + i * 3 + 1, none⟩ k1
        have hmany := h.many
        obtain ⟨bl, hbl⟩ : ∃ x, x = r'.b.length := ⟨_, rfl⟩
        have hlen := hok.len
        rw [← hbl] at k1 hlen
        replace hf := hide hf
        replace hr := hide hr
        replace hn := hide hn
        clear hr' k0 k2
        by_cases hbad : fr < 0 ∨ (bl : Int) < fr ∨ k < 0
        · have hres : readM P s fr k = ([], 5) := by
            unfold readM
            rw [hnmd, ← hst, hfd]
            simp only [if_true]
            show (if fr < 0 ∨ (r'.b.length : Int) < fr ∨ k < 0 then _ else _) = _
            rw [← hbl, if_pos hbad]
          have hcs : fr < 0 ∨ (0 ≤ fr ∧ (bl : Int) < fr) ∨ (0 ≤ fr ∧ fr ≤ bl ∧ k < 0) := by omega
          replace hbl := hide hbl
          replace hst := hide hst
          replace hfd := hide hfd
          have fin : ∀ w1, Ext W w1 → RReadPost P s fr k w (.returned (.tuple #[.slice none 0 0, .int .i64 5])) w1 := fun w1 h1 => rread_err hres (hE.trans h1)
          replace fin := hide fin
          clear hres hnmd hbad
          rcases hcs with h1 | ⟨h0, h1⟩ | ⟨h0, h1, h2⟩
          all_goals
            go_enter Try.func37, Try.ntmps37
            go_wp2_with fail
            rw [hWx.out]
            refine hnm.out.mono ?_
            rintro e w1 ⟨rfl, hw1⟩
            replace hw1 := hw1.symm
            subst hw1
            go_wp2_with fail
            refine hfa2.out.mono ?_
            rintro e w1 ⟨rfl, hE1⟩
            have d0' := hE1.cell d0
            have k1' := hE1.cell k1
            go_wp2_with fail
            go_ret2
            exact fin.out _ hE1
        · obtain ⟨f, rfl⟩ : ∃ f : Nat, fr = f := ⟨fr.toNat, by omega⟩
          obtain ⟨m, rfl⟩ : ∃ m : Nat, k = m := ⟨k.toNat, by omega⟩
          have hfl : f ≤ bl := by omega
          obtain ⟨k2, hk2⟩ : ∃ k2, k2 = min m (bl - f) := ⟨_, rfl⟩
          have hres : readM P s f m = ((r'.b.drop f).take m, 0) := by
            unfold readM
            rw [hnmd, ← hst, hfd]
            simp only [if_true]
            show (if (f : Int) < 0 ∨ (r'.b.length : Int) < f ∨ (m : Int) < 0 then _ else _) = _
            rw [← hbl, if_neg hbad]
            rfl
          have hmin := run_min2 (P := Try.prog) #[3, 3] 3 (x := m) (y := (bl : Int) - f) (m := (k2 : Nat)) (by omega)
          have hcap := hok.cap
          rw [← hbl] at hcap
          obtain ⟨A', c', hsub, hcl, hz', hbk, hkc⟩ := run_sub (t := 27) (e := 5) (fr := f) (k := k2) Try.underlying27 (fun W => by kernel_rfl) (n := bl) (by omega) hcap hok.nil (fun a ha => (hok.away a ha).2.2)
          have hl2 : ((r'.b.drop f).take k2).length = k2 := by rw [List.length_take, List.length_drop, ← hbl]; omega
          have htk : (r'.b.drop f).take k2 = (r'.b.drop f).take m := by
            by_cases hc : m ≤ bl - f
            · rw [hk2, Nat.min_eq_left hc]
            · rw [hk2, Nat.min_eq_right (by omega), List.take_of_length_le (i := bl - f) (by rw [List.length_drop, ← hbl]; omega), List.take_of_length_le (i := m) (by rw [List.length_drop, ← hbl]; omega)]
          have fin : ∀ w1, Ext W w1 → RReadPost P s f m w (.returned (.tuple #[.slice A' k2 c', .int .i64 0])) w1 := fun w1 h1 => by
            unfold RReadPost
            rw [hres, ← htk]
            refine ⟨A', k2, c', rfl, ?_, hl2.symm, hE.trans h1⟩
            have := hcl w1 (r'.b.map B8) (by rw [List.length_map, hbl]) ((hok.ext (hE.trans h1)).bytes)
            unfold Bs
            rw [List.map_take, List.map_drop]
            exact this
          have hk2b : (f : Int) + k2 ≤ bl := by omega
          replace fin := hide fin
          replace hbl := hide hbl
          replace hst := hide hst
          replace hfd := hide hfd
          clear hres hnmd htk hl2 hcl hz' hbk hk2
          go_enter Try.func37, Try.ntmps37
          go_wp2_with fail
          rw [hWx.out]
          refine hnm.out.mono ?_
          rintro e w1 ⟨rfl, hw1⟩
          replace hw1 := hw1.symm
          subst hw1
          go_wp2_with fail
          refine hfa2.out.mono ?_
          rintro e w1 ⟨rfl, hE1⟩
          have d0' := hE1.cell d0
          have k1' := hE1.cell k1
          go_wp2_with fail
          go_ret2
          exact fin.out _ hE1
      · have hfa2 := hfa.out
        rw [hf] at hfa2
        simp only [Option.getD_none, Option.isSome_none] at hfa2
        have hres : readM P s fr k = ([], 61) := by unfold readM; rw [hnmd, ← hst, hfd]; rfl
        replace hfa2 := hide hfa2
        replace hst := hide hst
        go_enter Try.func37, Try.ntmps37
        go_wp2_with fail
        rw [hWx.out]
        refine hnm.out.mono ?_
        rintro e w1 ⟨rfl, hw1⟩
        replace hw1 := hw1.symm
        subst hw1
        go_wp2_with fail
        refine hfa2.out.mono ?_
        rintro e w1 ⟨rfl, hE1⟩
        have fin := rread_err hres (hE.trans hE1)
        replace fin := hide fin
        clear hres
        go_wp2_with fail
        go_ret2
        exact fin.out
end Go.Proofs.Yticnncgbfpgeaaa
