/- Regions whose order Go leaves open: every order comes to the same. -/
import Derived.Test.YtpfmjagbjdkdcaaGreatDoorAmZ
set_option linter.unusedSimpArgs false
set_option linter.unusedVariables false
namespace Go.Proofs.YtpfmjagbjdkdcaaGreatDoor.Am
open Go.Proofs.YtpfmjagbjdkdcaaGreatDoor Go.RowKit

theorem count_set : ∀ (l : List Bool) (i : Nat), l[i]? = some false → (l.set i true).count false + 1 = l.count false
  | [], i, h => by simp at h
  | b :: l, 0, h => by
    cases h
    simp
  | b :: l, i + 1, h => by
    have ih := count_set l i (by simpa using h)
    rw [List.set_cons_succ, List.count_cons, List.count_cons]
    omega
section
variable {P : Program} {orc : Orc} {rec : Rec} {L : List Oper} {t0 : HT Value} {n : Nat} {ds : List Nat} {base gm : Nat} {f0 : Ren} {A0 : AS} {w0 : World} {S : Nat → Bool} {q : Nat} {f : Ren} {A : AS} {w : World} {V : HT Value} {O : List (Nat × AObj)} {b : Act}
/-- When an operation may be done, the writing ones stand as they should. -/
theorem Inv.lo_le (hI : Inv P L t0 n ds base gm f0 A0 w0 S q f A w V O b) (hG : RG L n) {i : Nat} {o : Oper} (ho : L[i]? = some o) (hr : ∀ e ∈ o.after, Region.binds .any e = true → S e.on = true) : lo L i ≤ q :=
  cnt_le _ _ _ fun p e hp hb => (hI.wr p e hp).1 (hI.ahead hG ho hr hb)
theorem Inv.le_hi (hI : Inv P L t0 n ds base gm f0 A0 w0 S q f A w V O b) (hG : RG L n) {i : Nat} (hS : S i = false) : q ≤ hi L i := by
  obtain ⟨_, _, _, h4⟩ := fst_spec (bs := befs L []) (i := i) (effsOf L 0) 0
  rcases Nat.lt_or_ge (hi L i) q with hlt | h
  · exfalso
    have hl : hi L i < (effsOf L 0).length := Nat.lt_of_lt_of_le hlt hI.ql
    have he := List.getElem?_eq_getElem hl
    have hb := h4 _ (by rw [Nat.sub_zero]; exact he)
    have hSe := (hI.wr _ _ he).2 hlt
    have hoe := List.getElem?_eq_getElem (hI.sub _ hSe)
    have := hI.ahead hG hoe (hI.cl _ _ hSe hoe) hb
    rw [hS] at this
    cases this
  · exact h
/-- An operation that only reads, or lays one block, is done. -/
theorem Inv.flt (hI : Inv P L t0 n ds base gm f0 A0 w0 S q f A w V O b) (hG : RG L n) (hW0 : WR base gm f0 A0 w0) {i : Nat} {o : Oper} (ho : L[i]? = some o) (hf : isFlt o = true) (hr : ∀ e ∈ o.after, Region.binds .any e = true → S e.on = true)
    {u v : Value} {ob : Option AObj} {w1 : World} (hV : V.get i = some u) (hO : ∀ x, (i, x) ∈ O ↔ ob = some x) (hS : S i = false) (hF : FOut f (A0.nx + i) w u ob v w1) {S' : Nat → Bool} (hS' : ∀ j, S' j = (S j || decide (j = i))) :
    ∃ f', f.le f' ∧ Inv P L t0 n ds base gm f0 A0 w0 S' q f' A w1 V O (b.put o.dst v) := by
  have hi : i < L.length := (List.getElem?_eq_some_iff.1 ho).1
  have hnone := hI.non i hi (.inl hS)
  have hgm := hW0.gm
  have hnx := hI.nx
  obtain ⟨hz, hbk, hos, htp, hout⟩ := hF.grow
  have sub' : ∀ j, S' j = true → j < L.length := fun j hj => by
    rw [hS', Bool.or_eq_true, decide_eq_true_eq] at hj
    rcases hj with h | h
    · exact hI.sub j h
    · omega
  have cl' : ∀ j y, S' j = true → L[j]? = some y → ∀ e ∈ y.after, Region.binds .any e = true → S' e.on = true := fun j y hj hy e he hb => by
    rw [hS', Bool.or_eq_true, decide_eq_true_eq] at hj
    rw [hS', Bool.or_eq_true]
    left
    rcases hj with h | h
    · exact hI.cl j y h hy e he hb
    · subst h
      rw [ho] at hy
      cases hy
      exact hr e he hb
  have wr' : ∀ p e, (effsOf L 0)[p]? = some e → (S' e = true ↔ p < q) := fun p e hp => by
    rw [← hI.wr p e hp, hS', Bool.or_eq_true, decide_eq_true_eq]
    refine ⟨fun h => h.resolve_right ?_, .inl⟩
    rintro rfl
    obtain ⟨_, y, h1, h2⟩ := (effsOf_mem L 0 e).1 (List.mem_of_getElem? hp)
    rw [Nat.sub_zero, ho] at h1
    cases h1
    rw [hf] at h2
    cases h2
  have dr' : ∀ g : Ren, f.le g → DR g ds (b.put o.dst v).defers := fun g hg => by
    have := hI.dr.mono hg
    cases hd : o.dst <;> exact this
  have hchg : Chg (Im gm f0 A0) w0 w1 := ⟨hos.trans hI.st.chg.os, htp.trans hI.st.chg.tape, hout.trans hI.st.chg.output, Nat.le_trans hI.st.chg.size hz, fun k hk hn => by
    rw [hbk k (by have := hI.st.chg.size; omega)]
    exact hI.st.chg.block k hk hn⟩
  obtain ⟨_, hF⟩ := hF
  cases ob with
  | none =>
    obtain ⟨hh, hv⟩ := hF
    have hno : ∀ x, (i, x) ∉ O := fun x hx => by cases (hO x).1 hx
    have hSi : ∀ j x, (j, x) ∈ O → S' j = true → S j = true := fun j x hj h => by
      rw [hS', Bool.or_eq_true, decide_eq_true_eq] at h
      refine h.resolve_right ?_
      rintro rfl
      exact hno x hj
    refine ⟨f, .refl f, ⟨⟨hI.st.ren, hI.st.nx, hchg, hI.st.im, hI.st.wr.heap hh⟩, hI.nx, sub', cl', wr', hI.ql, hI.gd, fun j x hj hs hq => ?_, fun j x k y l m hj hk h1 h2 => hI.dist j x k y l m hj hk (hSi j x hj h1) (hSi k y hk h2), fun j hj h => ?_,
      slots_put hG ho hS' (fun _ _ => rfl) (.refl f) hI.tm hV hv, dr' f (.refl f)⟩⟩
    · obtain ⟨l, h1, h2, h3, h4⟩ := hI.blk j x hj (hSi j x hj hs) hq
      exact ⟨l, h1, h2.mono (.refl f) (by rw [hh]), h3, h4⟩
    · by_cases hji : j = i
      · subst hji; exact hnone
      · refine hI.non j hj (h.imp (fun h => ?_) id)
        rw [hS', decide_eq_false hji, Bool.or_false] at h
        exact h
  | some x0 =>
    obtain ⟨l0, o', hl, he, hob, hv⟩ := hF
    have hle : f.le (f.put (A0.nx + i) l0) := Ren.le_put l0 hnone
    have hput : ∀ k, k ≠ A0.nx + i → f.put (A0.nx + i) l0 k = f k := fun k hk => Ren.put_other f l0 hk
    have hdead : ∀ k y, A.h.get k = some y → k ≠ A0.nx + i := fun k y hk e => by
      subst e
      obtain ⟨l, h1, _⟩ := hI.st.wr.ob _ y hk
      rw [hnone] at h1
      cases h1
    have him : ∀ c, Im gm (f.put (A0.nx + i) l0) A c ↔ Im gm f A c := fun c => by
      constructor
      · rintro ⟨k, y, l, h1, h2, h3, h4⟩
        rw [hput k (hdead k y h2)] at h3
        exact ⟨k, y, l, h1, h2, h3, h4⟩
      · rintro ⟨k, y, l, h1, h2, h3, h4⟩
        exact ⟨k, y, l, h1, h2, by rw [hput k (hdead k y h2)]; exact h3, h4⟩
    have hni : ¬ Im gm f A l0.blk := by
      rintro ⟨k, y, l, h1, h2, h3, h4⟩
      obtain ⟨l', h5, h6⟩ := hI.st.wr.ob k y h2
      rw [h3] at h5
      cases h5
      have := h6.lt
      omega
    have hold : ∀ j x, (j, x) ∈ O → S' j = true → j ≠ i → S j = true := fun j x hj h hji => by
      rw [hS', decide_eq_false hji, Bool.or_false] at h
      exact h
    have hsz : w0.heap.size ≤ w.heap.size := hI.st.chg.size
    refine ⟨f.put (A0.nx + i) l0, hle, ⟨⟨fun k hk => ?_, hI.st.nx, hchg, fun c hc => hI.st.im c ((him c).1 hc), ?_⟩, hI.nx, sub', cl', wr', hI.ql, hI.gd, fun j x hj hs hq => ?_, fun j x k y l m hj hk h1 h2 hq1 hq2 h3 h4 h5 => ?_, fun j hj h => ?_,
      slots_put hG ho hS' (fun _ _ => rfl) hle hI.tm hV hv, dr' _ hle⟩⟩
    · rw [hput k (by omega)]; exact hI.st.ren k hk
    · refine hI.st.wr.widen hle (fun k y hk => hput k (hdead k y hk)) (fun k hk => ?_) hz hbk
      rw [hput k (by omega)]
      exact hI.st.wr.fr k hk
    · by_cases hji : j = i
      · subst hji
        have := (hO x).1 hj
        cases this
        exact ⟨l0, Ren.put_same f _ l0, hob, by omega, fun h => hni ((him _).1 h)⟩
      · obtain ⟨l, h1, h2, h3, h4⟩ := hI.blk j x hj (hold j x hj hs hji) hq
        exact ⟨l, by rw [hput _ (by omega)]; exact h1, h2.mono hle (hbk _ h2.lt), h3, fun h => h4 ((him _).1 h)⟩
    · have key : ∀ (k : Nat) y m, (k, y) ∈ O → S k = true → q ≤ Am.hi L k → k ≠ i → f.put (A0.nx + i) l0 (A0.nx + k) = some m → m.blk < w.heap.size := fun k y m hk hs hq hki h => by
        obtain ⟨l, h1, h2, _, _⟩ := hI.blk k y hk hs hq
        rw [hput _ (by omega), h1] at h
        cases h
        exact h2.lt
      by_cases hji : j = i
      · by_cases hki : k = i
        · omega
        · exfalso
          subst hji
          rw [Ren.put_same] at h3
          cases h3
          have := key k y m hk (hold k y hk h2 hki) hq2 hki h4
          omega
      · by_cases hki : k = i
        · exfalso
          subst hki
          rw [Ren.put_same] at h4
          cases h4
          have := key j x l hj (hold j x hj h1 hji) hq1 hji h3
          omega
        · rw [hput _ (by omega)] at h3 h4
          exact hI.dist j x k y l m hj hk (hold j x hj h1 hji) (hold k y hk h2 hki) hq1 hq2 h3 h4 h5
    · have hji : j ≠ i := by
        rintro rfl
        rcases h with h | h
        · rw [hS', decide_eq_true rfl, Bool.or_true] at h; cases h
        · exact h x0 ((hO x0).2 rfl)
      rw [hput _ (by omega)]
      refine hI.non j hj (h.imp (fun h => ?_) id)
      rw [hS', decide_eq_false hji, Bool.or_false] at h
      exact h
/-- Ahead of a writing operation. -/
theorem Inv.ins (hI : Inv P L t0 n ds base gm f0 A0 w0 S q f A w V O b) (hgb : gm ≤ base) (hW0 : WR base gm f0 A0 w0) (hall : ∀ i x, (i, x) ∈ O → hi L i = q → S i = true) :
    Step base gm f0 A0 w0 f (insAll (befs L []) (effsOf L 0) A0.nx q O A) w ∧ (insAll (befs L []) (effsOf L 0) A0.nx q O A).nx = A.nx ∧
    ∀ i x, (i, x) ∈ O → S i = true → q + 1 ≤ hi L i → ∃ l, f (A0.nx + i) = some l ∧ ObR f w x l ∧ w0.heap.size ≤ l.blk ∧ ¬ Im gm f (insAll (befs L []) (effsOf L 0) A0.nx q O A) l.blk := by
  have hlt : ∀ i x, (i, x) ∈ O → i < L.length := fun i x hx => by
    obtain ⟨o, h1, _⟩ := hI.gd.ou i x hx
    exact (List.getElem?_eq_some_iff.1 h1).1
  obtain ⟨h1, h2, h3⟩ := insAll_ok (q := q) (bs := befs L []) (es := effsOf L 0) (L := L) hgb hW0 O A hI.st hI.nx hlt hI.gd.nd
    (fun i x hx hq => hI.blk i x hx (hall i x hx hq) (by rw [show hi L i = q from hq]; exact Nat.le_refl _))
    (fun i x j y l m hx hy hq hq2 => hI.dist i x j y l m hx hy (hall i x hx hq) (hall j y hy hq2) (by rw [show hi L i = q from hq]; exact Nat.le_refl _) (by rw [show hi L j = q from hq2]; exact Nat.le_refl _))
  refine ⟨h1, h2, fun i x hx hs hq => ?_⟩
  obtain ⟨l, h4, h5, h6, h7⟩ := hI.blk i x hx hs (by omega)
  refine ⟨l, h4, h5, h6, fun h => ?_⟩
  rcases h3 _ h with h | ⟨j, y, m, h8, h9, h10, h11⟩
  · exact h7 h
  · have := hI.dist i x j y l m hx h8 hs (hall j y h8 h9) (by omega) (by rw [show hi L j = q from h9]; exact Nat.le_refl _) h4 h10 h11.symm
    subst this
    have h9 : hi L i = q := h9
    omega
end
end Go.Proofs.YtpfmjagbjdkdcaaGreatDoor.Am
