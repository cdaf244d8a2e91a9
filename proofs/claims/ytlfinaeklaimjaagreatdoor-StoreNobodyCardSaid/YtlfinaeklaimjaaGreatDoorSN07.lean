/- Texts of one proof, joined. -/
import Derived.Test.YtlfinaeklaimjaaGreatDoorSN06
import Derived.RangeFuncNested
import Derived.Test.YtlfinaeklaimjaaGreatDoorSN02
import Derived.Laws.BitsAllLaws
import Derived.Deep.QuietTactic
import Derived.BigQuiet
import Derived.KernelRfl
import Derived.Test.YtlfinaeklaimjaaGreatDoorProg
import Derived.Test.YtlfinaeklaimjaaGreatDoorShelf
import Derived.Test.YtlfinaeklaimjaaGreatDoorSN05
import Derived.Lib.Builder
import Derived.Laws.Externs
import Derived.Maps.Keyed
import Derived.Maps.OwnOps
set_option linter.unusedSimpArgs false
set_option linter.unusedVariables false
namespace Go.Proofs.YtlfinaeklaimjaaGreatDoor
noncomputable section
end
end Go.Proofs.YtlfinaeklaimjaaGreatDoor
namespace Go.Proofs.YtlfinaeklaimjaaGreatDoor.Am
noncomputable section
open Go.Proofs.YtlfinaeklaimjaaGreatDoor Go.RowKit
theorem count_set : ∀ (l : List Bool) (i : Nat), l[i]? = some false → (l.set i true).count false + 1 = l.count false
  | [], i, h => by simp at h
  | b :: l, 0, h => by
    cases h
    simp
  | b :: l, i + 1, h => by
    have ih := count_set l i (by simpa using h)
    rw [List.set_cons_succ, List.count_cons, List.count_cons]
    omega
section
variable {P : Program} {orc : Orc} {rec : Rec} {L : List Oper} {t0 : HT Value} {n : Nat} {ds : List Nat} {base gm : Nat} {f0 : Ren} {A0 : AS} {w0 : World} {S : Nat → Bool} {q : Nat} {f : Ren} {A : AS} {w : World} {V : HT Value} {O : List (Nat × AObj)} {b : Act}
theorem Inv.lo_le (hI : Inv P L t0 n ds base gm f0 A0 w0 S q f A w V O b) (hG : RG L n) {i : Nat} {o : Oper} (ho : L[i]? = some o) (hr : ∀ e ∈ o.after, Region.binds .any e = true → S e.on = true) : lo L i ≤ q :=
  cnt_le _ _ _ fun p e hp hb => (hI.wr p e hp).1 (hI.ahead hG ho hr hb)
theorem Inv.le_hi (hI : Inv P L t0 n ds base gm f0 A0 w0 S q f A w V O b) (hG : RG L n) {i : Nat} (hS : S i = false) : q ≤ hi L i := by
  obtain ⟨_, _, _, h4⟩ := fst_spec (bs := befs L []) (i := i) (effsOf L 0) 0
  rcases Nat.lt_or_ge (hi L i) q with hlt | h
  · exfalso
    have hl : hi L i < (effsOf L 0).length := Nat.lt_of_lt_of_le hlt hI.ql
    have he := List.getElem?_eq_getElem hl
    have hb := h4 _ (by rw [Nat.sub_zero]; exact he)
    have hSe := (hI.wr _ _ he).2 hlt
    have hoe := List.getElem?_eq_getElem (hI.sub _ hSe)
    have := hI.ahead hG hoe (hI.cl _ _ hSe hoe) hb
    rw [hS] at this
    cases this
  · exact h
theorem Inv.flt (hI : Inv P L t0 n ds base gm f0 A0 w0 S q f A w V O b) (hG : RG L n) (hW0 : WR base gm f0 A0 w0) {i : Nat} {o : Oper} (ho : L[i]? = some o) (hf : isFlt o = true) (hr : ∀ e ∈ o.after, Region.binds .any e = true → S e.on = true)
    {u v : Value} {ob : Option AObj} {w1 : World} (hV : V.get i = some u) (hO : ∀ x, (i, x) ∈ O ↔ ob = some x) (hS : S i = false) (hF : FOut f (A0.nx + i) w u ob v w1) {S' : Nat → Bool} (hS' : ∀ j, S' j = (S j || decide (j = i))) :
    ∃ f', f.le f' ∧ Inv P L t0 n ds base gm f0 A0 w0 S' q f' A w1 V O (b.put o.dst v) := by
  have hi : i < L.length := (List.getElem?_eq_some_iff.1 ho).1
  have hnone := hI.non i hi (.inl hS)
  have hgm := hW0.gm
  have hnx := hI.nx
  obtain ⟨hz, hbk, hos, htp, hout⟩ := hF.grow
  have sub' : ∀ j, S' j = true → j < L.length := fun j hj => by
    rw [hS', Bool.or_eq_true, decide_eq_true_eq] at hj
    rcases hj with h | h
    · exact hI.sub j h
    · omega
  have cl' : ∀ j y, S' j = true → L[j]? = some y → ∀ e ∈ y.after, Region.binds .any e = true → S' e.on = true := fun j y hj hy e he hb => by
    rw [hS', Bool.or_eq_true, decide_eq_true_eq] at hj
    rw [hS', Bool.or_eq_true]
    left
    rcases hj with h | h
    · exact hI.cl j y h hy e he hb
    · subst h
      rw [ho] at hy
      cases hy
      exact hr e he hb
  have wr' : ∀ p e, (effsOf L 0)[p]? = some e → (S' e = true ↔ p < q) := fun p e hp => by
    rw [← hI.wr p e hp, hS', Bool.or_eq_true, decide_eq_true_eq]
    refine ⟨fun h => h.resolve_right ?_, .inl⟩
    rintro rfl
    obtain ⟨_, y, h1, h2⟩ := (effsOf_mem L 0 e).1 (List.mem_of_getElem? hp)
    rw [Nat.sub_zero, ho] at h1
    cases h1
    rw [hf] at h2
    cases h2
  have dr' : ∀ g : Ren, f.le g → DR g ds (b.put o.dst v).defers := fun g hg => by
    have := hI.dr.mono hg
    cases hd : o.dst <;> exact this
  have hchg : Chg (Im gm f0 A0) w0 w1 := ⟨hos.trans hI.st.chg.os, htp.trans hI.st.chg.tape, hout.trans hI.st.chg.output, Nat.le_trans hI.st.chg.size hz, fun k hk hn => by
    rw [hbk k (by have := hI.st.chg.size; omega)]
    exact hI.st.chg.block k hk hn⟩
  obtain ⟨_, hF⟩ := hF
  cases ob with
  | none =>
    obtain ⟨hh, hv⟩ := hF
    have hno : ∀ x, (i, x) ∉ O := fun x hx => by cases (hO x).1 hx
    have hSi : ∀ j x, (j, x) ∈ O → S' j = true → S j = true := fun j x hj h => by
      rw [hS', Bool.or_eq_true, decide_eq_true_eq] at h
      refine h.resolve_right ?_
      rintro rfl
      exact hno x hj
    refine ⟨f, .refl f, ⟨⟨hI.st.ren, hI.st.nx, hchg, hI.st.im, hI.st.wr.heap hh⟩, hI.nx, sub', cl', wr', hI.ql, hI.gd, fun j x hj hs hq => ?_, fun j x k y l m hj hk h1 h2 => hI.dist j x k y l m hj hk (hSi j x hj h1) (hSi k y hk h2), fun j hj h => ?_,
      slots_put hG ho hS' (fun _ _ => rfl) (.refl f) hI.tm hV hv, dr' f (.refl f)⟩⟩
    · obtain ⟨l, h1, h2, h3, h4⟩ := hI.blk j x hj (hSi j x hj hs) hq
      exact ⟨l, h1, h2.mono (.refl f) (by rw [hh]), h3, h4⟩
    · by_cases hji : j = i
      · subst hji; exact hnone
      · refine hI.non j hj (h.imp (fun h => ?_) id)
        rw [hS', decide_eq_false hji, Bool.or_false] at h
        exact h
  | some x0 =>
    obtain ⟨l0, o', hl, he, hob, hv⟩ := hF
    have hle : f.le (f.put (A0.nx + i) l0) := Ren.le_put l0 hnone
    have hput : ∀ k, k ≠ A0.nx + i → f.put (A0.nx + i) l0 k = f k := fun k hk => Ren.put_other f l0 hk
    have hdead : ∀ k y, A.h.get k = some y → k ≠ A0.nx + i := fun k y hk e => by
      subst e
      obtain ⟨l, h1, _⟩ := hI.st.wr.ob _ y hk
      rw [hnone] at h1
      cases h1
    have him : ∀ c, Im gm (f.put (A0.nx + i) l0) A c ↔ Im gm f A c := fun c => by
      constructor
      · rintro ⟨k, y, l, h1, h2, h3, h4⟩
        rw [hput k (hdead k y h2)] at h3
        exact ⟨k, y, l, h1, h2, h3, h4⟩
      · rintro ⟨k, y, l, h1, h2, h3, h4⟩
        exact ⟨k, y, l, h1, h2, by rw [hput k (hdead k y h2)]; exact h3, h4⟩
    have hni : ¬ Im gm f A l0.blk := by
      rintro ⟨k, y, l, h1, h2, h3, h4⟩
      obtain ⟨l', h5, h6⟩ := hI.st.wr.ob k y h2
      rw [h3] at h5
      cases h5
      have := h6.lt
      omega
    have hold : ∀ j x, (j, x) ∈ O → S' j = true → j ≠ i → S j = true := fun j x hj h hji => by
      rw [hS', decide_eq_false hji, Bool.or_false] at h
      exact h
    have hsz : w0.heap.size ≤ w.heap.size := hI.st.chg.size
    refine ⟨f.put (A0.nx + i) l0, hle, ⟨⟨fun k hk => ?_, hI.st.nx, hchg, fun c hc => hI.st.im c ((him c).1 hc), ?_⟩, hI.nx, sub', cl', wr', hI.ql, hI.gd, fun j x hj hs hq => ?_, fun j x k y l m hj hk h1 h2 hq1 hq2 h3 h4 h5 => ?_, fun j hj h => ?_,
      slots_put hG ho hS' (fun _ _ => rfl) hle hI.tm hV hv, dr' _ hle⟩⟩
    · rw [hput k (by omega)]; exact hI.st.ren k hk
    · refine hI.st.wr.widen hle (fun k y hk => hput k (hdead k y hk)) (fun k hk => ?_) hz hbk
      rw [hput k (by omega)]
      exact hI.st.wr.fr k hk
    · by_cases hji : j = i
      · subst hji
        have := (hO x).1 hj
        cases this
        exact ⟨l0, Ren.put_same f _ l0, hob, by omega, fun h => hni ((him _).1 h)⟩
      · obtain ⟨l, h1, h2, h3, h4⟩ := hI.blk j x hj (hold j x hj hs hji) hq
        exact ⟨l, by rw [hput _ (by omega)]; exact h1, h2.mono hle (hbk _ h2.lt), h3, fun h => h4 ((him _).1 h)⟩
    · have key : ∀ (k : Nat) y m, (k, y) ∈ O → S k = true → q ≤ Am.hi L k → k ≠ i → f.put (A0.nx + i) l0 (A0.nx + k) = some m → m.blk < w.heap.size := fun k y m hk hs hq hki h => by
        obtain ⟨l, h1, h2, _, _⟩ := hI.blk k y hk hs hq
        rw [hput _ (by omega), h1] at h
        cases h
        exact h2.lt
      by_cases hji : j = i
      · by_cases hki : k = i
        · omega
        · exfalso
          subst hji
          rw [Ren.put_same] at h3
          cases h3
          have := key k y m hk (hold k y hk h2 hki) hq2 hki h4
          omega
      · by_cases hki : k = i
        · exfalso
          subst hki
          rw [Ren.put_same] at h4
          cases h4
          have := key j x l hj (hold j x hj h1 hji) hq1 hji h3
          omega
        · rw [hput _ (by omega)] at h3 h4
          exact hI.dist j x k y l m hj hk (hold j x hj h1 hji) (hold k y hk h2 hki) hq1 hq2 h3 h4 h5
    · have hji : j ≠ i := by
        rintro rfl
        rcases h with h | h
        · rw [hS', decide_eq_true rfl, Bool.or_true] at h; cases h
        · exact h x0 ((hO x0).2 rfl)
      rw [hput _ (by omega)]
      refine hI.non j hj (h.imp (fun h => ?_) id)
      rw [hS', decide_eq_false hji, Bool.or_false] at h
      exact h
theorem Inv.ins (hI : Inv P L t0 n ds base gm f0 A0 w0 S q f A w V O b) (hgb : gm ≤ base) (hW0 : WR base gm f0 A0 w0) (hall : ∀ i x, (i, x) ∈ O → hi L i = q → S i = true) :
    Step base gm f0 A0 w0 f (insAll (befs L []) (effsOf L 0) A0.nx q O A) w ∧ (insAll (befs L []) (effsOf L 0) A0.nx q O A).nx = A.nx ∧
    ∀ i x, (i, x) ∈ O → S i = true → q + 1 ≤ hi L i → ∃ l, f (A0.nx + i) = some l ∧ ObR f w x l ∧ w0.heap.size ≤ l.blk ∧ ¬ Im gm f (insAll (befs L []) (effsOf L 0) A0.nx q O A) l.blk := by
  have hlt : ∀ i x, (i, x) ∈ O → i < L.length := fun i x hx => by
    obtain ⟨o, h1, _⟩ := hI.gd.ou i x hx
    exact (List.getElem?_eq_some_iff.1 h1).1
  obtain ⟨h1, h2, h3⟩ := insAll_ok (q := q) (bs := befs L []) (es := effsOf L 0) (L := L) hgb hW0 O A hI.st hI.nx hlt hI.gd.nd
    (fun i x hx hq => hI.blk i x hx (hall i x hx hq) (by rw [show hi L i = q from hq]; exact Nat.le_refl _))
    (fun i x j y l m hx hy hq hq2 => hI.dist i x j y l m hx hy (hall i x hx hq) (hall j y hy hq2) (by rw [show hi L i = q from hq]; exact Nat.le_refl _) (by rw [show hi L j = q from hq2]; exact Nat.le_refl _))
  refine ⟨h1, h2, fun i x hx hs hq => ?_⟩
  obtain ⟨l, h4, h5, h6, h7⟩ := hI.blk i x hx hs (by omega)
  refine ⟨l, h4, h5, h6, fun h => ?_⟩
  rcases h3 _ h with h | ⟨j, y, m, h8, h9, h10, h11⟩
  · exact h7 h
  · have := hI.dist i x j y l m hx h8 hs (hall j y h8 h9) (by omega) (by rw [show hi L j = q from h9]; exact Nat.le_refl _) h4 h10 h11.symm
    subst this
    have h9 : hi L i = q := h9
    omega
end
end
end Go.Proofs.YtlfinaeklaimjaaGreatDoor.Am
namespace Go.Proofs.YtlfinaeklaimjaaGreatDoor
noncomputable section
end
end Go.Proofs.YtlfinaeklaimjaaGreatDoor
namespace Go.Proofs.YtlfinaeklaimjaaGreatDoor.Am
noncomputable section
open Go.Proofs.YtlfinaeklaimjaaGreatDoor Go.RowKit
section
variable {P : Program} {orc : Orc} {rec : Rec} {L : List Oper} {t0 : HT Value} {n : Nat} {ds : List Nat} {base gm : Nat} {f0 : Ren} {A0 : AS} {w0 : World} {S : Nat → Bool} {q : Nat} {f : Ren} {A : AS} {w : World} {V : HT Value} {O : List (Nat × AObj)} {b : Act}
theorem Inv.eff (hI : Inv P L t0 n ds base gm f0 A0 w0 S q f A w V O b) (hG : RG L n) (hlen : L.length < 1000) (hgb : gm ≤ base) (hW0 : WR base gm f0 A0 w0) {e : Nat} {o : Oper} (ho : L[e]? = some o) (hq : (effsOf L 0)[q]? = some e)
    (hr : ∀ x ∈ o.after, Region.binds .any x = true → S x.on = true) (hS : S e = false) {f' : Ren} {A' : AS} {w' : World} {u v : Value} (hStep : Step base gm f (insAll (befs L []) (effsOf L 0) A0.nx q O A) w f' A' w') (hv : VR f' u v)
    {V' : HT Value} {O' : List (Nat × AObj)} (hp : fpass P L (befs L []) (effsOf L 0) t0 A0.nx (q + 1) A'.h L 0 (HT.set 64 V e (some u)) O = some (V', O')) {S' : Nat → Bool} (hS' : ∀ j, S' j = (S j || decide (j = e))) :
    Inv P L t0 n ds base gm f0 A0 w0 S' (q + 1) f' A' w' V' O' (b.put o.dst v) := by
  have hel : e < L.length := (List.getElem?_eq_some_iff.1 ho).1
  have hflt : isFlt o = false := by
    obtain ⟨_, y, h1, h2⟩ := (effsOf_mem L 0 e).1 (List.mem_of_getElem? hq)
    rw [Nat.sub_zero, ho] at h1
    cases h1
    exact h2
  obtain ⟨hi1, hi2, hi3⟩ := hI.ins hgb hW0 fun i x hx hq2 => by
    obtain ⟨_, _, _, h4⟩ := fst_spec (bs := befs L []) (i := i) (effsOf L 0) 0
    have hq2 : fst (befs L []) i (effsOf L 0) 0 = q := hq2
    exact hI.ahead hG ho hr (h4 e (by rw [hq2]; exact hq))
  have hle := hStep.le hi1.wr
  have hset : ∀ i, (HT.set 64 V e (some u)).get i = if i = e then some u else V.get i := fun i => HT.get_set 64 V e i _ (Nat.lt_trans (by omega : e + 1 < 1000001) (by decide))
  obtain ⟨hn1, hn2, hn3⟩ := fpass_new hlen L 0 _ _ (fun j => by rw [Nat.zero_add]) (by omega) hp
  have hnx := hI.nx
  have loS : ∀ j, S j = true → lo L j ≤ q := fun j hj => by
    have hoj := List.getElem?_eq_getElem (hI.sub j hj)
    exact hI.lo_le hG hoj (hI.cl j _ hj hoj)
  have gd' : Gd P L t0 A0.nx (q + 1) A'.h V' O' := by
    refine fpass_ok (hp := A.h) hG hlen L 0 _ _ (fun j => by rw [Nat.zero_add]) (by omega) (fun i x _ _ hi => absurd hi (Nat.not_lt_zero i)) (fun i x hx hf _ hl hh => ?_) (fun i x hx => ?_) hI.gd.nd hp
    · have hc := hI.gd.ok i x hx hf (by omega) (by omega)
      refine Cnd.set (ob := none) hG hx hc (by omega) (fun h => ?_) ?_
      · subst h
        rw [ho] at hx
        cases hx
        rw [hflt] at hf
        cases hf
      · cases hb : Nat.testBit (Bi L i) e with
        | false => rfl
        | true =>
          have : q + 1 ≤ lo L i := cnt_ge _ _ _ (by have := (List.getElem?_eq_some_iff.1 hq).1; omega) fun p y hp hy => by
            rcases Nat.lt_or_ge p q with h | h
            · exact hG.trans (hG.chain' h hy hq) hx hb
            · obtain rfl : p = q := by omega
              rw [hq] at hy
              cases hy
              exact hb
          omega
    · obtain ⟨y, h1, h2, h3⟩ := hI.gd.ou i x hx
      exact ⟨y, h1, h2, .inl (by omega)⟩
  have old : ∀ i x, (i, x) ∈ O' → S' i = true → (i, x) ∈ O ∧ S i = true := fun i x hx hs => by
    have hie : i ≠ e := by
      rintro rfl
      obtain ⟨y, h1, h2, _⟩ := gd'.ou i x hx
      rw [ho] at h1
      cases h1
      rw [hflt] at h2
      cases h2
    rw [hS', decide_eq_false hie, Bool.or_false] at hs
    refine ⟨(hn2 _ hx).resolve_right fun h => ?_, hs⟩
    have h : lo L i = q + 1 := h
    have := loS i hs
    omega
  have hren : ∀ i, i < L.length → f' (A0.nx + i) = f (A0.nx + i) := fun i hi => hStep.ren _ (by rw [hi2]; omega)
  have hlt : ∀ i x, (i, x) ∈ O → i < L.length := fun i x hx => by
    obtain ⟨y, h1, _⟩ := hI.gd.ou i x hx
    exact (List.getElem?_eq_some_iff.1 h1).1
  refine ⟨hi1.trans hStep, by have := hStep.nx; omega, fun j hj => ?_, fun j y hj hy x hx hb => ?_, fun p x hpx => ?_, by have := (List.getElem?_eq_some_iff.1 hq).1; omega, gd', fun i x hx hs hh => ?_, fun i x j y l m hx hy hs1 hs2 hh1 hh2 h1 h2 => ?_, fun i hi h => ?_,
    slots_put hG ho hS' (fun j hj => ?_) hle hI.tm ?_ hv, ?_⟩
  · rw [hS', Bool.or_eq_true, decide_eq_true_eq] at hj
    rcases hj with h | h
    · exact hI.sub j h
    · omega
  · rw [hS', Bool.or_eq_true, decide_eq_true_eq] at hj
    rw [hS', Bool.or_eq_true]
    left
    rcases hj with h | h
    · exact hI.cl j y h hy x hx hb
    · subst h
      rw [ho] at hy
      cases hy
      exact hr x hx hb
  · rw [hS', Bool.or_eq_true, decide_eq_true_eq, hI.wr p x hpx]
    constructor
    · rintro (h | rfl)
      · omega
      · rcases Nat.lt_or_ge q p with h | h
        · exact absurd (hG.lt ho (hG.chain' h hq hpx)) (Nat.lt_irrefl _)
        · omega
    · intro h
      rcases Nat.lt_or_ge p q with h2 | h2
      · exact .inl h2
      · obtain rfl : p = q := by omega
        rw [hq] at hpx
        cases hpx
        exact .inr rfl
  · obtain ⟨hx, hs⟩ := old i x hx hs
    obtain ⟨l, h1, h2, h3, h4⟩ := hi3 i x hx hs hh
    refine ⟨l, by rw [hren i (hlt i x hx)]; exact h1, h2.mono hle (hStep.chg.block _ h2.lt h4), h3, fun h => ?_⟩
    rcases hStep.im _ h with h | h
    · have := h2.lt; omega
    · exact h4 h
  · obtain ⟨hx, hs1⟩ := old i x hx hs1
    obtain ⟨hy, hs2⟩ := old j y hy hs2
    rw [hren i (hlt i x hx)] at h1
    rw [hren j (hlt j y hy)] at h2
    exact hI.dist i x j y l m hx hy hs1 hs2 (by omega) (by omega) h1 h2
  · rw [hren i hi]
    refine hI.non i hi (h.imp (fun h => ?_) fun h x hx => h x (hn1 _ hx))
    rw [hS', Bool.or_eq_false_iff] at h
    exact h.1
  · rcases hn3 j with h | h
    · rw [h, hset, if_neg (by rintro rfl; rw [hS] at hj; cases hj)]
    · have := loS j hj
      omega
  · rcases hn3 e with h | ⟨_, y, h1, h2⟩
    · rw [h, hset, if_pos rfl]
    · rw [ho] at h1
      cases h1
      rw [hflt] at h2
      cases h2
  · have := hI.dr.mono hle
    cases hd : o.dst <;> exact this
set_option maxHeartbeats 1000000 in
theorem draw_ok (hrec : Snd P base gm rec) (horc : OrcOk P base gm orc) (hnum : ∀ (g : Nat) fn, P.funcs[g]? = some fn → fn.name ≠ "runtime.NumGoroutine") (hgb : gm ≤ base) (hW0 : WR base gm f0 A0 w0) {F : Fence} {rd : Option Nat} (hF : FOk f0 rd F)
    (hG : RG L n) (hlen : L.length < 1000) (hopd : ∀ (i : Nat) (o : Oper), L[i]? = some o → ∀ x ∈ o.op.operands, opdOk gm A0.h x = true) {ops : Array Oper} (hL : ops.toList = L) (k : Kt) :
    ∀ (fuel : Nat) (listed : Array Bool) (q : Nat) (f : Ren) (A : AS) (w : World) (V : HT Value) (O : List (Nat × AObj)) (b : Act),
      Inv P L t0 n ds base gm f0 A0 w0 (fun i => listed.getD i false) q f A w V O b → listed.size = L.length → listed.toList.count false ≤ fuel →
      drawGo P gm orc rec L (befs L []) (effsOf L 0) t0 A0.nx ((effsOf L 0).drop q) q V O A (fun V A => k .normal ⟨⟨finT V L 0 t0, n, ds⟩, A⟩) = true →
      wpAnyIn F 0 P .any ops (fun e a' w' => ∃ f' st', Step base gm f0 A0 w0 f' st'.A w' ∧ AcR f' st'.a a' ∧ k e st' = true) fuel listed b w := by
  have hopl : ∀ i : Nat, ops[i]? = L[i]? := fun i => by rw [← hL, Array.getElem?_toList]
  have fin : ∀ (listed : Array Bool) (q : Nat) (f : Ren) (A : AS) (w : World) (V : HT Value) (O : List (Nat × AObj)) (b : Act),
      Inv P L t0 n ds base gm f0 A0 w0 (fun i => listed.getD i false) q f A w V O b → listed.size = L.length → Region.ready .any ops listed = [] →
      drawGo P gm orc rec L (befs L []) (effsOf L 0) t0 A0.nx ((effsOf L 0).drop q) q V O A (fun V A => k .normal ⟨⟨finT V L 0 t0, n, ds⟩, A⟩) = true →
      ∃ f' st', Step base gm f0 A0 w0 f' st'.A w ∧ AcR f' st'.a b ∧ k .normal st' = true := by
    intro listed q f A w V O b hI hsz hrd hd
    have hall : ∀ i, i < L.length → listed.getD i false = true := by
      intro i
      induction i using Nat.strongRecOn with
      | _ i ih =>
        intro hi
        have ho := List.getElem?_eq_getElem hi
        have hil : i < listed.size := by omega
        cases hb : listed.getD i false with
        | true => rfl
        | false =>
          exfalso
          have : i ∈ Region.ready .any ops listed := mem_ready.2 ⟨by simp [hil] at hb ⊢; exact hb, _, (hopl i).trans ho, fun e he hbe => by
            have := (hG.op i _ ho).after e he hbe
            exact ih e.on this (by omega)⟩
          rw [hrd] at this
          cases this
    have hql : q = (effsOf L 0).length := by
      rcases Nat.lt_or_ge q (effsOf L 0).length with h | h
      · exfalso
        have he := List.getElem?_eq_getElem h
        obtain ⟨_, y, h1, _⟩ := (effsOf_mem L 0 _).1 (List.mem_of_getElem? he)
        have := (hI.wr q _ he).1 (hall _ (by rw [Nat.sub_zero] at h1; exact (List.getElem?_eq_some_iff.1 h1).1))
        omega
      · have := hI.ql; omega
    rw [List.drop_eq_nil_of_le (by omega), drawGo] at hd
    obtain ⟨h1, _, _⟩ := hI.ins hgb hW0 fun i x hx _ => by
      obtain ⟨y, h1, _⟩ := hI.gd.ou i x hx
      exact hall i (List.getElem?_eq_some_iff.1 h1).1
    refine ⟨f, _, h1, ⟨⟨hI.tm.1, fun t => ?_⟩, hI.dr⟩, hd⟩
    have h2 := hI.tm.2 t
    have hbd : ∀ o ∈ L, ∀ d, o.dst = some d → d < 1000000000000 := fun o ho d hd => by
      obtain ⟨i, hi⟩ := List.mem_iff_getElem?.1 ho
      have := (hG.op i o hi).dst
      unfold dstOk at this
      rw [hd] at this
      simp only [Bool.and_eq_true] at this
      exact blt_lt this.2
    obtain ⟨h3, h4⟩ := finT_get V t L 0 t0 hbd
    unfold slotV at h2
    show VR f (((finT V L 0 t0).get t).getD undef) _
    cases hw : writer L 0 t with
    | none =>
      rw [hw] at h2
      dsimp only at h2
      rw [h3 fun o ho hd => ?_]
      · rw [evA_tmp] at h2; exact h2
      · obtain ⟨i, hi⟩ := List.mem_iff_getElem?.1 ho
        have := (hG.op i o hi).own t hd
        rw [hw] at this
        cases this
    | some j =>
      rw [hw] at h2
      dsimp only at h2
      obtain ⟨_, y, h5, h6⟩ := writer_dst L 0 t j hw
      rw [Nat.sub_zero] at h5
      rw [if_pos (hall j (List.getElem?_eq_some_iff.1 h5).1)] at h2
      rw [h4 j (fun m o hm hd => ?_) ⟨y, List.mem_of_getElem? h5, h6⟩]
      · exact h2
      · have := (hG.op m o hm).own t hd
        rw [hw] at this
        cases this
        omega
  intro fuel
  induction fuel with
  | zero =>
    intro listed q f A w V O b hI hsz hc hd
    have hrd : Region.ready .any ops listed = [] := by
      cases hr : Region.ready .any ops listed with
      | nil => rfl
      | cons j js =>
        exfalso
        obtain ⟨h1, o, h2, _⟩ := mem_ready.1 (show j ∈ Region.ready .any ops listed by rw [hr]; exact List.mem_cons_self ..)
        rw [hopl] at h2
        have hj : j < listed.size := by rw [hsz]; exact (List.getElem?_eq_some_iff.1 h2).1
        have := count_set listed.toList j (by simp [hj] at h1 ⊢; exact h1)
        omega
    exact ⟨hrd, fin listed q f A w V O b hI hsz hrd hd⟩
  | succ fuel ih =>
    intro listed q f A w V O b hI hsz hc hd
    refine ⟨fun hrd => fin listed q f A w V O b hI hsz hrd hd, fun i hi => ?_⟩
    obtain ⟨hun, o, ho', hr⟩ := mem_ready.1 hi
    have ho : L[i]? = some o := by rw [← hopl]; exact ho'
    have hil : i < listed.size := by rw [hsz]; exact (List.getElem?_eq_some_iff.1 ho).1
    have hS : listed.getD i false = false := by simp [hil] at hun ⊢; exact hun
    have hS' : ∀ j, (listed.setIfInBounds i true).getD j false = (listed.getD j false || decide (j = i)) := fun j => by
      by_cases hj : j = i
      · subst hj
        simp [hil]
      · rw [decide_eq_false hj, Bool.or_false, getD_set_ne false (fun e => hj e.symm)]
    have hsz' : (listed.setIfInBounds i true).size = L.length := by rw [Array.size_setIfInBounds]; exact hsz
    have hc' : (listed.setIfInBounds i true).toList.count false ≤ fuel := by
      have := count_set listed.toList i (by simp [hil] at hun ⊢; exact hun)
      rw [Array.toList_setIfInBounds]
      omega
    have hle := hI.st.le hW0
    have hρ : ∀ x ∈ o.op.operands, VR f (evD L t0 V (Bi L i) x) (b.eval x) := fun x hx => hI.ev hG hW0 ho hS hr hx (hopd i o ho x hx)
    have hwant := hI.want hG hL ho hr
    unfold wpOpIn
    rw [ho']
    dsimp only
    rw [← hwant]
    cases hf : isFlt o with
    | true =>
      obtain ⟨hc1, hc2⟩ := hI.gd.ok i o ho hf (hI.lo_le hG ho hr) (hI.le_hi hG hS)
      cases hw : wantD V o with
      | true =>
        rw [if_pos rfl]
        obtain ⟨v, ob, hV, hfl, hO⟩ := hc1 hw
        obtain ⟨v', w', hrun, hFO⟩ := flt_ok hI.st.wr (hI.non i (List.getElem?_eq_some_iff.1 ho).1 (.inl hS)) hρ hfl
        obtain ⟨f', _, hI'⟩ := hI.flt hG hW0 ho hf hr hV hO hS hFO hS'
        refine wp_val (hF.mono hle) (fun c e => ?_) hrun (ih _ q f' A w' V O _ hI' hsz' hc' hd)
        unfold Am.flt at hfl
        rw [e] at hfl
        cases hfl
      | false =>
        rw [if_neg (by decide)]
        obtain ⟨hV, hO⟩ := hc2 hw
        obtain ⟨f', _, hI'⟩ := hI.flt (v := undef) (ob := none) (w1 := w) hG hW0 ho hf hr hV (fun x => ⟨fun h => absurd h (hO x), fun h => by cases h⟩) hS ⟨⟨rfl, rfl, rfl⟩, rfl, undefVR f⟩ hS'
        exact ⟨fun g _ => (hF.mono hle).fn g, ih _ q f' A w V O _ hI' hsz' hc' hd⟩
    | false =>
      obtain ⟨p, hp⟩ := List.mem_iff_getElem?.1 ((effsOf_mem L 0 i).2 ⟨Nat.zero_le _, o, by rw [Nat.sub_zero]; exact ho, hf⟩)
      have hpq : q ≤ p := by
        rcases Nat.lt_or_ge p q with h | h
        · have := (hI.wr p i hp).2 h
          rw [hS] at this
          cases this
        · exact h
      have hpl := (List.getElem?_eq_some_iff.1 hp).1
      have hpq : p = q := by
        rcases Nat.lt_or_ge q p with h | h
        · exfalso
          have he := List.getElem?_eq_getElem (Nat.lt_trans h hpl)
          have := (hI.wr q _ he).1 (hI.ahead hG ho hr (hG.chain' h he hp))
          omega
        · omega
      subst hpq
      have hdrop : (effsOf L 0).drop p = i :: (effsOf L 0).drop (p + 1) := by
        rw [List.drop_eq_getElem_cons hpl]
        congr 1
        exact (List.getElem?_eq_some_iff.1 hp).2
      rw [hdrop, drawGo, ho] at hd
      simp only [effR_eq, effT_eq] at hd
      obtain ⟨hi1, hi2, _⟩ := hI.ins hgb hW0 fun j x hx hq2 => by
        obtain ⟨_, _, _, h4⟩ := fst_spec (bs := befs L []) (i := j) (effsOf L 0) 0
        have hq2 : fst (befs L []) j (effsOf L 0) 0 = p := hq2
        exact hI.ahead hG ho hr (h4 i (by rw [hq2]; exact hp))
      cases hw : wantD V o with
      | true =>
        rw [if_pos rfl]
        split at hd
        · rename_i hck
          rw [Bool.and_eq_true] at hck
          refine effK_ok hrec horc hnum hi1.wr (by rw [hi2]; exact blt_lt hck.1) (hF.mono hle) hρ hd fun f' v v' A' w' hStep hv hk => ?_
          split at hk
          · rename_i V' O' hp'
            exact ih _ (p + 1) f' A' w' V' O' _ (hI.eff hG hlen hgb hW0 ho hp hr hS hStep hv hp' hS') hsz' hc' hk
          · cases hk
        · rename_i hck
          rw [Bool.and_eq_true] at hd
          rw [hd.1, hw] at hck
          cases hck
      | false =>
        rw [if_neg (by decide)]
        rw [hw, Bool.and_false] at hd
        dsimp only at hd
        rw [Bool.and_eq_true] at hd
        obtain ⟨_, hk⟩ := hd
        split at hk
        · rename_i V' O' hp'
          exact ⟨fun g _ => (hF.mono hle).fn g, ih _ (p + 1) f _ w V' O' _ (hI.eff hG hlen hgb hW0 ho hp hr hS (Step.refl hi1.wr) (undefVR f) hp' hS') hsz' hc' hk⟩
        · cases hk
end
end
end Go.Proofs.YtlfinaeklaimjaaGreatDoor.Am
namespace Go.Proofs.YtlfinaeklaimjaaGreatDoor
noncomputable section
end
end Go.Proofs.YtlfinaeklaimjaaGreatDoor
namespace Go.Proofs.YtlfinaeklaimjaaGreatDoor.Am
noncomputable section
open Go.Proofs.YtlfinaeklaimjaaGreatDoor Go.RowKit
section
variable {P : Program} {orc : Orc} {rec : Rec} {base gm : Nat} {f : Ren} {A : AS} {w : World}
theorem lay (hW : WR base gm f A w) (hlt : A.nx < 1000000000) {o : AObj} {o' : Obj} (ho : ∀ g : Ren, f.le g → OR g o o') :
    ∃ f1 L, Step base gm f A w f1 ⟨HT.set 64 A.h A.nx (some o), A.nx + 1⟩ (w.alloc o') ∧ f1 A.nx = some L ∧ L.blk = w.heap.size := by
  have hnone := hW.fr A.nx (Nat.le_refl _)
  have hF : FOut f A.nx w (.map (some A.nx)) (some o) (.map (some w.heap.size)) (w.alloc o') := by
    refine ⟨⟨rfl, rfl, rfl⟩, ⟨w.heap.size, 0, none⟩, o', rfl, rfl, .obj (World.alloc_heap_new w o') (ho _ (Ren.le_put _ hnone)), ?_⟩
    exact .map (L := ⟨w.heap.size, 0, none⟩) (Ren.put_same f _ _)
  obtain ⟨f1, hS, hv⟩ := hF.step hW hlt
  refine ⟨f1, ?_⟩
  generalize hu : w.heap.size = u at hv
  cases hv with
  | map hL => exact ⟨_, hS, hL, rfl⟩
theorem rangeK_ok (hrec : Snd P base gm rec) (horc : OrcOk P base gm orc) (hnum : ∀ (g : Nat) fn, P.funcs[g]? = some fn → fn.name ≠ "runtime.NumGoroutine") {rd : Option Nat} {F : Fence} {st : St} {a : Act} (hF : FOk f rd F) (hW : WR base gm f st.A w) (hA : AcR f st.a a)
    {g : Operand} {ps : Array Tmp} {asn b : Code} {k : Kt} (h : rangeK P gm orc rec rd g ps asn b st k = true) :
    (Code.rangeFunc g ps asn b).wpIn F 0 P (fun e a' w' => ∃ f' st', Step base gm f st.A w f' st'.A w' ∧ AcR f' st'.a a' ∧ k e st' = true) a w := by
  unfold rangeK at h
  dsimp only at h
  split at h
  · rename_i gf first cap hck e
    rw [Bool.and_eq_true] at hck
    obtain ⟨hop, hnx⟩ := hck
    have hnx := blt_lt hnx
    have hg := hA.ev hW hop
    rw [e] at hg
    obtain ⟨first', cap', e', hf1, hf2⟩ : ∃ first' cap', a.eval g = .func (.func gf) first' cap' ∧ LR f first.toList first'.toList ∧ LR f cap.toList cap'.toList := by
      generalize a.eval g = z at hg
      cases hg with | func hg hx hxs hy hys => cases hg; exact ⟨_, _, rfl, AVR.list hx hxs, AVR.list hy hys⟩
    have hgm := hW.gm
    have fin : ∀ (l : Nat) (dsl : List Nat) (mark : List Deferred) (f1 : Ren) (A1 : AS) (w1 : World) (L : Loc), Step base gm f st.A w f1 A1 w1 → f1 l = some L → gm ≤ l → DR f1 dsl (mark ++ a.defers) →
        ∀ {args' : List Value} {args : List Value}, LR f1 args args' →
        callK P gm orc rec gf args A1 (fun _ A => match A.h.get l with
          | some (.loop s pe t n ps asn b d) => match s with
            | .busy => false
            | _ => match pe with
              | none => k .normal ⟨⟨st.a.t, st.a.n, dsl⟩, put A l (some (.loop .exhausted none t n ps asn b d))⟩
              | some c => rec rd c ⟨⟨st.a.t, st.a.n, dsl⟩, put A l (some (.loop .exhausted (some c) t n ps asn b d))⟩ k
          | _ => false) = true →
        (∀ w, (callFunc gf args'.toArray).run P w = .ok (.enter gf args'.toArray) w) ∧
        CallsIn F 0 P gf args'.toArray w1 (rangePost F 0 P L.blk (fun e a' w' => ∃ f' st', Step base gm f st.A w f' st'.A w' ∧ AcR f' st'.a a' ∧ k e st' = true) { a with defers := mark ++ a.defers }) := by
      intro l dsl mark f1 A1 w1 L hS1 hl hgl hD args' args hargs hc
      obtain ⟨h1, h2⟩ := callK_ok hrec horc hnum hS1.wr hargs hc
      refine ⟨h1, (hF.mono (hS1.le hW)).calls (h2.mono fun e2 w2 ⟨f2, v, v', A2, he, hS2, hv, hk⟩ => ?_)⟩
      subst he
      have hl2 : f2 l = some L := hS2.le hS1.wr l L hl
      split at hk
      · rename_i s pe t n ps2 as2 b2 d hget
        obtain ⟨L2, D, fn, tm, h3, h4, h5, h6, h7⟩ := loopObj hS2.wr hget
        rw [hl2] at h3
        cases h3
        have hlt := (Array.getElem?_eq_some_iff.1 h7).1
        have hsb : s ≠ .busy := by
          rintro rfl
          cases hk
        have hle2 := (hS1.trans hS2).le hW
        have hac : AcR f2 ⟨st.a.t, st.a.n, dsl⟩ { a with defers := mark ++ a.defers } := ⟨hA.t.mono hle2, hD.mono (hS2.le hS1.wr)⟩
        have hS3 := Step.obj (o1 := .loop .exhausted pe t n ps2 as2 b2 d) hS2.wr hget hl2 h4 hgl hlt (.loop (fn := fn) h5 h6)
        refine ⟨pe, _, run_endLoop h7 hsb, ?_⟩
        cases pe with
        | none =>
          have hk2 : k .normal ⟨⟨st.a.t, st.a.n, dsl⟩, put A2 l (some (.loop .exhausted none t n ps2 as2 b2 d))⟩ = true := by cases s <;> first | exact absurd rfl hsb | exact hk
          exact ⟨f2, _, (hS1.trans hS2).trans hS3, hac, hk2⟩
        | some c =>
          have hk2 : rec rd c ⟨⟨st.a.t, st.a.n, dsl⟩, put A2 l (some (.loop .exhausted (some c) t n ps2 as2 b2 d))⟩ k = true := by cases s <;> first | exact absurd rfl hsb | exact hk
          refine wpIn_mono (hrec rd c _ k f2 _ _ F (hF.mono hle2) hS3.wr hac hk2) ?_
          rintro e3 a3 w3 ⟨f3, st3, h8, h9, h10⟩
          exact ⟨f3, st3, ((hS1.trans hS2).trans hS3).trans h8, h9, h10⟩
      · cases hk
    have hyield : ∀ {f1 : Ren} {l : Nat} {L : Loc}, f.le f1 → f1 l = some L → LR f1 (first.toList ++ [.func (.yield l) #[] #[]] ++ cap.toList) (first'.toList ++ [.func (.yield L.blk) #[] #[]] ++ cap'.toList) := fun {f1 l L} hle hl =>
      ((hf1.mono hle).app (.cons (VR.func (.yield hl) rfl (fun i v v' h => by simp at h) rfl (fun i v v' h => by simp at h)) (.nil f1))).app (hf2.mono hle)
    have hargs : ∀ l, first' ++ #[Value.func (.yield l) #[] #[]] ++ cap' = (first'.toList ++ [Value.func (.yield l) #[] #[]] ++ cap'.toList).toArray := fun l => by apply Array.ext'; simp
    have hres : ∀ l w, (resolve a.eval (rangeCall g l) 0).run P w = .ok { target := .fn (.func gf) cap', args := first' ++ #[.func (.yield l) #[] #[]] } w := fun l w => by
      have : (#[Operand.const (.func (.yield l) #[] #[])] : Array Operand).map a.eval = #[.func (.yield l) #[] #[]] := by simp [Act.eval]
      simp only [resolve, e', Deferred.ofValue, this, Sem.run_pure]
    split at h
    · cases hF
      refine wpIn_rangeFunc fun fn _ => ?_
      obtain ⟨f1, D, hS1, hD, hDb⟩ := lay hW (Nat.lt_trans (Nat.lt_succ_self _) hnx) (o := .deferred) (o' := .deferred (some [])) fun g _ => .deferred
      obtain ⟨f2, L, hS2, hL, hLb⟩ := lay hS1.wr hnx (o := .loop .ready none st.a.t st.a.n ps asn b st.A.nx)
        (o' := .loop { state := .ready, pending := none, fn := fn, tmps := a.tmps, params := ps, assign := asn, body := b, defers := D.blk }) fun g hg => .loop (hg _ _ hD) (hA.t.mono ((hS1.le hW).trans hg))
      have hle := (hS1.trans hS2).le hW
      have hD2 : f2 st.A.nx = some D := hS2.le hS1.wr _ _ hD
      obtain ⟨h1, h2⟩ := fin (st.A.nx + 1) (st.A.nx :: st.a.d) [{ target := .collected D.blk, args := #[] }] f2 _ _ L (hS1.trans hS2) hL (by omega) (.cons hD2 (hA.d.mono hle)) (hyield hle hL) h
      have hsz : L.blk = w.heap.size + 1 := by rw [hLb, World.size_alloc]
      have hen : (Instr.enterLoop fn a.tmps ps asn b none).run P w = .ok (L.blk, [{ target := .collected D.blk, args := #[] }]) ((w.alloc (.deferred (some []))).alloc (.loop { state := .ready, pending := none, fn := fn, tmps := a.tmps, params := ps, assign := asn, body := b, defers := D.blk })) := by
        rw [hsz, hDb]
        exact run_enterLoop_outer _ _ _ _ _
      have hinv : ∀ w2, (invoke (.fn (.func gf) cap') (first' ++ #[.func (.yield L.blk) #[] #[]])).run P w2 = .ok (.enter gf (first'.toList ++ [Value.func (.yield L.blk) #[] #[]] ++ cap'.toList).toArray) w2 := fun w2 => by
        rw [invoke, hargs, h1]
      exact ⟨L.blk, _, _, _, _, gf, _, _, hen, hres L.blk _, fun f' _ => FOk.fn (f := f) (rd := none) rfl f', hinv _, fun hd => (by cases hd), h2⟩
    · rename_i l0
      obtain ⟨L0, hl0, rfl⟩ := hF
      split at h
      · rename_i s0 pe0 t1 n1 ps1 as1 b1 d0 hget
        obtain ⟨L2, D, fn0, tm, h3, h4, h5, h6, h7⟩ := loopObj hW hget
        rw [hl0] at h3
        cases h3
        refine wpIn_rangeFunc fun fn _ => ?_
        obtain ⟨f1, L, hS1, hL, hLb⟩ := lay hW (Nat.lt_trans (Nat.lt_succ_self _) hnx) (o := .loop .ready none st.a.t st.a.n ps asn b d0)
          (o' := .loop { state := .ready, pending := none, fn := fn, tmps := a.tmps, params := ps, assign := asn, body := b, defers := D.blk }) fun g hg => .loop (hg _ _ h5) (hA.t.mono hg)
        have hle := hS1.le hW
        obtain ⟨h1, h2⟩ := fin st.A.nx st.a.d [] f1 _ _ L hS1 hL hgm (hA.d.mono hle) (hyield hle hL) h
        have hen : (Instr.enterLoop fn a.tmps ps asn b (some L0.blk)).run P w = .ok (L.blk, []) (w.alloc (.loop { state := .ready, pending := none, fn := fn, tmps := a.tmps, params := ps, assign := asn, body := b, defers := D.blk })) := by
          rw [hLb]
          exact run_enterLoop_inner h7 _ _ _ _ _
        have hinv : ∀ w2, (invoke (.fn (.func gf) cap') (first' ++ #[.func (.yield L.blk) #[] #[]])).run P w2 = .ok (.enter gf (first'.toList ++ [Value.func (.yield L.blk) #[] #[]] ++ cap'.toList).toArray) w2 := fun w2 => by
          rw [invoke, hargs, h1]
        exact ⟨L.blk, _, _, _, _, gf, _, _, hen, hres L.blk _, fun f' _ => FOk.fn (f := f) (rd := some l0) ⟨L0, hl0, rfl⟩ f', hinv _, fun hd => (by cases hd), h2⟩
      · cases h
  · cases h
end
end
end Go.Proofs.YtlfinaeklaimjaaGreatDoor.Am
namespace Go.Proofs.YtlfinaeklaimjaaGreatDoor
noncomputable section
end
end Go.Proofs.YtlfinaeklaimjaaGreatDoor
namespace Go.Proofs.YtlfinaeklaimjaaGreatDoor.Am
noncomputable section
open Go.Proofs.YtlfinaeklaimjaaGreatDoor Go.RowKit
section
variable {P : Program} {orc : Orc} {rec : Rec} {base gm : Nat} {f : Ren} {A : AS} {w : World}
theorem drawK_ok (hmix : P.follows .mixedOrders = true) (hgb : gm ≤ base) (hrec : Snd P base gm rec) (horc : OrcOk P base gm orc) (hnum : ∀ (g : Nat) fn, P.funcs[g]? = some fn → fn.name ≠ "runtime.NumGoroutine") {rd : Option Nat} {F : Fence} {st : St} {a : Act} (hF : FOk f rd F)
    (hW : WR base gm f st.A w) (hA : AcR f st.a a) {id : Nat} {ops : Array Oper} {k : Kt} (h : drawK P gm orc rec ops.toList st k = true) :
    (Code.region id ops true).wpIn F 0 P (fun e a' w' => ∃ f' st', Step base gm f st.A w f' st'.A w' ∧ AcR f' st'.a a' ∧ k e st' = true) a w := by
  unfold drawK at h
  split at h
  · rename_i hck
    simp only [Bool.and_eq_true] at hck
    obtain ⟨⟨⟨⟨h1, h2⟩, h3⟩, h4⟩, h5⟩ := hck
    have h3 := blt_lt h3
    have h4 := blt_lt h4
    have hG : RG ops.toList st.a.n := ⟨fun i o ho => OpG.of (by have := opsOk_at ops.toList 0 h1 i o ho; rw [Nat.zero_add] at this; exact this), h2⟩
    have hopd : ∀ (i : Nat) (o : Oper), ops.toList[i]? = some o → ∀ x ∈ o.op.operands, opdOk gm st.A.h x = true := fun i o ho x hx => by
      have := List.all_eq_true.1 h5 o (List.mem_of_getElem? ho)
      exact List.all_eq_true.1 this x (by simpa using hx)
    split at h
    · rename_i V O hp
      have hW0 : WR base gm f st.A { w with drawn := w.drawn + 1 } := hW.heap rfl
      have hW1 : WR base gm f ⟨st.A.h, st.A.nx + ops.toList.length⟩ { w with drawn := w.drawn + 1 } :=
        ⟨hW0.ob, hW0.inj, hW0.low, fun k o hk => Nat.lt_of_lt_of_le (hW0.lt k o hk) (Nat.le_add_right ..), fun k hk => hW0.fr k (Nat.le_trans (Nat.le_add_right ..) hk), hW0.gl, Nat.le_trans hW0.gm (Nat.le_add_right ..), hW0.sz, by show st.A.nx + ops.toList.length < _; omega⟩
      have hgd : Gd P ops.toList st.a.t st.A.nx 0 st.A.h V O := fpass_ok (hp := st.A.h) hG h4 ops.toList 0 _ _ (fun j => by rw [Nat.zero_add]) (by omega) (fun i _ _ _ hi => absurd hi (Nat.not_lt_zero i)) (fun i _ _ _ _ hl => absurd hl (Nat.not_lt_zero _))
        (fun i x hx => by simp at hx) (by simp) hp
      have hno : ∀ i, (Array.replicate ops.size false).getD i false = false := fun i => by
        rw [Array.getD_eq_getD_getElem?, Array.getElem?_replicate]
        split <;> rfl
      have hI : Inv P ops.toList st.a.t st.a.n st.a.d base gm f st.A { w with drawn := w.drawn + 1 } (fun i => (Array.replicate ops.size false).getD i false) 0 f ⟨st.A.h, st.A.nx + ops.toList.length⟩ { w with drawn := w.drawn + 1 } V O a := by
        refine ⟨⟨fun _ _ => rfl, Nat.le_add_right .., Chg.refl _ _, fun _ h => .inr h, hW1⟩, Nat.le_refl _, fun i hi => ?_, fun i o hi => ?_, fun p e _ => ?_, Nat.zero_le _, hgd, fun i x _ hi => ?_, fun i x j y l m _ _ hi => ?_, fun i hi _ => hW.fr _ (Nat.le_add_right ..), ⟨hA.t.1, fun t => ?_⟩, hA.d⟩
        · rw [hno] at hi; cases hi
        · rw [hno] at hi; cases hi
        · rw [hno]; constructor
          · intro h; cases h
          · intro h; exact absurd h (Nat.not_lt_zero _)
        · rw [hno] at hi; cases hi
        · rw [hno] at hi; cases hi
        · have := hA.t.2 t
          unfold slotV
          split
          · rw [if_neg (by dsimp only; rw [hno]; decide), evA_tmp]
            exact this
          · rw [evA_tmp]
            exact this
      have hd := draw_ok hrec horc hnum hgb hW0 hF hG h4 hopd rfl k ops.size (Array.replicate ops.size false) 0 f _ _ V O a hI (by simp) (by simp) (by rw [List.drop_zero]; exact h)
      have hS0 : Step base gm f st.A w f st.A { w with drawn := w.drawn + 1 } := ⟨fun _ _ => rfl, Nat.le_refl _, ⟨rfl, rfl, rfl, Nat.le_refl _, fun _ _ _ => rfl⟩, fun _ h => .inr h, hW0⟩
      refine wpIn_mono (wpIn_region_any hmix hd) ?_
      rintro e a' w' ⟨f', st', h6, h7, h8⟩
      exact ⟨f', st', hS0.trans h6, h7, h8⟩
    · cases h
  · cases h
theorem runK_ok (hmix : P.follows .mixedOrders = true) (hgb : gm ≤ base) (horc : OrcOk P base gm orc) (hnum : ∀ (g : Nat) fn, P.funcs[g]? = some fn → fn.name ≠ "runtime.NumGoroutine") : ∀ n, Snd P base gm (runK P gm orc n) := by
  intro n
  induction n using Nat.strongRecOn with
  | _ n ih =>
  cases n with
  | zero =>
    intro rd c st k f a w F hF hW hA h
    cases h
  | succ n =>
  have hrec := ih n (Nat.lt_succ_self n)
  intro rd c st k f a w F hF hW hA h
  cases c with
  | skip => exact wpIn_skip ⟨f, st, Step.refl hW, hA, h⟩
  | label l => exact wpIn_label ⟨f, st, Step.refl hW, hA, h⟩
  | exit id => exact wpIn_exit ⟨f, st, Step.refl hW, hA, h⟩
  | goto l => exact wpIn_goto ⟨f, st, Step.refl hW, hA, h⟩
  | ret => exact wpIn_ret ⟨f, st, Step.refl hW, hA, h⟩
  | refuse why => cases h
  | region id ops draw =>
    cases draw with
    | true => exact drawK_ok hmix hgb hrec horc hnum hF hW hA h
    | false =>
      refine wpIn_region ?_
      have := textK_ok hrec horc hnum ops k ops.toList 0 (fun j => by rw [Nat.zero_add]) st f a w hF hW hA h
      rw [List.range_eq_range']
      simpa using this
  | seq x y =>
    refine wpIn_seq (wpIn_mono (hrec rd x st _ f a w F hF hW hA h) ?_)
    rintro e a1 w1 ⟨f1, st1, hS1, hA1, hk1⟩
    cases e with
    | normal =>
      refine wpIn_mono (hrec rd y st1 k f1 a1 w1 F (hF.mono (hS1.le hW)) hS1.wr hA1 hk1) ?_
      rintro e2 a2 w2 ⟨f2, st2, hS2, hA2, hk2⟩
      exact ⟨f2, st2, hS1.trans hS2, hA2, hk2⟩
    | exit id => exact ⟨f1, st1, hS1, hA1, hk1⟩
    | goto l => exact ⟨f1, st1, hS1, hA1, hk1⟩
    | ret => exact ⟨f1, st1, hS1, hA1, hk1⟩
    | panic c => exact ⟨f1, st1, hS1, hA1, hk1⟩
    | outgrown => exact ⟨f1, st1, hS1, hA1, hk1⟩
  | cond c x y =>
    rw [runK] at h
    split at h
    · rename_i hop he
      have hv := hA.ev hW hop
      rw [he] at hv
      exact wpIn_cond_true hv.bool_inv (hrec rd x st k f a w F hF hW hA h)
    · rename_i hop he
      have hv := hA.ev hW hop
      rw [he] at hv
      exact wpIn_cond_false hv.bool_inv (hrec rd y st k f a w F hF hW hA h)
    · cases h
  | block id b =>
    refine wpIn_block (wpIn_mono (hrec rd b st _ f a w F hF hW hA h) ?_)
    rintro e a1 w1 ⟨f1, st1, hS1, hA1, hk1⟩
    cases e with
    | exit i =>
      unfold Exit.inBlock
      dsimp only at hk1 ⊢
      split at hk1
      · rename_i hi
        rw [if_pos (beq_t hi)]
        exact ⟨f1, st1, hS1, hA1, hk1⟩
      · rename_i hi
        rw [if_neg (beq_f hi)]
        exact ⟨f1, st1, hS1, hA1, hk1⟩
    | normal => exact ⟨f1, st1, hS1, hA1, hk1⟩
    | goto l => exact ⟨f1, st1, hS1, hA1, hk1⟩
    | ret => exact ⟨f1, st1, hS1, hA1, hk1⟩
    | panic c => exact ⟨f1, st1, hS1, hA1, hk1⟩
    | outgrown => exact ⟨f1, st1, hS1, hA1, hk1⟩
  | loop b =>
    let p : Act → World → Nat → Prop := fun a' w' m => m ≤ n + 1 ∧ ∃ f' st', Step base gm f st.A w f' st'.A w' ∧ AcR f' st'.a a' ∧ runK P gm orc m rd (.loop b) st' k = true
    refine wpIn_loop (fun a' w' => ∃ m, p a' w' m) (fun a' w' => leastOf (p a' w')) ⟨n + 1, Nat.le_refl _, f, st, Step.refl hW, hA, h⟩ ?_
    rintro a1 w1 ⟨m, hm⟩
    obtain ⟨⟨hle, f1, st1, hS1, hA1, hk1⟩, _⟩ := leastOf_spec hm
    generalize leastOf (p a1 w1) = μ at hle hk1
    cases μ with
    | zero => cases hk1
    | succ μ =>
      refine wpIn_mono (ih μ (by omega) rd b st1 _ f1 a1 w1 F (hF.mono (hS1.le hW)) hS1.wr hA1 hk1) ?_
      rintro e a2 w2 ⟨f2, st2, hS2, hA2, hk2⟩
      have hS := hS1.trans hS2
      cases e with
      | normal =>
        have hp : p a2 w2 μ := ⟨by omega, f2, st2, hS, hA2, hk2⟩
        exact ⟨⟨μ, hp⟩, Nat.lt_succ_of_le (leastOf_spec hp).2⟩
      | exit id => exact ⟨f2, st2, hS, hA2, hk2⟩
      | goto l => exact ⟨f2, st2, hS, hA2, hk2⟩
      | ret => exact ⟨f2, st2, hS, hA2, hk2⟩
      | panic c => exact ⟨f2, st2, hS, hA2, hk2⟩
      | outgrown => exact ⟨f2, st2, hS, hA2, hk2⟩
  | scope b =>
    refine wpIn_scope (wpIn_mono (hrec rd b st _ f a w F hF hW hA h) ?_)
    rintro e a1 w1 ⟨f1, st1, hS1, hA1, hk1⟩
    cases e with
    | goto l => cases hk1
    | normal => exact ⟨f1, st1, hS1, hA1, hk1⟩
    | exit id => exact ⟨f1, st1, hS1, hA1, hk1⟩
    | ret => exact ⟨f1, st1, hS1, hA1, hk1⟩
    | panic c => exact ⟨f1, st1, hS1, hA1, hk1⟩
    | outgrown => exact ⟨f1, st1, hS1, hA1, hk1⟩
  | rangeFunc g ps asn b => exact rangeK_ok hrec horc hnum hF hW hA h
end
end
end Go.Proofs.YtlfinaeklaimjaaGreatDoor.Am
namespace Go.Proofs.YtlfinaeklaimjaaGreatDoor
noncomputable section
section
open Go.RowKit
theorem nat_not (k a : Nat) (h : a < 2 ^ k) : (2 ^ k - 1) ^^^ a = 2 ^ k - 1 - a := by
  apply Nat.eq_of_testBit_eq
  intro i
  rw [Nat.testBit_xor, Nat.testBit_two_pow_sub_one, show 2 ^ k - 1 - a = 2 ^ k - (a + 1) by omega, Nat.testBit_two_pow_sub_succ h]
  by_cases hi : i < k
  · simp [hi]
  · have : a.testBit i = false := Nat.testBit_lt_two_pow (Nat.lt_of_lt_of_le h (Nat.pow_le_pow_right (by omega) (by omega)))
    simp [hi, this]
theorem bits_not32 (a : Nat) (h : a < 4294967296) : bits .xor .u32 IntKind.u32.max (a : Int) = ((4294967295 - a : Nat) : Int) := by
  rw [show IntKind.u32.max = ((4294967295 : Nat) : Int) from rfl, u32_xor_nat _ _ (by omega) h]
  exact congrArg _ (nat_not 32 a h)
end
section
open Go.RowKit
structure In8 (w : World) (A : Option Addr) (n c : Nat) (l : List UInt8) : Prop where
  len : n = l.length
  bytes : Bs w A l
  cap : n ≤ c
  nil_ : A = none → c = 0
  at_ : ∀ a, A = some a → a.spot = Option.none ∧ a.block < w.heap.size
theorem In8.ext {w w1 : World} {A : Option Addr} {n c : Nat} {l : List UInt8} (h : In8 w A n c l) (hE : Ext w w1) : In8 w1 A n c l :=
  ⟨h.len, h.bytes.ext hE, h.cap, h.nil_, fun a ha => ⟨(h.at_ a ha).1, Nat.lt_of_lt_of_le (h.at_ a ha).2 hE.size⟩⟩
end
section
def cstep (y : Nat) : Nat := if y % 2 = 1 then (y / 2) ^^^ 3988292384 else y / 2
def c8 (y : Nat) : Nat := cstep (cstep (cstep (cstep (cstep (cstep (cstep (cstep y)))))))
def con (x : Nat) (c : UInt8) : Nat := c8 (x ^^^ c.toNat)
def cnot (x : Nat) : Nat := 4294967295 - x
def cnext (s : Nat) (l : List UInt8) : Nat := cnot (l.foldl con (cnot s))
theorem half_xor (a b : Nat) : (a ^^^ b) / 2 = (a / 2) ^^^ (b / 2) := by
  have := Nat.shiftRight_xor_distrib (a := a) (b := b) (i := 1)
  simpa [Nat.shiftRight_eq_div_pow] using this
theorem odd_xor (a b : Nat) : (a ^^^ b) % 2 = (a % 2) ^^^ (b % 2) := by
  have := Nat.xor_mod_two_pow (a := a) (b := b) (n := 1)
  simpa using this
theorem cstep_xor (a b : Nat) : cstep (a ^^^ b) = cstep a ^^^ cstep b := by
  unfold cstep
  rw [half_xor, odd_xor]
  rcases Nat.mod_two_eq_zero_or_one a with ha | ha <;> rcases Nat.mod_two_eq_zero_or_one b with hb | hb <;> rw [ha, hb]
  · rfl
  · show (a / 2 ^^^ b / 2) ^^^ 3988292384 = (a / 2) ^^^ (b / 2 ^^^ 3988292384)
    rw [Nat.xor_assoc]
  · show (a / 2 ^^^ b / 2) ^^^ 3988292384 = (a / 2 ^^^ 3988292384) ^^^ (b / 2)
    rw [Nat.xor_assoc, Nat.xor_assoc, Nat.xor_comm (b / 2)]
  · show (a / 2 ^^^ b / 2) = (a / 2 ^^^ 3988292384) ^^^ (b / 2 ^^^ 3988292384)
    rw [Nat.xor_assoc, ← Nat.xor_assoc 3988292384, Nat.xor_comm 3988292384 (b / 2), Nat.xor_assoc (b / 2), Nat.xor_self, Nat.xor_zero]
theorem c8_xor (a b : Nat) : c8 (a ^^^ b) = c8 a ^^^ c8 b := by
  unfold c8
  simp only [cstep_xor]
theorem cstep_two (z : Nat) : cstep (z * 2) = z := by
  unfold cstep
  rw [if_neg (by omega)]
  omega
theorem c8_high (z : Nat) : c8 (z * 256) = z := by
  unfold c8
  rw [show z * 256 = z * 2 * 2 * 2 * 2 * 2 * 2 * 2 * 2 by omega]
  simp only [cstep_two]
theorem split_low (y : Nat) : y = (y % 256) ^^^ (y / 256 * 256) := by
  have h : y / 256 * 256 ||| y % 256 = y / 256 * 256 + y % 256 := by
    have := Nat.shiftLeft_add_eq_or_of_lt (b := y % 256) (i := 8) (Nat.mod_lt _ (by decide)) (y / 256)
    rw [Nat.shiftLeft_eq] at this
    exact this.symm
  apply Nat.eq_of_testBit_eq
  intro i
  rw [Nat.testBit_xor]
  have h1 : (y % 256).testBit i = (decide (i < 8) && y.testBit i) := Nat.testBit_mod_two_pow y 8 i
  have h2 : (y / 256 * 256).testBit i = (decide (8 ≤ i) && y.testBit i) := by
    have e : y / 256 * 256 = (y >>> 8) <<< 8 := by rw [Nat.shiftRight_eq_div_pow, Nat.shiftLeft_eq]
    rw [e, Nat.testBit_shiftLeft, Nat.testBit_shiftRight]
    by_cases h8 : 8 ≤ i
    · rw [show 8 + (i - 8) = i by omega]
    · simp [h8]
  rw [h1, h2]
  by_cases h8 : i < 8
  · simp [h8, show ¬ 8 ≤ i by omega]
  · simp [h8, show 8 ≤ i by omega]
theorem con_table (x : Nat) (c : UInt8) : con x c = c8 ((x ^^^ c.toNat) % 256) ^^^ (x / 256) := by
  unfold con
  have hc : c.toNat / 256 = 0 := by have := c.toNat_lt; omega
  have h := Nat.shiftRight_xor_distrib (a := x) (b := c.toNat) (i := 8)
  rw [Nat.shiftRight_eq_div_pow, Nat.shiftRight_eq_div_pow, Nat.shiftRight_eq_div_pow] at h
  have h2 : (x ^^^ c.toNat) / 256 = x / 256 := by
    have : (2 : Nat) ^ 8 = 256 := rfl
    rw [this, hc, Nat.xor_zero] at h
    exact h
  conv => lhs; rw [split_low (x ^^^ c.toNat)]
  rw [c8_xor, c8_high, h2]
theorem cstep_lt {y : Nat} (h : y < 4294967296) : cstep y < 4294967296 := by
  unfold cstep
  split
  · exact Nat.xor_lt_two_pow (n := 32) (by omega) (by omega)
  · omega
theorem c8_lt {y : Nat} (h : y < 4294967296) : c8 y < 4294967296 := by
  unfold c8
  exact cstep_lt (cstep_lt (cstep_lt (cstep_lt (cstep_lt (cstep_lt (cstep_lt (cstep_lt h)))))))
theorem con_lt {x : Nat} (c : UInt8) (h : x < 4294967296) : con x c < 4294967296 := by
  unfold con
  have := c.toNat_lt
  exact c8_lt (Nat.xor_lt_two_pow (n := 32) (by omega) (by omega))
end
section
open Go.RowKit
def citer : Nat → Nat → Nat
  | 0, y => y
  | k + 1, y => citer k (cstep y)
theorem citer8 (y : Nat) : c8 y = citer 8 y := rfl
theorem citer_step {z v j : Nat} (h : z = citer (8 - j) v) (hj : j < 8) : z = citer (8 - (j + 1)) (cstep v) := by
  rw [h, show 8 - j = (8 - (j + 1)) + 1 by omega]
  rfl
theorem citer_end {z v j : Nat} (h : z = citer (8 - j) v) (hj : 8 ≤ j) : z = v := by
  rw [h, show 8 - j = 0 by omega]
  rfl
theorem cstep_odd {v : Nat} (h : v % 2 = 1) : cstep v = (v / 2) ^^^ 3988292384 := by unfold cstep; rw [if_pos h]
theorem cstep_even {v : Nat} (h : v % 2 = 0) : cstep v = v / 2 := by unfold cstep; rw [if_neg (by omega)]
theorem xor_poly {d : Nat} (h : d < 4294967296) : bits .xor .u32 (d : Int) 3988292384 = ((d ^^^ 3988292384 : Nat) : Int) := by
  rw [show (3988292384 : Int) = ((3988292384 : Nat) : Int) from rfl, u32_xor_nat _ _ h (by omega)]
end
section
open Go.RowKit
def tabA (i : Nat) : Array Value := ((List.range 256).map fun k => if k < i then Value.int .u32 (c8 k : Nat) else .int .u32 0).toArray
theorem tabA_get {i k : Nat} (hk : k < 256) : (tabA i)[k]? = some (if k < i then Value.int .u32 (c8 k : Nat) else .int .u32 0) := by
  unfold tabA
  simp [hk]
theorem tabA_put {i : Nat} (hi : i < 256) : (tabA i).setIfInBounds i (.int .u32 (c8 i : Nat)) = tabA (i + 1) := by
  apply Array.ext_getElem?
  intro k
  rw [Array.getElem?_setIfInBounds]
  by_cases hk : k < 256
  · rw [tabA_get hk, tabA_get hk]
    have hs : i < (tabA i).size := by unfold tabA; simp; omega
    by_cases hik : i = k
    · subst hik
      rw [if_pos rfl, if_pos hs, if_pos (by omega)]
    · rw [if_neg hik]
      by_cases h1 : k < i
      · rw [if_pos h1, if_pos (by omega)]
      · rw [if_neg h1, if_neg (by omega)]
  · have h1 : (tabA i)[k]? = none := by unfold tabA; simp; omega
    have h2 : (tabA (i + 1))[k]? = none := by unfold tabA; simp; omega
    rw [h1, h2, if_neg (by omega)]
set_option maxRecDepth 100000 in
theorem tabA_zero : Tryz.zeroCells413 = tabA 0 := by kernel_rfl
theorem and_one {v : Nat} (h : v < 4294967296) : bits .and .u32 (v : Int) 1 = ((v % 2 : Nat) : Int) := by
  rw [show (1 : Int) = ((1 : Nat) : Int) from rfl, u32_and_nat _ _ h (by omega), Nat.and_one_is_mod]
set_option maxRecDepth 100000 in
set_option maxHeartbeats 2000000 in
theorem table_any (w : World) : Calls Tryz.prog 263 #[] w fun e w' => e = .returned (.pointer (some ⟨w.heap.size, 0, none⟩)) ∧ Row w' w.heap.size 413 (tabA 256) ∧ Ext w w' := by
  have hz : Row (w.alloc (.cells Tryz.zeroCells413 413)) w.heap.size 413 (tabA 0) := by rw [tabA_zero]; exact Row.new w _ _
  have hE0 : Ext w (w.alloc (.cells Tryz.zeroCells413 413)) := (Ext.refl w).alloc _
  replace hz := hide hz
  replace hE0 := hide hE0
  go_enter Tryz.func263, Tryz.ntmps263
  go_wp2_with fail
  go_loopw [2, 3, 4, 5] (fun _ _ _ s5 wr => ∃ (i : Nat), s5 = .int .i64 i ∧ i ≤ 256 ∧ Hid (Row wr w.heap.size 413 (tabA i)) ∧ Hid (Ext w wr)) (fun _ _ _ s5 _ => 256 - (intOf s5).toNat)
  case atStart => exact ⟨0, rfl, by omega, hz, hE0⟩
  case round =>
    obtain ⟨i, rfl, hi, hr, hE⟩ := hrel
    by_cases hin : i < 256
    · obtain ⟨z, hz8⟩ : ∃ z, z = c8 i := ⟨_, rfl⟩
      have hz9 := hide hz8
      rw [citer8] at hz8
      replace hz8 := hide hz8
      obtain ⟨wo, rfl⟩ : ∃ wo : World, wo = wr := ⟨_, rfl⟩
      go_wp2_with fail
      go_loop [3, 4, 10] (fun s3 _ s10 => ∃ (j v : Nat), s10 = .int .i64 j ∧ j ≤ 8 ∧ s3 = .int .u32 v ∧ v < 4294967296 ∧ Hid (z = citer (8 - j) v)) (fun _ _ s10 => 8 - (intOf s10).toNat)
      case atStart => exact ⟨0, i, rfl, by omega, by go_num, by omega, hz8⟩
      case round =>
        obtain ⟨j, v, rfl, hj, rfl, hv, hzv⟩ := hrel
        by_cases hj8 : j < 8
        · have hn := citer_step hzv.out hj8
          have hcl := cstep_lt hv
          have hand := and_one hv
          obtain ⟨q, hq⟩ : ∃ q, q = v % 2 := ⟨_, rfl⟩
          obtain ⟨d, hd⟩ : ∃ d, d = v / 2 := ⟨_, rfl⟩
          have hdv : (v : Int) / 2 = (d : Int) := by omega
          have hd32 : d < 4294967296 := by omega
          have hxp := xor_poly hd32
          rw [← hq] at hand
          rcases (show q = 0 ∨ q = 1 by omega) with rfl | rfl
          · rw [cstep_even hq.symm, ← hd] at hn
            replace hn := hide hn
            clear hq hd hzv hcl
            go_wp2_with fail
            go_round
            case rel => exact ⟨j + 1, d, by go_num, by omega, rfl, hd32, hn⟩
            case measure => simp [intOf]; omega
          · rw [cstep_odd hq.symm, ← hd] at hn hcl
            obtain ⟨y, hy⟩ : ∃ y, y = d ^^^ 3988292384 := ⟨_, rfl⟩
            rw [← hy] at hn hcl hxp
            replace hn := hide hn
            clear hq hd hzv hy
            go_wp2_with fail
            go_round
            case rel => exact ⟨j + 1, y, by go_num, by omega, rfl, hcl, hn⟩
            case measure => simp [intOf]; omega
        · have hn := citer_end hzv.out (by omega)
          have hcell := hr.out.cell i (tabA_get hin)
          have hfr := hr.out.free i
          have hlt := hr.out.lt
          rw [if_neg (by omega)] at hcell
          have hp := hr.out.put i (.int .u32 (v : Nat))
          rw [← hn, hz9.out, tabA_put hin] at hp
          have hn' := hide (hz9.out.symm.trans hn)
          replace hp := hide hp
          have hEs := hide (hE.out.setCell (p := ⟨w.heap.size, i, none⟩) (Nat.le_refl _) (.int .u32 ((c8 i : Nat) : Int)))
          clear hzv hn
          go_wp2_with fail
          go_roundw
          case rel => exact ⟨i + 1, by go_num, by omega, by rw [← hn'.out]; exact hp, by rw [← hn'.out]; exact hEs⟩
          case measure => simp [intOf]; omega
    · obtain rfl : i = 256 := by omega
      go_wp2_with fail
      go_ret
      exact ⟨rfl, hr.out, hE.out⟩
end
section
open Go.RowKit
theorem con_parts (v : Nat) (c : UInt8) : con v c = c8 ((v % 256) ^^^ c.toNat) ^^^ (v / 256) := by
  rw [con_table]
  congr 2
  have h := Nat.xor_mod_two_pow (a := v) (b := c.toNat) (n := 8)
  have hc := c.toNat_lt
  rw [show (2 : Nat) ^ 8 = 256 from rfl, Nat.mod_eq_of_lt (a := c.toNat) (by omega)] at h
  exact h
set_option maxRecDepth 100000 in
set_option maxHeartbeats 1000000 in
theorem next_any (A : Option Addr) (s n c : Nat) (l : List UInt8) (w0 w : World) (hb : In8 w0 A n c l) (hw : Ext w0 w) (hs : s < 4294967296) (hle : n ≤ 1000000000) :
    Calls Tryz.prog 203 #[.int .u32 s, .slice A n c] w fun e w' => e = .returned (.int .u32 (cnext s l : Nat)) ∧ Ext w w' := by
  have htab := hide (table_any w)
  have hnot := bits_not32 s hs
  have hcl : cnot s < 4294967296 := by unfold cnot; omega
  rw [show 4294967295 - s = cnot s from rfl] at hnot
  obtain ⟨y, hy⟩ : ∃ y, y = cnot s := ⟨_, rfl⟩
  rw [← hy] at hnot hcl
  have hr : cnext s l = 4294967295 - l.foldl con y := by unfold cnext; rw [← hy]; rfl
  replace hr := hide hr
  clear hy
  replace hb := hide hb
  go_enter Tryz.func203, Tryz.ntmps203
  go_wp2_with fail
  refine htab.out.mono ?_
  rintro e w1 ⟨rfl, hrow, hE1⟩
  replace hrow := hide hrow
  replace hE1 := hide hE1
  go_wp2_with fail
  go_loop [6, 8, 14] (fun s6 _ s14 => ∃ (i v : Nat), s14 = .int .i64 i ∧ i ≤ n ∧ s6 = .int .u32 v ∧ v < 4294967296 ∧ Hid (l.foldl con y = (l.drop i).foldl con v)) (fun _ _ s14 => n - (intOf s14).toNat)
  case atStart => exact ⟨0, y, rfl, by omega, rfl, hcl, rfl⟩
  case round =>
    obtain ⟨i, v, rfl, hi, rfl, hv, hf⟩ := hrel
    by_cases hin : i < n
    · have hil : i < l.length := by rw [← hb.out.len]; omega
      obtain ⟨g, o, rfl, hc⟩ := hb.out.bytes.at_ (by omega)
      have hcell := (hw.trans hE1.out).cell (hc i hil)
      have hn : l.foldl con y = (l.drop (i + 1)).foldl con (con v l[i]) := by rw [hf.out, List.drop_eq_getElem_cons hil]; rfl
      have hcl2 := con_lt l[i] hv
      have hcp := con_parts v l[i]
      obtain ⟨x, hx⟩ : ∃ x, x = l[i].toNat := ⟨_, rfl⟩
      have hx8 : x < 256 := by rw [hx]; exact l[i].toNat_lt
      rw [← hx] at hcell hcp
      obtain ⟨z, hz⟩ : ∃ z, z = con v l[i] := ⟨_, rfl⟩
      rw [← hz] at hn hcl2 hcp
      obtain ⟨m, hm⟩ : ∃ m, m = v % 256 := ⟨_, rfl⟩
      have hmv : (v : Int) % 256 = (m : Int) := by omega
      have hm8 : m < 256 := by omega
      have hx2 := u8_xor_nat m x hm8 hx8
      rw [← hm] at hcp
      have hk8 : m ^^^ x < 256 := Nat.xor_lt_two_pow (n := 8) hm8 hx8
      obtain ⟨k, hk⟩ : ∃ k, k = m ^^^ x := ⟨_, rfl⟩
      rw [← hk] at hcp hx2 hk8
      have htc := hrow.out.cell k (tabA_get hk8)
      rw [if_pos hk8] at htc
      obtain ⟨t, ht⟩ : ∃ t, t = c8 k := ⟨_, rfl⟩
      have ht32 : t < 4294967296 := by rw [ht]; exact c8_lt (by omega)
      rw [← ht] at htc hcp
      obtain ⟨d, hd⟩ : ∃ d, d = v / 256 := ⟨_, rfl⟩
      have hdv : (v : Int) / 256 = (d : Int) := by omega
      have hx3 := u32_xor_nat t d ht32 (by omega)
      rw [← hd] at hcp
      rw [← hcp] at hx3
      replace hn := hide hn
      clear hc hf hx hz hm hk ht hd hcp
      go_wp2_with fail
      go_round
      case rel => exact ⟨i + 1, z, by go_num, by omega, rfl, hcl2, hn⟩
      case measure => simp [intOf]; omega
    · have hf2 : l.foldl con y = v := by rw [hf.out, List.drop_of_length_le (by rw [← hb.out.len]; omega)]; rfl
      have hnv := bits_not32 v hv
      replace hf2 := hide hf2
      clear hf
      go_wp2_with fail
      go_ret
      exact ⟨ret_int (by rw [hr.out, hf2.out]), hE1.out⟩
end
end
end Go.Proofs.YtlfinaeklaimjaaGreatDoor
namespace Go.Proofs.YtlfinaeklaimjaaGreatDoor.Am
noncomputable section
open Go.Proofs.YtlfinaeklaimjaaGreatDoor Go.RowKit
def u8c : List Value → Option (List UInt8)
  | [] => some []
  | .int .u8 (.ofNat n) :: l => match Nat.blt n 256, u8c l with
    | true, some r => some (UInt8.ofNat n :: r)
    | _, _ => none
  | _ => none
theorem u8c_ok : ∀ (vs : List Value) (l : List UInt8), u8c vs = some l → vs = l.map B8
  | [], l, h => by cases h; rfl
  | v :: vs, l, h => by
    unfold u8c at h
    split at h
    · rename_i e
      cases e
    · rename_i n vs' e
      cases e
      split at h
      · rename_i r hn hr
        cases h
        rw [u8c_ok vs r hr, List.map_cons]
        have hn := blt_lt hn
        have : (UInt8.ofNat n).toNat = n := by simp; omega
        unfold B8
        rw [this]
        rfl
      · cases h
    · cases h
section
variable {base gm : Nat} {f : Ren} {A : AS} {w : World}
theorem cellsN_cell {h : HT AObj} {a : Addr} {n : Nat} {vs : List Value} (hc : cellsN h a n = some vs) : vs.length = n ∧ ∀ j v, vs[j]? = some v → cell h a j = some v := by
  unfold cellsN at hc
  split at hc
  · cases hc
  · rename_i hsp
    split at hc
    · rename_i cs t fz so hg
      split at hc
      · rename_i hle
        have hle := Nat.le_of_ble_eq_true hle
        cases hc
        refine ⟨by rw [List.length_take, List.length_drop]; omega, fun j v hj => ?_⟩
        unfold cell
        rw [hsp]
        dsimp only
        rw [hg]
        dsimp only
        rw [List.getElem?_take] at hj
        split at hj
        · rw [List.getElem?_drop] at hj; exact hj
        · cases hj
      · cases hc
    · cases hc
theorem step_ext (hW : WR base gm f A w) {w' : World} (hE : Ext w w') : Step base gm f A w f A w' :=
  ⟨fun _ _ => rfl, Nat.le_refl _, Chg.of_ext hE _, fun _ h => .inr h, hW.widen (.refl f) (fun _ _ _ => rfl) hW.fr hE.size (fun b hb => Below.block hE b hb)⟩
def orcC : Orc := fun g args A => match Nat.beq g 203, args with
  | true, [.int .u32 (.ofNat s), .slice (some a) n c] => match Nat.blt s 4294967296 && Nat.blt 0 n && Nat.ble n c && Nat.ble n 1000000000, cellsN A.h (strip a) n with
    | true, some vs => match u8c vs with
      | some l => some (.int .u32 ((cnext s l : Nat) : Int), A)
      | none => none
    | _, _ => none
  | _, _ => none
theorem orcC_ok : OrcOk Tryz.prog base gm orcC := by
  intro g args args' v A A1 f w h hW ha
  unfold orcC at h
  split at h
  · rename_i s a n c hg
    split at h
    · rename_i vs hck hvs
      split at h
      · rename_i l hl
        cases h
        simp only [Bool.and_eq_true] at hck
        obtain ⟨⟨⟨h1, h2⟩, h3⟩, h4⟩ := hck
        have h1 := blt_lt h1
        have h2 := blt_lt h2
        have h3 := Nat.le_of_ble_eq_true h3
        have h4 := Nat.le_of_ble_eq_true h4
        obtain rfl : g = 203 := beq_t hg
        obtain ⟨hlen, hv⟩ := ha
        match args', hlen, hv with
        | [x, y], _, hv =>
          have hx := hv 0 _ _ rfl rfl
          have hy := hv 1 _ _ rfl rfl
          obtain ⟨a', c', rfl, har, hcc⟩ := hy.slice_inv
          have har := har (by omega)
          cases hx
          obtain ⟨hvl, hvc⟩ := cellsN_cell hvs
          obtain rfl := u8c_ok vs l hl
          rw [List.length_map] at hvl
          have hcell : ∀ i b, l[i]? = some b → w.cell? ⟨a'.block, a'.off + i, none⟩ = some (B8 b) := fun i b hb => by
            obtain ⟨v', e1, e2⟩ := cell_ok hW har (hvc i (B8 b) (by rw [List.getElem?_map, hb]; rfl))
            unfold B8 at e2 ⊢
            cases e2
            exact e1
          have hsp : a'.spot = none := by
            obtain ⟨l0, _, rfl⟩ := har
            rfl
          obtain ⟨p, q, sp⟩ := a'
          obtain rfl : sp = none := hsp
          obtain ⟨b0, hb0⟩ : ∃ b0, l[0]? = some b0 := ⟨_, List.getElem?_eq_getElem (by omega)⟩
          have hin : In8 w (some ⟨p, q, none⟩) n c' l := by
            refine ⟨hvl.symm, .inr ⟨p, q, rfl, fun i v hi => ?_⟩, by omega, fun e => (by cases e), fun a e => ?_⟩
            · rw [List.getElem?_map] at hi
              obtain ⟨b, hb, rfl⟩ := Option.map_eq_some_iff.1 hi
              exact hcell i b hb
            · cases e
              exact ⟨rfl, World.block_lt_of_cell? w ⟨p, q + 0, none⟩ (hcell 0 b0 hb0)⟩
          refine ⟨⟨_, _, Tryz.func203, rfl⟩, callsIn_wide.2 ((next_any (some ⟨p, q, none⟩) s n c' l w w hin (Ext.refl w) h1 h4).mono fun e w' ⟨he, hE⟩ => ?_)⟩
          exact ⟨f, _, he, step_ext hW hE, .int _ _⟩
      · cases h
    · cases h
  · cases h
def orcOr (x y : Orc) : Orc := fun g args A => match x g args A with
  | some r => some r
  | none => y g args A
theorem orcOr_ok {P : Program} {x y : Orc} (hx : OrcOk P base gm x) (hy : OrcOk P base gm y) : OrcOk P base gm (orcOr x y) := by
  intro g args args' v A A1 f w h hW ha
  unfold orcOr at h
  split at h
  · rename_i r hr
    cases h
    exact hx g args args' v A A1 f w hr hW ha
  · exact hy g args args' v A A1 f w h hW ha
end
end
end Go.Proofs.YtlfinaeklaimjaaGreatDoor.Am
namespace Go.Proofs.YtlfinaeklaimjaaGreatDoor
noncomputable section
end
end Go.Proofs.YtlfinaeklaimjaaGreatDoor
namespace Go.Proofs.YtlfinaeklaimjaaGreatDoor.Am
noncomputable section
open Go.Proofs.YtlfinaeklaimjaaGreatDoor Go.RowKit
theorem noNum : ∀ (g : Nat) fn, Tryz.prog.funcs[g]? = some fn → fn.name ≠ "runtime.NumGoroutine" := by
  have h : Tryz.prog.funcs.toList.all (fun f => decide (f.name ≠ "runtime.NumGoroutine")) = true := by kernel_rfl
  intro g fn hf
  have := List.all_eq_true.1 h fn (List.mem_of_getElem? (i := g) (by rw [Array.getElem?_toList]; exact hf))
  exact of_decide_eq_true this
abbrev bK : Value → AS → Bool := fun v _ => match v with
  | .bool b => b
  | _ => false
section
variable {P : Program} {orc : Orc} {base gm : Nat} {f : Ren} {w : World}
theorem startA_ok (hmix : P.follows .mixedOrders = true) (hgb : gm ≤ base) (horc : OrcOk P base gm orc) (hnum : ∀ (g : Nat) fn, P.funcs[g]? = some fn → fn.name ≠ "runtime.NumGoroutine") {n : Nat} {g : FuncId} {h : HT AObj} {nx : Nat}
    (hW : WR base gm f ⟨h, nx⟩ w) (hb : w.heap.size ≤ base) {args args' : List Value} (ha : LR f args args') (hs : callK P gm orc (runK P gm orc n) g args ⟨h, nx⟩ bK = true) : CallsIn Fence.wide 0 P g args'.toArray w fun e w' => e = .returned (.bool true) ∧ Ext w w' := by
  obtain ⟨_, h2⟩ := callK_ok (runK_ok hmix hgb horc hnum n) horc hnum hW ha hs
  refine h2.mono fun e w' ⟨f', v, v', A', he, hS, hv, hk⟩ => ?_
  subst he
  refine ⟨?_, hS.ext hW (Ext.refl w) hb⟩
  cases v with
  | bool t =>
    have hk : t = true := hk
    subst hk
    rw [hv.bool_inv]
  | _ => cases hk
end
theorem startV_ok {P : Program} {orc : Orc} {base gm : Nat} {f : Ren} {w : World} (hmix : P.follows .mixedOrders = true) (hgb : gm ≤ base) (horc : OrcOk P base gm orc) (hnum : ∀ (g : Nat) fn, P.funcs[g]? = some fn → fn.name ≠ "runtime.NumGoroutine") {n : Nat} {g : FuncId} {h : HT AObj} {nx : Nat}
    (hW : WR base gm f ⟨h, nx⟩ w) {w0 : World} (hE : Ext w0 w) (hb : w0.heap.size ≤ base) {args args' : List Value} (ha : LR f args args') {V : Value} (hV : noA 60 V = true) (hs : callK P gm orc (runK P gm orc n) g args ⟨h, nx⟩ (fun v _ => veq 60 v V) = true) :
    CallsIn Fence.wide 0 P g args'.toArray w fun e w' => e = .returned V ∧ Ext w0 w' := by
  obtain ⟨_, h2⟩ := callK_ok (runK_ok hmix hgb horc hnum n) horc hnum hW ha hs
  refine h2.mono fun e w' ⟨f', v, v', A', he, hS, hv, hk⟩ => ?_
  subst he
  obtain rfl := veq_ok 60 v V hk
  exact ⟨by rw [noA_eq 60 v v' hV hv], hS.ext hW hE hb⟩
end
end Go.Proofs.YtlfinaeklaimjaaGreatDoor.Am
namespace Go.Proofs.YtlfinaeklaimjaaGreatDoor
noncomputable section
end
end Go.Proofs.YtlfinaeklaimjaaGreatDoor
namespace Go.Proofs.YtlfinaeklaimjaaGreatDoor.Am
noncomputable section
open Go.Proofs.YtlfinaeklaimjaaGreatDoor Go.RowKit
def idxO : List UInt8 → UInt8 → Nat → Option Nat
  | [], _, _ => none
  | b :: l, c, i => match Nat.beq b.toNat c.toNat with
    | true => some i
    | false => idxO l c (i + 1)
def idxI (x : Option Nat) (i : Nat) : Int :=
  match x with
  | none => -1
  | some n => ((n - i : Nat) : Int)
theorem idxO_ge : ∀ (l : List UInt8) (c : UInt8) (i n : Nat), idxO l c i = some n → i ≤ n
  | [], _, _, _, h => by cases h
  | b :: l, c, i, n, h => by
    rw [idxO] at h
    split at h
    · cases h; exact Nat.le_refl _
    · exact Nat.le_of_succ_le (idxO_ge l c (i + 1) n h)
theorem idxO_eq : ∀ (l : List UInt8) (c : UInt8) (i : Nat), Lib.indexByte l c = idxI (idxO l c i) i
  | [], _, _ => rfl
  | b :: l, c, i => by
    have ih := idxO_eq l c (i + 1)
    rw [Lib.indexByte, idxO]
    cases hb : Nat.beq b.toNat c.toNat with
    | true =>
      have hbc : b = c := UInt8.toNat_inj.1 (beq_t hb)
      rw [hbc, if_pos (by simp)]
      simp [idxI]
    | false =>
      have hbc : b ≠ c := fun e => beq_f hb (by rw [e])
      rw [if_neg (by simpa using hbc), ih]
      cases hi : idxO l c (i + 1) with
      | none => simp [idxI]
      | some n =>
        have := idxO_ge l c (i + 1) n hi
        have e : (idxI (some n) (i + 1) == -1) = false := by simp [idxI]
        rw [e]
        simp only [idxI, Bool.false_eq_true, if_false]
        omega
def orcI : Orc := fun g args A => match Nat.beq g 173, args with
  | true, [.string s, .int .u8 c] => some (.int .i64 (idxI (idxO s.data.toList c.toNat.toUInt8 0) 0), A)
  | _, _ => none
theorem orcI_ok {base gm : Nat} : OrcOk Tryz.prog base gm orcI := by
  intro g args args' v A A1 f w h hW ha
  unfold orcI at h
  split at h
  · rename_i s c hg
    cases h
    obtain rfl : g = 173 := beq_t hg
    obtain ⟨hl, hv⟩ := ha
    match args', hl, hv with
    | [x, y], _, hv =>
      have hx := hv 0 _ _ rfl rfl
      have hy := hv 1 _ _ rfl rfl
      cases hx
      cases hy
      refine ⟨⟨_, _, Tryz.func173, rfl⟩, callsIn_wide.2 ((Tryz.strings_IndexByte s c w).mono fun e w' ⟨he, hw⟩ => ?_)⟩
      subst hw
      refine ⟨f, _, ?_, Step.refl hW, .int _ _⟩
      rw [he, idxO_eq _ _ 0]
  · cases h
end
end Go.Proofs.YtlfinaeklaimjaaGreatDoor.Am
namespace Go.Proofs.YtlfinaeklaimjaaGreatDoor
noncomputable section
end
end Go.Proofs.YtlfinaeklaimjaaGreatDoor
namespace Go.Proofs.YtlfinaeklaimjaaGreatDoor.Am
noncomputable section
open Go.Proofs.YtlfinaeklaimjaaGreatDoor Go.RowKit
def ltB : List UInt8 → List UInt8 → Int
  | [], [] => 0
  | [], _ :: _ => -1
  | _ :: _, [] => 1
  | a :: x, b :: y => match Nat.blt a.toNat b.toNat with
    | true => -1
    | false => match Nat.blt b.toNat a.toNat with
      | true => 1
      | false => ltB x y
theorem ltB_eq : ∀ a b : List UInt8, Lib.compareBytes a b = ltB a b
  | [], [] => rfl
  | [], _ :: _ => rfl
  | _ :: _, [] => rfl
  | a :: x, b :: y => by
    have ih := ltB_eq x y
    rw [Lib.compareBytes, ltB]
    have e1 : (a < b) ↔ a.toNat < b.toNat := UInt8.lt_iff_toNat_lt
    have e2 : (b < a) ↔ b.toNat < a.toNat := UInt8.lt_iff_toNat_lt
    cases h1 : Nat.blt a.toNat b.toNat with
    | true => rw [if_pos (e1.2 (blt_lt h1))]
    | false =>
      have n1 : ¬ a.toNat < b.toNat := fun h => by rw [show Nat.blt a.toNat b.toNat = true from Nat.ble_eq_true_of_le h] at h1; cases h1
      rw [if_neg (fun h => n1 (e1.1 h))]
      cases h2 : Nat.blt b.toNat a.toNat with
      | true => rw [if_pos (e2.2 (blt_lt h2))]
      | false =>
        have n2 : ¬ b.toNat < a.toNat := fun h => by rw [show Nat.blt b.toNat a.toNat = true from Nat.ble_eq_true_of_le h] at h2; cases h2
        rw [if_neg (fun h => n2 (e2.1 h)), ih]
def cmpO : Orc := fun g args A => match Nat.beq g 144, args with
  | true, [.string s, .string t] => some (.int .i64 (ltB s.data.toList t.data.toList), A)
  | _, _ => none
theorem cmpO_ok {base gm : Nat} : OrcOk Tryz.prog base gm cmpO := by
  intro g args args' v A A1 f w h hW ha
  unfold cmpO at h
  split at h
  · rename_i s t hg
    cases h
    obtain rfl : g = 144 := beq_t hg
    obtain ⟨hl, hv⟩ := ha
    match args', hl, hv with
    | [x, y], _, hv =>
      have hx := hv 0 _ _ rfl rfl
      have hy := hv 1 _ _ rfl rfl
      cases hx
      cases hy
      refine ⟨⟨_, _, Tryz.func144, rfl⟩, callsIn_wide.2 ((Tryz.strings_Compare s t w).mono fun e w' ⟨he, hw⟩ => ?_)⟩
      subst hw
      refine ⟨f, _, ?_, Step.refl hW, .int _ _⟩
      rw [he, ltB_eq]
  · cases h
theorem infoB : ∃ j, Tryz.prog.info? 329 = some j ∧ j.size ≠ 0 := by
  have h : (Tryz.prog.info? 329).map (fun j => Nat.blt 0 j.size) = some true := by kernel_rfl
  obtain ⟨j, hj, h2⟩ := Option.map_eq_some_iff.1 h
  exact ⟨j, hj, by have := blt_lt h2; omega⟩
set_option maxRecDepth 100000 in
theorem ccheck_used (g o : Nat) (w : World) (h0 : w.cell? ⟨g, o, none⟩ = some (.pointer (some ⟨g, o, none⟩))) :
    Calls Tryz.prog 309 #[.pointer (some ⟨g, o, none⟩)] w fun e w' => e = .returned (.tuple #[]) ∧ w' = w := by
  obtain ⟨j, hj, hjs⟩ := infoB
  go_enter Tryz.func309, Tryz.ntmps309
  go_wp2_with fail
  rw [Lib.run_neq_ptr_same w _ Tryz.underlying327 hj]
  go_wp2_with fail
  go_end0
  exact ⟨rfl, rfl⟩
set_option maxRecDepth 100000 in
theorem ccheck_fresh (g o T n : Nat) (w : World) (h0 : w.cell? ⟨g, o, none⟩ = some (.pointer none)) (hsh : w.shape? g = some (T, n)) (ho : o < n) (hfz : w.frozen? ⟨g, o, none⟩ = false)
    (hl : liesAt Tryz.prog Tryz.prog.depth T (n / Tryz.prog.cellsOf T) o 329 1 = true) :
    Calls Tryz.prog 309 #[.pointer (some ⟨g, o, none⟩)] w fun e w' => e = .returned (.tuple #[]) ∧ w' = w.setCell ⟨g, o, none⟩ (.pointer (some ⟨g, o, none⟩)) := by
  obtain ⟨j, hj, hjs⟩ := infoB
  go_enter Tryz.func309, Tryz.ntmps309
  go_wp2_with fail
  rw [Lib.run_to_unsafe w ⟨g, o, none⟩ Tryz.underlying327 Tryz.underlying441 hj hjs hsh ho]
  simp only [Result.andThen]
  rw [Oper.upon_value]
  go_wp2_with fail
  rw [run_callFunc_extern Tryz.func350 (by kernel_rfl) (by kernel_rfl) (by kernel_rfl) (e := Extern.AbiNoEscape.same) (by kernel_rfl)]
  rw [Lib.run_noEscape]
  simp only [Result.andThen]
  rw [Oper.upon_value]
  go_wp2_with fail
  rw [Lib.run_from_unsafe w ⟨g, o, none⟩ Tryz.underlying441 Tryz.underlying327 hj hsh hl]
  simp only [Result.andThen]
  rw [Oper.upon_value]
  go_wp2_with fail
  go_end0
  exact ⟨rfl, rfl⟩
noncomputable def ccO (gm : Nat) : Orc := fun g args A => match Nat.beq g 309, args with
  | true, [.pointer (some ⟨k, o, none⟩)] => match A.h.get k, Nat.ble gm k with
    | some (.cells cs t (0, 0) 0), true => match cs[o]? with
      | some (.pointer none) => match liesAt Tryz.prog Tryz.prog.depth t (cs.length / Tryz.prog.cellsOf t) o 329 1 with
        | true => some (.tuple #[], put A k (some (.cells (cs.set o (.pointer (some ⟨k, o, none⟩))) t (0, 0) 0)))
        | false => none
      | some (.pointer (some b)) => match adEq b ⟨k, o, none⟩ with
        | true => some (.tuple #[], A)
        | false => none
      | _ => none
    | _, _ => none
  | _, _ => none
theorem ccO_ok {base gm : Nat} : OrcOk Tryz.prog base gm (ccO gm) := by
  intro g args args' v A A1 f w h hW ha
  unfold ccO at h
  split at h
  · rename_i k o hg
    obtain rfl : g = 309 := beq_t hg
    have hbody : ∃ fn c, Tryz.prog.funcs[309]? = some fn ∧ fn.body = some c := ⟨_, _, Tryz.func309, rfl⟩
    split at h
    · rename_i cs t hk hgm
      have hgm := Nat.le_of_ble_eq_true hgm
      obtain ⟨hl, hv⟩ := ha
      match args', hl, hv with
      | [x], _, hv =>
        have hx := hv 0 _ _ rfl rfl
        obtain ⟨a', rfl, l, hfl, rfl⟩ := hx.ptr_inv
        obtain ⟨l2, hf2, hob⟩ := hW.ob _ _ hk
        have hfl : f k = some l := hfl
        rw [hfl] at hf2
        cases hf2
        cases hob with
        | obj hw ho => cases ho
        | soft hw hs => omega
        | @hard _ cs' _ _ b hw hL =>
          have hcell : ∀ i, w.cell? ⟨b, i, none⟩ = cs'[i]? := fun i => by simp [World.cell?, hw]
          split at h
          · rename_i hc
            obtain ⟨v', e1, e2⟩ := hL.get hc
            have e1 : cs'[o]? = some v' := by simpa using e1
            cases e2
            split at h
            · rename_i hlies
              cases h
              have hlen : cs.length = cs'.size := by simpa using hL.1
              have hoo : o < cs'.size := (Array.getElem?_eq_some_iff.1 e1).1
              refine ⟨hbody, callsIn_wide.2 ((ccheck_fresh b o t cs'.size w (by rw [hcell]; exact e1) (by simp [World.shape?, hw]) hoo (by simp [World.frozen?, hw]) (by rw [← hlen]; exact hlies)).mono fun e w' ⟨he, hw'⟩ => ?_)⟩
              subst hw'
              refine ⟨f, _, he, ?_, .tuple rfl fun _ _ _ h => by simp at h⟩
              have hset : (w.setCell ⟨b, o, none⟩ (.pointer (some ⟨b, o, none⟩))).heap = w.heap.setIfInBounds b (.cells (cs'.setIfInBounds o (.pointer (some ⟨b, o, none⟩))) t (0, 0)) := by
                have hb := (Array.getElem?_eq_some_iff.1 hw).1
                apply Array.ext_getElem?
                intro i
                by_cases hi : i = b
                · subst hi
                  rw [Array.getElem?_setIfInBounds, if_pos rfl, if_pos hb]
                  exact Row.put (w := w) hw o _
                · rw [Array.getElem?_setIfInBounds, if_neg (fun e => hi e.symm)]
                  exact Below.heap_setCell w ⟨b, o, none⟩ _ i hi
              refine Step.write hW hk hfl hgm hset ⟨rfl, rfl, rfl⟩ ?_
              have hb := (Array.getElem?_eq_some_iff.1 hw).1
              refine .hard (cs' := cs'.setIfInBounds o (.pointer (some ⟨b, o, none⟩))) (by rw [hset, Array.getElem?_setIfInBounds]; simp [hb]) ?_
              rw [Array.toList_setIfInBounds]
              exact hL.set o (.ptr ⟨⟨b, 0, none⟩, hfl, rfl⟩)
            · cases h
          · rename_i b2 hc
            split at h
            · rename_i had
              cases h
              obtain rfl := adEq_ok had
              obtain ⟨v', e1, e2⟩ := hL.get hc
              have e1 : cs'[o]? = some v' := by simpa using e1
              obtain ⟨a3, rfl, l3, hf3, rfl⟩ := e2.ptr_inv
              have hf3 : f k = some l3 := hf3
              rw [hfl] at hf3
              cases hf3
              refine ⟨hbody, callsIn_wide.2 ((ccheck_used b o w (by rw [hcell]; exact e1)).mono fun e w' ⟨he, hw'⟩ => ?_)⟩
              subst hw'
              exact ⟨f, _, he, Step.refl hW, .tuple rfl fun _ _ _ h => by simp at h⟩
            · cases h
          · cases h
    · cases h
  · cases h
end
end Go.Proofs.YtlfinaeklaimjaaGreatDoor.Am
namespace Go.Proofs.YtlfinaeklaimjaaGreatDoor
noncomputable section
section
open Go.RowKit Go.Maps
open Go
structure MapL (P : Program) (k : TypeId) (w : World) (m : Nat) (L : List (Value × Value)) : Prop where
  ex : ∃ es clock, w.heap[m]? = some (.map es clock) ∧ es.toList.map (fun e => (e.key, e.val)) = L ∧ es.toList.Pairwise (fun a b => a.born ≠ b.born) ∧ ∀ e ∈ es.toList, e.born < clock
  keys : ∀ p ∈ L, ∃ l, keyOf P k p.1 = some l
  nodup : (L.map Prod.fst).Nodup
section
variable {P : Program} {k : TypeId} {w w1 : World} {m : Nat} {L : List (Value × Value)}
theorem MapL.keep (h : MapL P k w m L) (hb : w1.heap[m]? = w.heap[m]?) : MapL P k w1 m L := by
  obtain ⟨⟨es, cl, h1, h2⟩, h3, h4⟩ := h
  exact ⟨⟨es, cl, hb.trans h1, h2⟩, h3, h4⟩
theorem MapL.lt (h : MapL P k w m L) : m < w.heap.size := by
  obtain ⟨⟨es, cl, h1, _⟩, _⟩ := h
  exact (Array.getElem?_eq_some_iff.1 h1).1
theorem MapL.ext (h : MapL P k w m L) (he : Ext w w1) : MapL P k w1 m L := h.keep (Below.block he m h.lt)
theorem MapL.grown {row : Option Nat} (h : MapL P k w m L) (hg : w.grownBy w1 row) (hne : row ≠ some m) : MapL P k w1 m L := h.keep (hg.block m h.lt (fun e => hne e.symm))
theorem MapL.drew (h : MapL P k w m L) : MapL P k w.drew m L := h.keep rfl
theorem MapL.alloc (h : MapL P k w m L) (o : Obj) : MapL P k (w.alloc o) m L := h.keep (Below.heap_alloc w o m h.lt)
theorem MapL.find (h : MapL P k w m L) (K : Keyed P k) {x : Value} {l : Lit} (hx : keyOf P k x = some l) {es : Array MapEntry} {cl : Nat} (hb : w.heap[m]? = some (.map es cl)) (W : World) :
    ((Instr.findKey k x es.toList).run P W = .ok none W ∧ ∀ p ∈ L, p.1 ≠ x) ∨
    ∃ j e, (Instr.findKey k x es.toList).run P W = .ok (some (j, e.val)) W ∧ es[j]? = some e ∧ e.key = x ∧ (x, e.val) ∈ L := by
  obtain ⟨⟨es', cl', h1, h2, _⟩, h3, _⟩ := h
  rw [hb] at h1
  cases h1
  have hk : ∀ e ∈ es.toList, ∃ l, keyOf P k e.key = some l := fun e he => h3 (e.key, e.val) (by rw [← h2]; exact List.mem_map.2 ⟨e, he, rfl⟩)
  rcases K.find W hx es.toList hk with ⟨hr, hno⟩ | ⟨j, e, hr, hj, he⟩
  · refine .inl ⟨hr, fun p hp => ?_⟩
    rw [← h2] at hp
    obtain ⟨e, he, rfl⟩ := List.mem_map.1 hp
    exact hno e he
  · refine .inr ⟨j, e, hr, by simpa using hj, he, ?_⟩
    rw [← h2]
    exact List.mem_map.2 ⟨e, List.mem_of_getElem? hj, by rw [he]⟩
structure Put (L : List (Value × Value)) (x v : Value) (L' : List (Value × Value)) : Prop where
  mem : ∀ p, p ∈ L' ↔ p = (x, v) ∨ (p ∈ L ∧ p.1 ≠ x)
  len : (∃ u, (x, u) ∈ L) ∧ L'.length = L.length ∨ (∀ p ∈ L, p.1 ≠ x) ∧ L'.length = L.length + 1
theorem setObj_run {es : Array MapEntry} {cl : Nat} (hb : w.heap[m]? = some (.map es cl)) (o : Obj) : (setObj m o).run P w = .ok () { w with heap := w.heap.setIfInBounds m o } := by
  simp [setObj, Sem.run, hb]
theorem setObj_heap {o : Obj} (hlt : m < w.heap.size) : ({ w with heap := w.heap.setIfInBounds m o } : World).heap[m]? = some o := by
  simp [hlt]
theorem setObj_grown (o : Obj) : w.grownBy { w with heap := w.heap.setIfInBounds m o } (some m) :=
  ⟨rfl, rfl, rfl, by simp, fun i _ hi => by
    have : m ≠ i := fun e => hi (by rw [e])
    simp [Array.getElem?_setIfInBounds_ne this]⟩
theorem mem_modify {es : Array MapEntry} {j : Nat} {e0 : MapEntry} (hj : es[j]? = some e0) (f : MapEntry → MapEntry) (e : MapEntry) :
    e ∈ (es.modify j f).toList ↔ e = f e0 ∨ ∃ i, i ≠ j ∧ es[i]? = some e := by
  have hlt : j < es.size := (Array.getElem?_eq_some_iff.1 hj).1
  constructor
  · intro h
    obtain ⟨i, hi⟩ := List.mem_iff_getElem?.1 h
    rw [Array.getElem?_toList, Array.getElem?_modify] at hi
    split at hi
    · rename_i he
      subst he
      rw [hj] at hi
      exact .inl (Option.some.inj hi).symm
    · rename_i he
      exact .inr ⟨i, fun h => he h.symm, hi⟩
  · rintro (rfl | ⟨i, hi, he⟩)
    · refine List.mem_iff_getElem?.2 ⟨j, ?_⟩
      rw [Array.getElem?_toList, Array.getElem?_modify, if_pos rfl, hj]
      rfl
    · refine List.mem_iff_getElem?.2 ⟨i, ?_⟩
      rw [Array.getElem?_toList, Array.getElem?_modify, if_neg (fun h => hi h.symm)]
      exact he
theorem map_modify {es : Array MapEntry} {j : Nat} {β : Type} (f : MapEntry → MapEntry) (g : MapEntry → β) (hg : ∀ e, es[j]? = some e → g (f e) = g e) : (es.modify j f).toList.map g = es.toList.map g := by
  refine List.ext_getElem? fun i => ?_
  rw [List.getElem?_map, List.getElem?_map, Array.getElem?_toList, Array.getElem?_toList, Array.getElem?_modify]
  split
  · rename_i h
    subst h
    cases he : es[j]? with
    | none => rfl
    | some e => simp [hg e he]
  · rfl
theorem nodup_at {es : Array MapEntry} (hn : (es.toList.map (·.key)).Nodup) {i j : Nat} {a b : MapEntry} (hi : es[i]? = some a) (hj : es[j]? = some b) (hk : a.key = b.key) : i = j := by
  have h1 : (es.toList.map (·.key))[i]? = some a.key := by simp [hi]
  have h2 : (es.toList.map (·.key))[j]? = some b.key := by simp [hj]
  have hlt : i < (es.toList.map (·.key)).length := (List.getElem?_eq_some_iff.1 h1).1
  exact (List.getElem?_inj hlt hn).1 (by rw [h1, h2, hk])
theorem born_at {es : Array MapEntry} (hn : es.toList.Pairwise (fun a b => a.born ≠ b.born)) {i j : Nat} {a b : MapEntry} (hi : es[i]? = some a) (hj : es[j]? = some b) (hk : a.born = b.born) : i = j := by
  have hn' : (es.toList.map (·.born)).Nodup := by rw [List.nodup_iff_pairwise_ne, List.pairwise_map]; exact hn
  have h1 : (es.toList.map (·.born))[i]? = some a.born := by simp [hi]
  have h2 : (es.toList.map (·.born))[j]? = some b.born := by simp [hj]
  have hlt : i < (es.toList.map (·.born)).length := (List.getElem?_eq_some_iff.1 h1).1
  exact (List.getElem?_inj hlt hn').1 (by rw [h1, h2, hk])
theorem MapL.modify (h : MapL P k w m L) {es : Array MapEntry} {cl : Nat} (hb : w.heap[m]? = some (.map es cl)) {j : Nat} {e0 : MapEntry} (hj : es[j]? = some e0) (v : Value) {f : MapEntry → MapEntry}
    (hf1 : (f e0).key = e0.key) (hf2 : (f e0).val = v) (hf3 : (f e0).born = e0.born) (hw : w1.heap[m]? = some (.map (es.modify j f) cl)) : ∃ L', MapL P k w1 m L' ∧ Put L e0.key v L' := by
  obtain ⟨⟨es', cl', h1, h2, h4, h5⟩, h3, h6⟩ := h
  rw [hb] at h1
  cases h1
  have hkeys : (es.toList.map (·.key)).Nodup := by
    rw [← h2, List.map_map] at h6
    exact h6
  refine ⟨(es.modify j f).toList.map (fun e => (e.key, e.val)), ⟨⟨es.modify j f, cl, hw, rfl, ?_, fun e he => ?_⟩, fun p hp => ?_, ?_⟩, fun p => ?_, .inl ⟨⟨e0.val, ?_⟩, ?_⟩⟩
  · have hb' : (es.modify j f).toList.map (·.born) = es.toList.map (·.born) := map_modify f (·.born) (fun e he => by rw [hj] at he; cases he; exact hf3)
    have hn : (es.toList.map (·.born)).Nodup := by rw [List.nodup_iff_pairwise_ne, List.pairwise_map]; exact h4
    rw [← hb', List.nodup_iff_pairwise_ne, List.pairwise_map] at hn
    exact hn
  · rcases (mem_modify hj f e).1 he with rfl | ⟨i, _, hi⟩
    · rw [hf3]; exact h5 e0 (by simpa using Array.mem_of_getElem? hj)
    · exact h5 e (by simpa using Array.mem_of_getElem? hi)
  · obtain ⟨e, he, rfl⟩ := List.mem_map.1 hp
    rcases (mem_modify hj f e).1 he with rfl | ⟨i, _, hi⟩
    · rw [hf1]; exact h3 (e0.key, e0.val) (by rw [← h2]; exact List.mem_map.2 ⟨e0, by simpa using Array.mem_of_getElem? hj, rfl⟩)
    · exact h3 (e.key, e.val) (by rw [← h2]; exact List.mem_map.2 ⟨e, by simpa using Array.mem_of_getElem? hi, rfl⟩)
  · rw [List.map_map]
    have : (es.modify j f).toList.map (Prod.fst ∘ fun e => (e.key, e.val)) = es.toList.map (·.key) := map_modify f _ (fun e he => by rw [hj] at he; cases he; exact hf1)
    rw [this]
    exact hkeys
  · constructor
    · intro hp
      obtain ⟨e, he, rfl⟩ := List.mem_map.1 hp
      rcases (mem_modify hj f e).1 he with rfl | ⟨i, hi, hie⟩
      · exact .inl (by rw [hf1, hf2])
      · refine .inr ⟨by rw [← h2]; exact List.mem_map.2 ⟨e, by simpa using Array.mem_of_getElem? hie, rfl⟩, fun hk => hi (nodup_at hkeys hie hj hk)⟩
    · rintro (rfl | ⟨hp, hne⟩)
      · exact List.mem_map.2 ⟨f e0, (mem_modify hj f _).2 (.inl rfl), by rw [hf1, hf2]⟩
      · rw [← h2] at hp
        obtain ⟨e, he, rfl⟩ := List.mem_map.1 hp
        obtain ⟨i, hi⟩ := List.mem_iff_getElem?.1 he
        rw [Array.getElem?_toList] at hi
        exact List.mem_map.2 ⟨e, (mem_modify hj f e).2 (.inr ⟨i, fun hij => hne (by subst hij; rw [hj] at hi; cases hi; rfl), hi⟩), rfl⟩
  · rw [← h2]; exact List.mem_map.2 ⟨e0, by simpa using Array.mem_of_getElem? hj, rfl⟩
  · rw [← h2]; simp
theorem MapL.push (h : MapL P k w m L) {es : Array MapEntry} {cl : Nat} (hb : w.heap[m]? = some (.map es cl)) {x v : Value} {l : Lit} (hx : keyOf P k x = some l) (hno : ∀ p ∈ L, p.1 ≠ x)
    (hw : w1.heap[m]? = some (.map (es.push { key := x, val := v, born := cl }) (cl + 1))) : ∃ L', MapL P k w1 m L' ∧ Put L x v L' := by
  obtain ⟨⟨es', cl', h1, h2, h4, h5⟩, h3, h6⟩ := h
  rw [hb] at h1
  cases h1
  refine ⟨L ++ [(x, v)], ⟨⟨_, _, hw, by simp [h2], ?_, fun e he => ?_⟩, fun p hp => ?_, ?_⟩, fun p => ?_, .inr ⟨hno, by simp⟩⟩
  · simp only [Array.toList_push]
    rw [List.pairwise_append]
    exact ⟨h4, List.pairwise_singleton .., fun a ha b hb' => by
      obtain rfl := List.mem_singleton.1 hb'
      have := h5 a ha
      simp only
      omega⟩
  · simp only [Array.toList_push] at he
    rcases List.mem_append.1 he with he | he
    · have := h5 e he; omega
    · obtain rfl := List.mem_singleton.1 he
      simp only
      omega
  · rcases List.mem_append.1 hp with hp | hp
    · exact h3 p hp
    · obtain rfl := List.mem_singleton.1 hp
      exact ⟨l, hx⟩
  · rw [List.map_append, List.nodup_append]
    refine ⟨h6, by simp, fun a ha b hb' => ?_⟩
    simp at hb'
    obtain ⟨p, hp, rfl⟩ := List.mem_map.1 ha
    rw [hb']
    exact hno p hp
  · constructor
    · intro hp
      rcases List.mem_append.1 hp with hp | hp
      · exact .inr ⟨hp, hno p hp⟩
      · exact .inl (List.mem_singleton.1 hp)
    · rintro (rfl | ⟨hp, _⟩)
      · simp
      · exact List.mem_append_left _ hp
theorem MapL.entry (h : MapL P k w m L) (K : Keyed P k) {t E : TypeId} (ht : P.underlying t = some (.map k E)) {x z : Value} {l : Lit} (hx : keyOf P k x = some l) (hz : (zeroValue E).run P w = .ok z w) :
    ∃ w' v n, (Instr.mapEntry t (.map (some m)) x).run P w = .ok (.tuple #[v, .int .i64 n]) w' ∧ ((x, v) ∈ L ∨ (∀ p ∈ L, p.1 ≠ x) ∧ v = z) ∧ w.grownBy w' (some m) ∧ w'.heap.size = w.heap.size ∧ (∃ L1, MapL P k w' m L1) ∧
      ∀ (w2 : World) (u : Value), w2.heap[m]? = w'.heap[m]? →
        ∃ w3 L', (Instr.entryStore t (.map (some m)) (.int .i64 n) u).run P w2 = .ok () w3 ∧ MapL P k w3 m L' ∧ Put L x u L' ∧ w2.grownBy w3 (some m) ∧ w3.heap.size = w2.heap.size := by
  obtain ⟨es, cl, hb, _, hborn, hcl⟩ := h.ex
  have hg : (getObj m).run P w = .ok (.map es cl) w := by simp [getObj, Sem.run, hb]
  have back : ∀ (es2 : Array MapEntry) (cl2 j : Nat) (e0 : MapEntry) (w2 : World) (u : Value), w2.heap[m]? = some (.map es2 cl2) → es2[j]? = some e0 → es2.toList.Pairwise (fun a b => a.born ≠ b.born) →
      (Instr.entryStore t (.map (some m)) (.int .i64 (e0.born : Int)) u).run P w2 = .ok () { w2 with heap := w2.heap.setIfInBounds m (.map (es2.modify j fun e => { e with val := u }) cl2) } := by
    intro es2 cl2 j e0 w2 u hw2 hj2 hn2
    have hg2 : (getObj m).run P w2 = .ok (.map es2 cl2) w2 := by simp [getObj, Sem.run, hw2]
    have hlt2 : j < es2.size := (Array.getElem?_eq_some_iff.1 hj2).1
    have hfi : es2.findIdx? (fun e => (e.born : Int) == (e0.born : Int)) = some j := by
      rw [Array.findIdx?_eq_some_iff_getElem]
      refine ⟨hlt2, ?_, fun i hi => ?_⟩
      · have : es2[j] = e0 := by
          have := Array.getElem?_eq_getElem hlt2
          rw [hj2] at this
          exact (Option.some.inj this).symm
        simp [this]
      · have hne : es2[i].born ≠ e0.born := fun he => by
          have := born_at hn2 (Array.getElem?_eq_getElem (by omega : i < es2.size)) hj2 he
          omega
        simp
        omega
    simp only [Instr.entryStore, Sem.run_bind, hg2, Result.andThen_ok, asInt, asIntOf, Sem.run_pure, hfi, setObj_run hw2]
  rcases h.find K hx hb w with ⟨hr, hno⟩ | ⟨j, e, hr, hj, he, hm⟩
  · let w' : World := { w with heap := w.heap.setIfInBounds m (.map (es.push { key := x, val := z, born := cl }) (cl + 1)) }
    have hw' : w'.heap[m]? = some (.map (es.push { key := x, val := z, born := cl }) (cl + 1)) := setObj_heap h.lt
    obtain ⟨L1, h1, h2⟩ := h.push (w1 := w') hb hx hno hw'
    refine ⟨w', z, (cl : Int), ?_, .inr ⟨hno, rfl⟩, setObj_grown _, by simp [w'], ⟨L1, h1⟩, fun w2 u hw2 => ?_⟩
    · simp only [Instr.mapEntry, Sem.run_bind, run_underlying ht, Result.andThen_ok, hg, K.check w false hx, hr, hz, setObj_run hb, Sem.run_pure, goInt]
      rfl
    · have hj' : (es.push { key := x, val := z, born := cl })[es.size]? = some { key := x, val := z, born := cl } := by simp
      obtain ⟨⟨es1, cl1, hw1, _, hb1, _⟩, _⟩ := id h1
      rw [hw'] at hw1
      cases hw1
      have hr2 := back _ _ _ _ w2 u (hw2.trans hw') hj' hb1
      have hlt2 : m < w2.heap.size := (Array.getElem?_eq_some_iff.1 (hw2.trans hw')).1
      obtain ⟨L2, h3, h4⟩ := (h1.keep hw2).modify (w1 := { w2 with heap := w2.heap.setIfInBounds m (.map ((es.push { key := x, val := z, born := cl }).modify es.size fun e => { e with val := u }) (cl + 1)) }) (hw2.trans hw') hj' u (f := fun e => { e with val := u }) rfl rfl rfl (setObj_heap hlt2)
      refine ⟨_, L2, hr2, h3, ⟨fun p => ?_, ?_⟩, setObj_grown _, by simp⟩
      · rw [h4.mem p]
        constructor
        · rintro (rfl | ⟨hp, hne⟩)
          · exact .inl rfl
          · rcases (h2.mem p).1 hp with rfl | hp
            · exact absurd rfl hne
            · exact .inr hp
        · rintro (rfl | ⟨hp, hne⟩)
          · exact .inl rfl
          · exact .inr ⟨(h2.mem p).2 (.inr ⟨hp, hne⟩), hne⟩
      · refine .inr ⟨hno, ?_⟩
        rcases h2.len with ⟨⟨u', hu'⟩, _⟩ | ⟨_, hl⟩
        · exact absurd rfl (hno _ hu')
        · rcases h4.len with ⟨_, hl'⟩ | ⟨hno', _⟩
          · omega
          · exact absurd rfl (hno' (x, z) ((h2.mem _).2 (.inl rfl)))
  · subst he
    let w' : World := { w with heap := w.heap.setIfInBounds m (.map (es.modify j fun e' => { e' with key := e.key }) cl) }
    have hlt : j < es.size := (Array.getElem?_eq_some_iff.1 hj).1
    have hsame : es.modify j (fun e' => { e' with key := e.key }) = es := by
      apply Array.ext_getElem?
      intro i
      rw [Array.getElem?_modify]
      split
      · rename_i hi
        subst hi
        rw [hj]
        rfl
      · rfl
    have hw' : w'.heap[m]? = some (.map es cl) := by
      have := setObj_heap (w := w) (m := m) (o := .map (es.modify j fun e' => { e' with key := e.key }) cl) h.lt
      rw [hsame] at this
      simpa [w', hsame] using this
    refine ⟨w', e.val, (e.born : Int), ?_, .inl hm, setObj_grown _, by simp [w'], ⟨L, h.keep (hw'.trans hb.symm)⟩, fun w2 u hw2 => ?_⟩
    · simp only [Instr.mapEntry, Sem.run_bind, run_underlying ht, Result.andThen_ok, hg, K.check w false hx, hr, hj, Option.map_some, Option.getD_some, K.stays w hx, setObj_run hb, Sem.run_pure, goInt]
      rfl
    · have hr2 := back es cl j e w2 u (hw2.trans hw') hj hborn
      have hlt2 : m < w2.heap.size := (Array.getElem?_eq_some_iff.1 (hw2.trans hw')).1
      obtain ⟨L2, h3, h4⟩ := (h.keep ((hw2.trans hw').trans hb.symm)).modify (w1 := { w2 with heap := w2.heap.setIfInBounds m (.map (es.modify j fun e => { e with val := u }) cl) }) (hw2.trans hw') hj u (f := fun e => { e with val := u }) rfl rfl rfl (setObj_heap hlt2)
      exact ⟨_, L2, hr2, h3, h4, setObj_grown _, by simp⟩
end
end
end
end Go.Proofs.YtlfinaeklaimjaaGreatDoor
