/- Regions whose order Go leaves open: the law. -/
import Derived.Test.YtpfmjagbjdkdcaaGreatDoorAnA
set_option linter.unusedSimpArgs false
set_option linter.unusedVariables false
namespace Go.Proofs.YtpfmjagbjdkdcaaGreatDoor.Am
open Go.Proofs.YtpfmjagbjdkdcaaGreatDoor Go.RowKit

section
variable {P : Program} {orc : Orc} {rec : Rec} {L : List Oper} {t0 : HT Value} {n : Nat} {ds : List Nat} {base gm : Nat} {f0 : Ren} {A0 : AS} {w0 : World} {S : Nat → Bool} {q : Nat} {f : Ren} {A : AS} {w : World} {V : HT Value} {O : List (Nat × AObj)} {b : Act}
/-- A writing operation is done. -/
theorem Inv.eff (hI : Inv P L t0 n ds base gm f0 A0 w0 S q f A w V O b) (hG : RG L n) (hlen : L.length < 1000) (hgb : gm ≤ base) (hW0 : WR base gm f0 A0 w0) {e : Nat} {o : Oper} (ho : L[e]? = some o) (hq : (effsOf L 0)[q]? = some e)
    (hr : ∀ x ∈ o.after, Region.binds .any x = true → S x.on = true) (hS : S e = false) {f' : Ren} {A' : AS} {w' : World} {u v : Value} (hStep : Step base gm f (insAll (befs L []) (effsOf L 0) A0.nx q O A) w f' A' w') (hv : VR f' u v)
    {V' : HT Value} {O' : List (Nat × AObj)} (hp : fpass P L (befs L []) (effsOf L 0) t0 A0.nx (q + 1) A'.h L 0 (HT.set 64 V e (some u)) O = some (V', O')) {S' : Nat → Bool} (hS' : ∀ j, S' j = (S j || decide (j = e))) :
    Inv P L t0 n ds base gm f0 A0 w0 S' (q + 1) f' A' w' V' O' (b.put o.dst v) := by
  have hel : e < L.length := (List.getElem?_eq_some_iff.1 ho).1
  have hflt : isFlt o = false := by
    obtain ⟨_, y, h1, h2⟩ := (effsOf_mem L 0 e).1 (List.mem_of_getElem? hq)
    rw [Nat.sub_zero, ho] at h1
    cases h1
    exact h2
  obtain ⟨hi1, hi2, hi3⟩ := hI.ins hgb hW0 fun i x hx hq2 => by
    obtain ⟨_, _, _, h4⟩ := fst_spec (bs := befs L []) (i := i) (effsOf L 0) 0
    have hq2 : fst (befs L []) i (effsOf L 0) 0 = q := hq2
    exact hI.ahead hG ho hr (h4 e (by rw [hq2]; exact hq))
  have hle := hStep.le hi1.wr
  have hset : ∀ i, (HT.set 64 V e (some u)).get i = if i = e then some u else V.get i := fun i => HT.get_set 64 V e i _ (Nat.lt_trans (by omega : e + 1 < 1000001) (by decide))
  obtain ⟨hn1, hn2, hn3⟩ := fpass_new hlen L 0 _ _ (fun j => by rw [Nat.zero_add]) (by omega) hp
  have hnx := hI.nx
  have loS : ∀ j, S j = true → lo L j ≤ q := fun j hj => by
    have hoj := List.getElem?_eq_getElem (hI.sub j hj)
    exact hI.lo_le hG hoj (hI.cl j _ hj hoj)
  have gd' : Gd P L t0 A0.nx (q + 1) A'.h V' O' := by
    refine fpass_ok (hp := A.h) hG hlen L 0 _ _ (fun j => by rw [Nat.zero_add]) (by omega) (fun i x _ _ hi => absurd hi (Nat.not_lt_zero i)) (fun i x hx hf _ hl hh => ?_) (fun i x hx => ?_) hI.gd.nd hp
    · have hc := hI.gd.ok i x hx hf (by omega) (by omega)
      refine Cnd.set (ob := none) hG hx hc (by omega) (fun h => ?_) ?_
      · subst h
        rw [ho] at hx
        cases hx
        rw [hflt] at hf
        cases hf
      · cases hb : Nat.testBit (Bi L i) e with
        | false => rfl
        | true =>
          have : q + 1 ≤ lo L i := cnt_ge _ _ _ (by have := (List.getElem?_eq_some_iff.1 hq).1; omega) fun p y hp hy => by
            rcases Nat.lt_or_ge p q with h | h
            · exact hG.trans (hG.chain' h hy hq) hx hb
            · obtain rfl : p = q := by omega
              rw [hq] at hy
              cases hy
              exact hb
          omega
    · obtain ⟨y, h1, h2, h3⟩ := hI.gd.ou i x hx
      exact ⟨y, h1, h2, .inl (by omega)⟩
  have old : ∀ i x, (i, x) ∈ O' → S' i = true → (i, x) ∈ O ∧ S i = true := fun i x hx hs => by
    have hie : i ≠ e := by
      rintro rfl
      obtain ⟨y, h1, h2, _⟩ := gd'.ou i x hx
      rw [ho] at h1
      cases h1
      rw [hflt] at h2
      cases h2
    rw [hS', decide_eq_false hie, Bool.or_false] at hs
    refine ⟨(hn2 _ hx).resolve_right fun h => ?_, hs⟩
    have h : lo L i = q + 1 := h
    have := loS i hs
    omega
  have hren : ∀ i, i < L.length → f' (A0.nx + i) = f (A0.nx + i) := fun i hi => hStep.ren _ (by rw [hi2]; omega)
  have hlt : ∀ i x, (i, x) ∈ O → i < L.length := fun i x hx => by
    obtain ⟨y, h1, _⟩ := hI.gd.ou i x hx
    exact (List.getElem?_eq_some_iff.1 h1).1
  refine ⟨hi1.trans hStep, by have := hStep.nx; omega, fun j hj => ?_, fun j y hj hy x hx hb => ?_, fun p x hpx => ?_, by have := (List.getElem?_eq_some_iff.1 hq).1; omega, gd', fun i x hx hs hh => ?_, fun i x j y l m hx hy hs1 hs2 hh1 hh2 h1 h2 => ?_, fun i hi h => ?_,
    slots_put hG ho hS' (fun j hj => ?_) hle hI.tm ?_ hv, ?_⟩
  · rw [hS', Bool.or_eq_true, decide_eq_true_eq] at hj
    rcases hj with h | h
    · exact hI.sub j h
    · omega
  · rw [hS', Bool.or_eq_true, decide_eq_true_eq] at hj
    rw [hS', Bool.or_eq_true]
    left
    rcases hj with h | h
    · exact hI.cl j y h hy x hx hb
    · subst h
      rw [ho] at hy
      cases hy
      exact hr x hx hb
  · rw [hS', Bool.or_eq_true, decide_eq_true_eq, hI.wr p x hpx]
    constructor
    · rintro (h | rfl)
      · omega
      · rcases Nat.lt_or_ge q p with h | h
        · exact absurd (hG.lt ho (hG.chain' h hq hpx)) (Nat.lt_irrefl _)
        · omega
    · intro h
      rcases Nat.lt_or_ge p q with h2 | h2
      · exact .inl h2
      · obtain rfl : p = q := by omega
        rw [hq] at hpx
        cases hpx
        exact .inr rfl
  · obtain ⟨hx, hs⟩ := old i x hx hs
    obtain ⟨l, h1, h2, h3, h4⟩ := hi3 i x hx hs hh
    refine ⟨l, by rw [hren i (hlt i x hx)]; exact h1, h2.mono hle (hStep.chg.block _ h2.lt h4), h3, fun h => ?_⟩
    rcases hStep.im _ h with h | h
    · have := h2.lt; omega
    · exact h4 h
  · obtain ⟨hx, hs1⟩ := old i x hx hs1
    obtain ⟨hy, hs2⟩ := old j y hy hs2
    rw [hren i (hlt i x hx)] at h1
    rw [hren j (hlt j y hy)] at h2
    exact hI.dist i x j y l m hx hy hs1 hs2 (by omega) (by omega) h1 h2
  · rw [hren i hi]
    refine hI.non i hi (h.imp (fun h => ?_) fun h x hx => h x (hn1 _ hx))
    rw [hS', Bool.or_eq_false_iff] at h
    exact h.1
  · rcases hn3 j with h | h
    · rw [h, hset, if_neg (by rintro rfl; rw [hS] at hj; cases hj)]
    · have := loS j hj
      omega
  · rcases hn3 e with h | ⟨_, y, h1, h2⟩
    · rw [h, hset, if_pos rfl]
    · rw [ho] at h1
      cases h1
      rw [hflt] at h2
      cases h2
  · have := hI.dr.mono hle
    cases hd : o.dst <;> exact this
set_option maxHeartbeats 1000000 in
theorem draw_ok (hrec : Snd P base gm rec) (horc : OrcOk P base gm orc) (hnum : ∀ (g : Nat) fn, P.funcs[g]? = some fn → fn.name ≠ "runtime.NumGoroutine") (hgb : gm ≤ base) (hW0 : WR base gm f0 A0 w0) {F : Fence} {rd : Option Nat} (hF : FOk f0 rd F)
    (hG : RG L n) (hlen : L.length < 1000) (hopd : ∀ (i : Nat) (o : Oper), L[i]? = some o → ∀ x ∈ o.op.operands, opdOk gm A0.h x = true) {ops : Array Oper} (hL : ops.toList = L) (k : Kt) :
    ∀ (fuel : Nat) (listed : Array Bool) (q : Nat) (f : Ren) (A : AS) (w : World) (V : HT Value) (O : List (Nat × AObj)) (b : Act),
      Inv P L t0 n ds base gm f0 A0 w0 (fun i => listed.getD i false) q f A w V O b → listed.size = L.length → listed.toList.count false ≤ fuel →
      drawGo P gm orc rec L (befs L []) (effsOf L 0) t0 A0.nx ((effsOf L 0).drop q) q V O A (fun V A => k .normal ⟨⟨finT V L 0 t0, n, ds⟩, A⟩) = true →
      wpAnyIn F 0 P .any ops (fun e a' w' => ∃ f' st', Step base gm f0 A0 w0 f' st'.A w' ∧ AcR f' st'.a a' ∧ k e st' = true) fuel listed b w := by
  have hopl : ∀ i : Nat, ops[i]? = L[i]? := fun i => by rw [← hL, Array.getElem?_toList]
  have fin : ∀ (listed : Array Bool) (q : Nat) (f : Ren) (A : AS) (w : World) (V : HT Value) (O : List (Nat × AObj)) (b : Act),
      Inv P L t0 n ds base gm f0 A0 w0 (fun i => listed.getD i false) q f A w V O b → listed.size = L.length → Region.ready .any ops listed = [] →
      drawGo P gm orc rec L (befs L []) (effsOf L 0) t0 A0.nx ((effsOf L 0).drop q) q V O A (fun V A => k .normal ⟨⟨finT V L 0 t0, n, ds⟩, A⟩) = true →
      ∃ f' st', Step base gm f0 A0 w0 f' st'.A w ∧ AcR f' st'.a b ∧ k .normal st' = true := by
    intro listed q f A w V O b hI hsz hrd hd
    have hall : ∀ i, i < L.length → listed.getD i false = true := by
      intro i
      induction i using Nat.strongRecOn with
      | _ i ih =>
        intro hi
        have ho := List.getElem?_eq_getElem hi
        have hil : i < listed.size := by omega
        cases hb : listed.getD i false with
        | true => rfl
        | false =>
          exfalso
          have : i ∈ Region.ready .any ops listed := mem_ready.2 ⟨by simp [hil] at hb ⊢; exact hb, _, (hopl i).trans ho, fun e he hbe => by
            have := (hG.op i _ ho).after e he hbe
            exact ih e.on this (by omega)⟩
          rw [hrd] at this
          cases this
    have hql : q = (effsOf L 0).length := by
      rcases Nat.lt_or_ge q (effsOf L 0).length with h | h
      · exfalso
        have he := List.getElem?_eq_getElem h
        obtain ⟨_, y, h1, _⟩ := (effsOf_mem L 0 _).1 (List.mem_of_getElem? he)
        have := (hI.wr q _ he).1 (hall _ (by rw [Nat.sub_zero] at h1; exact (List.getElem?_eq_some_iff.1 h1).1))
        omega
      · have := hI.ql; omega
    rw [List.drop_eq_nil_of_le (by omega), drawGo] at hd
    obtain ⟨h1, _, _⟩ := hI.ins hgb hW0 fun i x hx _ => by
      obtain ⟨y, h1, _⟩ := hI.gd.ou i x hx
      exact hall i (List.getElem?_eq_some_iff.1 h1).1
    refine ⟨f, _, h1, ⟨⟨hI.tm.1, fun t => ?_⟩, hI.dr⟩, hd⟩
    have h2 := hI.tm.2 t
    have hbd : ∀ o ∈ L, ∀ d, o.dst = some d → d < 1000000000000 := fun o ho d hd => by
      obtain ⟨i, hi⟩ := List.mem_iff_getElem?.1 ho
      have := (hG.op i o hi).dst
      unfold dstOk at this
      rw [hd] at this
      simp only [Bool.and_eq_true] at this
      exact blt_lt this.2
    obtain ⟨h3, h4⟩ := finT_get V t L 0 t0 hbd
    unfold slotV at h2
    show VR f (((finT V L 0 t0).get t).getD undef) _
    cases hw : writer L 0 t with
    | none =>
      rw [hw] at h2
      dsimp only at h2
      rw [h3 fun o ho hd => ?_]
      · rw [evA_tmp] at h2; exact h2
      · obtain ⟨i, hi⟩ := List.mem_iff_getElem?.1 ho
        have := (hG.op i o hi).own t hd
        rw [hw] at this
        cases this
    | some j =>
      rw [hw] at h2
      dsimp only at h2
      obtain ⟨_, y, h5, h6⟩ := writer_dst L 0 t j hw
      rw [Nat.sub_zero] at h5
      rw [if_pos (hall j (List.getElem?_eq_some_iff.1 h5).1)] at h2
      rw [h4 j (fun m o hm hd => ?_) ⟨y, List.mem_of_getElem? h5, h6⟩]
      · exact h2
      · have := (hG.op m o hm).own t hd
        rw [hw] at this
        cases this
        omega
  intro fuel
  induction fuel with
  | zero =>
    intro listed q f A w V O b hI hsz hc hd
    have hrd : Region.ready .any ops listed = [] := by
      cases hr : Region.ready .any ops listed with
      | nil => rfl
      | cons j js =>
        exfalso
        obtain ⟨h1, o, h2, _⟩ := mem_ready.1 (show j ∈ Region.ready .any ops listed by rw [hr]; exact List.mem_cons_self ..)
        rw [hopl] at h2
        have hj : j < listed.size := by rw [hsz]; exact (List.getElem?_eq_some_iff.1 h2).1
        have := count_set listed.toList j (by simp [hj] at h1 ⊢; exact h1)
        omega
    exact ⟨hrd, fin listed q f A w V O b hI hsz hrd hd⟩
  | succ fuel ih =>
    intro listed q f A w V O b hI hsz hc hd
    refine ⟨fun hrd => fin listed q f A w V O b hI hsz hrd hd, fun i hi => ?_⟩
    obtain ⟨hun, o, ho', hr⟩ := mem_ready.1 hi
    have ho : L[i]? = some o := by rw [← hopl]; exact ho'
    have hil : i < listed.size := by rw [hsz]; exact (List.getElem?_eq_some_iff.1 ho).1
    have hS : listed.getD i false = false := by simp [hil] at hun ⊢; exact hun
    have hS' : ∀ j, (listed.setIfInBounds i true).getD j false = (listed.getD j false || decide (j = i)) := fun j => by
      by_cases hj : j = i
      · subst hj
        simp [hil]
      · rw [decide_eq_false hj, Bool.or_false, getD_set_ne false (fun e => hj e.symm)]
    have hsz' : (listed.setIfInBounds i true).size = L.length := by rw [Array.size_setIfInBounds]; exact hsz
    have hc' : (listed.setIfInBounds i true).toList.count false ≤ fuel := by
      have := count_set listed.toList i (by simp [hil] at hun ⊢; exact hun)
      rw [Array.toList_setIfInBounds]
      omega
    have hle := hI.st.le hW0
    have hρ : ∀ x ∈ o.op.operands, VR f (evD L t0 V (Bi L i) x) (b.eval x) := fun x hx => hI.ev hG hW0 ho hS hr hx (hopd i o ho x hx)
    have hwant := hI.want hG hL ho hr
    unfold wpOpIn
    rw [ho']
    dsimp only
    rw [← hwant]
    cases hf : isFlt o with
    | true =>
      obtain ⟨hc1, hc2⟩ := hI.gd.ok i o ho hf (hI.lo_le hG ho hr) (hI.le_hi hG hS)
      cases hw : wantD V o with
      | true =>
        rw [if_pos rfl]
        obtain ⟨v, ob, hV, hfl, hO⟩ := hc1 hw
        obtain ⟨v', w', hrun, hFO⟩ := flt_ok hI.st.wr (hI.non i (List.getElem?_eq_some_iff.1 ho).1 (.inl hS)) hρ hfl
        obtain ⟨f', _, hI'⟩ := hI.flt hG hW0 ho hf hr hV hO hS hFO hS'
        refine wp_val (hF.mono hle) (fun c e => ?_) hrun (ih _ q f' A w' V O _ hI' hsz' hc' hd)
        unfold Am.flt at hfl
        rw [e] at hfl
        cases hfl
      | false =>
        rw [if_neg (by decide)]
        obtain ⟨hV, hO⟩ := hc2 hw
        obtain ⟨f', _, hI'⟩ := hI.flt (v := undef) (ob := none) (w1 := w) hG hW0 ho hf hr hV (fun x => ⟨fun h => absurd h (hO x), fun h => by cases h⟩) hS ⟨⟨rfl, rfl, rfl⟩, rfl, undefVR f⟩ hS'
        exact ⟨fun g _ => (hF.mono hle).fn g, ih _ q f' A w V O _ hI' hsz' hc' hd⟩
    | false =>
      obtain ⟨p, hp⟩ := List.mem_iff_getElem?.1 ((effsOf_mem L 0 i).2 ⟨Nat.zero_le _, o, by rw [Nat.sub_zero]; exact ho, hf⟩)
      have hpq : q ≤ p := by
        rcases Nat.lt_or_ge p q with h | h
        · have := (hI.wr p i hp).2 h
          rw [hS] at this
          cases this
        · exact h
      have hpl := (List.getElem?_eq_some_iff.1 hp).1
      have hpq : p = q := by
        rcases Nat.lt_or_ge q p with h | h
        · exfalso
          have he := List.getElem?_eq_getElem (Nat.lt_trans h hpl)
          have := (hI.wr q _ he).1 (hI.ahead hG ho hr (hG.chain' h he hp))
          omega
        · omega
      subst hpq
      have hdrop : (effsOf L 0).drop p = i :: (effsOf L 0).drop (p + 1) := by
        rw [List.drop_eq_getElem_cons hpl]
        congr 1
        exact (List.getElem?_eq_some_iff.1 hp).2
      rw [hdrop, drawGo, ho] at hd
      dsimp only at hd
      obtain ⟨hi1, hi2, _⟩ := hI.ins hgb hW0 fun j x hx hq2 => by
        obtain ⟨_, _, _, h4⟩ := fst_spec (bs := befs L []) (i := j) (effsOf L 0) 0
        have hq2 : fst (befs L []) j (effsOf L 0) 0 = p := hq2
        exact hI.ahead hG ho hr (h4 i (by rw [hq2]; exact hp))
      cases hw : wantD V o with
      | true =>
        rw [if_pos rfl]
        split at hd
        · rename_i hck
          rw [Bool.and_eq_true] at hck
          refine effK_ok hrec horc hnum hi1.wr (by rw [hi2]; exact blt_lt hck.1) (hF.mono hle) hρ hd fun f' v v' A' w' hStep hv hk => ?_
          split at hk
          · rename_i V' O' hp'
            exact ih _ (p + 1) f' A' w' V' O' _ (hI.eff hG hlen hgb hW0 ho hp hr hS hStep hv hp' hS') hsz' hc' hk
          · cases hk
        · rename_i hck
          rw [Bool.and_eq_true] at hd
          rw [hd.1, hw] at hck
          cases hck
      | false =>
        rw [if_neg (by decide)]
        rw [hw, Bool.and_false] at hd
        dsimp only at hd
        rw [Bool.and_eq_true] at hd
        obtain ⟨_, hk⟩ := hd
        split at hk
        · rename_i V' O' hp'
          exact ⟨fun g _ => (hF.mono hle).fn g, ih _ (p + 1) f _ w V' O' _ (hI.eff hG hlen hgb hW0 ho hp hr hS (Step.refl hi1.wr) (undefVR f) hp' hS') hsz' hc' hk⟩
        · cases hk
end
end Go.Proofs.YtpfmjagbjdkdcaaGreatDoor.Am
