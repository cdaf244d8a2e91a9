/- Code: the machine is sound. -/
import Derived.Test.YtpfmjagbjdkdcaaGreatDoorAnC
set_option linter.unusedSimpArgs false
set_option linter.unusedVariables false
namespace Go.Proofs.YtpfmjagbjdkdcaaGreatDoor.Am
open Go.Proofs.YtpfmjagbjdkdcaaGreatDoor Go.RowKit

section
variable {P : Program} {orc : Orc} {rec : Rec} {base gm : Nat} {f : Ren} {A : AS} {w : World}
theorem drawK_ok (hmix : P.follows .mixedOrders = true) (hgb : gm ≤ base) (hrec : Snd P base gm rec) (horc : OrcOk P base gm orc) (hnum : ∀ (g : Nat) fn, P.funcs[g]? = some fn → fn.name ≠ "runtime.NumGoroutine") {rd : Option Nat} {F : Fence} {st : St} {a : Act} (hF : FOk f rd F)
    (hW : WR base gm f st.A w) (hA : AcR f st.a a) {id : Nat} {ops : Array Oper} {k : Kt} (h : drawK P gm orc rec ops.toList st k = true) :
    (Code.region id ops true).wpIn F 0 P (fun e a' w' => ∃ f' st', Step base gm f st.A w f' st'.A w' ∧ AcR f' st'.a a' ∧ k e st' = true) a w := by
  unfold drawK at h
  split at h
  · rename_i hck
    simp only [Bool.and_eq_true] at hck
    obtain ⟨⟨⟨⟨h1, h2⟩, h3⟩, h4⟩, h5⟩ := hck
    have h3 := blt_lt h3
    have h4 := blt_lt h4
    have hG : RG ops.toList st.a.n := ⟨fun i o ho => OpG.of (by have := opsOk_at ops.toList 0 h1 i o ho; rw [Nat.zero_add] at this; exact this), h2⟩
    have hopd : ∀ (i : Nat) (o : Oper), ops.toList[i]? = some o → ∀ x ∈ o.op.operands, opdOk gm st.A.h x = true := fun i o ho x hx => by
      have := List.all_eq_true.1 h5 o (List.mem_of_getElem? ho)
      exact List.all_eq_true.1 this x (by simpa using hx)
    split at h
    · rename_i V O hp
      have hW0 : WR base gm f st.A { w with drawn := w.drawn + 1 } := hW.heap rfl
      have hW1 : WR base gm f ⟨st.A.h, st.A.nx + ops.toList.length⟩ { w with drawn := w.drawn + 1 } :=
        ⟨hW0.ob, hW0.inj, hW0.low, fun k o hk => Nat.lt_of_lt_of_le (hW0.lt k o hk) (Nat.le_add_right ..), fun k hk => hW0.fr k (Nat.le_trans (Nat.le_add_right ..) hk), hW0.gl, Nat.le_trans hW0.gm (Nat.le_add_right ..), hW0.sz, by show st.A.nx + ops.toList.length < _; omega⟩
      have hgd : Gd P ops.toList st.a.t st.A.nx 0 st.A.h V O := fpass_ok (hp := st.A.h) hG h4 ops.toList 0 _ _ (fun j => by rw [Nat.zero_add]) (by omega) (fun i _ _ _ hi => absurd hi (Nat.not_lt_zero i)) (fun i _ _ _ _ hl => absurd hl (Nat.not_lt_zero _))
        (fun i x hx => by simp at hx) (by simp) hp
      have hno : ∀ i, (Array.replicate ops.size false).getD i false = false := fun i => by
        rw [Array.getD_eq_getD_getElem?, Array.getElem?_replicate]
        split <;> rfl
      have hI : Inv P ops.toList st.a.t st.a.n st.a.d base gm f st.A { w with drawn := w.drawn + 1 } (fun i => (Array.replicate ops.size false).getD i false) 0 f ⟨st.A.h, st.A.nx + ops.toList.length⟩ { w with drawn := w.drawn + 1 } V O a := by
        refine ⟨⟨fun _ _ => rfl, Nat.le_add_right .., Chg.refl _ _, fun _ h => .inr h, hW1⟩, Nat.le_refl _, fun i hi => ?_, fun i o hi => ?_, fun p e _ => ?_, Nat.zero_le _, hgd, fun i x _ hi => ?_, fun i x j y l m _ _ hi => ?_, fun i hi _ => hW.fr _ (Nat.le_add_right ..), ⟨hA.t.1, fun t => ?_⟩, hA.d⟩
        · rw [hno] at hi; cases hi
        · rw [hno] at hi; cases hi
        · rw [hno]; constructor
          · intro h; cases h
          · intro h; exact absurd h (Nat.not_lt_zero _)
        · rw [hno] at hi; cases hi
        · rw [hno] at hi; cases hi
        · have := hA.t.2 t
          unfold slotV
          split
          · rw [if_neg (by dsimp only; rw [hno]; decide), evA_tmp]
            exact this
          · rw [evA_tmp]
            exact this
      have hd := draw_ok hrec horc hnum hgb hW0 hF hG h4 hopd rfl k ops.size (Array.replicate ops.size false) 0 f _ _ V O a hI (by simp) (by simp) (by rw [List.drop_zero]; exact h)
      have hS0 : Step base gm f st.A w f st.A { w with drawn := w.drawn + 1 } := ⟨fun _ _ => rfl, Nat.le_refl _, ⟨rfl, rfl, rfl, Nat.le_refl _, fun _ _ _ => rfl⟩, fun _ h => .inr h, hW0⟩
      refine wpIn_mono (wpIn_region_any hmix hd) ?_
      rintro e a' w' ⟨f', st', h6, h7, h8⟩
      exact ⟨f', st', hS0.trans h6, h7, h8⟩
    · cases h
  · cases h
/-- The machine's run, at whatever depth. -/
theorem runK_ok (hmix : P.follows .mixedOrders = true) (hgb : gm ≤ base) (horc : OrcOk P base gm orc) (hnum : ∀ (g : Nat) fn, P.funcs[g]? = some fn → fn.name ≠ "runtime.NumGoroutine") : ∀ n, Snd P base gm (runK P gm orc n) := by
  intro n
  induction n using Nat.strongRecOn with
  | _ n ih =>
  cases n with
  | zero =>
    intro rd c st k f a w F hF hW hA h
    cases h
  | succ n =>
  have hrec := ih n (Nat.lt_succ_self n)
  intro rd c st k f a w F hF hW hA h
  cases c with
  | skip => exact wpIn_skip ⟨f, st, Step.refl hW, hA, h⟩
  | label l => exact wpIn_label ⟨f, st, Step.refl hW, hA, h⟩
  | exit id => exact wpIn_exit ⟨f, st, Step.refl hW, hA, h⟩
  | goto l => exact wpIn_goto ⟨f, st, Step.refl hW, hA, h⟩
  | ret => exact wpIn_ret ⟨f, st, Step.refl hW, hA, h⟩
  | refuse why => cases h
  | region id ops draw =>
    cases draw with
    | true => exact drawK_ok hmix hgb hrec horc hnum hF hW hA h
    | false =>
      refine wpIn_region ?_
      have := textK_ok hrec horc hnum ops k ops.toList 0 (fun j => by rw [Nat.zero_add]) st f a w hF hW hA h
      rw [List.range_eq_range']
      simpa using this
  | seq x y =>
    refine wpIn_seq (wpIn_mono (hrec rd x st _ f a w F hF hW hA h) ?_)
    rintro e a1 w1 ⟨f1, st1, hS1, hA1, hk1⟩
    cases e with
    | normal =>
      refine wpIn_mono (hrec rd y st1 k f1 a1 w1 F (hF.mono (hS1.le hW)) hS1.wr hA1 hk1) ?_
      rintro e2 a2 w2 ⟨f2, st2, hS2, hA2, hk2⟩
      exact ⟨f2, st2, hS1.trans hS2, hA2, hk2⟩
    | exit id => exact ⟨f1, st1, hS1, hA1, hk1⟩
    | goto l => exact ⟨f1, st1, hS1, hA1, hk1⟩
    | ret => exact ⟨f1, st1, hS1, hA1, hk1⟩
    | panic c => exact ⟨f1, st1, hS1, hA1, hk1⟩
    | outgrown => exact ⟨f1, st1, hS1, hA1, hk1⟩
  | cond c x y =>
    rw [runK] at h
    split at h
    · rename_i hop he
      have hv := hA.ev hW hop
      rw [he] at hv
      exact wpIn_cond_true hv.bool_inv (hrec rd x st k f a w F hF hW hA h)
    · rename_i hop he
      have hv := hA.ev hW hop
      rw [he] at hv
      exact wpIn_cond_false hv.bool_inv (hrec rd y st k f a w F hF hW hA h)
    · cases h
  | block id b =>
    refine wpIn_block (wpIn_mono (hrec rd b st _ f a w F hF hW hA h) ?_)
    rintro e a1 w1 ⟨f1, st1, hS1, hA1, hk1⟩
    cases e with
    | exit i =>
      unfold Exit.inBlock
      dsimp only at hk1 ⊢
      split at hk1
      · rename_i hi
        rw [if_pos (beq_t hi)]
        exact ⟨f1, st1, hS1, hA1, hk1⟩
      · rename_i hi
        rw [if_neg (beq_f hi)]
        exact ⟨f1, st1, hS1, hA1, hk1⟩
    | normal => exact ⟨f1, st1, hS1, hA1, hk1⟩
    | goto l => exact ⟨f1, st1, hS1, hA1, hk1⟩
    | ret => exact ⟨f1, st1, hS1, hA1, hk1⟩
    | panic c => exact ⟨f1, st1, hS1, hA1, hk1⟩
    | outgrown => exact ⟨f1, st1, hS1, hA1, hk1⟩
  | loop b =>
    let p : Act → World → Nat → Prop := fun a' w' m => m ≤ n + 1 ∧ ∃ f' st', Step base gm f st.A w f' st'.A w' ∧ AcR f' st'.a a' ∧ runK P gm orc m rd (.loop b) st' k = true
    refine wpIn_loop (fun a' w' => ∃ m, p a' w' m) (fun a' w' => leastOf (p a' w')) ⟨n + 1, Nat.le_refl _, f, st, Step.refl hW, hA, h⟩ ?_
    rintro a1 w1 ⟨m, hm⟩
    obtain ⟨⟨hle, f1, st1, hS1, hA1, hk1⟩, _⟩ := leastOf_spec hm
    generalize leastOf (p a1 w1) = μ at hle hk1
    cases μ with
    | zero => cases hk1
    | succ μ =>
      refine wpIn_mono (ih μ (by omega) rd b st1 _ f1 a1 w1 F (hF.mono (hS1.le hW)) hS1.wr hA1 hk1) ?_
      rintro e a2 w2 ⟨f2, st2, hS2, hA2, hk2⟩
      have hS := hS1.trans hS2
      cases e with
      | normal =>
        have hp : p a2 w2 μ := ⟨by omega, f2, st2, hS, hA2, hk2⟩
        exact ⟨⟨μ, hp⟩, Nat.lt_succ_of_le (leastOf_spec hp).2⟩
      | exit id => exact ⟨f2, st2, hS, hA2, hk2⟩
      | goto l => exact ⟨f2, st2, hS, hA2, hk2⟩
      | ret => exact ⟨f2, st2, hS, hA2, hk2⟩
      | panic c => exact ⟨f2, st2, hS, hA2, hk2⟩
      | outgrown => exact ⟨f2, st2, hS, hA2, hk2⟩
  | scope b =>
    refine wpIn_scope (wpIn_mono (hrec rd b st _ f a w F hF hW hA h) ?_)
    rintro e a1 w1 ⟨f1, st1, hS1, hA1, hk1⟩
    cases e with
    | goto l => cases hk1
    | normal => exact ⟨f1, st1, hS1, hA1, hk1⟩
    | exit id => exact ⟨f1, st1, hS1, hA1, hk1⟩
    | ret => exact ⟨f1, st1, hS1, hA1, hk1⟩
    | panic c => exact ⟨f1, st1, hS1, hA1, hk1⟩
    | outgrown => exact ⟨f1, st1, hS1, hA1, hk1⟩
  | rangeFunc g ps as b => exact rangeK_ok hrec horc hnum hF hW hA h
/-- **A call that the machine runs to true returns true.** -/
theorem startK_ok (hmix : P.follows .mixedOrders = true) (hgb : gm ≤ base) (horc : OrcOk P base gm orc) (hnum : ∀ (g : Nat) fn, P.funcs[g]? = some fn → fn.name ≠ "runtime.NumGoroutine") {n : Nat} {g : FuncId} {h : HT AObj} {nx : Nat}
    (hW : WR base gm f ⟨h, nx⟩ w) (hb : w.heap.size ≤ base) (hs : startK P gm orc n g h nx = true) : CallsIn Fence.wide 0 P g #[] w fun e w' => e = .returned (.bool true) ∧ Ext w w' := by
  obtain ⟨_, h2⟩ := callK_ok (runK_ok hmix hgb horc hnum n) horc hnum hW (LR.nil f) hs
  refine h2.mono fun e w' ⟨f', v, v', A', he, hS, hv, hk⟩ => ?_
  subst he
  refine ⟨?_, hS.ext hW (Ext.refl w) hb⟩
  cases v with
  | bool t =>
    have hk : t = true := hk
    subst hk
    rw [hv.bool_inv]
  | _ => cases hk
end
end Go.Proofs.YtpfmjagbjdkdcaaGreatDoor.Am
