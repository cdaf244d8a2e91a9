/- Regions in the text's order. -/
import Derived.Test.YtpfmjagbjdkdcaaGreatDoorAmU
set_option linter.unusedSimpArgs false
set_option linter.unusedVariables false
namespace Go.Proofs.YtpfmjagbjdkdcaaGreatDoor.Am
open Go.Proofs.YtpfmjagbjdkdcaaGreatDoor Go.RowKit

section
variable {P : Program} {base gm : Nat} {orc : Orc} {rec : Rec} {f : Ren} {A : AS} {w w1 : World}
theorem VR.bool_inv {b : Bool} {v : Value} (h : VR f (.bool b) v) : v = .bool b := by cases h; rfl
theorem VR.not_bool {v v' : Value} (h : VR f v v') (hv : ∀ b, v ≠ .bool b) (b : Bool) : v' ≠ .bool b := by
  cases h <;> first | exact absurd rfl (hv _) | simp
theorem want_tr {t : HT Value} {n d : Nat} {tm : Array Value} (h : TR f t n tm) (b : Bool) :
    ((match tm[d]? with | some (.bool c) => some c | _ => none) == some b) = (match t.get d with | some (.bool c) => c == b | _ => false) := by
  have hv := h.2 d
  rw [Array.getD_eq_getD_getElem?] at hv
  cases hg : t.get d with
  | none =>
    rw [hg] at hv
    cases ht : tm[d]? with
    | none => rfl
    | some u =>
      rw [ht] at hv
      have := fun c => VR.not_bool hv (by intro b h; simp [undef] at h) c
      cases u <;> first | rfl | exact absurd rfl (this _)
  | some v =>
    rw [hg] at hv
    dsimp only [Option.getD_some] at hv
    cases hvb : v with
    | bool c =>
      rw [hvb] at hv
      have := hv.bool_inv
      cases ht : tm[d]? with
      | none => rw [ht] at this; simp [undef] at this
      | some u =>
        rw [ht] at this
        obtain rfl : u = .bool c := this
        cases c <;> cases b <;> rfl
    | _ =>
      rw [hvb] at hv
      have := fun c => VR.not_bool hv (by intro b h; cases h) c
      cases ht : tm[d]? with
      | none => rfl
      | some u =>
        rw [ht] at this
        cases u <;> first | rfl | exact absurd rfl (this _)
theorem wantA_ok {a : Ac} {b : Act} (h : AcR f a b) (ops : Array Oper) (o : Oper) : wantA a.t ops.toList o = Region.wanted o (yielded ops b.tmps) := by
  unfold wantA Region.wanted
  cases hg : o.guard with
  | none => rfl
  | some p =>
    obtain ⟨j, want⟩ := p
    dsimp only
    unfold yielded
    rw [Array.getElem?_toList]
    cases hq : ops[j]? with
    | none => rfl
    | some q =>
      dsimp only [Option.bind_some]
      cases hd : q.dst with
      | none => rfl
      | some d =>
        dsimp only [Option.bind_some]
        exact (want_tr h.t want).symm
theorem LetsOut.mono {Q Q' : Exit → Act → World → Prop} (hQ : ∀ e a w, Q e a w → Q' e a w) (h : LetsOut Q) : LetsOut Q' := by
  obtain ⟨a, w, h⟩ := h
  exact ⟨a, w, hQ _ _ _ h⟩
theorem uponIn_mono {F : Fence} {n : Nat} {o : Oper} {a : Act} {K K' : Act → World → Prop} {Q Q' : Exit → Act → World → Prop} (hK : ∀ a w, K a w → K' a w) (hQ : ∀ e a w, Q e a w → Q' e a w) {r : Result Next} (h : o.uponIn F n P a K Q r) : o.uponIn F n P a K' Q' r := by
  cases r with
  | ok x w' =>
    cases x <;> simp only [Oper.uponIn] at h ⊢ <;>
      first
        | exact hK _ _ h
        | exact h.elim
        | exact ⟨h.1, CallsIn.mono h.2 (fun e w'' he => by cases e <;> first | exact hK _ _ he | exact hQ _ _ _ he | exact LetsOut.mono hQ he)⟩
        | exact ⟨h.1, RowsIn.mono h.2 (fun _ _ he => hK _ _ he)⟩
        | exact ⟨h.1, RoundIn.mono h.2 (fun e w'' he => by cases e <;> first | exact hK _ _ he | exact hQ _ _ _ he | exact LetsOut.mono hQ he)⟩
  | halt x w' => cases x <;> simp only [Oper.uponIn] at h ⊢ <;> first | exact hQ _ _ _ h | exact h.elim
theorem wpOpsIn_mono {F : Fence} {n : Nat} {ops : Array Oper} {Q Q' : Exit → Act → World → Prop} (hQ : ∀ e a w, Q e a w → Q' e a w) : ∀ {l : List Nat} {a : Act} {w : World}, wpOpsIn F n P ops Q l a w → wpOpsIn F n P ops Q' l a w
  | [], _, _, h => hQ _ _ _ h
  | i :: l, a, w, h => by
    simp only [wpOpsIn] at h ⊢
    split
    · rename_i ho
      rw [ho] at h
      exact wpOpsIn_mono hQ h
    · rename_i o ho
      rw [ho] at h
      dsimp only at h
      split
      · rename_i hw
        rw [if_pos hw] at h
        exact ⟨h.1, uponIn_mono (fun _ _ hk => wpOpsIn_mono hQ hk) hQ h.2⟩
      · rename_i hw
        rw [if_neg hw] at h
        exact ⟨h.1, wpOpsIn_mono hQ h.2⟩
theorem about_fn {F : Fence} {rd : Option Nat} (hF : FOk f rd F) (o : Oper) (b : Act) (g : FuncId) (_ : o.about P w b.eval = some g) : F.fn g := hF.fn g
theorem textK_ok (hrec : Snd P base gm rec) (horc : OrcOk P base gm orc) (hnum : ∀ (g : Nat) fn, P.funcs[g]? = some fn → fn.name ≠ "runtime.NumGoroutine") (ops : Array Oper) {F : Fence} {rd : Option Nat} (k : Kt) :
    ∀ (os : List Oper) (i : Nat), (∀ j, os[j]? = ops.toList[i + j]?) → ∀ (st : St) (f : Ren) (b : Act) (w : World), FOk f rd F → WR base gm f st.A w → AcR f st.a b → textK P gm orc rec ops.toList os st k = true →
      wpOpsIn F 0 P ops (fun e a' w' => ∃ f' st', Step base gm f st.A w f' st'.A w' ∧ AcR f' st'.a a' ∧ k e st' = true) (List.range' i os.length) b w
  | [], i, _, st, f, b, w, hF, hW, hA, h => by
    exact ⟨f, st, Step.refl hW, hA, h⟩
  | o :: os, i, hos, st, f, b, w, hF, hW, hA, h => by
    have ho : ops[i]? = some o := by
      have := hos 0
      rw [Nat.add_zero] at this
      rw [← Array.getElem?_toList]
      exact this.symm
    have hos' : ∀ j, os[j]? = ops.toList[i + 1 + j]? := fun j => by
      have := hos (j + 1)
      rw [show i + 1 + j = i + (j + 1) by omega]
      exact this
    rw [List.length_cons, List.range'_succ]
    simp only [wpOpsIn, ho]
    rw [← wantA_ok hA ops o]
    rw [textK] at h
    -- on, from a later state
    have on : ∀ (f1 : Ren) (v v' : Value) (A1 : AS) (w1 : World), Step base gm f st.A w f1 A1 w1 → VR f1 v v' → dstOk st.a.n o = true → textK P gm orc rec ops.toList os ⟨st.a.put o.dst v, A1⟩ k = true →
        wpOpsIn F 0 P ops (fun e a' w' => ∃ f' st', Step base gm f st.A w f' st'.A w' ∧ AcR f' st'.a a' ∧ k e st' = true) (List.range' (i + 1) os.length) (b.put o.dst v') w1 := fun f1 v v' A1 w1 hS hv hd hk => by
      have := textK_ok hrec horc hnum ops k os (i + 1) hos' ⟨st.a.put o.dst v, A1⟩ f1 (b.put o.dst v') w1 (hF.mono (hS.le hW)) hS.wr ((hA.mono (hS.le hW)).put hd hv) hk
      refine wpOpsIn_mono (fun e a' w' hq => ?_) this
      obtain ⟨f', st', h1, h2, h3⟩ := hq
      exact ⟨f', st', hS.trans h1, h2, h3⟩
    split at h
    · rename_i hchk hw
      simp only [Bool.and_eq_true] at hchk
      obtain ⟨⟨hop, hd⟩, hnx⟩ := hchk
      have hnx := blt_lt hnx
      rw [if_pos hw]
      have hρ : ∀ x ∈ o.op.operands, VR f (evA st.a.t x) (b.eval x) := fun x hx => hA.ev hW (List.all_eq_true.1 hop x (by simpa using hx))
      split at h
      · rename_i v ob hf
        obtain ⟨v', w1, hr, hFO⟩ := flt_ok hW (hW.fr _ (Nat.le_refl _)) hρ hf
        obtain ⟨f1, hS, hv⟩ := hFO.step hW hnx
        refine wp_val hF (fun c e => ?_) hr (on f1 v v' _ w1 hS hv hd h)
        unfold flt at hf
        rw [e] at hf
        cases hf
      · exact effK_ok hrec horc hnum hW hnx hF hρ h fun f1 v v' A1 w1 hS hv hk => on f1 v v' A1 w1 hS hv hd hk
    · rename_i hchk hw
      simp only [Bool.and_eq_true] at hchk
      rw [if_neg (by rw [hw]; simp)]
      exact ⟨fun g _ => hF.fn g, on f undef undef st.A w (Step.refl hW) (undefVR f) hchk.1.2 h⟩
    · cases h
end
end Go.Proofs.YtpfmjagbjdkdcaaGreatDoor.Am
