/- Activations; calls; rounds. -/
import Derived.Test.YtpfmjagbjdkdcaaGreatDoorAmR
import Derived.RangeFuncLeaves
import Derived.RangeFuncRecord
set_option linter.unusedSimpArgs false
set_option linter.unusedVariables false
namespace Go.Proofs.YtpfmjagbjdkdcaaGreatDoor.Am
open Go.Proofs.YtpfmjagbjdkdcaaGreatDoor Go.RowKit

inductive DR (f : Ren) : List Nat → List Deferred → Prop
  | nil : DR f [] []
  | cons {d L ds xs} (h : f d = some L) (hr : DR f ds xs) : DR f (d :: ds) ({ target := .collected L.blk, args := #[] } :: xs)
theorem DR.mono {f g : Ren} (h : f.le g) {ds : List Nat} {xs : List Deferred} (k : DR f ds xs) : DR g ds xs := by
  induction k with
  | nil => exact .nil
  | cons e _ ih => exact .cons (h _ _ e) ih
structure AcR (f : Ren) (a : Ac) (b : Act) : Prop where
  t : TR f a.t a.n b.tmps
  d : DR f a.d b.defers
theorem AcR.mono {f g : Ren} (h : f.le g) {a : Ac} {b : Act} (k : AcR f a b) : AcR g a b := ⟨k.t.mono h, k.d.mono h⟩
section
variable {P : Program} {base gm : Nat} {f : Ren} {A : AS} {w w1 : World}
theorem evA_tmp (t : HT Value) (i : Nat) : evA t (.tmp i) = (t.get i).getD undef := by
  show (match t.get i with | some v => v | none => undef) = _
  cases t.get i <;> rfl
theorem AcR.ev (hW : WR base gm f A w) {a : Ac} {b : Act} (h : AcR f a b) {x : Operand} (hx : opdOk gm A.h x = true) : VR f (evA a.t x) (b.eval x) := by
  cases x with
  | tmp i => rw [evA_tmp]; exact h.t.2 i
  | const v => exact noA_refl f 60 v hx
  | global g =>
    cases hb : Nat.blt g gm with
    | false => simp [opdOk, hb] at hx
    | true =>
      cases hg : A.h.get g with
      | none => simp [opdOk, hb, hg] at hx
      | some o => exact .ptr ⟨⟨g, 0, none⟩, hW.gl g o hg (blt_lt hb), rfl⟩
  | func g => exact .func (.same (by simp)) rfl (fun i v v' h => by simp at h) rfl (fun i v v' h => by simp at h)
theorem TR.put {t : HT Value} {n d : Nat} {tm : Array Value} (h : TR f t n tm) (hd : d < n) (hb : d < 1000000000000) {v v' : Value} (hv : VR f v v') : TR f (HT.set 64 t d (some v)) n (tm.setIfInBounds d v') := by
  refine ⟨by rw [Array.size_setIfInBounds]; exact h.1, fun i => ?_⟩
  rw [HT.get_set 64 t d i _ (Nat.lt_trans (by omega : d + 1 < 1000000000001) (by decide))]
  by_cases hi : i = d
  · subst hi
    rw [if_pos rfl, Array.getD_eq_getD_getElem?, Array.getElem?_setIfInBounds]
    simp [h.1, hd, hv]
  · rw [if_neg hi, Array.getD_eq_getD_getElem?, Array.getElem?_setIfInBounds, if_neg (fun e => hi e.symm), ← Array.getD_eq_getD_getElem?]
    exact h.2 i
theorem AcR.put {a : Ac} {b : Act} (h : AcR f a b) {o : Oper} (ho : dstOk a.n o = true) {v v' : Value} (hv : VR f v v') : AcR f (a.put o.dst v) (b.put o.dst v') := by
  unfold dstOk at ho
  cases hd : o.dst with
  | none => exact h
  | some d =>
    rw [hd] at ho
    simp only [Bool.and_eq_true] at ho
    exact ⟨h.t.put (blt_lt ho.1) (blt_lt ho.2) hv, h.d⟩
theorem ofList_get : ∀ (l : List Value) (i : Nat) (t : HT Value) (j : Nat), i + l.length < 1000000000000 → (ofList l i t).get j = if i ≤ j ∧ j < i + l.length then l[j - i]? else t.get j
  | [], i, t, j, _ => by
    rw [ofList, if_neg (by rintro ⟨h1, h2⟩; simp at h2; omega)]
  | v :: l, i, t, j, h => by
    rw [List.length_cons] at h ⊢
    rw [ofList, ofList_get l (i + 1) _ j (by omega), HT.get_set 64 t i j _ (Nat.lt_trans (by omega : i + 1 < 1000000000001) (by decide))]
    by_cases h1 : i + 1 ≤ j ∧ j < i + 1 + l.length
    · rw [if_pos h1, if_pos (by omega), show j - i = (j - (i + 1)) + 1 by omega]
      rfl
    · rw [if_neg h1]
      by_cases h2 : j = i
      · subst h2
        rw [if_pos rfl, if_pos (by omega), Nat.sub_self]
        rfl
      · rw [if_neg h2, if_neg (by omega)]
theorem TR.ofList {args args' : List Value} (h : LR f args args') (hb : args.length < 1000000) (m : Nat) : TR f (Am.ofList args 0 .nil) (args.length + (m - args.length)) (args'.toArray ++ Array.replicate (m - args'.toArray.size) undef) := by
  have hl := h.1
  refine ⟨by simp [hl], fun i => ?_⟩
  rw [ofList_get _ _ _ _ (by omega), Array.getD_eq_getD_getElem?]
  by_cases hi : i < args.length
  · rw [if_pos (by omega), Nat.sub_zero, Array.getElem?_append_left (by simp; omega)]
    obtain ⟨v', e, hv⟩ := h.get (List.getElem?_eq_getElem hi)
    rw [List.getElem?_eq_getElem hi]
    simp only [List.getElem?_toArray, e, Option.getD_some]
    exact hv
  · rw [if_neg (by omega), HT.get_nil, Array.getElem?_append_right (by simp; omega)]
    have : ((Array.replicate (m - args'.toArray.size) undef)[i - args'.toArray.size]?).getD undef = undef := by
      rw [Array.getElem?_replicate]
      split <;> rfl
    rw [this]
    exact .tuple' (.nil f)
theorem undefVR (f : Ren) : VR f undef undef := .tuple' (.nil f)
theorem resA_ok (hW : WR base gm f A w) {a : Ac} {b : Act} (h : AcR f a b) {G : ResultVar → Sem Value} (hG1 : ∀ t, G (.tmp t) = pure (b.tmps.getD t undef)) (hG2 : ∀ c t, G (.cell c t) = do loadVar t (← asAddr (b.tmps.getD c undef))) :
    ∀ (l : List ResultVar) (vs : List Value), resA P a.t A.h l = some vs → ∃ vs', (l.mapM G : Sem (List Value)).run P w = .ok vs' w ∧ LR f vs vs'
  | [], vs, hr => by cases hr; exact ⟨[], by simp, .nil f⟩
  | .tmp i :: l, vs, hr => by
    rw [resA] at hr
    split at hr
    · rename_i vs2 h2
      cases hr
      obtain ⟨vs', h3, h4⟩ := resA_ok hW h hG1 hG2 l vs2 h2
      refine ⟨b.tmps.getD i undef :: vs', ?_, .cons (by rw [evA_tmp]; exact h.t.2 i) h4⟩
      rw [List.mapM_cons, hG1]
      simp only [Sem.run_bind, Sem.run_pure, Result.andThen_ok, h3]
    · cases hr
  | .cell c ty :: l, vs, hr => by
    rw [resA] at hr
    split at hr
    · rename_i ad hc
      split at hr
      · rename_i v vs2 hv h2
        cases hr
        obtain ⟨vs', h3, h4⟩ := resA_ok hW h hG1 hG2 l vs2 h2
        rw [evA_tmp] at hc
        have hp := h.t.2 c
        rw [hc] at hp
        obtain ⟨a', e, ha⟩ := hp.ptr_inv
        obtain ⟨v', h5, h6⟩ := loadA_ok (P := P) hW ha hv
        refine ⟨v' :: vs', ?_, .cons h6 h4⟩
        have hA : (asAddr (b.tmps.getD c undef)).run P w = .ok a' w := by rw [e]; rfl
        rw [List.mapM_cons, hG2]
        simp only [Sem.run_bind, hA, Sem.run_pure, Result.andThen_ok, h5, h3]
      · cases hr
    · cases hr
def oneV : List Value → Value
  | [v] => v
  | vs => .tuple vs.toArray
theorem mapM_then (hW : WR base gm f A w) {a : Ac} {b : Act} (h : AcR f a b) {l : List ResultVar} {vs : List Value} (hr : resA P a.t A.h l = some vs) {G : ResultVar → Sem Value} (hG1 : ∀ t, G (.tmp t) = pure (b.tmps.getD t undef))
    (hG2 : ∀ c t, G (.cell c t) = do loadVar t (← asAddr (b.tmps.getD c undef))) :
    ∃ v', (((Sem.run P (List.mapM G l) w).andThen fun a w' => Result.ok a.toArray w').andThen fun a w' => Sem.run P (pure (if h : a.size = 1 then a[0] else Value.tuple a)) w') = .ok v' w ∧ VR f (oneV vs) v' := by
  obtain ⟨vs', h1, h2⟩ := resA_ok (P := P) (w := w) hW h hG1 hG2 _ vs hr
  rw [h1]
  simp only [Result.andThen_ok, Sem.run_pure]
  refine ⟨_, rfl, ?_⟩
  match vs, vs', h2 with
  | [v], [v'], h2 => exact h2.tail.1
  | [], [], h2 => exact .tuple' (.nil f)
  | v :: u :: l, [], h2 => have := h2.1; simp at this
  | v :: u :: l, [v'], h2 => have := h2.1; simp at this
  | v :: u :: l, v' :: u' :: l', h2 =>
    rw [dif_neg (by simp)]
    exact .tuple' h2
  | [], _ :: _, h2 => have := h2.1; simp at this
  | [v], [], h2 => have := h2.1; simp at this
  | [v], _ :: _ :: _, h2 => have := h2.1; simp at this
theorem results_ok (hW : WR base gm f A w) {a : Ac} {b : Act} (h : AcR f a b) {fn : Func} {vs : List Value} (hr : resA P a.t A.h fn.results.toList = some vs) :
    ∃ v', (results fn b.tmps).run P w = .ok v' w ∧ VR f (oneV vs) v' := by
  unfold results
  rw [Sem.run_bind, Array.mapM_eq_mapM_toList]
  simp only [Sem.run_map]
  exact mapM_then hW h hr (fun _ => rfl) (fun _ _ => rfl)
theorem putObj_eq (w : World) (k : Nat) (o : Obj) : w.putObj k o = { w with heap := w.heap.setIfInBounds k o } := rfl
theorem leave_ok {fn : Func} {tm : Array Value} {R : Ending → World → Prop} : ∀ (ds : List Nat) (xs : List Deferred) (A A' : AS) (w : World), DR f ds xs → WR base gm f A w → leaveA gm A ds = some A' →
    (∀ w2, Step base gm f A w f A' w2 → ∃ v, (results fn tm).run P w2 = .ok v w2 ∧ R (.returned v) w2) → LeavesInM Fence.wide 0 P fn tm R xs .returning w
  | [], xs, A, A', w, hD, hW, h, hk => by
    cases hD
    cases h
    exact hk w (Step.refl hW)
  | d :: ds, xs, A, A', w, hD, hW, h, hk => by
    cases hD with
    | cons hd hr =>
      rename_i L xs
      rw [leaveA] at h
      split at h
      · rename_i hg hgm
        have hgm := Nat.le_of_ble_eq_true hgm
        obtain ⟨l, o', hl, hl0, hw, ho⟩ := itObj hW hg (by simp)
        rw [hd] at hl
        cases hl
        cases ho
        have hS := Step.lose (w1 := w.putObj L.blk (.deferred none)) hW hg hd hgm rfl ⟨rfl, rfl, rfl⟩
        refine ⟨by simp, .inl ⟨L.blk, _, rfl, run_takeDeferred hw, ?_⟩⟩
        exact leave_ok ds xs _ A' _ hr hS.wr h fun w2 h2 => hk w2 (hS.trans h2)
      · cases h
/-- A fence that fits the round one is in. -/
def FOk (f : Ren) (rd : Option Nat) (F : Fence) : Prop :=
  match rd with
  | none => F = Fence.wide
  | some l => ∃ L, f l = some L ∧ F = Fence.wide.inRound L.blk
theorem FOk.mono {f g : Ren} (h : f.le g) {rd : Option Nat} {F : Fence} (k : FOk f rd F) : FOk g rd F := by
  cases rd with
  | none => exact k
  | some l => obtain ⟨L, h1, h2⟩ := k; exact ⟨L, h _ _ h1, h2⟩
theorem FOk.calls {rd : Option Nat} {F : Fence} (k : FOk f rd F) {n : Nat} {g : FuncId} {args : Array Value} {R : Ending → World → Prop} (h : CallsIn Fence.wide n P g args w R) : CallsIn F n P g args w R := by
  cases rd with
  | none => cases k; exact h
  | some l => obtain ⟨L, _, rfl⟩ := k; exact h
theorem FOk.rounds {rd : Option Nat} {F : Fence} (k : FOk f rd F) {n l : Nat} {g : FuncId} {tm : Array Value} {as b : Code} {R : Ending → World → Prop} (h : RoundIn Fence.wide n P l g tm as b w R) : RoundIn F n P l g tm as b w R := by
  cases rd with
  | none => cases k; exact h
  | some l => obtain ⟨L, _, rfl⟩ := k; exact h
theorem FOk.fn {rd : Option Nat} {F : Fence} (k : FOk f rd F) (g : FuncId) : F.fn g := by
  cases rd with
  | none => cases k; exact trivial
  | some l => obtain ⟨L, _, rfl⟩ := k; exact trivial
theorem FOk.depth {rd : Option Nat} {F : Fence} (k : FOk f rd F) : F.depth = none := by
  cases rd with
  | none => cases k; rfl
  | some l => obtain ⟨L, _, rfl⟩ := k; rfl
end
/-- What is asked of a run of code. -/
def Snd (P : Program) (base gm : Nat) (rec : Rec) : Prop :=
  ∀ (rd : Option Nat) (c : Code) (st : St) (k : Kt) (f : Ren) (a : Act) (w : World) (F : Fence), FOk f rd F → WR base gm f st.A w → AcR f st.a a → rec rd c st k = true →
    c.wpIn F 0 P (fun e a' w' => ∃ f' st', Step base gm f st.A w f' st'.A w' ∧ AcR f' st'.a a' ∧ k e st' = true) a w
/-- What is asked of what is told. -/
def OrcOk (P : Program) (base gm : Nat) (orc : Orc) : Prop :=
  ∀ (g : FuncId) (args args' : List Value) (v : Value) (A A1 : AS) (f : Ren) (w : World), orc g args A = some (v, A1) → WR base gm f A w → LR f args args' →
    (∃ fn c, P.funcs[g]? = some fn ∧ fn.body = some c) ∧ CallsIn Fence.wide 0 P g args'.toArray w fun e w' => ∃ f' v', e = .returned v' ∧ Step base gm f A w f' A1 w' ∧ VR f' v v'
section
variable {P : Program} {base gm : Nat} {orc : Orc} {rec : Rec} {f : Ren} {A : AS} {w w1 : World}
theorem callK_ok (hrec : Snd P base gm rec) (horc : OrcOk P base gm orc) (hnum : ∀ (g : Nat) fn, P.funcs[g]? = some fn → fn.name ≠ "runtime.NumGoroutine") (hW : WR base gm f A w) {g : FuncId} {args args' : List Value} (ha : LR f args args')
    {k : Value → AS → Bool} (h : callK P gm orc rec g args A k = true) :
    (∀ w, (callFunc g args'.toArray).run P w = .ok (.enter g args'.toArray) w) ∧ CallsIn Fence.wide 0 P g args'.toArray w fun e w' => ∃ f' v v' A', e = .returned v' ∧ Step base gm f A w f' A' w' ∧ VR f' v v' ∧ k v A' = true := by
  have enter : ∀ fn c, P.funcs[g]? = some fn → fn.body = some c → ∀ w, (callFunc g args'.toArray).run P w = .ok (.enter g args'.toArray) w := fun fn c hf hb w => by
    have hn : (fn.name == "runtime.NumGoroutine") = false := by
      have := hnum g fn hf
      simpa using this
    simp only [callFunc, Sem.run_bind, run_program, Result.andThen_ok, hf, hn, Bool.false_eq_true, if_false, hb, Option.isNone_some, Sem.run_pure]
  unfold callK at h
  rw [Bool.and_eq_true] at h
  obtain ⟨hlen, h⟩ := h
  have hlen := blt_lt hlen
  split at h
  · rename_i v A1 ho
    obtain ⟨⟨fn, c, hf, hb⟩, hc⟩ := horc g args args' v A A1 f w ho hW ha
    refine ⟨enter fn c hf hb, hc.mono fun e w' ⟨f', v', he, hS, hv⟩ => ⟨f', v, v', A1, he, hS, hv, h⟩⟩
  · split at h
    · rename_i fn hf
      split at h
      · rename_i c hb
        refine ⟨enter fn c hf hb, ?_⟩
        refine callsIn_of_wp_marks hf hb trivial ?_
        have hT := TR.ofList ha hlen fn.ntmps
        have hl : args'.toArray.size = args.length := by simp [ha.1]
        refine wpIn_mono (hrec none c _ _ f { tmps := args'.toArray ++ Array.replicate (fn.ntmps - args'.toArray.size) undef, defers := [] } w Fence.wide rfl hW ⟨hT, .nil⟩ h) ?_
        rintro e a' w' ⟨f', st', hS, hA, hk⟩
        have fin : (match leaveA gm st'.A st'.a.d with
          | some A' => match resA P st'.a.t A'.h fn.results.toList with
            | some [v] => k v A'
            | some vs => k (.tuple vs.toArray) A'
            | none => false
          | none => false) = true → LeavesInM Fence.wide 0 P fn a'.tmps (fun e w' => ∃ f' v v' A', e = .returned v' ∧ Step base gm f A w f' A' w' ∧ VR f' v v' ∧ k v A' = true) a'.defers .returning w' := fun hk => by
          split at hk
          · rename_i A' hl
            refine leave_ok _ _ _ A' w' hA.d hS.wr hl fun w2 h2 => ?_
            split at hk
            · rename_i v hr
              obtain ⟨v', h3, h4⟩ := results_ok (P := P) h2.wr hA hr
              exact ⟨v', h3, f', v, v', A', rfl, hS.trans h2, h4, hk⟩
            · rename_i vs hne hr
              obtain ⟨v', h3, h4⟩ := results_ok (P := P) h2.wr hA hr
              refine ⟨v', h3, f', _, v', A', rfl, hS.trans h2, h4, ?_⟩
              have : oneV vs = .tuple vs.toArray := by
                unfold oneV
                split
                · exact (hne _ (by first | exact hr | rfl)).elim
                · rfl
              rw [this]
              exact hk
            · cases hk
          · cases hk
        cases e with
        | normal => exact fin hk
        | ret => exact fin hk
        | exit id => cases hk
        | goto l => cases hk
        | panic c => cases hk
        | outgrown => cases hk
      · cases h
    · cases h
end
end Go.Proofs.YtpfmjagbjdkdcaaGreatDoor.Am
