/- Texts of one proof, joined. -/
import Derived.Test.YtlfinaeklaimjaaGreatDoorSN05
import Derived.RangeFuncLeaves
import Derived.RangeFuncRecord
import Derived.OrdersIn
set_option linter.unusedSimpArgs false
set_option linter.unusedVariables false
namespace Go.Proofs.YtlfinaeklaimjaaGreatDoor
noncomputable section
end
end Go.Proofs.YtlfinaeklaimjaaGreatDoor
namespace Go.Proofs.YtlfinaeklaimjaaGreatDoor.Am
noncomputable section
open Go.Proofs.YtlfinaeklaimjaaGreatDoor Go.RowKit
inductive DR (f : Ren) : List Nat → List Deferred → Prop
  | nil : DR f [] []
  | cons {d L ds xs} (h : f d = some L) (hr : DR f ds xs) : DR f (d :: ds) ({ target := .collected L.blk, args := #[] } :: xs)
theorem DR.mono {f g : Ren} (h : f.le g) {ds : List Nat} {xs : List Deferred} (k : DR f ds xs) : DR g ds xs := by
  induction k with
  | nil => exact .nil
  | cons e _ ih => exact .cons (h _ _ e) ih
structure AcR (f : Ren) (a : Ac) (b : Act) : Prop where
  t : TR f a.t a.n b.tmps
  d : DR f a.d b.defers
theorem AcR.mono {f g : Ren} (h : f.le g) {a : Ac} {b : Act} (k : AcR f a b) : AcR g a b := ⟨k.t.mono h, k.d.mono h⟩
section
variable {P : Program} {base gm : Nat} {f : Ren} {A : AS} {w w1 : World}
theorem evA_tmp (t : HT Value) (i : Nat) : evA t (.tmp i) = (t.get i).getD undef := by
  show (match t.get i with | some v => v | none => undef) = _
  cases t.get i <;> rfl
theorem AcR.ev (hW : WR base gm f A w) {a : Ac} {b : Act} (h : AcR f a b) {x : Operand} (hx : opdOk gm A.h x = true) : VR f (evA a.t x) (b.eval x) := by
  cases x with
  | tmp i => rw [evA_tmp]; exact h.t.2 i
  | const v => exact noA_refl f 60 v hx
  | global g =>
    cases hb : Nat.blt g gm with
    | false => simp [opdOk, hb] at hx
    | true =>
      cases hg : A.h.get g with
      | none => simp [opdOk, hb, hg] at hx
      | some o => exact .ptr ⟨⟨g, 0, none⟩, hW.gl g o hg (blt_lt hb), rfl⟩
  | func g => exact .func (.same (by simp)) rfl (fun i v v' h => by simp at h) rfl (fun i v v' h => by simp at h)
theorem TR.put {t : HT Value} {n d : Nat} {tm : Array Value} (h : TR f t n tm) (hd : d < n) (hb : d < 1000000000000) {v v' : Value} (hv : VR f v v') : TR f (HT.set 64 t d (some v)) n (tm.setIfInBounds d v') := by
  refine ⟨by rw [Array.size_setIfInBounds]; exact h.1, fun i => ?_⟩
  rw [HT.get_set 64 t d i _ (Nat.lt_trans (by omega : d + 1 < 1000000000001) (by decide))]
  by_cases hi : i = d
  · subst hi
    rw [if_pos rfl, Array.getD_eq_getD_getElem?, Array.getElem?_setIfInBounds]
    simp [h.1, hd, hv]
  · rw [if_neg hi, Array.getD_eq_getD_getElem?, Array.getElem?_setIfInBounds, if_neg (fun e => hi e.symm), ← Array.getD_eq_getD_getElem?]
    exact h.2 i
theorem AcR.put {a : Ac} {b : Act} (h : AcR f a b) {o : Oper} (ho : dstOk a.n o = true) {v v' : Value} (hv : VR f v v') : AcR f (a.put o.dst v) (b.put o.dst v') := by
  unfold dstOk at ho
  cases hd : o.dst with
  | none => exact h
  | some d =>
    rw [hd] at ho
    simp only [Bool.and_eq_true] at ho
    exact ⟨h.t.put (blt_lt ho.1) (blt_lt ho.2) hv, h.d⟩
theorem ofList_get : ∀ (l : List Value) (i : Nat) (t : HT Value) (j : Nat), i + l.length < 1000000000000 → (ofList l i t).get j = if i ≤ j ∧ j < i + l.length then l[j - i]? else t.get j
  | [], i, t, j, _ => by
    rw [ofList, if_neg (by rintro ⟨h1, h2⟩; simp at h2; omega)]
  | v :: l, i, t, j, h => by
    rw [List.length_cons] at h ⊢
    rw [ofList, ofList_get l (i + 1) _ j (by omega), HT.get_set 64 t i j _ (Nat.lt_trans (by omega : i + 1 < 1000000000001) (by decide))]
    by_cases h1 : i + 1 ≤ j ∧ j < i + 1 + l.length
    · rw [if_pos h1, if_pos (by omega), show j - i = (j - (i + 1)) + 1 by omega]
      rfl
    · rw [if_neg h1]
      by_cases h2 : j = i
      · subst h2
        rw [if_pos rfl, if_pos (by omega), Nat.sub_self]
        rfl
      · rw [if_neg h2, if_neg (by omega)]
theorem TR.ofList {args args' : List Value} (h : LR f args args') (hb : args.length < 1000000) (m : Nat) : TR f (Am.ofList args 0 .nil) (args.length + (m - args.length)) (args'.toArray ++ Array.replicate (m - args'.toArray.size) undef) := by
  have hl := h.1
  refine ⟨by simp [hl], fun i => ?_⟩
  rw [ofList_get _ _ _ _ (by omega), Array.getD_eq_getD_getElem?]
  by_cases hi : i < args.length
  · rw [if_pos (by omega), Nat.sub_zero, Array.getElem?_append_left (by simp; omega)]
    obtain ⟨v', e, hv⟩ := h.get (List.getElem?_eq_getElem hi)
    rw [List.getElem?_eq_getElem hi]
    simp only [List.getElem?_toArray, e, Option.getD_some]
    exact hv
  · rw [if_neg (by omega), HT.get_nil, Array.getElem?_append_right (by simp; omega)]
    have : ((Array.replicate (m - args'.toArray.size) undef)[i - args'.toArray.size]?).getD undef = undef := by
      rw [Array.getElem?_replicate]
      split <;> rfl
    rw [this]
    exact .tuple' (.nil f)
theorem undefVR (f : Ren) : VR f undef undef := .tuple' (.nil f)
theorem resA_ok (hW : WR base gm f A w) {a : Ac} {b : Act} (h : AcR f a b) {G : ResultVar → Sem Value} (hG1 : ∀ t, G (.tmp t) = pure (b.tmps.getD t undef)) (hG2 : ∀ c t, G (.cell c t) = do loadVar t (← asAddr (b.tmps.getD c undef))) :
    ∀ (l : List ResultVar) (vs : List Value), resA P a.t A.h l = some vs → ∃ vs', (l.mapM G : Sem (List Value)).run P w = .ok vs' w ∧ LR f vs vs'
  | [], vs, hr => by cases hr; exact ⟨[], by simp, .nil f⟩
  | .tmp i :: l, vs, hr => by
    rw [resA] at hr
    split at hr
    · rename_i vs2 h2
      cases hr
      obtain ⟨vs', h3, h4⟩ := resA_ok hW h hG1 hG2 l vs2 h2
      refine ⟨b.tmps.getD i undef :: vs', ?_, .cons (by rw [evA_tmp]; exact h.t.2 i) h4⟩
      rw [List.mapM_cons, hG1]
      simp only [Sem.run_bind, Sem.run_pure, Result.andThen_ok, h3]
    · cases hr
  | .cell c ty :: l, vs, hr => by
    rw [resA] at hr
    split at hr
    · rename_i ad hc
      split at hr
      · rename_i v vs2 hv h2
        cases hr
        obtain ⟨vs', h3, h4⟩ := resA_ok hW h hG1 hG2 l vs2 h2
        rw [evA_tmp] at hc
        have hp := h.t.2 c
        rw [hc] at hp
        obtain ⟨a', e, ha⟩ := hp.ptr_inv
        obtain ⟨v', h5, h6⟩ := loadA_ok (P := P) hW ha hv
        refine ⟨v' :: vs', ?_, .cons h6 h4⟩
        have hA : (asAddr (b.tmps.getD c undef)).run P w = .ok a' w := by rw [e]; rfl
        rw [List.mapM_cons, hG2]
        simp only [Sem.run_bind, hA, Sem.run_pure, Result.andThen_ok, h5, h3]
      · cases hr
    · cases hr
def oneV : List Value → Value
  | [v] => v
  | vs => .tuple vs.toArray
theorem mapM_then (hW : WR base gm f A w) {a : Ac} {b : Act} (h : AcR f a b) {l : List ResultVar} {vs : List Value} (hr : resA P a.t A.h l = some vs) {G : ResultVar → Sem Value} (hG1 : ∀ t, G (.tmp t) = pure (b.tmps.getD t undef))
    (hG2 : ∀ c t, G (.cell c t) = do loadVar t (← asAddr (b.tmps.getD c undef))) :
    ∃ v', (((Sem.run P (List.mapM G l) w).andThen fun a w' => Result.ok a.toArray w').andThen fun a w' => Sem.run P (pure (if h : a.size = 1 then a[0] else Value.tuple a)) w') = .ok v' w ∧ VR f (oneV vs) v' := by
  obtain ⟨vs', h1, h2⟩ := resA_ok (P := P) (w := w) hW h hG1 hG2 _ vs hr
  rw [h1]
  simp only [Result.andThen_ok, Sem.run_pure]
  refine ⟨_, rfl, ?_⟩
  match vs, vs', h2 with
  | [v], [v'], h2 => exact h2.tail.1
  | [], [], h2 => exact .tuple' (.nil f)
  | v :: u :: l, [], h2 => have := h2.1; simp at this
  | v :: u :: l, [v'], h2 => have := h2.1; simp at this
  | v :: u :: l, v' :: u' :: l', h2 =>
    rw [dif_neg (by simp)]
    exact .tuple' h2
  | [], _ :: _, h2 => have := h2.1; simp at this
  | [v], [], h2 => have := h2.1; simp at this
  | [v], _ :: _ :: _, h2 => have := h2.1; simp at this
theorem results_ok (hW : WR base gm f A w) {a : Ac} {b : Act} (h : AcR f a b) {fn : Func} {vs : List Value} (hr : resA P a.t A.h fn.results.toList = some vs) :
    ∃ v', (results fn b.tmps).run P w = .ok v' w ∧ VR f (oneV vs) v' := by
  unfold results
  rw [Sem.run_bind, Array.mapM_eq_mapM_toList]
  simp only [Sem.run_map]
  exact mapM_then hW h hr (fun _ => rfl) (fun _ _ => rfl)
theorem leave_ok {fn : Func} {tm : Array Value} {R : Ending → World → Prop} : ∀ (ds : List Nat) (xs : List Deferred) (A A' : AS) (w : World), DR f ds xs → WR base gm f A w → leaveA gm A ds = some A' →
    (∀ w2, Step base gm f A w f A' w2 → ∃ v, (results fn tm).run P w2 = .ok v w2 ∧ R (.returned v) w2) → LeavesInM Fence.wide 0 P fn tm R xs .returning w
  | [], xs, A, A', w, hD, hW, h, hk => by
    cases hD
    cases h
    exact hk w (Step.refl hW)
  | d :: ds, xs, A, A', w, hD, hW, h, hk => by
    cases hD with
    | cons hd hr =>
      rename_i L xs
      rw [leaveA] at h
      split at h
      · rename_i hg hgm
        have hgm := Nat.le_of_ble_eq_true hgm
        obtain ⟨l, o', hl, hl0, hw, ho⟩ := itObj hW hg (by simp)
        rw [hd] at hl
        cases hl
        cases ho
        have hS := Step.lose (w1 := w.putObj L.blk (.deferred none)) hW hg hd hgm rfl ⟨rfl, rfl, rfl⟩
        refine ⟨by simp, .inl ⟨L.blk, _, rfl, run_takeDeferred hw, ?_⟩⟩
        exact leave_ok ds xs _ A' _ hr hS.wr h fun w2 h2 => hk w2 (hS.trans h2)
      · cases h
def FOk (f : Ren) (rd : Option Nat) (F : Fence) : Prop :=
  match rd with
  | none => F = Fence.wide
  | some l => ∃ L, f l = some L ∧ F = Fence.wide.inRound L.blk
theorem FOk.mono {f g : Ren} (h : f.le g) {rd : Option Nat} {F : Fence} (k : FOk f rd F) : FOk g rd F := by
  cases rd with
  | none => exact k
  | some l => obtain ⟨L, h1, h2⟩ := k; exact ⟨L, h _ _ h1, h2⟩
theorem FOk.calls {rd : Option Nat} {F : Fence} (k : FOk f rd F) {n : Nat} {g : FuncId} {args : Array Value} {R : Ending → World → Prop} (h : CallsIn Fence.wide n P g args w R) : CallsIn F n P g args w R := by
  cases rd with
  | none => cases k; exact h
  | some l => obtain ⟨L, _, rfl⟩ := k; exact h
theorem FOk.rounds {rd : Option Nat} {F : Fence} (k : FOk f rd F) {n l : Nat} {g : FuncId} {tm : Array Value} {asn b : Code} {R : Ending → World → Prop} (h : RoundIn Fence.wide n P l g tm asn b w R) : RoundIn F n P l g tm asn b w R := by
  cases rd with
  | none => cases k; exact h
  | some l => obtain ⟨L, _, rfl⟩ := k; exact h
theorem FOk.fn {rd : Option Nat} {F : Fence} (k : FOk f rd F) (g : FuncId) : F.fn g := by
  cases rd with
  | none => cases k; exact trivial
  | some l => obtain ⟨L, _, rfl⟩ := k; exact trivial
theorem FOk.depth {rd : Option Nat} {F : Fence} (k : FOk f rd F) : F.depth = none := by
  cases rd with
  | none => cases k; rfl
  | some l => obtain ⟨L, _, rfl⟩ := k; rfl
end
def Snd (P : Program) (base gm : Nat) (rec : Rec) : Prop :=
  ∀ (rd : Option Nat) (c : Code) (st : St) (k : Kt) (f : Ren) (a : Act) (w : World) (F : Fence), FOk f rd F → WR base gm f st.A w → AcR f st.a a → rec rd c st k = true →
    c.wpIn F 0 P (fun e a' w' => ∃ f' st', Step base gm f st.A w f' st'.A w' ∧ AcR f' st'.a a' ∧ k e st' = true) a w
def OrcOk (P : Program) (base gm : Nat) (orc : Orc) : Prop :=
  ∀ (g : FuncId) (args args' : List Value) (v : Value) (A A1 : AS) (f : Ren) (w : World), orc g args A = some (v, A1) → WR base gm f A w → LR f args args' →
    (∃ fn c, P.funcs[g]? = some fn ∧ fn.body = some c) ∧ CallsIn Fence.wide 0 P g args'.toArray w fun e w' => ∃ f' v', e = .returned v' ∧ Step base gm f A w f' A1 w' ∧ VR f' v v'
section
variable {P : Program} {base gm : Nat} {orc : Orc} {rec : Rec} {f : Ren} {A : AS} {w w1 : World}
theorem callK_ok (hrec : Snd P base gm rec) (horc : OrcOk P base gm orc) (hnum : ∀ (g : Nat) fn, P.funcs[g]? = some fn → fn.name ≠ "runtime.NumGoroutine") (hW : WR base gm f A w) {g : FuncId} {args args' : List Value} (ha : LR f args args')
    {k : Value → AS → Bool} (h : callK P gm orc rec g args A k = true) :
    (∀ w, (callFunc g args'.toArray).run P w = .ok (.enter g args'.toArray) w) ∧ CallsIn Fence.wide 0 P g args'.toArray w fun e w' => ∃ f' v v' A', e = .returned v' ∧ Step base gm f A w f' A' w' ∧ VR f' v v' ∧ k v A' = true := by
  have enter : ∀ fn c, P.funcs[g]? = some fn → fn.body = some c → ∀ w, (callFunc g args'.toArray).run P w = .ok (.enter g args'.toArray) w := fun fn c hf hb w => by
    have hn : (fn.name == "runtime.NumGoroutine") = false := by
      have := hnum g fn hf
      simpa using this
    simp only [callFunc, Sem.run_bind, run_program, Result.andThen_ok, hf, hn, Bool.false_eq_true, if_false, hb, Option.isNone_some, Sem.run_pure]
  unfold callK at h
  rw [Bool.and_eq_true] at h
  obtain ⟨hlen, h⟩ := h
  have hlen := blt_lt hlen
  split at h
  · rename_i v A1 ho
    obtain ⟨⟨fn, c, hf, hb⟩, hc⟩ := horc g args args' v A A1 f w ho hW ha
    refine ⟨enter fn c hf hb, hc.mono fun e w' ⟨f', v', he, hS, hv⟩ => ⟨f', v, v', A1, he, hS, hv, h⟩⟩
  · split at h
    · rename_i fn hf
      split at h
      · rename_i c hb
        refine ⟨enter fn c hf hb, ?_⟩
        refine callsIn_of_wp_marks hf hb trivial ?_
        have hT := TR.ofList ha hlen fn.ntmps
        have hl : args'.toArray.size = args.length := by simp [ha.1]
        refine wpIn_mono (hrec none c _ _ f { tmps := args'.toArray ++ Array.replicate (fn.ntmps - args'.toArray.size) undef, defers := [] } w Fence.wide rfl hW ⟨hT, .nil⟩ h) ?_
        rintro e a' w' ⟨f', st', hS, hA, hk⟩
        have fin : (match leaveA gm st'.A st'.a.d with
          | some A' => match resA P st'.a.t A'.h fn.results.toList with
            | some [v] => k v A'
            | some vs => k (.tuple vs.toArray) A'
            | none => false
          | none => false) = true → LeavesInM Fence.wide 0 P fn a'.tmps (fun e w' => ∃ f' v v' A', e = .returned v' ∧ Step base gm f A w f' A' w' ∧ VR f' v v' ∧ k v A' = true) a'.defers .returning w' := fun hk => by
          split at hk
          · rename_i A' hl
            refine leave_ok _ _ _ A' w' hA.d hS.wr hl fun w2 h2 => ?_
            split at hk
            · rename_i v hr
              obtain ⟨v', h3, h4⟩ := results_ok (P := P) h2.wr hA hr
              exact ⟨v', h3, f', v, v', A', rfl, hS.trans h2, h4, hk⟩
            · rename_i vs hne hr
              obtain ⟨v', h3, h4⟩ := results_ok (P := P) h2.wr hA hr
              refine ⟨v', h3, f', _, v', A', rfl, hS.trans h2, h4, ?_⟩
              have : oneV vs = .tuple vs.toArray := by
                unfold oneV
                split
                · exact (hne _ (by first | exact hr | rfl)).elim
                · rfl
              rw [this]
              exact hk
            · cases hk
          · cases hk
        cases e with
        | normal => exact fin hk
        | ret => exact fin hk
        | exit id => cases hk
        | goto l => cases hk
        | panic c => cases hk
        | outgrown => cases hk
      · cases h
    · cases h
end
end
end Go.Proofs.YtlfinaeklaimjaaGreatDoor.Am
namespace Go.Proofs.YtlfinaeklaimjaaGreatDoor
noncomputable section
end
end Go.Proofs.YtlfinaeklaimjaaGreatDoor
namespace Go.Proofs.YtlfinaeklaimjaaGreatDoor.Am
noncomputable section
open Go.Proofs.YtlfinaeklaimjaaGreatDoor Go.RowKit
section
variable {P : Program} {base gm : Nat} {orc : Orc} {rec : Rec} {f : Ren} {A : AS} {w w1 : World}
theorem setPs_ok : ∀ (ps : List Tmp) (vs vs' : List Value) (t t' : HT Value) (n : Nat) (tm : Array Value), setPs t n ps vs = some t' → TR f t n tm → LR f vs vs' →
    ps.length = vs.length ∧ TR f t' n ((ps.zip vs').foldl (fun (tm : Array Value) (p : Tmp × Value) => tm.setIfInBounds p.1 p.2) tm)
  | [], [], vs', t, t', n, tm, h, hT, hv => by
    cases h
    exact ⟨rfl, by simpa using hT⟩
  | [], _ :: _, _, _, _, _, _, h, _, _ => by simp [setPs] at h
  | _ :: _, [], _, _, _, _, _, h, _, _ => by simp [setPs] at h
  | p :: ps, v :: vs, [], _, _, _, _, _, _, hv => by have := hv.1; simp at this
  | p :: ps, v :: vs, v' :: vs', t, t', n, tm, h, hT, hv => by
    rw [setPs] at h
    split at h
    · rename_i hb
      simp only [Bool.and_eq_true] at hb
      obtain ⟨h1, h2⟩ := hv.tail
      obtain ⟨h3, h4⟩ := setPs_ok ps vs vs' _ t' n _ h (hT.put (blt_lt hb.1) (blt_lt hb.2) h1) h2
      exact ⟨by simp [h3], h4⟩
    · cases h
theorem loopObj (hW : WR base gm f A w) {l : Nat} {st : LoopState} {pe : Option Code} {t : HT Value} {n : Nat} {ps : Array Tmp} {asn b : Code} {d : Nat} (hg : A.h.get l = some (.loop st pe t n ps asn b d)) :
    ∃ L D fn tm, f l = some L ∧ L = ⟨L.blk, 0, none⟩ ∧ f d = some D ∧ TR f t n tm ∧ w.heap[L.blk]? = some (.loop { state := st, pending := pe, fn, tmps := tm, params := ps, assign := asn, body := b, defers := D.blk }) := by
  obtain ⟨L, o', hl, hl0, hw, ho⟩ := itObj hW hg (by simp)
  cases ho with
  | loop hd ht => exact ⟨L, _, _, _, hl, hl0, hd, ht, hw⟩
abbrev RR (base gm : Nat) (f : Ren) (A : AS) (w : World) (k : Value → AS → Bool) : Ending → World → Prop := fun e w' => ∃ f' v v' A', e = .returned v' ∧ Step base gm f A w f' A' w' ∧ VR f' v v' ∧ k v A' = true
theorem yieldK_ok (hrec : Snd P base gm rec) (hW : WR base gm f A w) {l : Nat} {args args' : List Value} (ha : LR f args args') {k : Value → AS → Bool} (h : yieldK gm rec l args A k = true) :
    ∃ L fn tm asn b, f l = some L ∧ (∀ w2 : World, w2 = w → (Instr.yield L.blk args'.toArray).run P w2 = .ok (.round L.blk fn tm asn b) w2) ∧ RoundIn Fence.wide 0 P L.blk fn tm asn b w (RR base gm f A w k) := by
  unfold yieldK at h
  split at h
  · rename_i st0 pe0 t n ps asn b d0 hg hgl
    have hgl := Nat.le_of_ble_eq_true hgl
    obtain ⟨L, D, fn, tm, hl, hl0, hd, hT, hw⟩ := loopObj hW hg
    split at h
    · rename_i t' hps
      obtain ⟨hlen, hT'⟩ := setPs_ok ps.toList args args' t t' n tm hps hT ha
      have hsz : args'.toArray.size = ps.size := by rw [List.size_toArray, ← ha.1, ← hlen]; simp
      have hfold : ((ps.zip args'.toArray).foldl (fun (tm : Array Value) (p : Tmp × Value) => tm.setIfInBounds p.1 p.2) tm) = (ps.toList.zip args').foldl (fun (tm : Array Value) (p : Tmp × Value) => tm.setIfInBounds p.1 p.2) tm := by
        rw [← Array.foldl_toList, Array.toList_zip]
      refine ⟨L, fn, _, asn, b, hl, fun w2 e => by rw [e]; exact run_yield hw hsz, ?_⟩
      refine roundIn_of_wpIn trivial ?_
      refine wpIn_mono (hrec (some l) asn _ _ f { tmps := _, defers := [] } w (Fence.wide.inRound L.blk) ⟨L, hl, rfl⟩ hW ⟨by rw [← hfold] at hT'; exact hT', .nil⟩ h) ?_
      rintro e a1 w1 ⟨f1, st1, hS1, hA1, hk1⟩
      split at hk1
      · rename_i e1 ob pe t1 n1 ps1 as1 b1 d1 hg1
        have hl1 : f1 l = some L := hS1.le hW l L hl
        obtain ⟨L1, D1, fn1, tm1, hl2, _, hd1, hT1, hw1⟩ := loopObj hS1.wr hg1
        rw [hl1] at hl2
        cases hl2
        have hlt1 := (Array.getElem?_eq_some_iff.1 hw1).1
        have hS2 := Step.obj (o1 := .loop .busy pe t1 n1 ps1 as1 b1 d1) hS1.wr hg1 hl1 hl0 hgl hlt1 (.loop (fn := fn1) hd1 hT1)
        refine ⟨_, run_beginRound hw1 rfl, ?_⟩
        refine wpIn_mono (hrec (some l) b ⟨st1.a, put st1.A l (some (.loop .busy pe t1 n1 ps1 as1 b1 d1))⟩ _ f1 a1 _ (Fence.wide.inRound L.blk) ⟨L, hl1, rfl⟩ hS2.wr hA1 hk1) ?_
        rintro e2 a2 w2 ⟨f2, st2, hS3, hA2, hk2⟩
        split at hk2
        · rename_i ob2 s2 pe2 t2 n2 ps2 as2 b2 d2 hg2
          have hl3 : f2 l = some L := hS3.le hS2.wr l L hl1
          obtain ⟨L2, D2, fn2, tm2, hl4, _, hd2, hT2, hw2⟩ := loopObj hS3.wr hg2
          rw [hl3] at hl4
          cases hl4
          have hlt2 := (Array.getElem?_eq_some_iff.1 hw2).1
          have fin : ∀ (jump : Option Code) (o1 : AObj), o1 = .loop (if jump.isNone then .ready else .done) jump t2 n2 ps2 as2 b2 d2 → k (.bool jump.isNone) (put st2.A l (some o1)) = true →
              ∃ v w', (Instr.endRound L.blk jump).run P w2 = .ok v w' ∧ RR base gm f A w k (.returned v) w' := fun jump o1 ho hk => by
            have hS4 := Step.obj (o1 := o1) hS3.wr hg2 hl3 hl0 hgl hlt2 (o' := .loop { state := if jump.isNone then .ready else .done, pending := jump, fn := fn2, tmps := tm2, params := ps2, assign := as2, body := b2, defers := D2.blk }) (by rw [ho]; exact .loop hd2 hT2)
            exact ⟨_, _, run_endRound jump hw2, f2, .bool jump.isNone, _, _, rfl, ((hS1.trans hS2).trans hS3).trans hS4, .bool _, hk⟩
          cases e2 with
          | normal => exact fin none _ rfl hk2
          | ret => exact fin (some .ret) _ rfl hk2
          | exit i => exact fin (some (.exit i)) _ rfl hk2
          | goto i => exact fin (some (.goto i)) _ rfl hk2
          | panic c => cases hk2
          | outgrown => cases hk2
        · cases hk2
      · cases hk1
    · cases h
  · cases h
section
variable {o : Oper} {a : Act} {next : Act → World → Prop} {Q : Exit → Act → World → Prop} {F : Fence} {rd : Option Nat}
theorem wp_val (hF : FOk f rd F) (hd : ∀ c, o.op ≠ .defer c) {v' : Value} {w' : World} (h : (execOp a.eval o).run P w = .ok (.value v') w') (hn : next (a.put o.dst v') w') : o.wpIn F 0 P a w next Q :=
  ⟨fun g _ => hF.fn g, by rw [Oper.semAt_eq _ _ _ hd, h]; exact hn⟩
theorem wp_skp (hF : FOk f rd F) (hd : ∀ c, o.op ≠ .defer c) {w' : World} (h : (execOp a.eval o).run P w = .ok .skip w') (hn : next (a.put o.dst undef) w') : o.wpIn F 0 P a w next Q :=
  ⟨fun g _ => hF.fn g, by rw [Oper.semAt_eq _ _ _ hd, h]; exact hn⟩
theorem wp_enter (hF : FOk f rd F) (hd : ∀ c, o.op ≠ .defer c) {g : FuncId} {args : Array Value} (h : (execOp a.eval o).run P w = .ok (.enter g args) w) {R : Ending → World → Prop} (hc : CallsIn Fence.wide 0 P g args w R)
    (hR : ∀ e w', R e w' → ∃ v', e = .returned v' ∧ next (a.put o.dst v') w') : o.wpIn F 0 P a w next Q :=
  ⟨fun g _ => hF.fn g, by
    rw [Oper.semAt_eq _ _ _ hd, h]
    refine ⟨fun hd => (by rw [hF.depth] at hd; cases hd), hF.calls (hc.mono fun e w' he => ?_)⟩
    obtain ⟨v', rfl, hn⟩ := hR e w' he
    exact hn⟩
theorem wp_round (hF : FOk f rd F) (hd : ∀ c, o.op ≠ .defer c) {l : Nat} {g : FuncId} {tm : Array Value} {asn b : Code} (h : (execOp a.eval o).run P w = .ok (.round l g tm asn b) w) {R : Ending → World → Prop} (hc : RoundIn Fence.wide 0 P l g tm asn b w R)
    (hR : ∀ e w', R e w' → ∃ v', e = .returned v' ∧ next (a.put o.dst v') w') : o.wpIn F 0 P a w next Q :=
  ⟨fun g _ => hF.fn g, by
    rw [Oper.semAt_eq _ _ _ hd, h]
    refine ⟨fun hd => (by rw [hF.depth] at hd; cases hd), hF.rounds (hc.mono fun e w' he => ?_)⟩
    obtain ⟨v', rfl, hn⟩ := hR e w' he
    exact hn⟩
theorem methodV_ok {name : String} : ∀ (n : Nat) (t : TypeId) (v v' : Value) (g : FuncId) (r : Value), VR f v v' → methodV P n t v name = some (g, r) → ∀ (fuel : Nat), n ≤ fuel → ∀ w, ∃ r', (method fuel t v' name).run P w = .ok (g, r') w ∧ VR f r r'
  | 0, _, _, _, _, _, _, h, _, _, _ => by cases h
  | n + 1, t, v, v', g, r, hv, h, fuel, hfu, w => by
    obtain ⟨q, rfl⟩ : ∃ q, fuel = q + 1 := ⟨fuel - 1, by omega⟩
    rw [method]
    unfold methodV at h
    split at h
    · rename_i i hi
      split at h
      · rename_i m d hm hu
        split at h
        · rename_i hp hf
          cases h
          exact ⟨v', by simp only [Sem.run_bind, run_typeInfo' hi, Result.andThen_ok, hm, hp, follow, Sem.run_pure, hf, receiverAt, run_underlying hu, Place.get], hv⟩
        · cases h
        · rename_i hp hf hne
          cases h
          exact ⟨v', by simp only [Sem.run_bind, run_typeInfo' hi, Result.andThen_ok, hm, hp, follow, Sem.run_pure, hf, receiverAt, run_underlying hu, Place.get], hv⟩
        · rename_i s hp hf
          split at h
          · rename_i fs cs hd hs
            split at h
            · rename_i fd hfd
              split at h
              · rename_i t' u hpa
                obtain ⟨cs', rfl, hl⟩ := hv.agg_inv
                obtain ⟨x', hr, hx⟩ := partA_ok hl hpa w
                obtain ⟨u', rfl, hu'⟩ : ∃ u', x' = .iface t' u' ∧ VR f u u' := by
                  generalize x' = z at hx
                  cases hx with | iface _ hx => exact ⟨_, rfl, hx⟩
                obtain ⟨r', h1, h2⟩ := methodV_ok n t' u u' g r hu' h q (by omega) w
                refine ⟨r', ?_, h2⟩
                simp only [Sem.run_bind, run_typeInfo' hi, Result.andThen_ok, hm, hp, follow, run_underlying hs, hfd, hd, Bool.false_eq_true, if_false, hr, Sem.run_pure, hf, Place.get, h1]
              · cases h
            · cases h
          · cases h
        · cases h
      · cases h
    · cases h
theorem args_cat (first cap : Array Value) (args : Array Operand) (ρ : Operand → Value) : first ++ args.map ρ ++ cap = (first.toList ++ args.toList.map ρ ++ cap.toList).toArray := by
  apply Array.ext'
  simp
theorem AVR.list {x x' : Array Value} (h : x.size = x'.size) (hs : ∀ (i : Nat) (v v' : Value), x[i]? = some v → x'[i]? = some v' → VR f v v') : LR f x.toList x'.toList := ⟨by simpa using h, fun i v v' a b => hs i v v' (by simpa using a) (by simpa using b)⟩
set_option maxHeartbeats 1000000 in
theorem effK_ok (hrec : Snd P base gm rec) (horc : OrcOk P base gm orc) (hnum : ∀ (g : Nat) fn, P.funcs[g]? = some fn → fn.name ≠ "runtime.NumGoroutine") (hW : WR base gm f A w) (hnx : A.nx < 1000000000) (hF : FOk f rd F) {ρ : Operand → Value}
    (hρ : ∀ x ∈ o.op.operands, VR f (ρ x) (a.eval x)) {k : Value → AS → Bool} (h : effK P gm orc rec ρ o A k = true)
    (hn : ∀ f' v v' A' w', Step base gm f A w f' A' w' → VR f' v v' → k v A' = true → next (a.put o.dst v') w') : o.wpIn F 0 P a w next Q := by
  obtain ⟨dst, op, type, pos, after, guard⟩ := o
  have one : ∀ {x : Option (Value × AS)}, oneK x k = true → ∃ v A', x = some (v, A') ∧ k v A' = true := fun {x} h => by
    unfold oneK at h
    split at h
    · exact ⟨_, _, rfl, h⟩
    · cases h
  have hR : ∀ e w', RR base gm f A w k e w' → ∃ v', e = .returned v' ∧ next (a.put dst v') w' := fun e w' ⟨f', v, v', A', he, hS, hv, hk⟩ => ⟨v', he, hn f' v v' A' w' hS hv hk⟩
  unfold effK at h
  cases op with
  | store t x v =>
    obtain ⟨u, A', e, hk⟩ := one h
    obtain ⟨w', hr, hS, rfl⟩ := eStore_ok (P := P) hW (hρ x (by simp [Op.operands])) (hρ v (by simp [Op.operands])) e
    exact wp_skp hF (by simp) (w' := w') (by simp only [execOp, Sem.run_bind, hr, Result.andThen_ok, Sem.run_pure]) (hn f undef undef A' w' hS (undefVR f) hk)
  | mapUpdate t m x v =>
    obtain ⟨u, A', e, hk⟩ := one h
    obtain ⟨w', hr, hS, rfl⟩ := eMapUpdate_ok (P := P) hW (hρ m (by simp [Op.operands])) (hρ x (by simp [Op.operands])) (hρ v (by simp [Op.operands])) e
    exact wp_skp hF (by simp) (w' := w') (by simp only [execOp, Sem.run_bind, hr, Result.andThen_ok, Sem.run_pure]) (hn f undef undef A' w' hS (undefVR f) hk)
  | insert t m x v =>
    obtain ⟨u, A', e, hk⟩ := one h
    obtain ⟨w', hr, hS, rfl⟩ := eMapUpdate_ok (P := P) hW (hρ m (by simp [Op.operands])) (hρ x (by simp [Op.operands])) (hρ v (by simp [Op.operands])) e
    exact wp_skp hF (by simp) (w' := w') (by simp only [execOp, Sem.run_bind, hr, Result.andThen_ok, Sem.run_pure]) (hn f undef undef A' w' hS (undefVR f) hk)
  | mapEntry t m x =>
    obtain ⟨u, A', e, hk⟩ := one h
    obtain ⟨u', w', hr, hS, hv⟩ := eMapEntry_ok (P := P) hW (hρ m (by simp [Op.operands])) (hρ x (by simp [Op.operands])) e
    exact wp_val hF (by simp) (w' := w') (vrun hr) (hn f u u' A' w' hS hv hk)
  | entryStore t m s v =>
    obtain ⟨u, A', e, hk⟩ := one h
    obtain ⟨w', hr, hS, rfl⟩ := eEntryStore_ok (P := P) (t := t) hW (hρ m (by simp [Op.operands])) (hρ s (by simp [Op.operands])) (hρ v (by simp [Op.operands])) e
    exact wp_skp hF (by simp) (w' := w') (by simp only [execOp, Sem.run_bind, hr, Result.andThen_ok, Sem.run_pure]) (hn f undef undef A' w' hS (undefVR f) hk)
  | next x s =>
    dsimp only at h
    split at h
    · rename_i L hL
      obtain ⟨p, hp, v', w', hr, hS, hv⟩ := eNext_ok (P := P) (ty := type) hW (hρ x (by simp [Op.operands])) hL
      exact wp_val hF (by simp) (w' := w') (vrun hr) (hn f p.1 v' p.2 w' hS hv (List.all_eq_true.1 h p hp))
    · cases h
  | convert s d x =>
    obtain ⟨u, A', e, hk⟩ := one h
    obtain ⟨u', w', hr, hS, hv⟩ := eMark_ok (P := P) hW (hρ x (by simp [Op.operands])) e
    exact wp_val hF (by simp) (w' := w') (vrun hr) (hn f u u' A' w' hS hv hk)
  | call c =>
    obtain ⟨callee, args, ts⟩ := c
    have hargs : LR f (args.toList.map ρ) (args.toList.map a.eval) := LR.map _ _ _ fun x hx => hρ x (by cases callee <;> simp [Op.operands, Call.operands] <;> first | exact .inr (by simpa using hx) | (simpa using hx))
    cases callee with
    | builtin b =>
      have two : ∀ {x y : Operand}, args.toList = [x, y] → args.map a.eval = #[a.eval x, a.eval y] ∧ VR f (ρ x) (a.eval x) ∧ VR f (ρ y) (a.eval y) := fun {x y} e => by
        refine ⟨by apply Array.ext'; rw [Array.toList_map, e]; rfl, hρ x ?_, hρ y ?_⟩
        · simp only [Op.operands, Call.operands]
          have : x ∈ args.toList := by rw [e]; simp
          simpa using this
        · simp only [Op.operands, Call.operands]
          have : y ∈ args.toList := by rw [e]; simp
          simpa using this
      cases b with
      | append =>
        dsimp only at h
        split at h
        · rename_i s x e
          obtain ⟨u, A', e1, hk⟩ := one h
          obtain ⟨h1, h2, h3⟩ := two e
          obtain ⟨f', v', w', hr, hS, hv⟩ := eAppend_ok (P := P) (ty := type) hW hnx h2 h3 e1
          exact wp_val hF (by simp) (w' := w') (by simp only [execOp, resolve, Sem.run_bind, Sem.run_pure, Result.andThen_ok, invoke, builtin, h1, hr]) (hn f' u v' A' w' hS hv hk)
        · cases h
      | copy =>
        dsimp only at h
        split at h
        · rename_i s x e
          obtain ⟨u, A', e1, hk⟩ := one h
          obtain ⟨h1, h2, h3⟩ := two e
          obtain ⟨w', hr, hS, hv⟩ := eCopy_ok (P := P) (ty := type) hW h2 h3 e1
          exact wp_val hF (by simp) (w' := w') (by simp only [execOp, resolve, Sem.run_bind, Sem.run_pure, Result.andThen_ok, invoke, builtin, h1, hr]) (hn f u u A' w' hS hv hk)
        · cases h
      | delete =>
        dsimp only at h
        split at h
        · rename_i s x e
          obtain ⟨u, A', e1, hk⟩ := one h
          obtain ⟨h1, h2, h3⟩ := two e
          obtain ⟨v', w', hr, hS, hv⟩ := eDelete_ok (P := P) (ty := type) hW h2 h3 e1
          exact wp_val hF (by simp) (w' := w') (by simp only [execOp, resolve, Sem.run_bind, Sem.run_pure, Result.andThen_ok, invoke, builtin, h1, hr]) (hn f u v' A' w' hS hv hk)
        · cases h
      | unsafeSliceData =>
        dsimp only at h
        split at h
        · rename_i x e
          obtain ⟨u, A', e1, hk⟩ := one h
          have h2 : VR f (ρ x) (a.eval x) := hρ x (by
            simp only [Op.operands, Call.operands]
            have : x ∈ args.toList := by rw [e]; simp
            simpa using this)
          have h1 : args.map a.eval = #[a.eval x] := by apply Array.ext'; rw [Array.toList_map, e]; rfl
          obtain ⟨v', w', hr, hS, hv⟩ := eData_ok (P := P) (ts := ts) (ty := type) hW h2 e1
          exact wp_val hF (by simp) (w' := w') (by simp only [execOp, resolve, Sem.run_bind, Sem.run_pure, Result.andThen_ok, invoke, builtin, h1, hr]) (hn f u v' A' w' hS hv hk)
        · cases h
      | unsafeString =>
        dsimp only at h
        split at h
        · rename_i s x e
          obtain ⟨u, A', e1, hk⟩ := one h
          obtain ⟨h1, h2, h3⟩ := two e
          obtain ⟨w', hr, hS, hv⟩ := eText_ok (P := P) (ty := type) hW h2 h3 e1
          exact wp_val hF (by simp) (w' := w') (by simp only [execOp, resolve, Sem.run_bind, Sem.run_pure, Result.andThen_ok, invoke, builtin, h1, hr]) (hn f u u A' w' hS hv hk)
        · cases h
      | _ => cases h
    | value g =>
      have hg := hρ g (by simp [Op.operands, Call.operands])
      dsimp only at h
      split at h
      · rename_i gf first cap e
        rw [e] at hg
        obtain ⟨first', cap', e', hf1, hf2⟩ : ∃ first' cap', a.eval g = .func (.func gf) first' cap' ∧ LR f first.toList first'.toList ∧ LR f cap.toList cap'.toList := by
          generalize a.eval g = z at hg
          cases hg with | func hg hx hxs hy hys => cases hg; exact ⟨_, _, rfl, AVR.list hx hxs, AVR.list hy hys⟩
        obtain ⟨h1, h2⟩ := callK_ok hrec horc hnum hW ((hf1.app hargs).app hf2) h
        refine wp_enter hF (by simp) (g := gf) (args := (first'.toList ++ args.toList.map a.eval ++ cap'.toList).toArray) ?_ h2 hR
        simp only [execOp, resolve, Sem.run_bind, Sem.run_pure, Result.andThen_ok, e', Deferred.ofValue, invoke, args_cat, h1]
      · rename_i l first cap e
        rw [e] at hg
        obtain ⟨L, first', cap', e', hL, hf1⟩ : ∃ L first' cap', a.eval g = .func (.yield L.blk) first' cap' ∧ f l = some L ∧ LR f first.toList first'.toList := by
          generalize a.eval g = z at hg
          cases hg with
          | func hg hx hxs hy hys =>
            cases hg with
            | yield hl => exact ⟨_, _, _, rfl, hl, AVR.list hx hxs⟩
            | same hne => exact absurd rfl (hne l)
        obtain ⟨L2, fn, tm, asn, b, hl2, h1, h2⟩ := yieldK_ok hrec hW (hf1.app hargs) h
        rw [hL] at hl2
        cases hl2
        refine wp_round hF (by simp) (l := L.blk) (g := fn) (tm := tm) (asn := asn) (b := b) ?_ h2 hR
        have e2 : first' ++ args.map a.eval = (first'.toList ++ args.toList.map a.eval).toArray := by apply Array.ext'; simp
        simp only [execOp, resolve, Sem.run_bind, Sem.run_pure, Result.andThen_ok, e', Deferred.ofValue, invoke, e2, h1 w rfl]
      · cases h
    | invoke r name =>
      have hg := hρ r (by simp [Op.operands, Call.operands])
      dsimp only at h
      split at h
      · rename_i t v e
        rw [e] at hg
        split at h
        · rename_i gf rv hm
          obtain ⟨v', e', hv⟩ : ∃ v', a.eval r = .iface t v' ∧ VR f v v' := by
            generalize a.eval r = z at hg
            cases hg with | iface _ hv => exact ⟨_, rfl, hv⟩
          have hmd : 2 ≤ Made.depth := by decide
          obtain ⟨r', hr', hvr⟩ := methodV_ok 2 t v v' gf rv hv hm (P.types.size + Made.depth) (by omega) w
          obtain ⟨h1, h2⟩ := callK_ok hrec horc hnum hW (LR.cons hvr hargs) h
          refine wp_enter hF (by simp) (g := gf) (args := (r' :: args.toList.map a.eval).toArray) ?_ h2 hR
          have e2 : #[Value.iface t v'] ++ args.map a.eval = (Value.iface t v' :: args.toList.map a.eval).toArray := by apply Array.ext'; simp
          have e3 : (Value.iface t v' :: args.toList.map a.eval).toArray[0]? = some (.iface t v') := rfl
          have e4 : #[r'] ++ ((Value.iface t v' :: args.toList.map a.eval).toArray).extract 1 ((Value.iface t v' :: args.toList.map a.eval).toArray).size = (r' :: args.toList.map a.eval).toArray := by
            apply Array.ext'
            rw [Array.toList_append, Array.toList_extract, List.extract_eq_take_drop]
            simp
            exact List.take_of_length_le (by simp)
          simp only [execOp, resolve, Sem.run_bind, Sem.run_pure, Result.andThen_ok, e', e2, invoke, e3, callMethod, run_program, hr', e4, h1]
        · cases h
      · cases h
  | _ => cases h
end
end
end
end Go.Proofs.YtlfinaeklaimjaaGreatDoor.Am
namespace Go.Proofs.YtlfinaeklaimjaaGreatDoor
noncomputable section
end
end Go.Proofs.YtlfinaeklaimjaaGreatDoor
namespace Go.Proofs.YtlfinaeklaimjaaGreatDoor.Am
noncomputable section
open Go.Proofs.YtlfinaeklaimjaaGreatDoor Go.RowKit
section
variable {P : Program} {base gm : Nat} {orc : Orc} {rec : Rec} {f : Ren} {A : AS} {w w1 : World}
theorem VR.bool_inv {b : Bool} {v : Value} (h : VR f (.bool b) v) : v = .bool b := by cases h; rfl
theorem VR.not_bool {v v' : Value} (h : VR f v v') (hv : ∀ b, v ≠ .bool b) (b : Bool) : v' ≠ .bool b := by
  cases h <;> first | exact absurd rfl (hv _) | simp
theorem want_tr {t : HT Value} {n d : Nat} {tm : Array Value} (h : TR f t n tm) (b : Bool) :
    ((match tm[d]? with | some (.bool c) => some c | _ => none) == some b) = (match t.get d with | some (.bool c) => c == b | _ => false) := by
  have hv := h.2 d
  rw [Array.getD_eq_getD_getElem?] at hv
  cases hg : t.get d with
  | none =>
    rw [hg] at hv
    cases ht : tm[d]? with
    | none => rfl
    | some u =>
      rw [ht] at hv
      have := fun c => VR.not_bool hv (by intro b h; simp [undef] at h) c
      cases u <;> first | rfl | exact absurd rfl (this _)
  | some v =>
    rw [hg] at hv
    dsimp only [Option.getD_some] at hv
    cases hvb : v with
    | bool c =>
      rw [hvb] at hv
      have := hv.bool_inv
      cases ht : tm[d]? with
      | none => rw [ht] at this; simp [undef] at this
      | some u =>
        rw [ht] at this
        obtain rfl : u = .bool c := this
        cases c <;> cases b <;> rfl
    | _ =>
      rw [hvb] at hv
      have := fun c => VR.not_bool hv (by intro b h; cases h) c
      cases ht : tm[d]? with
      | none => rfl
      | some u =>
        rw [ht] at this
        cases u <;> first | rfl | exact absurd rfl (this _)
theorem wantA_ok {a : Ac} {b : Act} (h : AcR f a b) (ops : Array Oper) (o : Oper) : wantA a.t ops.toList o = Region.wanted o (yielded ops b.tmps) := by
  unfold wantA Region.wanted
  cases hg : o.guard with
  | none => rfl
  | some p =>
    obtain ⟨j, want⟩ := p
    dsimp only
    unfold yielded
    rw [Array.getElem?_toList]
    cases hq : ops[j]? with
    | none => rfl
    | some q =>
      dsimp only [Option.bind_some]
      cases hd : q.dst with
      | none => rfl
      | some d =>
        dsimp only [Option.bind_some]
        exact (want_tr h.t want).symm
theorem LetsOut.mono {Q Q' : Exit → Act → World → Prop} (hQ : ∀ e a w, Q e a w → Q' e a w) (h : LetsOut Q) : LetsOut Q' := by
  obtain ⟨a, w, h⟩ := h
  exact ⟨a, w, hQ _ _ _ h⟩
theorem uponIn_mono {F : Fence} {n : Nat} {o : Oper} {a : Act} {K K' : Act → World → Prop} {Q Q' : Exit → Act → World → Prop} (hK : ∀ a w, K a w → K' a w) (hQ : ∀ e a w, Q e a w → Q' e a w) {r : Result Next} (h : o.uponIn F n P a K Q r) : o.uponIn F n P a K' Q' r := by
  cases r with
  | ok x w' =>
    cases x <;> simp only [Oper.uponIn] at h ⊢ <;>
      first
        | exact hK _ _ h
        | exact h.elim
        | exact ⟨h.1, CallsIn.mono h.2 (fun e w'' he => by cases e <;> first | exact hK _ _ he | exact hQ _ _ _ he | exact LetsOut.mono hQ he)⟩
        | exact ⟨h.1, RowsIn.mono h.2 (fun _ _ he => hK _ _ he)⟩
        | exact ⟨h.1, RoundIn.mono h.2 (fun e w'' he => by cases e <;> first | exact hK _ _ he | exact hQ _ _ _ he | exact LetsOut.mono hQ he)⟩
  | halt x w' => cases x <;> simp only [Oper.uponIn] at h ⊢ <;> first | exact hQ _ _ _ h | exact h.elim
theorem wpOpsIn_mono {F : Fence} {n : Nat} {ops : Array Oper} {Q Q' : Exit → Act → World → Prop} (hQ : ∀ e a w, Q e a w → Q' e a w) : ∀ {l : List Nat} {a : Act} {w : World}, wpOpsIn F n P ops Q l a w → wpOpsIn F n P ops Q' l a w
  | [], _, _, h => hQ _ _ _ h
  | i :: l, a, w, h => by
    simp only [wpOpsIn] at h ⊢
    split
    · rename_i ho
      rw [ho] at h
      exact wpOpsIn_mono hQ h
    · rename_i o ho
      rw [ho] at h
      dsimp only at h
      split
      · rename_i hw
        rw [if_pos hw] at h
        exact ⟨h.1, uponIn_mono (fun _ _ hk => wpOpsIn_mono hQ hk) hQ h.2⟩
      · rename_i hw
        rw [if_neg hw] at h
        exact ⟨h.1, wpOpsIn_mono hQ h.2⟩
theorem textK_ok (hrec : Snd P base gm rec) (horc : OrcOk P base gm orc) (hnum : ∀ (g : Nat) fn, P.funcs[g]? = some fn → fn.name ≠ "runtime.NumGoroutine") (ops : Array Oper) {F : Fence} {rd : Option Nat} (k : Kt) :
    ∀ (os : List Oper) (i : Nat), (∀ j, os[j]? = ops.toList[i + j]?) → ∀ (st : St) (f : Ren) (b : Act) (w : World), FOk f rd F → WR base gm f st.A w → AcR f st.a b → textK P gm orc rec ops.toList os st k = true →
      wpOpsIn F 0 P ops (fun e a' w' => ∃ f' st', Step base gm f st.A w f' st'.A w' ∧ AcR f' st'.a a' ∧ k e st' = true) (List.range' i os.length) b w
  | [], i, _, st, f, b, w, hF, hW, hA, h => by
    exact ⟨f, st, Step.refl hW, hA, h⟩
  | o :: os, i, hos, st, f, b, w, hF, hW, hA, h => by
    have ho : ops[i]? = some o := by
      have := hos 0
      rw [Nat.add_zero] at this
      rw [← Array.getElem?_toList]
      exact this.symm
    have hos' : ∀ j, os[j]? = ops.toList[i + 1 + j]? := fun j => by
      have := hos (j + 1)
      rw [show i + 1 + j = i + (j + 1) by omega]
      exact this
    rw [List.length_cons, List.range'_succ]
    simp only [wpOpsIn, ho]
    rw [← wantA_ok hA ops o]
    rw [textK] at h
    simp only [opdsR_eq, fltR_eq, effR_eq, fltT_eq, effT_eq] at h
    have on : ∀ (f1 : Ren) (v v' : Value) (A1 : AS) (w1 : World), Step base gm f st.A w f1 A1 w1 → VR f1 v v' → dstOk st.a.n o = true → textK P gm orc rec ops.toList os ⟨st.a.put o.dst v, A1⟩ k = true →
        wpOpsIn F 0 P ops (fun e a' w' => ∃ f' st', Step base gm f st.A w f' st'.A w' ∧ AcR f' st'.a a' ∧ k e st' = true) (List.range' (i + 1) os.length) (b.put o.dst v') w1 := fun f1 v v' A1 w1 hS hv hd hk => by
      have := textK_ok hrec horc hnum ops k os (i + 1) hos' ⟨st.a.put o.dst v, A1⟩ f1 (b.put o.dst v') w1 (hF.mono (hS.le hW)) hS.wr ((hA.mono (hS.le hW)).put hd hv) hk
      refine wpOpsIn_mono (fun e a' w' hq => ?_) this
      obtain ⟨f', st', h1, h2, h3⟩ := hq
      exact ⟨f', st', hS.trans h1, h2, h3⟩
    split at h
    · rename_i hchk hw
      simp only [Bool.and_eq_true] at hchk
      obtain ⟨⟨hop, hd⟩, hnx⟩ := hchk
      have hnx := blt_lt hnx
      rw [if_pos hw]
      have hρ : ∀ x ∈ o.op.operands, VR f (evA st.a.t x) (b.eval x) := fun x hx => hA.ev hW (List.all_eq_true.1 hop x (by simpa using hx))
      split at h
      · rename_i v ob hf
        obtain ⟨v', w1, hr, hFO⟩ := flt_ok hW (hW.fr _ (Nat.le_refl _)) hρ hf
        obtain ⟨f1, hS, hv⟩ := hFO.step hW hnx
        refine wp_val hF (fun c e => ?_) hr (on f1 v v' _ w1 hS hv hd h)
        unfold flt at hf
        rw [e] at hf
        cases hf
      · exact effK_ok hrec horc hnum hW hnx hF hρ h fun f1 v v' A1 w1 hS hv hk => on f1 v v' A1 w1 hS hv hd hk
    · rename_i hchk hw
      simp only [Bool.and_eq_true] at hchk
      rw [if_neg (by rw [hw]; simp)]
      exact ⟨fun g _ => hF.fn g, on f undef undef st.A w (Step.refl hW) (undefVR f) hchk.1.2 h⟩
    · cases h
end
end
end Go.Proofs.YtlfinaeklaimjaaGreatDoor.Am
namespace Go.Proofs.YtlfinaeklaimjaaGreatDoor
noncomputable section
end
end Go.Proofs.YtlfinaeklaimjaaGreatDoor
namespace Go.Proofs.YtlfinaeklaimjaaGreatDoor.Am
noncomputable section
open Go.Proofs.YtlfinaeklaimjaaGreatDoor Go.RowKit
section
variable {P : Program} {base gm : Nat} {orc : Orc} {rec : Rec} {f : Ren} {A : AS} {w w1 : World}
theorem least {p : Nat → Prop} (h : ∃ m, p m) : ∃ m, p m ∧ ∀ j, p j → m ≤ j := by
  obtain ⟨m, hm⟩ := h
  induction m using Nat.strongRecOn with
  | _ m ih =>
    by_cases h : ∃ j, j < m ∧ p j
    · obtain ⟨j, h1, h2⟩ := h
      exact ih j h1 h2
    · exact ⟨m, hm, fun j hj => Nat.le_of_not_lt fun hl => h ⟨j, hl, hj⟩⟩
open Classical in
noncomputable def leastOf (p : Nat → Prop) : Nat := if h : ∃ m, p m then Classical.choose (least h) else 0
theorem leastOf_spec {p : Nat → Prop} {m : Nat} (h : p m) : p (leastOf p) ∧ leastOf p ≤ m := by
  have h0 : ∃ m, p m := ⟨m, h⟩
  unfold leastOf
  rw [dif_pos h0]
  obtain ⟨h1, h2⟩ := Classical.choose_spec (least h0)
  exact ⟨h1, h2 m h⟩
theorem stepR_scope {b : Frame} {a : Act} {k : List Item} {cs : List Frame} {c : Code} : step P (lone (b.atR a (.code (.scope c) :: k)) cs w) = .next (lone (b.atR a (.code c :: .inScope c :: k)) cs w) :=
  step_lone_go (by simp [stepG, stepG.exec, Frame.atR])
theorem stepR_inScope {b : Frame} {a : Act} {k : List Item} {cs : List Frame} {c : Code} : step P (lone (b.atR a (.inScope c :: k)) cs w) = .next (lone (b.atR a k) cs w) :=
  step_lone_go (by simp [stepG, stepG.exec, Frame.atR])
theorem wpIn_scope {F : Fence} {n : Nat} {c : Code} {Q : Exit → Act → World → Prop} {a : Act} (h : c.wpIn F n P (Exit.noGoto Q) a w) : (Code.scope c).wpIn F n P Q a w := by
  intro b k cs hro hb hr
  obtain ⟨e, a₁, w₁, hq, harr⟩ := h b (.inScope c :: k) cs hro hb hr
  have s0 : StepsIn (Machine.fenced P F) P (lone (b.atR a (.code (.scope c) :: k)) cs w) (lone (b.atR a (.code c :: .inScope c :: k)) cs w) := .one (fenced_calm hb hr rfl) stepR_scope
  cases e with
  | normal => exact ⟨.normal, a₁, w₁, hq, StepsIn.trans s0 (StepsIn.trans harr (.one (fenced_calm hb hr rfl) stepR_inScope))⟩
  | exit id => exact ⟨.exit id, a₁, w₁, hq, fun k' hk => s0.trans (harr.1 k' (by simp [exitTo, hk])), fun h1 hk => by
      obtain ⟨k₁, h2, h3⟩ := harr.2 h1 (by simp [exitTo, hk])
      exact ⟨k₁, h2, s0.trans h3⟩⟩
  | goto l => exact hq.elim
  | ret => exact ⟨_, a₁, w₁, hq, .of_steps s0 harr⟩
  | panic ch => exact ⟨_, a₁, w₁, hq, .of_steps s0 harr⟩
  | outgrown => exact ⟨_, a₁, w₁, hq, .of_steps s0 harr⟩
end
end
end Go.Proofs.YtlfinaeklaimjaaGreatDoor.Am
namespace Go.Proofs.YtlfinaeklaimjaaGreatDoor
noncomputable section
end
end Go.Proofs.YtlfinaeklaimjaaGreatDoor
namespace Go.Proofs.YtlfinaeklaimjaaGreatDoor.Am
noncomputable section
open Go.Proofs.YtlfinaeklaimjaaGreatDoor Go.RowKit
theorem bit_two (e j : Nat) : Nat.testBit (2 ^ e) j = decide (e = j) := Nat.testBit_two_pow ..
def foldB (acc : List Nat) (l : List Edge) (s : Nat) : Nat := l.foldl (fun s e => match Region.binds .any e with
    | true => s ||| 2 ^ e.on ||| acc.getD e.on 0
    | false => s) s
theorem foldB_bit (acc : List Nat) (j : Nat) : ∀ (l : List Edge) (s : Nat), Nat.testBit (foldB acc l s) j = true ↔ Nat.testBit s j = true ∨ ∃ e ∈ l, Region.binds .any e = true ∧ (e.on = j ∨ Nat.testBit (acc.getD e.on 0) j = true)
  | [], s => by simp [foldB]
  | e :: l, s => by
    have ih := foldB_bit acc j l
    show Nat.testBit (foldB acc l (match Region.binds .any e with | true => s ||| 2 ^ e.on ||| acc.getD e.on 0 | false => s)) j = true ↔ _
    rw [ih]
    cases hb : Region.binds .any e with
    | true =>
      simp only [Nat.testBit_or, bit_two, Bool.or_eq_true, decide_eq_true_eq, List.mem_cons]
      constructor
      · rintro ((h | h) | h)
        · rcases h with h | h
          · exact .inl h
          · exact .inr ⟨e, .inl rfl, hb, .inl h⟩
        · exact .inr ⟨e, .inl rfl, hb, .inr h⟩
        · obtain ⟨x, hx, h⟩ := h
          exact .inr ⟨x, .inr hx, h⟩
      · rintro (h | ⟨x, rfl | hx, h1, h2⟩)
        · exact .inl (.inl (.inl h))
        · rcases h2 with h2 | h2
          · exact .inl (.inl (.inr h2))
          · exact .inl (.inr h2)
        · exact .inr ⟨x, hx, h1, h2⟩
    | false =>
      simp only [List.mem_cons]
      constructor
      · rintro (h | ⟨x, hx, h⟩)
        · exact .inl h
        · exact .inr ⟨x, .inr hx, h⟩
      · rintro (h | ⟨x, rfl | hx, h1, h2⟩)
        · exact .inl h
        · rw [hb] at h1; cases h1
        · exact .inr ⟨x, hx, h1, h2⟩
theorem befs_spec : ∀ (os : List Oper) (acc : List Nat), (∀ i, i < acc.length → (befs os acc).getD i 0 = acc.getD i 0) ∧
    ∀ i o, os[i]? = some o → (∀ e ∈ o.after, Region.binds .any e = true → e.on < acc.length + i) → (befs os acc).getD (acc.length + i) 0 = foldB (befs os acc) o.after.toList 0 := by
  intro os
  induction os with
  | nil => exact fun acc => ⟨fun _ _ => rfl, fun i o h => by simp at h⟩
  | cons o os ih =>
    intro acc
    rw [befs]
    obtain ⟨h1, h2⟩ := ih (acc ++ [foldB acc o.after.toList 0])
    have hsame : ∀ i, i < acc.length → (befs os (acc ++ [foldB acc o.after.toList 0])).getD i 0 = acc.getD i 0 := fun i hi => by
      rw [h1 i (by simp; omega)]
      simp [List.getD_eq_getElem?_getD, List.getElem?_append_left hi]
    refine ⟨hsame, fun i x hx hb => ?_⟩
    cases i with
    | zero =>
      cases hx
      have h3 := h1 acc.length (by simp)
      show (befs os (acc ++ [foldB acc o.after.toList 0])).getD (acc.length + 0) 0 = foldB (befs os (acc ++ [foldB acc o.after.toList 0])) o.after.toList 0
      rw [Nat.add_zero, h3]
      have : (acc ++ [foldB acc o.after.toList 0]).getD acc.length 0 = foldB acc o.after.toList 0 := by simp [List.getD_eq_getElem?_getD]
      rw [this]
      have cong : ∀ (l : List Edge) (s : Nat), (∀ e ∈ l, Region.binds .any e = true → e.on < acc.length) → foldB acc l s = foldB (befs os (acc ++ [foldB acc o.after.toList 0])) l s := by
        intro l
        induction l with
        | nil => exact fun _ _ => rfl
        | cons e l ihl =>
          intro s hl
          show foldB acc l _ = foldB _ l _
          rw [ihl _ fun x hx => hl x (by simp [hx])]
          congr 1
          cases hbe : Region.binds .any e with
          | false => simp only [hbe]
          | true => simp only [hbe, hsame e.on (hl e (by simp) hbe)]
      exact cong _ _ fun e he hbe => by have := hb e (by simpa using he) hbe; omega
    | succ i =>
      have := h2 i x (by simpa using hx) (fun e he hbe => by have := hb e he hbe; simp; omega)
      have hl : (acc ++ [foldB acc o.after.toList 0]).length + i = acc.length + (i + 1) := by simp; omega
      rw [hl] at this
      exact this
section
variable {ops : List Oper} {bs es : List Nat} {n : Nat}
theorem opsOk_at : ∀ (os : List Oper) (i : Nat), opsOk ops bs n os i = true → ∀ j o, os[j]? = some o → opOk ops bs n (i + j) o = true
  | [], _, _, j, o, h => by simp at h
  | x :: os, i, h, j, o, ho => by
    rw [opsOk, Bool.and_eq_true] at h
    cases j with
    | zero => cases ho; exact h.1
    | succ j =>
      have := opsOk_at os (i + 1) h.2 j o (by simpa using ho)
      rw [show i + (j + 1) = i + 1 + j by omega]
      exact this
structure OpG (ops : List Oper) (bs : List Nat) (n i : Nat) (o : Oper) : Prop where
  reads : ∀ x ∈ o.op.operands, readsOk ops bs i x = true
  dst : dstOk n o = true
  own : ∀ d, o.dst = some d → writer ops 0 d = some i
  guard : ∀ g b, o.guard = some (g, b) → Nat.testBit (bs.getD i 0) g = true ∧ ∃ q d, ops[g]? = some q ∧ q.dst = some d
  after : ∀ e ∈ o.after, Region.binds .any e = true → e.on < i
  sel : ∀ cs b, o.op ≠ .select cs b
theorem OpG.of {i : Nat} {o : Oper} (h : opOk ops bs n i o = true) : OpG ops bs n i o := by
  unfold opOk at h
  simp only [Bool.and_eq_true] at h
  obtain ⟨⟨⟨⟨⟨h1, h2⟩, h3⟩, h4⟩, h5⟩, h6⟩ := h
  refine ⟨fun x hx => List.all_eq_true.1 h1 x (by simpa using hx), h2, fun d hd => ?_, fun g b hg => ?_, fun e he hb => ?_, fun cs b e => ?_⟩
  · rw [hd] at h3
    dsimp only at h3
    split at h3
    · rename_i j hj
      rw [hj, beq_t h3]
    · cases h3
  · rw [hg] at h4
    simp only [Bool.and_eq_true] at h4
    refine ⟨h4.1, ?_⟩
    have h4 := h4.2
    split at h4
    · rename_i q hq
      cases hd : q.dst with
      | none => rw [hd] at h4; cases h4
      | some d => exact ⟨q, d, hq, hd⟩
    · cases h4
  · have := List.all_eq_true.1 h5 e (by simpa using he)
    rw [hb] at this
    exact blt_lt this
  · rw [e] at h6
    cases h6
structure RG (ops : List Oper) (n : Nat) : Prop where
  op : ∀ i o, ops[i]? = some o → OpG ops (befs ops []) n i o
  row : inRow (befs ops []) (effsOf ops 0) = true
theorem RG.bit (h : RG ops n) {i : Nat} {o : Oper} (ho : ops[i]? = some o) (j : Nat) : Nat.testBit ((befs ops []).getD i 0) j = true ↔ ∃ e ∈ o.after, Region.binds .any e = true ∧ (e.on = j ∨ Nat.testBit ((befs ops []).getD e.on 0) j = true) := by
  have := (befs_spec ops []).2 i o ho (fun e he hb => by have := (h.op i o ho).after e he hb; simpa using this)
  rw [List.length_nil, Nat.zero_add] at this
  rw [this, foldB_bit]
  simp
theorem RG.lt (h : RG ops n) : ∀ {i : Nat} {o : Oper}, ops[i]? = some o → ∀ {j : Nat}, Nat.testBit ((befs ops []).getD i 0) j = true → j < i := by
  intro i
  induction i using Nat.strongRecOn with
  | _ i ih =>
    intro o ho j hj
    obtain ⟨e, he, hb, h1⟩ := (h.bit ho j).1 hj
    have hlt := (h.op i o ho).after e he hb
    rcases h1 with h1 | h1
    · omega
    · have hl : e.on < ops.length := by have := (List.getElem?_eq_some_iff.1 ho).1; omega
      have := ih e.on hlt (List.getElem?_eq_getElem hl) h1
      omega
theorem RG.closed (h : RG ops n) {S : Nat → Prop} (hS : ∀ i o, S i → ops[i]? = some o → ∀ e ∈ o.after, Region.binds .any e = true → S e.on) : ∀ {i : Nat} {o : Oper}, ops[i]? = some o →
    (∀ e ∈ o.after, Region.binds .any e = true → S e.on) → ∀ {j : Nat}, Nat.testBit ((befs ops []).getD i 0) j = true → S j := by
  intro i
  induction i using Nat.strongRecOn with
  | _ i ih =>
    intro o ho hr j hj
    obtain ⟨e, he, hb, h1⟩ := (h.bit ho j).1 hj
    have hlt := (h.op i o ho).after e he hb
    rcases h1 with h1 | h1
    · exact h1 ▸ hr e he hb
    · have hl : e.on < ops.length := by have := (List.getElem?_eq_some_iff.1 ho).1; omega
      have ho2 := List.getElem?_eq_getElem hl
      exact ih e.on hlt ho2 (fun x hx hbx => hS e.on _ (hr e he hb) ho2 x hx hbx) h1
theorem RG.trans (h : RG ops n) {j k : Nat} (h2 : Nat.testBit ((befs ops []).getD j 0) k = true) : ∀ {i : Nat} {o : Oper}, ops[i]? = some o → Nat.testBit ((befs ops []).getD i 0) j = true → Nat.testBit ((befs ops []).getD i 0) k = true := by
  intro i
  induction i using Nat.strongRecOn with
  | _ i ih =>
    intro o ho h1
    obtain ⟨e, he, hb, h3⟩ := (h.bit ho j).1 h1
    have hlt := (h.op i o ho).after e he hb
    refine (h.bit ho k).2 ⟨e, he, hb, .inr ?_⟩
    rcases h3 with h3 | h3
    · rw [h3]; exact h2
    · exact ih e.on hlt (List.getElem?_eq_getElem (by have := (List.getElem?_eq_some_iff.1 ho).1; omega)) h3
theorem effsOf_mem : ∀ (os : List Oper) (i e : Nat), e ∈ effsOf os i ↔ i ≤ e ∧ ∃ o, os[e - i]? = some o ∧ isFlt o = false
  | [], i, e => by simp [effsOf]
  | o :: os, i, e => by
    rw [effsOf]
    have ih := effsOf_mem os (i + 1) e
    have step : (i ≤ e ∧ ∃ x, (o :: os)[e - i]? = some x ∧ isFlt x = false) ↔ (e = i ∧ isFlt o = false) ∨ (i + 1 ≤ e ∧ ∃ x, os[e - (i + 1)]? = some x ∧ isFlt x = false) := by
      constructor
      · rintro ⟨h1, x, h2, h3⟩
        by_cases he : e = i
        · subst he
          rw [Nat.sub_self] at h2
          cases h2
          exact .inl ⟨rfl, h3⟩
        · rw [show e - i = (e - (i + 1)) + 1 by omega] at h2
          exact .inr ⟨by omega, x, by simpa using h2, h3⟩
      · rintro (⟨rfl, h⟩ | ⟨h1, x, h2, h3⟩)
        · exact ⟨Nat.le_refl _, o, by simp, h⟩
        · exact ⟨by omega, x, by rw [show e - i = (e - (i + 1)) + 1 by omega]; simpa using h2, h3⟩
    split
    · rename_i hf
      rw [ih, step, hf]
      simp
    · rename_i hf
      rw [List.mem_cons, ih, step, hf]
      simp
theorem RG.chain (h : RG ops n) {bs : List Nat} (hbs : bs = befs ops []) : ∀ (es : List Nat), inRow bs es = true → (∀ e ∈ es, ∃ o, ops[e]? = some o) → ∀ (p q x y : Nat), p < q → es[p]? = some x → es[q]? = some y → Nat.testBit (bs.getD y 0) x = true
  | [], _, _, _, _, _, _, _, hx, _ => by simp at hx
  | [e], _, _, p, q, x, y, hpq, hx, hy => by
    have := (List.getElem?_eq_some_iff.1 hy).1
    simp at this
    omega
  | e :: f :: es, hr, hm, p, q, x, y, hpq, hx, hy => by
    rw [inRow, Bool.and_eq_true] at hr
    cases q with
    | zero => omega
    | succ q =>
      have hy' : (f :: es)[q]? = some y := by simpa using hy
      cases p with
      | succ p => exact RG.chain h hbs (f :: es) hr.2 (fun e he => hm e (by simp [he])) p q x y (by omega) (by simpa using hx) hy'
      | zero =>
        cases hx
        cases q with
        | zero => cases hy'; exact hr.1
        | succ q =>
          have h1 := RG.chain h hbs (f :: es) hr.2 (fun e he => hm e (by simp [he])) 0 (q + 1) f y (by omega) rfl hy'
          obtain ⟨o, ho⟩ := hm y (by
            have := List.mem_of_getElem? hy'
            exact List.mem_cons_of_mem _ this)
          subst hbs
          exact h.trans hr.1 ho h1
theorem RG.chain' (h : RG ops n) {p q x y : Nat} (hpq : p < q) (hx : (effsOf ops 0)[p]? = some x) (hy : (effsOf ops 0)[q]? = some y) : Nat.testBit ((befs ops []).getD y 0) x = true :=
  h.chain rfl _ h.row (fun e he => by
    obtain ⟨_, o, h1, _⟩ := (effsOf_mem ops 0 e).1 he
    exact ⟨o, by simpa using h1⟩) p q x y hpq hx hy
theorem cnt_le : ∀ (b : Nat) (es : List Nat) (q : Nat), (∀ p e, es[p]? = some e → Nat.testBit b e = true → p < q) → cnt b es ≤ q
  | _, [], _, _ => Nat.zero_le _
  | b, e :: es, q, h => by
    rw [cnt]
    split
    · rename_i hb
      have h0 := h 0 e rfl hb
      have := cnt_le b es (q - 1) fun p x hx hbx => by have := h (p + 1) x (by simpa using hx) hbx; omega
      omega
    · exact cnt_le b es q fun p x hx hbx => by have := h (p + 1) x (by simpa using hx) hbx; omega
theorem cnt_ge : ∀ (b : Nat) (es : List Nat) (q : Nat), q ≤ es.length → (∀ p e, p < q → es[p]? = some e → Nat.testBit b e = true) → q ≤ cnt b es
  | _, [], q, hl, _ => by
    have : q = 0 := by simpa using hl
    omega
  | b, e :: es, 0, _, _ => Nat.zero_le _
  | b, e :: es, q + 1, hl, h => by
    rw [cnt, h 0 e (by omega) rfl]
    exact Nat.succ_le_succ (cnt_ge b es q (by simpa using hl) fun p x hp hx => h (p + 1) x (by omega) (by simpa using hx))
theorem fst_spec {bs : List Nat} {i : Nat} : ∀ (es : List Nat) (j : Nat), j ≤ fst bs i es j ∧ fst bs i es j ≤ j + es.length ∧ (∀ p e, es[p]? = some e → j + p < fst bs i es j → Nat.testBit (bs.getD e 0) i = false) ∧
    (∀ e, es[fst bs i es j - j]? = some e → Nat.testBit (bs.getD e 0) i = true)
  | [], j => ⟨Nat.le_refl _, by simp [fst], fun p e h => by simp at h, fun e h => by simp at h⟩
  | x :: es, j => by
    rw [fst]
    split
    · rename_i hb
      refine ⟨Nat.le_refl _, by omega, fun p e _ h => by omega, fun e he => ?_⟩
      rw [Nat.sub_self] at he
      cases he
      exact hb
    · rename_i hb
      obtain ⟨h1, h2, h3, h4⟩ := fst_spec (bs := bs) (i := i) es (j + 1)
      refine ⟨by omega, by rw [List.length_cons]; omega, fun p e he hp => ?_, fun e he => ?_⟩
      · cases p with
        | zero => cases he; exact hb
        | succ p => exact h3 p e (by simpa using he) (by omega)
      · rw [show fst bs i es (j + 1) - j = (fst bs i es (j + 1) - (j + 1)) + 1 by omega] at he
        exact h4 e (by simpa using he)
end
end
end Go.Proofs.YtlfinaeklaimjaaGreatDoor.Am
namespace Go.Proofs.YtlfinaeklaimjaaGreatDoor
noncomputable section
end
end Go.Proofs.YtlfinaeklaimjaaGreatDoor
namespace Go.Proofs.YtlfinaeklaimjaaGreatDoor.Am
noncomputable section
open Go.Proofs.YtlfinaeklaimjaaGreatDoor Go.RowKit
theorem veqL_ok {g : Value → Value → Bool} (hg : ∀ a b, g a b = true → a = b) : ∀ (l m : List Value), veqL g l m = true → l = m
  | [], [], _ => rfl
  | [], _ :: _, h => by cases h
  | _ :: _, [], h => by cases h
  | a :: l, b :: m, h => by
    rw [veqL, Bool.and_eq_true] at h
    rw [hg a b h.1, veqL_ok hg l m h.2]
theorem adEq_ok {a b : Addr} (h : adEq a b = true) : a = b := by
  obtain ⟨b1, o1, s1⟩ := a
  obtain ⟨b2, o2, s2⟩ := b
  unfold adEq at h
  simp only [Bool.and_eq_true] at h
  obtain ⟨⟨h1, h2⟩, h3⟩ := h
  have h1 : b1 = b2 := beq_t h1
  have h2 : o1 = o2 := beq_t h2
  subst h1 h2
  cases s1 <;> cases s2 <;> first | rfl | (cases h3; done) | (have := beq_t h3; subst this; rfl)
theorem veq_ok : ∀ (n : Nat) (x y : Value), veq n x y = true → x = y := by
  intro n
  induction n with
  | zero => intro x y h; cases h
  | succ n ih =>
    intro x y h
    unfold veq at h
    split at h
    · simp only [beq_iff_eq] at h; rw [h]
    · simp only [Bool.and_eq_true, decide_eq_true_eq] at h; rw [h.1, h.2]
    · simp only [decide_eq_true_eq] at h
      rename_i a b
      cases a with
      | mk x => cases b with
        | mk y =>
          have h2 : x.toList = y.toList := h
          rw [Array.ext' h2]
    · rfl
    · rw [adEq_ok h]
    · simp only [Bool.and_eq_true] at h; rw [beq_t h.1, beq_t h.2]
    · simp only [Bool.and_eq_true] at h; rw [adEq_ok h.1.1, beq_t h.1.2, beq_t h.2]
    · rfl
    · rfl
    · rfl
    · rw [beq_t h]
    · simp only [Bool.and_eq_true] at h; rw [beq_t h.1, ih _ _ h.2]
    · rw [Array.ext' (veqL_ok ih _ _ h)]
    · rw [Array.ext' (veqL_ok ih _ _ h)]
    · simp only [Bool.and_eq_true] at h; rw [beq_t h.1.1, Array.ext' (veqL_ok ih _ _ h.1.2), Array.ext' (veqL_ok ih _ _ h.2)]
    · cases h
theorem flt_indep {P : Program} {ρ : Operand → Value} {o : Oper} {id : Nat} (hl : looks o = false) (h h' : HT AObj) : flt P ρ o id h = flt P ρ o id h' := by
  obtain ⟨dst, op, type, pos, after, guard⟩ := o
  cases op <;> first
    | rfl
    | cases hl
section
variable {P : Program} {ops : List Oper} {n : Nat} {t0 : HT Value} {id0 : Nat}
abbrev Bi (ops : List Oper) (i : Nat) : Nat := (befs ops []).getD i 0
abbrev lo (ops : List Oper) (i : Nat) : Nat := cnt (Bi ops i) (effsOf ops 0)
abbrev hi (ops : List Oper) (i : Nat) : Nat := fst (befs ops []) i (effsOf ops 0) 0
theorem evD_set {V : HT Value} {b j : Nat} {u : Value} (hj : j < 1000000) (hb : Nat.testBit b j = false) (x : Operand) : evD ops t0 (HT.set 64 V j (some u)) b x = evD ops t0 V b x := by
  cases x with
  | tmp t =>
    unfold evD
    dsimp only
    cases hw : writer ops 0 t with
    | none => rfl
    | some k =>
      dsimp only
      cases hk : Nat.testBit b k with
      | false => rfl
      | true =>
        dsimp only
        have hne : k ≠ j := fun e => by rw [e, hb] at hk; cases hk
        rw [HT.get_set 64 V j k _ (Nat.lt_trans (by omega : j + 1 < 1000001) (by decide)), if_neg hne]
  | const v => rfl
  | global g => rfl
  | func f => rfl
theorem evD_set' {V : HT Value} {b j : Nat} {u : Value} (hj : j < 1000000) (hb : Nat.testBit b j = false) : evD ops t0 (HT.set 64 V j (some u)) b = evD ops t0 V b := funext (evD_set hj hb)
theorem wantD_set {V : HT Value} {j : Nat} {u : Value} {o : Oper} (hj : j < 1000000) (hg : ∀ g b, o.guard = some (g, b) → g ≠ j) : wantD (HT.set 64 V j (some u)) o = wantD V o := by
  unfold wantD
  cases ho : o.guard with
  | none => rfl
  | some p =>
    obtain ⟨g, b⟩ := p
    dsimp only
    rw [HT.get_set 64 V j g _ (Nat.lt_trans (by omega : j + 1 < 1000001) (by decide)), if_neg (hg g b ho)]
def Cnd (P : Program) (ops : List Oper) (t0 : HT Value) (id0 : Nat) (h : HT AObj) (V : HT Value) (O : List (Nat × AObj)) (i : Nat) (o : Oper) : Prop :=
  (wantD V o = true → ∃ v ob, V.get i = some v ∧ flt P (evD ops t0 V (Bi ops i)) o (id0 + i) h = some (v, ob) ∧ ∀ x, (i, x) ∈ O ↔ ob = some x) ∧
  (wantD V o = false → V.get i = some undef ∧ ∀ x, (i, x) ∉ O)
theorem Cnd.set {h : HT AObj} {V : HT Value} {O : List (Nat × AObj)} {i : Nat} {o : Oper} (hG : RG ops n) (ho : ops[i]? = some o) (hc : Cnd P ops t0 id0 h V O i o) {j : Nat} {u : Value} (hj : j < 1000000) (hne : i ≠ j) (hb : Nat.testBit (Bi ops i) j = false) (ob : Option AObj) :
    Cnd P ops t0 id0 h (HT.set 64 V j (some u)) (match ob with | some x => O ++ [(j, x)] | none => O) i o := by
  have hw := wantD_set (V := V) (u := u) (o := o) hj (fun g b hg e => by
    have := ((hG.op i o ho).guard g b hg).1
    rw [e] at this
    have hb' : Nat.testBit ((befs ops []).getD i 0) j = false := hb
    rw [hb'] at this
    cases this)
  have hget : (HT.set 64 V j (some u)).get i = V.get i := by
    rw [HT.get_set 64 V j i _ (Nat.lt_trans (by omega : j + 1 < 1000001) (by decide)), if_neg hne]
  have hO : ∀ x, (i, x) ∈ (match ob with | some x => O ++ [(j, x)] | none => O) ↔ (i, x) ∈ O := fun x => by
    cases ob with
    | none => exact Iff.rfl
    | some y =>
      simp only [List.mem_append, List.mem_singleton, Prod.mk.injEq]
      exact ⟨fun h => h.resolve_right fun h => hne h.1, .inl⟩
  refine ⟨fun h1 => ?_, fun h1 => ?_⟩
  · rw [hw] at h1
    obtain ⟨v, ob2, h2, h3, h4⟩ := hc.1 h1
    exact ⟨v, ob2, by rw [hget]; exact h2, by rw [evD_set' hj hb]; exact h3, fun x => (hO x).trans (h4 x)⟩
  · rw [hw] at h1
    obtain ⟨h2, h3⟩ := hc.2 h1
    exact ⟨by rw [hget]; exact h2, fun x hx => h3 x ((hO x).1 hx)⟩
structure Gd (P : Program) (ops : List Oper) (t0 : HT Value) (id0 q : Nat) (h : HT AObj) (V : HT Value) (O : List (Nat × AObj)) : Prop where
  ok : ∀ i o, ops[i]? = some o → isFlt o = true → lo ops i ≤ q → q ≤ hi ops i → Cnd P ops t0 id0 h V O i o
  ou : ∀ i x, (i, x) ∈ O → ∃ o, ops[i]? = some o ∧ isFlt o = true ∧ lo ops i ≤ q
  nd : (O.map (·.1)).Nodup
theorem lo_mono (hG : RG ops n) {i j : Nat} {o : Oper} (ho : ops[i]? = some o) (hb : Nat.testBit (Bi ops i) j = true) : lo ops j ≤ lo ops i := by
  have : ∀ (es : List Nat), cnt (Bi ops j) es ≤ cnt (Bi ops i) es := fun es => by
    induction es with
    | nil => exact Nat.le_refl _
    | cons e es ih =>
      rw [cnt, cnt]
      cases h1 : Nat.testBit (Bi ops j) e with
      | true => rw [hG.trans h1 ho hb]; exact Nat.succ_le_succ ih
      | false =>
        dsimp only
        split
        · exact Nat.le_succ_of_le ih
        · exact ih
  exact this _
theorem fpass_ok (hG : RG ops n) (hlen : ops.length < 1000) {q : Nat} {h hp : HT AObj} {V' : HT Value} {O' : List (Nat × AObj)} : ∀ (os : List Oper) (m : Nat) (V : HT Value) (O : List (Nat × AObj)), (∀ j, os[j]? = ops[m + j]?) → m + os.length = ops.length →
    (∀ i o, ops[i]? = some o → isFlt o = true → i < m → lo ops i ≤ q → q ≤ hi ops i → Cnd P ops t0 id0 h V O i o) →
    (∀ i o, ops[i]? = some o → isFlt o = true → m ≤ i → lo ops i < q → q ≤ hi ops i → Cnd P ops t0 id0 hp V O i o) →
    (∀ i x, (i, x) ∈ O → ∃ o, ops[i]? = some o ∧ isFlt o = true ∧ (lo ops i < q ∨ i < m ∧ lo ops i = q)) → (O.map (·.1)).Nodup →
    fpass P ops (befs ops []) (effsOf ops 0) t0 id0 q h os m V O = some (V', O') → Gd P ops t0 id0 q h V' O'
  | [], m, V, O, hos, hml, h1, h2, h5, h6, hr => by
    cases hr
    rw [List.length_nil, Nat.add_zero] at hml
    refine ⟨fun i o ho hf hl hq => h1 i o ho hf (by rw [hml]; exact (List.getElem?_eq_some_iff.1 ho).1) hl hq, fun i x hx => ?_, h6⟩
    obtain ⟨o, h7, h8, h9⟩ := h5 i x hx
    exact ⟨o, h7, h8, by omega⟩
  | o :: os, m, V, O, hos, hml, h1, h2, h5, h6, hr => by
    have ho : ops[m]? = some o := by have := hos 0; rw [Nat.add_zero] at this; exact this.symm
    have hos' : ∀ j, os[j]? = ops[m + 1 + j]? := fun j => by
      have := hos (j + 1)
      rw [show m + 1 + j = m + (j + 1) by omega]
      exact this
    have hml' : m + 1 + os.length = ops.length := by rw [List.length_cons] at hml; omega
    have hm1 : m < 1000000 := by rw [List.length_cons] at hml; omega
    have hself : Nat.testBit (Bi ops m) m = false := by
      cases hb : Nat.testBit (Bi ops m) m with
      | false => rfl
      | true => exact absurd (hG.lt ho hb) (Nat.lt_irrefl _)
    have same : (isFlt o = true → lo ops m ≤ q → q ≤ hi ops m → Cnd P ops t0 id0 h V O m o) → (isFlt o = true → lo ops m ≠ q) → fpass P ops (befs ops []) (effsOf ops 0) t0 id0 q h os (m + 1) V O = some (V', O') → Gd P ops t0 id0 q h V' O' := fun hc hne hr =>
      fpass_ok (hp := hp) hG hlen os (m + 1) V O hos' hml' (fun i x hx hf hi hl hq => by
        by_cases him : i = m
        · subst him
          rw [ho] at hx
          cases hx
          exact hc hf hl hq
        · exact h1 i x hx hf (by omega) hl hq) (fun i x hx hf hi hl hq => h2 i x hx hf (by omega) hl hq) (fun i x hx => by
        obtain ⟨y, h7, h8, h9⟩ := h5 i x hx
        exact ⟨y, h7, h8, by omega⟩) h6 hr
    have first : ∀ (u : Value) (ob : Option AObj), lo ops m = q → Cnd P ops t0 id0 h (HT.set 64 V m (some u)) (match ob with | some x => O ++ [(m, x)] | none => O) m o → isFlt o = true →
        fpass P ops (befs ops []) (effsOf ops 0) t0 id0 q h os (m + 1) (HT.set 64 V m (some u)) (match ob with | some x => O ++ [(m, x)] | none => O) = some (V', O') → Gd P ops t0 id0 q h V' O' := fun u ob hlo hc hf hr => by
      refine fpass_ok (hp := hp) hG hlen os (m + 1) _ _ hos' hml' (fun i x hx hfx hi hl hq => ?_) (fun i x hx hfx hi hl hq => ?_) (fun i x hx => ?_) ?_ hr
      · by_cases him : i = m
        · subst him
          rw [ho] at hx
          cases hx
          exact hc
        · refine Cnd.set hG hx (h1 i x hx hfx (by omega) hl hq) hm1 him ?_ ob
          cases hb : Nat.testBit (Bi ops i) m with
          | false => rfl
          | true => have := hG.lt hx hb; omega
      · refine Cnd.set hG hx (h2 i x hx hfx (by omega) hl hq) hm1 (by omega) ?_ ob
        cases hb : Nat.testBit (Bi ops i) m with
        | false => rfl
        | true => have := lo_mono hG hx hb; omega
      · cases ob with
        | none =>
          obtain ⟨y, h7, h8, h9⟩ := h5 i x hx
          exact ⟨y, h7, h8, by omega⟩
        | some z =>
          rcases List.mem_append.1 hx with hx | hx
          · obtain ⟨y, h7, h8, h9⟩ := h5 i x hx
            exact ⟨y, h7, h8, by omega⟩
          · cases List.mem_singleton.1 hx
            exact ⟨o, ho, hf, by omega⟩
      · cases ob with
        | none => exact h6
        | some z =>
          rw [List.map_append, List.nodup_append]
          refine ⟨h6, by simp, fun a ha b hb e => ?_⟩
          simp only [List.map_cons, List.map_nil, List.mem_singleton] at hb
          obtain ⟨p, hp, hpe⟩ := List.mem_map.1 ha
          obtain ⟨y, h7, h8, h9⟩ := h5 p.1 p.2 hp
          rw [hpe, e, hb] at h9
          omega
    have fresh : ∀ x, lo ops m = q → (m, x) ∉ O := fun x hlo hx => by
      obtain ⟨y, h7, h8, h9⟩ := h5 m x hx
      omega
    have hgm : ∀ u : Value, (HT.set 64 V m (some u)).get m = some u := fun u => by rw [HT.get_set 64 V m m _ (Nat.lt_trans (by omega : m + 1 < 1000001) (by decide)), if_pos rfl]
    have hwm : ∀ u : Value, wantD (HT.set 64 V m (some u)) o = wantD V o := fun u => wantD_set hm1 fun g b hg e => by
      have := hG.lt ho ((hG.op m o ho).guard g b hg).1
      omega
    rw [fpass] at hr
    simp only [fltR_eq, fltT_eq] at hr
    split at hr
    · rename_i hf
      exact same (fun h => by rw [hf] at h; cases h) (fun h => by rw [hf] at h; cases h) hr
    · rename_i hf
      split at hr
      · rename_i hlo
        have hlo : lo ops m = q := beq_t hlo
        split at hr
        · rename_i hw
          split at hr
          · rename_i v hv
            refine first v none hlo ⟨fun _ => ⟨v, none, hgm v, by rw [evD_set' hm1 hself]; exact hv, fun x => ⟨fun hx => absurd hx (fresh x hlo), fun e => by cases e⟩⟩, fun hw2 => ?_⟩ hf hr
            rw [hwm, hw] at hw2
            cases hw2
          · rename_i v ob hv
            refine first v (some ob) hlo ⟨fun _ => ⟨v, some ob, hgm v, by rw [evD_set' hm1 hself]; exact hv, fun x => ⟨fun hx => ?_, fun e => ?_⟩⟩, fun hw2 => ?_⟩ hf hr
            · rcases List.mem_append.1 hx with hx | hx
              · exact absurd hx (fresh x hlo)
              · cases List.mem_singleton.1 hx
                rfl
            · cases e
              exact List.mem_append.2 (.inr (List.mem_singleton.2 rfl))
            · rw [hwm, hw] at hw2
              cases hw2
          · cases hr
        · rename_i hw
          refine first undef none hlo ⟨fun hw2 => ?_, fun _ => ⟨hgm _, fun x => fresh x hlo⟩⟩ hf hr
          rw [hwm, hw] at hw2
          cases hw2
      · rename_i hlo
        have hlo : lo ops m ≠ q := beq_f hlo
        split at hr
        · rename_i hchk
          simp only [Bool.and_eq_true] at hchk
          obtain ⟨⟨⟨hl1, hq1⟩, hlk⟩, hw⟩ := hchk
          split at hr
          · rename_i v u hv hu
            split at hr
            · rename_i hve
              simp only [Bool.and_eq_true] at hve
              obtain rfl := veq_ok _ _ _ hve.1
              refine same (fun _ _ _ => ⟨fun _ => ⟨v, none, hu, hv, fun x => ⟨fun hx => ?_, fun e => by cases e⟩⟩, fun hw2 => by rw [hw] at hw2; cases hw2⟩) (fun _ => hlo) hr
              have := List.all_eq_true.1 hve.2 (m, x) hx
              simp at this
            · cases hr
          · cases hr
        · rename_i hchk
          refine same (fun _ hl hq => ?_) (fun _ => hlo) hr
          have hc := h2 m o ho hf (Nat.le_refl _) (by omega) hq
          have hno : looks o = false ∨ wantD V o = false := by
            cases hk : looks o with
            | false => exact .inl rfl
            | true =>
              right
              cases hwv : wantD V o with
              | false => rfl
              | true =>
                exfalso
                have e1 : Nat.blt (cnt ((befs ops []).getD m 0) (effsOf ops 0)) q = true := Nat.ble_eq_true_of_le (by show lo ops m < q; omega)
                have e2 : Nat.ble q (fst (befs ops []) m (effsOf ops 0) 0) = true := Nat.ble_eq_true_of_le hq
                rw [e1, e2, hk, hwv] at hchk
                cases hchk
          rcases hno with hno | hno
          · refine ⟨fun hw => ?_, hc.2⟩
            obtain ⟨v, ob, h7, h8, h9⟩ := hc.1 hw
            exact ⟨v, ob, h7, by rw [flt_indep hno h hp]; exact h8, h9⟩
          · exact ⟨fun hw => absurd (hno.symm.trans hw) (by decide), hc.2⟩
end
end
end Go.Proofs.YtlfinaeklaimjaaGreatDoor.Am
namespace Go.Proofs.YtlfinaeklaimjaaGreatDoor
noncomputable section
end
end Go.Proofs.YtlfinaeklaimjaaGreatDoor
namespace Go.Proofs.YtlfinaeklaimjaaGreatDoor.Am
noncomputable section
open Go.Proofs.YtlfinaeklaimjaaGreatDoor Go.RowKit
section
variable {f : Ren}
theorem want1 {x : Option Value} {d : Nat} {tm : Array Value} (b : Bool) : VR f (x.getD undef) (tm.getD d undef) →
    ((match tm[d]? with | some (.bool c) => some c | _ => none) == some b) = (match x with | some (.bool c) => c == b | _ => false) := by
  intro hv
  rw [Array.getD_eq_getD_getElem?] at hv
  cases hg : x with
  | none =>
    rw [hg] at hv
    cases ht : tm[d]? with
    | none => rfl
    | some u =>
      rw [ht] at hv
      have := fun c => VR.not_bool hv (by intro b h; simp [undef] at h) c
      cases u <;> first | rfl | exact absurd rfl (this _)
  | some v =>
    rw [hg] at hv
    dsimp only [Option.getD_some] at hv
    cases hvb : v with
    | bool c =>
      rw [hvb] at hv
      have := hv.bool_inv
      cases ht : tm[d]? with
      | none => rw [ht] at this; simp [undef] at this
      | some u =>
        rw [ht] at this
        obtain rfl : u = .bool c := this
        cases c <;> cases b <;> rfl
    | _ =>
      rw [hvb] at hv
      have := fun c => VR.not_bool hv (by intro b h; cases h) c
      cases ht : tm[d]? with
      | none => rfl
      | some u =>
        rw [ht] at this
        cases u <;> first | rfl | exact absurd rfl (this _)
end
theorem writer_dst : ∀ (os : List Oper) (i t j : Nat), writer os i t = some j → i ≤ j ∧ ∃ o, os[j - i]? = some o ∧ o.dst = some t
  | [], _, _, _, h => by cases h
  | o :: os, i, t, j, h => by
    have on : writer os (i + 1) t = some j → i ≤ j ∧ ∃ x, (o :: os)[j - i]? = some x ∧ x.dst = some t := fun h => by
      obtain ⟨h1, x, h2, h3⟩ := writer_dst os (i + 1) t j h
      exact ⟨by omega, x, by rw [show j - i = (j - (i + 1)) + 1 by omega]; simpa using h2, h3⟩
    rw [writer] at h
    split at h
    · rename_i d hd
      split at h
      · rename_i hb
        cases h
        have := beq_t hb
        subst this
        exact ⟨Nat.le_refl _, o, by rw [Nat.sub_self]; rfl, hd⟩
      · exact on h
    · exact on h
theorem finT_get (V : HT Value) (x : Nat) : ∀ (os : List Oper) (i : Nat) (t : HT Value), (∀ o ∈ os, ∀ d, o.dst = some d → d < 1000000000000) →
    ((∀ (o : Oper), o ∈ os → o.dst ≠ some x) → (finT V os i t).get x = t.get x) ∧
    (∀ j, (∀ k o, os[k]? = some o → o.dst = some x → i + k = j) → (∃ o ∈ os, o.dst = some x) → (finT V os i t).get x = V.get j)
  | [], i, t, hb => ⟨fun _ => rfl, fun j _ ⟨o, h, _⟩ => by simp at h⟩
  | o :: os, i, t, hb => by
    have hb' : ∀ o ∈ os, ∀ d, o.dst = some d → d < 1000000000000 := fun x hx => hb x (by simp [hx])
    rw [finT]
    cases hd : o.dst with
    | none =>
      dsimp only
      obtain ⟨h1, h2⟩ := finT_get V x os (i + 1) t hb'
      refine ⟨fun h => h1 fun y hy => h y (by simp [hy]), fun j hu hex => h2 j (fun k y hk hy => ?_) ?_⟩
      · have := hu (k + 1) y (by simpa using hk) hy
        omega
      · obtain ⟨y, hy, hyd⟩ := hex
        rcases List.mem_cons.1 hy with rfl | hy
        · rw [hd] at hyd; cases hyd
        · exact ⟨y, hy, hyd⟩
    | some d =>
      dsimp only
      have hdb : d < 1000000000000 := hb o (by simp) d hd
      have hdb1 : d + 1 < 1000000000001 := Nat.succ_lt_succ hdb
      have hset : ∀ v m, (HT.set 64 t d v).get m = if m = d then v else t.get m := fun v m => HT.get_set 64 t d m v (Nat.lt_trans hdb1 (by decide))
      obtain ⟨h1, h2⟩ := finT_get V x os (i + 1) (HT.set 64 t d (V.get i)) hb'
      refine ⟨fun h => ?_, fun j hu hex => ?_⟩
      · rw [h1 fun y hy => h y (by simp [hy]), hset, if_neg]
        rintro rfl
        exact h o (by simp) hd
      · by_cases hin : ∃ y ∈ os, y.dst = some x
        · exact h2 j (fun k y hk hy => by have := hu (k + 1) y (by simpa using hk) hy; omega) hin
        · rw [h1 fun y hy hyd => hin ⟨y, hy, hyd⟩, hset]
          obtain ⟨y, hy, hyd⟩ := hex
          rcases List.mem_cons.1 hy with rfl | hy
          · rw [hd] at hyd
            cases hyd
            have := hu 0 y rfl hd
            rw [if_pos rfl]
            congr 1
          · exact absurd ⟨y, hy, hyd⟩ hin
theorem fpass_new {P : Program} {ops : List Oper} {t0 : HT Value} {id0 q : Nat} {h : HT AObj} {V' : HT Value} {O' : List (Nat × AObj)} (hlen : ops.length < 1000) : ∀ (os : List Oper) (m : Nat) (V : HT Value) (O : List (Nat × AObj)),
    (∀ j, os[j]? = ops[m + j]?) → m + os.length = ops.length → fpass P ops (befs ops []) (effsOf ops 0) t0 id0 q h os m V O = some (V', O') →
    (∀ p ∈ O, p ∈ O') ∧ (∀ p ∈ O', p ∈ O ∨ lo ops p.1 = q) ∧ ∀ i, V'.get i = V.get i ∨ (lo ops i = q ∧ ∃ o, ops[i]? = some o ∧ isFlt o = true)
  | [], m, V, O, hos, hml, hr => by
    cases hr
    exact ⟨fun _ h => h, fun _ h => .inl h, fun _ => .inl rfl⟩
  | o :: os, m, V, O, hos, hml, hr => by
    have ho : ops[m]? = some o := by have := hos 0; rw [Nat.add_zero] at this; exact this.symm
    have hos' : ∀ j, os[j]? = ops[m + 1 + j]? := fun j => by
      have := hos (j + 1)
      rw [show m + 1 + j = m + (j + 1) by omega]
      exact this
    have hml' : m + 1 + os.length = ops.length := by rw [List.length_cons] at hml; omega
    have hm1 : m + 1 < 1000001 := by rw [List.length_cons] at hml; omega
    have hset : ∀ (u : Value) i, (HT.set 64 V m (some u)).get i = if i = m then some u else V.get i := fun u i => HT.get_set 64 V m i _ (Nat.lt_trans hm1 (by decide))
    have same : fpass P ops (befs ops []) (effsOf ops 0) t0 id0 q h os (m + 1) V O = some (V', O') → _ := fun hr => fpass_new hlen os (m + 1) V O hos' hml' hr
    have first : ∀ (u : Value) (O2 : List (Nat × AObj)), lo ops m = q → isFlt o = true → (∀ p ∈ O, p ∈ O2) → (∀ p ∈ O2, p ∈ O ∨ p.1 = m) → fpass P ops (befs ops []) (effsOf ops 0) t0 id0 q h os (m + 1) (HT.set 64 V m (some u)) O2 = some (V', O') →
        (∀ p ∈ O, p ∈ O') ∧ (∀ p ∈ O', p ∈ O ∨ lo ops p.1 = q) ∧ ∀ i, V'.get i = V.get i ∨ (lo ops i = q ∧ ∃ o, ops[i]? = some o ∧ isFlt o = true) := fun u O2 hlo hf h1 h2 hr => by
      obtain ⟨h3, h4, h5⟩ := fpass_new hlen os (m + 1) _ _ hos' hml' hr
      refine ⟨fun p hp => h3 p (h1 p hp), fun p hp => ?_, fun i => ?_⟩
      · rcases h4 p hp with h | h
        · rcases h2 p h with h | h
          · exact .inl h
          · exact .inr (by rw [h]; exact hlo)
        · exact .inr h
      · by_cases hi : i = m
        · exact .inr ⟨by rw [hi]; exact hlo, o, by rw [hi]; exact ho, hf⟩
        · rcases h5 i with h | h
          · rw [hset, if_neg hi] at h; exact .inl h
          · exact .inr h
    rw [fpass] at hr
    simp only [fltR_eq, fltT_eq] at hr
    split at hr
    · exact same hr
    · rename_i hf
      split at hr
      · rename_i hlo
        have hlo : lo ops m = q := beq_t hlo
        split at hr
        · split at hr
          · exact first _ O hlo hf (fun _ h => h) (fun _ h => .inl h) hr
          · exact first _ _ hlo hf (fun _ h => List.mem_append.2 (.inl h)) (fun p h => by
              rcases List.mem_append.1 h with h | h
              · exact .inl h
              · rw [List.mem_singleton.1 h]; exact .inr rfl) hr
          · cases hr
        · exact first _ O hlo hf (fun _ h => h) (fun _ h => .inl h) hr
      · split at hr
        · split at hr
          · split at hr
            · exact same hr
            · cases hr
          · cases hr
        · exact same hr
def slotV (L : List Oper) (t0 V : HT Value) (S : Nat → Bool) (t : Nat) : Value :=
  match writer L 0 t with
  | some j => if S j = true then (V.get j).getD undef else evA t0 (.tmp t)
  | none => evA t0 (.tmp t)
section
variable (P : Program) (L : List Oper) (t0 : HT Value) (n : Nat) (ds : List Nat) (base gm : Nat) (f0 : Ren) (A0 : AS) (w0 : World)
structure Inv (S : Nat → Bool) (q : Nat) (f : Ren) (A : AS) (w : World) (V : HT Value) (O : List (Nat × AObj)) (b : Act) : Prop where
  st : Step base gm f0 A0 w0 f A w
  nx : A0.nx + L.length ≤ A.nx
  sub : ∀ i, S i = true → i < L.length
  cl : ∀ i o, S i = true → L[i]? = some o → ∀ e ∈ o.after, Region.binds .any e = true → S e.on = true
  wr : ∀ p e, (effsOf L 0)[p]? = some e → (S e = true ↔ p < q)
  ql : q ≤ (effsOf L 0).length
  gd : Gd P L t0 A0.nx q A.h V O
  blk : ∀ i x, (i, x) ∈ O → S i = true → q ≤ hi L i → ∃ l, f (A0.nx + i) = some l ∧ ObR f w x l ∧ w0.heap.size ≤ l.blk ∧ ¬ Im gm f A l.blk
  dist : ∀ i x j y l m, (i, x) ∈ O → (j, y) ∈ O → S i = true → S j = true → q ≤ hi L i → q ≤ hi L j → f (A0.nx + i) = some l → f (A0.nx + j) = some m → l.blk = m.blk → i = j
  non : ∀ i, i < L.length → (S i = false ∨ ∀ x, (i, x) ∉ O) → f (A0.nx + i) = none
  tm : b.tmps.size = n ∧ ∀ t, VR f (slotV L t0 V S t) (b.tmps.getD t undef)
  dr : DR f ds b.defers
end
section
variable {P : Program} {L : List Oper} {t0 : HT Value} {n : Nat} {ds : List Nat} {base gm : Nat} {f0 : Ren} {A0 : AS} {w0 : World} {S : Nat → Bool} {q : Nat} {f : Ren} {A : AS} {w : World} {V : HT Value} {O : List (Nat × AObj)} {b : Act}
theorem Inv.ahead (hI : Inv P L t0 n ds base gm f0 A0 w0 S q f A w V O b) (hG : RG L n) {i : Nat} {o : Oper} (ho : L[i]? = some o) (hr : ∀ e ∈ o.after, Region.binds .any e = true → S e.on = true) {j : Nat} (hb : Nat.testBit (Bi L i) j = true) : S j = true :=
  hG.closed (S := fun i => S i = true) (fun i o hi ho => hI.cl i o hi ho) ho hr hb
theorem Inv.ev (hI : Inv P L t0 n ds base gm f0 A0 w0 S q f A w V O b) (hG : RG L n) (hW0 : WR base gm f0 A0 w0) {i : Nat} {o : Oper} (ho : L[i]? = some o) (hS : S i = false) (hr : ∀ e ∈ o.after, Region.binds .any e = true → S e.on = true)
    {x : Operand} (hx : x ∈ o.op.operands) (hok : opdOk gm A0.h x = true) : VR f (evD L t0 V (Bi L i) x) (b.eval x) := by
  have hle := hI.st.le hW0
  cases x with
  | tmp t =>
    have h1 := hI.tm.2 t
    have h2 := (hG.op i o ho).reads _ hx
    unfold readsOk at h2
    unfold evD
    unfold slotV at h1
    show VR f _ (b.tmps.getD t undef)
    dsimp only at h2 ⊢
    cases hw : writer L 0 t with
    | none => rw [hw] at h1; exact h1
    | some j =>
      rw [hw] at h1 h2
      dsimp only at h1 h2 ⊢
      cases hb : Nat.testBit (Bi L i) j with
      | true =>
        have hSj := hI.ahead hG ho hr hb
        rw [if_pos hSj] at h1
        dsimp only
        cases hV : V.get j with
        | none => rw [hV] at h1; exact h1
        | some v => rw [hV] at h1; exact h1
      | false =>
        have hSj : S j = false := by
          cases hSj : S j with
          | false => rfl
          | true =>
            have h2 : (Nat.testBit (Bi L i) j || Nat.testBit (Bi L j) i || Nat.beq i j) = true := h2
            rw [hb, Bool.false_or, Bool.or_eq_true] at h2
            exfalso
            rcases h2 with h2 | h2
            · have hoj := List.getElem?_eq_getElem (hI.sub j hSj)
              have := hI.ahead hG hoj (hI.cl j _ hSj hoj) h2
              rw [hS] at this
              cases this
            · have := beq_t h2
              subst this
              rw [hS] at hSj
              cases hSj
        rw [hSj, if_neg (by decide)] at h1
        exact h1
  | const v => exact noA_refl f 60 v hok
  | global g =>
    cases hb : Nat.blt g gm with
    | false => simp [opdOk, hb] at hok
    | true =>
      cases hg : A0.h.get g with
      | none => simp [opdOk, hb, hg] at hok
      | some o => exact .ptr ⟨⟨g, 0, none⟩, hle _ _ (hW0.gl g o hg (blt_lt hb)), rfl⟩
  | func g => exact .func (.same (by simp)) rfl (fun i v v' h => by simp at h) rfl (fun i v v' h => by simp at h)
theorem Inv.want (hI : Inv P L t0 n ds base gm f0 A0 w0 S q f A w V O b) (hG : RG L n) {ops : Array Oper} (hL : ops.toList = L) {i : Nat} {o : Oper} (ho : L[i]? = some o) (hr : ∀ e ∈ o.after, Region.binds .any e = true → S e.on = true) :
    wantD V o = Region.wanted o (yielded ops b.tmps) := by
  unfold wantD Region.wanted
  cases hg : o.guard with
  | none => rfl
  | some p =>
    obtain ⟨g, want⟩ := p
    dsimp only
    obtain ⟨h1, q, d, h2, h3⟩ := (hG.op i o ho).guard g want hg
    have hSg := hI.ahead hG ho hr h1
    have hq : ops[g]? = some q := by rw [← Array.getElem?_toList, hL]; exact h2
    unfold yielded
    rw [hq]
    dsimp only [Option.bind_some]
    rw [h3]
    dsimp only [Option.bind_some]
    have h4 := hI.tm.2 d
    unfold slotV at h4
    rw [(hG.op g q h2).own d h3] at h4
    dsimp only at h4
    rw [if_pos hSg] at h4
    exact (want1 want h4).symm
theorem slots_put (hG : RG L n) {i : Nat} {o : Oper} (ho : L[i]? = some o) {S' : Nat → Bool} (hS' : ∀ j, S' j = (S j || decide (j = i))) {V' : HT Value} (hV : ∀ j, S j = true → V'.get j = V.get j) {g : Ren} (hle : f.le g)
    (ht : b.tmps.size = n ∧ ∀ t, VR f (slotV L t0 V S t) (b.tmps.getD t undef)) {u v : Value} (hVi : V'.get i = some u) (hu : VR g u v) :
    (b.put o.dst v).tmps.size = n ∧ ∀ t, VR g (slotV L t0 V' S' t) ((b.put o.dst v).tmps.getD t undef) := by
  have other : ∀ t, (∀ d, o.dst = some d → t ≠ d) → VR g (slotV L t0 V' S' t) (b.tmps.getD t undef) := fun t hne => by
    have h1 := (ht.2 t).mono hle
    unfold slotV at h1 ⊢
    cases hw : writer L 0 t with
    | none => rw [hw] at h1; exact h1
    | some j =>
      rw [hw] at h1
      dsimp only at h1 ⊢
      obtain ⟨_, o2, h2, h3⟩ := writer_dst L 0 t j hw
      have hji : j ≠ i := by
        rintro rfl
        rw [Nat.sub_zero, ho] at h2
        cases h2
        exact hne t h3 rfl
      rw [hS' j, decide_eq_false hji, Bool.or_false]
      cases hSj : S j with
      | true =>
        rw [hSj, if_pos rfl] at h1
        rw [if_pos rfl, hV j hSj]
        exact h1
      | false =>
        rw [hSj] at h1
        exact h1
  cases hd : o.dst with
  | none => exact ⟨ht.1, fun t => other t fun d e => by rw [hd] at e; cases e⟩
  | some d =>
    have hdn := (hG.op i o ho).dst
    unfold dstOk at hdn
    rw [hd] at hdn
    simp only [Bool.and_eq_true] at hdn
    have hdn := blt_lt hdn.1
    refine ⟨by show (b.tmps.setIfInBounds d v).size = n; rw [Array.size_setIfInBounds]; exact ht.1, fun t => ?_⟩
    show VR g _ ((b.tmps.setIfInBounds d v).getD t undef)
    by_cases htd : t = d
    · subst htd
      rw [Array.getD_eq_getD_getElem?, Array.getElem?_setIfInBounds_self_of_lt (by rw [ht.1]; exact hdn)]
      unfold slotV
      rw [(hG.op i o ho).own t hd]
      dsimp only
      rw [hS' i, decide_eq_true rfl, Bool.or_true, if_pos rfl, hVi]
      exact hu
    · rw [Array.getD_eq_getD_getElem?, Array.getElem?_setIfInBounds_ne (fun e => htd e.symm), ← Array.getD_eq_getD_getElem?]
      exact other t fun d' e => by rw [hd] at e; cases e; exact htd
theorem insAll_ok (hgb : gm ≤ base) (hW0 : WR base gm f0 A0 w0) {bs es : List Nat} : ∀ (O : List (Nat × AObj)) (A : AS), Step base gm f0 A0 w0 f A w → A0.nx + L.length ≤ A.nx → (∀ i x, (i, x) ∈ O → i < L.length) → (O.map (·.1)).Nodup →
    (∀ i x, (i, x) ∈ O → fst bs i es 0 = q → ∃ l, f (A0.nx + i) = some l ∧ ObR f w x l ∧ w0.heap.size ≤ l.blk ∧ ¬ Im gm f A l.blk) →
    (∀ i x j y l m, (i, x) ∈ O → (j, y) ∈ O → fst bs i es 0 = q → fst bs j es 0 = q → f (A0.nx + i) = some l → f (A0.nx + j) = some m → l.blk = m.blk → i = j) →
    Step base gm f0 A0 w0 f (insAll bs es A0.nx q O A) w ∧ (insAll bs es A0.nx q O A).nx = A.nx ∧ ∀ b, Im gm f (insAll bs es A0.nx q O A) b → Im gm f A b ∨ ∃ i x l, (i, x) ∈ O ∧ fst bs i es 0 = q ∧ f (A0.nx + i) = some l ∧ l.blk = b
  | [], A, hS, hnx, hlt, hnd, h1, h2 => ⟨hS, rfl, fun b h => .inl h⟩
  | (i, x) :: O, A, hS, hnx, hlt, hnd, h1, h2 => by
    rw [List.map_cons, List.nodup_cons] at hnd
    rw [insAll]
    cases hq : Nat.beq (fst bs i es 0) q with
    | false =>
      dsimp only
      obtain ⟨h3, h4, h5⟩ := insAll_ok hgb hW0 O A hS hnx (fun j y h => hlt j y (List.mem_cons_of_mem _ h)) hnd.2 (fun j y h => h1 j y (List.mem_cons_of_mem _ h)) (fun j y k z l m ha hb => h2 j y k z l m (List.mem_cons_of_mem _ ha) (List.mem_cons_of_mem _ hb))
      refine ⟨h3, h4, fun b hb => ?_⟩
      rcases h5 b hb with h | ⟨j, y, l, ha, hb⟩
      · exact .inl h
      · exact .inr ⟨j, y, l, List.mem_cons_of_mem _ ha, hb⟩
    | true =>
      dsimp only
      have hq := beq_t hq
      obtain ⟨l, hf, ho, hlb, hni⟩ := h1 i x (List.mem_cons_self ..) hq
      have hgm := hW0.gm
      have hi := hlt i x (List.mem_cons_self ..)
      have hid : A0.nx + i < A.nx := by omega
      have hnone : A.h.get (A0.nx + i) = none := by
        cases hh : A.h.get (A0.nx + i) with
        | none => rfl
        | some o2 => exact absurd ⟨A0.nx + i, o2, l, by omega, hh, hf, rfl⟩ hni
      have hget : ∀ m, (HT.set 64 A.h (A0.nx + i) (some x)).get m = if m = A0.nx + i then some x else A.h.get m := fun m => HT.get_set 64 A.h _ m _ (Nat.lt_trans (by have := hS.wr.nb; omega : A0.nx + i + 1 < 10000000001) (by decide))
      have him : ∀ b, Im gm f (put A (A0.nx + i) (some x)) b → Im gm f A b ∨ l.blk = b := fun b ⟨k, o2, l2, hgk, hk, hk2, e⟩ => by
        have hk : (HT.set 64 A.h (A0.nx + i) (some x)).get k = some o2 := hk
        rw [hget] at hk
        by_cases hkk : k = A0.nx + i
        · subst hkk
          rw [hf] at hk2
          cases hk2
          exact .inr e
        · rw [if_neg hkk] at hk
          exact .inl ⟨k, o2, l2, hgk, hk, hk2, e⟩
      have hwr : WR base gm f (put A (A0.nx + i) (some x)) w := hS.wr.insert hid hnone hf ho (Nat.le_trans hW0.sz hlb) (by omega) fun k o2 l2 hk hk2 e => by
        by_cases hgk : gm ≤ k
        · exact hni ⟨k, o2, l2, hgk, hk, hk2, e⟩
        · have h3 := hS.wr.gl k o2 hk (by omega)
          rw [hk2] at h3
          cases h3
          have := hW0.sz
          have e : k = l.blk := e
          omega
      have hS' : Step base gm f0 A0 w0 f (put A (A0.nx + i) (some x)) w := ⟨hS.ren, hS.nx, hS.chg, fun b hb => by
        rcases him b hb with h | h
        · exact hS.im b h
        · left; omega, hwr⟩
      obtain ⟨h3, h4, h5⟩ := insAll_ok hgb hW0 O (put A (A0.nx + i) (some x)) hS' hnx (fun j y h => hlt j y (List.mem_cons_of_mem _ h)) hnd.2 (fun j y hj hjq => by
          obtain ⟨l2, ha, hb, hc, hd⟩ := h1 j y (List.mem_cons_of_mem _ hj) hjq
          refine ⟨l2, ha, hb, hc, fun hIm => ?_⟩
          rcases him _ hIm with h | h
          · exact hd h
          · have := h2 i x j y l l2 (List.mem_cons_self ..) (List.mem_cons_of_mem _ hj) hq hjq hf ha h
            subst this
            exact hnd.1 (List.mem_map.2 ⟨(i, y), hj, rfl⟩)) (fun j y k z l m ha hb => h2 j y k z l m (List.mem_cons_of_mem _ ha) (List.mem_cons_of_mem _ hb))
      refine ⟨h3, h4, fun b hb => ?_⟩
      rcases h5 b hb with h | ⟨j, y, l2, ha, hb⟩
      · rcases him b h with h | h
        · exact .inl h
        · exact .inr ⟨i, x, l, List.mem_cons_self .., hq, hf, h⟩
      · exact .inr ⟨j, y, l2, List.mem_cons_of_mem _ ha, hb⟩
end
end
end Go.Proofs.YtlfinaeklaimjaaGreatDoor.Am
namespace Go.Proofs.YtlfinaeklaimjaaGreatDoor
noncomputable section
end
end Go.Proofs.YtlfinaeklaimjaaGreatDoor
