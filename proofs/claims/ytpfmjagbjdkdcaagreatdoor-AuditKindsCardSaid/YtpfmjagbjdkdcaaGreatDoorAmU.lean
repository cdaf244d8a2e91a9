/- Rounds; operations that write, or call. -/
import Derived.Test.YtpfmjagbjdkdcaaGreatDoorAmS
set_option linter.unusedSimpArgs false
set_option linter.unusedVariables false
namespace Go.Proofs.YtpfmjagbjdkdcaaGreatDoor.Am
open Go.Proofs.YtpfmjagbjdkdcaaGreatDoor Go.RowKit

section
variable {P : Program} {base gm : Nat} {orc : Orc} {rec : Rec} {f : Ren} {A : AS} {w w1 : World}
theorem setPs_ok : ∀ (ps : List Tmp) (vs vs' : List Value) (t t' : HT Value) (n : Nat) (tm : Array Value), setPs t n ps vs = some t' → TR f t n tm → LR f vs vs' →
    ps.length = vs.length ∧ TR f t' n ((ps.zip vs').foldl (fun (tm : Array Value) (p : Tmp × Value) => tm.setIfInBounds p.1 p.2) tm)
  | [], [], vs', t, t', n, tm, h, hT, hv => by
    cases h
    exact ⟨rfl, by simpa using hT⟩
  | [], _ :: _, _, _, _, _, _, h, _, _ => by simp [setPs] at h
  | _ :: _, [], _, _, _, _, _, h, _, _ => by simp [setPs] at h
  | p :: ps, v :: vs, [], _, _, _, _, _, _, hv => by have := hv.1; simp at this
  | p :: ps, v :: vs, v' :: vs', t, t', n, tm, h, hT, hv => by
    rw [setPs] at h
    split at h
    · rename_i hb
      simp only [Bool.and_eq_true] at hb
      obtain ⟨h1, h2⟩ := hv.tail
      obtain ⟨h3, h4⟩ := setPs_ok ps vs vs' _ t' n _ h (hT.put (blt_lt hb.1) (blt_lt hb.2) h1) h2
      exact ⟨by simp [h3], h4⟩
    · cases h
theorem loopObj (hW : WR base gm f A w) {l : Nat} {st : LoopState} {pe : Option Code} {t : HT Value} {n : Nat} {ps : Array Tmp} {as b : Code} {d : Nat} (hg : A.h.get l = some (.loop st pe t n ps as b d)) :
    ∃ L D fn tm, f l = some L ∧ L = ⟨L.blk, 0, none⟩ ∧ f d = some D ∧ TR f t n tm ∧ w.heap[L.blk]? = some (.loop { state := st, pending := pe, fn, tmps := tm, params := ps, assign := as, body := b, defers := D.blk }) := by
  obtain ⟨L, o', hl, hl0, hw, ho⟩ := itObj hW hg (by simp)
  cases ho with
  | loop hd ht => exact ⟨L, _, _, _, hl, hl0, hd, ht, hw⟩
abbrev RR (base gm : Nat) (f : Ren) (A : AS) (w : World) (k : Value → AS → Bool) : Ending → World → Prop := fun e w' => ∃ f' v v' A', e = .returned v' ∧ Step base gm f A w f' A' w' ∧ VR f' v v' ∧ k v A' = true
theorem yieldK_ok (hrec : Snd P base gm rec) (hW : WR base gm f A w) {l : Nat} {args args' : List Value} (ha : LR f args args') {k : Value → AS → Bool} (h : yieldK gm rec l args A k = true) :
    ∃ L fn tm as b, f l = some L ∧ (∀ w2 : World, w2 = w → (Instr.yield L.blk args'.toArray).run P w2 = .ok (.round L.blk fn tm as b) w2) ∧ RoundIn Fence.wide 0 P L.blk fn tm as b w (RR base gm f A w k) := by
  unfold yieldK at h
  split at h
  · rename_i st0 pe0 t n ps as b d0 hg hgl
    have hgl := Nat.le_of_ble_eq_true hgl
    obtain ⟨L, D, fn, tm, hl, hl0, hd, hT, hw⟩ := loopObj hW hg
    split at h
    · rename_i t' hps
      obtain ⟨hlen, hT'⟩ := setPs_ok ps.toList args args' t t' n tm hps hT ha
      have hsz : args'.toArray.size = ps.size := by rw [List.size_toArray, ← ha.1, ← hlen]; simp
      have hfold : ((ps.zip args'.toArray).foldl (fun (tm : Array Value) (p : Tmp × Value) => tm.setIfInBounds p.1 p.2) tm) = (ps.toList.zip args').foldl (fun (tm : Array Value) (p : Tmp × Value) => tm.setIfInBounds p.1 p.2) tm := by
        rw [← Array.foldl_toList, Array.toList_zip]
      refine ⟨L, fn, _, as, b, hl, fun w2 e => by rw [e]; exact run_yield hw hsz, ?_⟩
      refine roundIn_of_wpIn trivial ?_
      refine wpIn_mono (hrec (some l) as _ _ f { tmps := _, defers := [] } w (Fence.wide.inRound L.blk) ⟨L, hl, rfl⟩ hW ⟨by rw [← hfold] at hT'; exact hT', .nil⟩ h) ?_
      rintro e a1 w1 ⟨f1, st1, hS1, hA1, hk1⟩
      split at hk1
      · rename_i e1 ob pe t1 n1 ps1 as1 b1 d1 hg1
        have hl1 : f1 l = some L := hS1.le hW l L hl
        obtain ⟨L1, D1, fn1, tm1, hl2, _, hd1, hT1, hw1⟩ := loopObj hS1.wr hg1
        rw [hl1] at hl2
        cases hl2
        have hlt1 := (Array.getElem?_eq_some_iff.1 hw1).1
        have hS2 := Step.obj (o1 := .loop .busy pe t1 n1 ps1 as1 b1 d1) hS1.wr hg1 hl1 hl0 hgl hlt1 (.loop (fn := fn1) hd1 hT1)
        refine ⟨_, run_beginRound hw1 rfl, ?_⟩
        refine wpIn_mono (hrec (some l) b ⟨st1.a, put st1.A l (some (.loop .busy pe t1 n1 ps1 as1 b1 d1))⟩ _ f1 a1 _ (Fence.wide.inRound L.blk) ⟨L, hl1, rfl⟩ hS2.wr hA1 hk1) ?_
        rintro e2 a2 w2 ⟨f2, st2, hS3, hA2, hk2⟩
        split at hk2
        · rename_i ob2 s2 pe2 t2 n2 ps2 as2 b2 d2 hg2
          have hl3 : f2 l = some L := hS3.le hS2.wr l L hl1
          obtain ⟨L2, D2, fn2, tm2, hl4, _, hd2, hT2, hw2⟩ := loopObj hS3.wr hg2
          rw [hl3] at hl4
          cases hl4
          have hlt2 := (Array.getElem?_eq_some_iff.1 hw2).1
          have fin : ∀ (jump : Option Code) (o1 : AObj), o1 = .loop (if jump.isNone then .ready else .done) jump t2 n2 ps2 as2 b2 d2 → k (.bool jump.isNone) (put st2.A l (some o1)) = true →
              ∃ v w', (Instr.endRound L.blk jump).run P w2 = .ok v w' ∧ RR base gm f A w k (.returned v) w' := fun jump o1 ho hk => by
            have hS4 := Step.obj (o1 := o1) hS3.wr hg2 hl3 hl0 hgl hlt2 (o' := .loop { state := if jump.isNone then .ready else .done, pending := jump, fn := fn2, tmps := tm2, params := ps2, assign := as2, body := b2, defers := D2.blk }) (by rw [ho]; exact .loop hd2 hT2)
            exact ⟨_, _, run_endRound jump hw2, f2, .bool jump.isNone, _, _, rfl, ((hS1.trans hS2).trans hS3).trans hS4, .bool _, hk⟩
          cases e2 with
          | normal => exact fin none _ rfl hk2
          | ret => exact fin (some .ret) _ rfl hk2
          | exit i => exact fin (some (.exit i)) _ rfl hk2
          | goto i => exact fin (some (.goto i)) _ rfl hk2
          | panic c => cases hk2
          | outgrown => cases hk2
        · cases hk2
      · cases hk1
    · cases h
  · cases h
section
variable {o : Oper} {a : Act} {next : Act → World → Prop} {Q : Exit → Act → World → Prop} {F : Fence} {rd : Option Nat}
theorem wp_val (hF : FOk f rd F) (hd : ∀ c, o.op ≠ .defer c) {v' : Value} {w' : World} (h : (execOp a.eval o).run P w = .ok (.value v') w') (hn : next (a.put o.dst v') w') : o.wpIn F 0 P a w next Q :=
  ⟨fun g _ => hF.fn g, by rw [Oper.semAt_eq _ _ _ hd, h]; exact hn⟩
theorem wp_skp (hF : FOk f rd F) (hd : ∀ c, o.op ≠ .defer c) {w' : World} (h : (execOp a.eval o).run P w = .ok .skip w') (hn : next (a.put o.dst undef) w') : o.wpIn F 0 P a w next Q :=
  ⟨fun g _ => hF.fn g, by rw [Oper.semAt_eq _ _ _ hd, h]; exact hn⟩
theorem wp_enter (hF : FOk f rd F) (hd : ∀ c, o.op ≠ .defer c) {g : FuncId} {args : Array Value} (h : (execOp a.eval o).run P w = .ok (.enter g args) w) {R : Ending → World → Prop} (hc : CallsIn Fence.wide 0 P g args w R)
    (hR : ∀ e w', R e w' → ∃ v', e = .returned v' ∧ next (a.put o.dst v') w') : o.wpIn F 0 P a w next Q :=
  ⟨fun g _ => hF.fn g, by
    rw [Oper.semAt_eq _ _ _ hd, h]
    refine ⟨fun hd => (by rw [hF.depth] at hd; cases hd), hF.calls (hc.mono fun e w' he => ?_)⟩
    obtain ⟨v', rfl, hn⟩ := hR e w' he
    exact hn⟩
theorem wp_round (hF : FOk f rd F) (hd : ∀ c, o.op ≠ .defer c) {l : Nat} {g : FuncId} {tm : Array Value} {as b : Code} (h : (execOp a.eval o).run P w = .ok (.round l g tm as b) w) {R : Ending → World → Prop} (hc : RoundIn Fence.wide 0 P l g tm as b w R)
    (hR : ∀ e w', R e w' → ∃ v', e = .returned v' ∧ next (a.put o.dst v') w') : o.wpIn F 0 P a w next Q :=
  ⟨fun g _ => hF.fn g, by
    rw [Oper.semAt_eq _ _ _ hd, h]
    refine ⟨fun hd => (by rw [hF.depth] at hd; cases hd), hF.rounds (hc.mono fun e w' he => ?_)⟩
    obtain ⟨v', rfl, hn⟩ := hR e w' he
    exact hn⟩
theorem methodA_ok {t : TypeId} {name : String} {g : FuncId} (h : methodA P t name = some g) (v : Value) (w : World) : (method (P.types.size + Made.depth) t v name).run P w = .ok (g, v) w := by
  have hmd : 0 < Made.depth := by decide
  obtain ⟨n, hn⟩ : ∃ n, P.types.size + Made.depth = n + 1 := ⟨P.types.size + Made.depth - 1, by omega⟩
  rw [hn, method]
  unfold methodA at h
  split at h
  · rename_i i hi
    split at h
    · rename_i m d hm hu
      split at h
      · rename_i hp hf
        cases h
        simp only [Sem.run_bind, run_typeInfo' hi, Result.andThen_ok, hm, hp, follow, Sem.run_pure, hf, receiverAt, run_underlying hu, Place.get]
      · cases h
      · rename_i hp hf hne
        cases h
        simp only [Sem.run_bind, run_typeInfo' hi, Result.andThen_ok, hm, hp, follow, Sem.run_pure, hf, receiverAt, run_underlying hu, Place.get]
      · cases h
    · cases h
  · cases h
theorem args_cat (first cap : Array Value) (args : Array Operand) (ρ : Operand → Value) : first ++ args.map ρ ++ cap = (first.toList ++ args.toList.map ρ ++ cap.toList).toArray := by
  apply Array.ext'
  simp
theorem AVR.list {x x' : Array Value} (h : x.size = x'.size) (hs : ∀ (i : Nat) (v v' : Value), x[i]? = some v → x'[i]? = some v' → VR f v v') : LR f x.toList x'.toList := ⟨by simpa using h, fun i v v' a b => hs i v v' (by simpa using a) (by simpa using b)⟩
set_option maxHeartbeats 1000000 in
theorem effK_ok (hrec : Snd P base gm rec) (horc : OrcOk P base gm orc) (hnum : ∀ (g : Nat) fn, P.funcs[g]? = some fn → fn.name ≠ "runtime.NumGoroutine") (hW : WR base gm f A w) (hnx : A.nx < 1000000000) (hF : FOk f rd F) {ρ : Operand → Value}
    (hρ : ∀ x ∈ o.op.operands, VR f (ρ x) (a.eval x)) {k : Value → AS → Bool} (h : effK P gm orc rec ρ o A k = true)
    (hn : ∀ f' v v' A' w', Step base gm f A w f' A' w' → VR f' v v' → k v A' = true → next (a.put o.dst v') w') : o.wpIn F 0 P a w next Q := by
  obtain ⟨dst, op, type, pos, after, guard⟩ := o
  have one : ∀ {x : Option (Value × AS)}, oneK x k = true → ∃ v A', x = some (v, A') ∧ k v A' = true := fun {x} h => by
    unfold oneK at h
    split at h
    · exact ⟨_, _, rfl, h⟩
    · cases h
  have hR : ∀ e w', RR base gm f A w k e w' → ∃ v', e = .returned v' ∧ next (a.put dst v') w' := fun e w' ⟨f', v, v', A', he, hS, hv, hk⟩ => ⟨v', he, hn f' v v' A' w' hS hv hk⟩
  unfold effK at h
  cases op with
  | store t x v =>
    obtain ⟨u, A', e, hk⟩ := one h
    obtain ⟨w', hr, hS, rfl⟩ := eStore_ok (P := P) hW (hρ x (by simp [Op.operands])) (hρ v (by simp [Op.operands])) e
    exact wp_skp hF (by simp) (w' := w') (by simp only [execOp, Sem.run_bind, hr, Result.andThen_ok, Sem.run_pure]) (hn f undef undef A' w' hS (undefVR f) hk)
  | mapUpdate t m x v =>
    obtain ⟨u, A', e, hk⟩ := one h
    obtain ⟨w', hr, hS, rfl⟩ := eMapUpdate_ok (P := P) hW (hρ m (by simp [Op.operands])) (hρ x (by simp [Op.operands])) (hρ v (by simp [Op.operands])) e
    exact wp_skp hF (by simp) (w' := w') (by simp only [execOp, Sem.run_bind, hr, Result.andThen_ok, Sem.run_pure]) (hn f undef undef A' w' hS (undefVR f) hk)
  | insert t m x v =>
    obtain ⟨u, A', e, hk⟩ := one h
    obtain ⟨w', hr, hS, rfl⟩ := eMapUpdate_ok (P := P) hW (hρ m (by simp [Op.operands])) (hρ x (by simp [Op.operands])) (hρ v (by simp [Op.operands])) e
    exact wp_skp hF (by simp) (w' := w') (by simp only [execOp, Sem.run_bind, hr, Result.andThen_ok, Sem.run_pure]) (hn f undef undef A' w' hS (undefVR f) hk)
  | mapEntry t m x =>
    obtain ⟨u, A', e, hk⟩ := one h
    obtain ⟨u', w', hr, hS, hv⟩ := eMapEntry_ok (P := P) hW (hρ m (by simp [Op.operands])) (hρ x (by simp [Op.operands])) e
    exact wp_val hF (by simp) (w' := w') (vrun hr) (hn f u u' A' w' hS hv hk)
  | entryStore t m s v =>
    obtain ⟨u, A', e, hk⟩ := one h
    obtain ⟨w', hr, hS, rfl⟩ := eEntryStore_ok (P := P) (t := t) hW (hρ m (by simp [Op.operands])) (hρ s (by simp [Op.operands])) (hρ v (by simp [Op.operands])) e
    exact wp_skp hF (by simp) (w' := w') (by simp only [execOp, Sem.run_bind, hr, Result.andThen_ok, Sem.run_pure]) (hn f undef undef A' w' hS (undefVR f) hk)
  | next x s =>
    dsimp only at h
    split at h
    · rename_i L hL
      obtain ⟨p, hp, v', w', hr, hS, hv⟩ := eNext_ok (P := P) (ty := type) hW (hρ x (by simp [Op.operands])) hL
      exact wp_val hF (by simp) (w' := w') (vrun hr) (hn f p.1 v' p.2 w' hS hv (List.all_eq_true.1 h p hp))
    · cases h
  | convert s d x =>
    obtain ⟨u, A', e, hk⟩ := one h
    obtain ⟨u', w', hr, hS, hv⟩ := eMark_ok (P := P) hW (hρ x (by simp [Op.operands])) e
    exact wp_val hF (by simp) (w' := w') (vrun hr) (hn f u u' A' w' hS hv hk)
  | call c =>
    obtain ⟨callee, args, ts⟩ := c
    have hargs : LR f (args.toList.map ρ) (args.toList.map a.eval) := LR.map _ _ _ fun x hx => hρ x (by cases callee <;> simp [Op.operands, Call.operands] <;> first | exact .inr (by simpa using hx) | (simpa using hx))
    cases callee with
    | builtin b =>
      have two : ∀ {x y : Operand}, args.toList = [x, y] → args.map a.eval = #[a.eval x, a.eval y] ∧ VR f (ρ x) (a.eval x) ∧ VR f (ρ y) (a.eval y) := fun {x y} e => by
        refine ⟨by apply Array.ext'; rw [Array.toList_map, e]; rfl, hρ x ?_, hρ y ?_⟩
        · simp only [Op.operands, Call.operands]
          have : x ∈ args.toList := by rw [e]; simp
          simpa using this
        · simp only [Op.operands, Call.operands]
          have : y ∈ args.toList := by rw [e]; simp
          simpa using this
      cases b with
      | append =>
        dsimp only at h
        split at h
        · rename_i s x e
          obtain ⟨u, A', e1, hk⟩ := one h
          obtain ⟨h1, h2, h3⟩ := two e
          obtain ⟨f', v', w', hr, hS, hv⟩ := eAppend_ok (P := P) (ty := type) hW hnx h2 h3 e1
          exact wp_val hF (by simp) (w' := w') (by simp only [execOp, resolve, Sem.run_bind, Sem.run_pure, Result.andThen_ok, invoke, builtin, h1, hr]) (hn f' u v' A' w' hS hv hk)
        · cases h
      | copy =>
        dsimp only at h
        split at h
        · rename_i s x e
          obtain ⟨u, A', e1, hk⟩ := one h
          obtain ⟨h1, h2, h3⟩ := two e
          obtain ⟨w', hr, hS, hv⟩ := eCopy_ok (P := P) (ty := type) hW h2 h3 e1
          exact wp_val hF (by simp) (w' := w') (by simp only [execOp, resolve, Sem.run_bind, Sem.run_pure, Result.andThen_ok, invoke, builtin, h1, hr]) (hn f u u A' w' hS hv hk)
        · cases h
      | unsafeString =>
        dsimp only at h
        split at h
        · rename_i s x e
          obtain ⟨u, A', e1, hk⟩ := one h
          obtain ⟨h1, h2, h3⟩ := two e
          obtain ⟨w', hr, hS, hv⟩ := eText_ok (P := P) (ty := type) hW h2 h3 e1
          exact wp_val hF (by simp) (w' := w') (by simp only [execOp, resolve, Sem.run_bind, Sem.run_pure, Result.andThen_ok, invoke, builtin, h1, hr]) (hn f u u A' w' hS hv hk)
        · cases h
      | _ => cases h
    | value g =>
      have hg := hρ g (by simp [Op.operands, Call.operands])
      dsimp only at h
      split at h
      · rename_i gf first cap e
        rw [e] at hg
        obtain ⟨first', cap', e', hf1, hf2⟩ : ∃ first' cap', a.eval g = .func (.func gf) first' cap' ∧ LR f first.toList first'.toList ∧ LR f cap.toList cap'.toList := by
          generalize a.eval g = z at hg
          cases hg with | func hg hx hxs hy hys => cases hg; exact ⟨_, _, rfl, AVR.list hx hxs, AVR.list hy hys⟩
        obtain ⟨h1, h2⟩ := callK_ok hrec horc hnum hW ((hf1.app hargs).app hf2) h
        refine wp_enter hF (by simp) (g := gf) (args := (first'.toList ++ args.toList.map a.eval ++ cap'.toList).toArray) ?_ h2 hR
        simp only [execOp, resolve, Sem.run_bind, Sem.run_pure, Result.andThen_ok, e', Deferred.ofValue, invoke, args_cat, h1]
      · rename_i l first cap e
        rw [e] at hg
        obtain ⟨L, first', cap', e', hL, hf1⟩ : ∃ L first' cap', a.eval g = .func (.yield L.blk) first' cap' ∧ f l = some L ∧ LR f first.toList first'.toList := by
          generalize a.eval g = z at hg
          cases hg with
          | func hg hx hxs hy hys =>
            cases hg with
            | yield hl => exact ⟨_, _, _, rfl, hl, AVR.list hx hxs⟩
            | same hne => exact absurd rfl (hne l)
        obtain ⟨L2, fn, tm, as, b, hl2, h1, h2⟩ := yieldK_ok hrec hW (hf1.app hargs) h
        rw [hL] at hl2
        cases hl2
        refine wp_round hF (by simp) (l := L.blk) (g := fn) (tm := tm) (as := as) (b := b) ?_ h2 hR
        have e2 : first' ++ args.map a.eval = (first'.toList ++ args.toList.map a.eval).toArray := by apply Array.ext'; simp
        simp only [execOp, resolve, Sem.run_bind, Sem.run_pure, Result.andThen_ok, e', Deferred.ofValue, invoke, e2, h1 w rfl]
      · cases h
    | invoke r name =>
      have hg := hρ r (by simp [Op.operands, Call.operands])
      dsimp only at h
      split at h
      · rename_i t v e
        rw [e] at hg
        split at h
        · rename_i gf hm
          obtain ⟨v', e', hv⟩ : ∃ v', a.eval r = .iface t v' ∧ VR f v v' := by
            generalize a.eval r = z at hg
            cases hg with | iface _ hv => exact ⟨_, rfl, hv⟩
          obtain ⟨h1, h2⟩ := callK_ok hrec horc hnum hW (LR.cons hv hargs) h
          refine wp_enter hF (by simp) (g := gf) (args := (v' :: args.toList.map a.eval).toArray) ?_ h2 hR
          have e2 : #[Value.iface t v'] ++ args.map a.eval = (Value.iface t v' :: args.toList.map a.eval).toArray := by apply Array.ext'; simp
          have e3 : (Value.iface t v' :: args.toList.map a.eval).toArray[0]? = some (.iface t v') := rfl
          have e4 : #[v'] ++ ((Value.iface t v' :: args.toList.map a.eval).toArray).extract 1 ((Value.iface t v' :: args.toList.map a.eval).toArray).size = (v' :: args.toList.map a.eval).toArray := by
            apply Array.ext'
            rw [Array.toList_append, Array.toList_extract, List.extract_eq_take_drop]
            simp
            exact List.take_of_length_le (by simp)
          simp only [execOp, resolve, Sem.run_bind, Sem.run_pure, Result.andThen_ok, e', e2, invoke, e3, callMethod, run_program, methodA_ok hm, e4, h1]
        · cases h
      · cases h
  | _ => cases h
end
end
end Go.Proofs.YtpfmjagbjdkdcaaGreatDoor.Am
