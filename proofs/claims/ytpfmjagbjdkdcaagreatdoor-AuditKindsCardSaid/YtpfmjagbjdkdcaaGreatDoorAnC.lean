/- Code: ranges over functions, drawn regions. -/
import Derived.Test.YtpfmjagbjdkdcaaGreatDoorAmX
import Derived.Test.YtpfmjagbjdkdcaaGreatDoorAnB
import Derived.RangeFuncNested
set_option linter.unusedSimpArgs false
set_option linter.unusedVariables false
namespace Go.Proofs.YtpfmjagbjdkdcaaGreatDoor.Am
open Go.Proofs.YtpfmjagbjdkdcaaGreatDoor Go.RowKit

section
variable {P : Program} {orc : Orc} {rec : Rec} {base gm : Nat} {f : Ren} {A : AS} {w : World}
theorem lay (hW : WR base gm f A w) (hlt : A.nx < 1000000000) {o : AObj} {o' : Obj} (ho : ∀ g : Ren, f.le g → OR g o o') :
    ∃ f1 L, Step base gm f A w f1 ⟨HT.set 64 A.h A.nx (some o), A.nx + 1⟩ (w.alloc o') ∧ f1 A.nx = some L ∧ L.blk = w.heap.size := by
  have hnone := hW.fr A.nx (Nat.le_refl _)
  have hF : FOut f A.nx w (.map (some A.nx)) (some o) (.map (some w.heap.size)) (w.alloc o') := by
    refine ⟨⟨rfl, rfl, rfl⟩, ⟨w.heap.size, 0, none⟩, o', rfl, rfl, .obj (World.alloc_heap_new w o') (ho _ (Ren.le_put _ hnone)), ?_⟩
    exact .map (L := ⟨w.heap.size, 0, none⟩) (Ren.put_same f _ _)
  obtain ⟨f1, hS, hv⟩ := hF.step hW hlt
  refine ⟨f1, ?_⟩
  generalize hu : w.heap.size = u at hv
  cases hv with
  | map hL => exact ⟨_, hS, hL, rfl⟩
theorem rangeK_ok (hrec : Snd P base gm rec) (horc : OrcOk P base gm orc) (hnum : ∀ (g : Nat) fn, P.funcs[g]? = some fn → fn.name ≠ "runtime.NumGoroutine") {rd : Option Nat} {F : Fence} {st : St} {a : Act} (hF : FOk f rd F) (hW : WR base gm f st.A w) (hA : AcR f st.a a)
    {g : Operand} {ps : Array Tmp} {as b : Code} {k : Kt} (h : rangeK P gm orc rec rd g ps as b st k = true) :
    (Code.rangeFunc g ps as b).wpIn F 0 P (fun e a' w' => ∃ f' st', Step base gm f st.A w f' st'.A w' ∧ AcR f' st'.a a' ∧ k e st' = true) a w := by
  unfold rangeK at h
  dsimp only at h
  split at h
  · rename_i gf first cap hck e
    rw [Bool.and_eq_true] at hck
    obtain ⟨hop, hnx⟩ := hck
    have hnx := blt_lt hnx
    have hg := hA.ev hW hop
    rw [e] at hg
    obtain ⟨first', cap', e', hf1, hf2⟩ : ∃ first' cap', a.eval g = .func (.func gf) first' cap' ∧ LR f first.toList first'.toList ∧ LR f cap.toList cap'.toList := by
      generalize a.eval g = z at hg
      cases hg with | func hg hx hxs hy hys => cases hg; exact ⟨_, _, rfl, AVR.list hx hxs, AVR.list hy hys⟩
    have hgm := hW.gm
    -- the end
    have fin : ∀ (l : Nat) (dsl : List Nat) (mark : List Deferred) (f1 : Ren) (A1 : AS) (w1 : World) (L : Loc), Step base gm f st.A w f1 A1 w1 → f1 l = some L → gm ≤ l → DR f1 dsl (mark ++ a.defers) →
        ∀ {args' : List Value} {args : List Value}, LR f1 args args' →
        callK P gm orc rec gf args A1 (fun _ A => match A.h.get l with
          | some (.loop s pe t n ps as b d) => match s with
            | .busy => false
            | _ => match pe with
              | none => k .normal ⟨⟨st.a.t, st.a.n, dsl⟩, put A l (some (.loop .exhausted none t n ps as b d))⟩
              | some c => rec rd c ⟨⟨st.a.t, st.a.n, dsl⟩, put A l (some (.loop .exhausted (some c) t n ps as b d))⟩ k
          | _ => false) = true →
        (∀ w, (callFunc gf args'.toArray).run P w = .ok (.enter gf args'.toArray) w) ∧
        CallsIn F 0 P gf args'.toArray w1 (rangePost F 0 P L.blk (fun e a' w' => ∃ f' st', Step base gm f st.A w f' st'.A w' ∧ AcR f' st'.a a' ∧ k e st' = true) { a with defers := mark ++ a.defers }) := by
      intro l dsl mark f1 A1 w1 L hS1 hl hgl hD args' args hargs hc
      obtain ⟨h1, h2⟩ := callK_ok hrec horc hnum hS1.wr hargs hc
      refine ⟨h1, (hF.mono (hS1.le hW)).calls (h2.mono fun e2 w2 ⟨f2, v, v', A2, he, hS2, hv, hk⟩ => ?_)⟩
      subst he
      have hl2 : f2 l = some L := hS2.le hS1.wr l L hl
      split at hk
      · rename_i s pe t n ps2 as2 b2 d hget
        obtain ⟨L2, D, fn, tm, h3, h4, h5, h6, h7⟩ := loopObj hS2.wr hget
        rw [hl2] at h3
        cases h3
        have hlt := (Array.getElem?_eq_some_iff.1 h7).1
        have hsb : s ≠ .busy := by
          rintro rfl
          cases hk
        have hle2 := (hS1.trans hS2).le hW
        have hac : AcR f2 ⟨st.a.t, st.a.n, dsl⟩ { a with defers := mark ++ a.defers } := ⟨hA.t.mono hle2, hD.mono (hS2.le hS1.wr)⟩
        have hS3 := Step.obj (o1 := .loop .exhausted pe t n ps2 as2 b2 d) hS2.wr hget hl2 h4 hgl hlt (.loop (fn := fn) h5 h6)
        refine ⟨pe, _, run_endLoop h7 hsb, ?_⟩
        cases pe with
        | none =>
          have hk2 : k .normal ⟨⟨st.a.t, st.a.n, dsl⟩, put A2 l (some (.loop .exhausted none t n ps2 as2 b2 d))⟩ = true := by cases s <;> first | exact absurd rfl hsb | exact hk
          exact ⟨f2, _, (hS1.trans hS2).trans hS3, hac, hk2⟩
        | some c =>
          have hk2 : rec rd c ⟨⟨st.a.t, st.a.n, dsl⟩, put A2 l (some (.loop .exhausted (some c) t n ps2 as2 b2 d))⟩ k = true := by cases s <;> first | exact absurd rfl hsb | exact hk
          refine wpIn_mono (hrec rd c _ k f2 _ _ F (hF.mono hle2) hS3.wr hac hk2) ?_
          rintro e3 a3 w3 ⟨f3, st3, h8, h9, h10⟩
          exact ⟨f3, st3, ((hS1.trans hS2).trans hS3).trans h8, h9, h10⟩
      · cases hk
    have hyield : ∀ {f1 : Ren} {l : Nat} {L : Loc}, f.le f1 → f1 l = some L → LR f1 (first.toList ++ [.func (.yield l) #[] #[]] ++ cap.toList) (first'.toList ++ [.func (.yield L.blk) #[] #[]] ++ cap'.toList) := fun {f1 l L} hle hl =>
      ((hf1.mono hle).app (.cons (VR.func (.yield hl) rfl (fun i v v' h => by simp at h) rfl (fun i v v' h => by simp at h)) (.nil f1))).app (hf2.mono hle)
    have hargs : ∀ l, first' ++ #[Value.func (.yield l) #[] #[]] ++ cap' = (first'.toList ++ [Value.func (.yield l) #[] #[]] ++ cap'.toList).toArray := fun l => by apply Array.ext'; simp
    have hres : ∀ l w, (resolve a.eval (rangeCall g l) 0).run P w = .ok { target := .fn (.func gf) cap', args := first' ++ #[.func (.yield l) #[] #[]] } w := fun l w => by
      have : (#[Operand.const (.func (.yield l) #[] #[])] : Array Operand).map a.eval = #[.func (.yield l) #[] #[]] := by simp [Act.eval]
      simp only [resolve, e', Deferred.ofValue, this, Sem.run_pure]
    split at h
    · cases hF
      refine wpIn_rangeFunc fun fn _ => ?_
      obtain ⟨f1, D, hS1, hD, hDb⟩ := lay hW (Nat.lt_trans (Nat.lt_succ_self _) hnx) (o := .deferred) (o' := .deferred (some [])) fun g _ => .deferred
      obtain ⟨f2, L, hS2, hL, hLb⟩ := lay hS1.wr hnx (o := .loop .ready none st.a.t st.a.n ps as b st.A.nx)
        (o' := .loop { state := .ready, pending := none, fn := fn, tmps := a.tmps, params := ps, assign := as, body := b, defers := D.blk }) fun g hg => .loop (hg _ _ hD) (hA.t.mono ((hS1.le hW).trans hg))
      have hle := (hS1.trans hS2).le hW
      have hD2 : f2 st.A.nx = some D := hS2.le hS1.wr _ _ hD
      obtain ⟨h1, h2⟩ := fin (st.A.nx + 1) (st.A.nx :: st.a.d) [{ target := .collected D.blk, args := #[] }] f2 _ _ L (hS1.trans hS2) hL (by omega) (.cons hD2 (hA.d.mono hle)) (hyield hle hL) h
      have hsz : L.blk = w.heap.size + 1 := by rw [hLb, World.size_alloc]
      have hen : (Instr.enterLoop fn a.tmps ps as b none).run P w = .ok (L.blk, [{ target := .collected D.blk, args := #[] }]) ((w.alloc (.deferred (some []))).alloc (.loop { state := .ready, pending := none, fn := fn, tmps := a.tmps, params := ps, assign := as, body := b, defers := D.blk })) := by
        rw [hsz, hDb]
        exact run_enterLoop_outer _ _ _ _ _
      have hinv : ∀ w2, (invoke (.fn (.func gf) cap') (first' ++ #[.func (.yield L.blk) #[] #[]])).run P w2 = .ok (.enter gf (first'.toList ++ [Value.func (.yield L.blk) #[] #[]] ++ cap'.toList).toArray) w2 := fun w2 => by
        rw [invoke, hargs, h1]
      exact ⟨L.blk, _, _, _, _, gf, _, _, hen, hres L.blk _, fun f' _ => FOk.fn (f := f) (rd := none) rfl f', hinv _, fun hd => (by cases hd), h2⟩
    · rename_i l0
      obtain ⟨L0, hl0, rfl⟩ := hF
      split at h
      · rename_i s0 pe0 t1 n1 ps1 as1 b1 d0 hget
        obtain ⟨L2, D, fn0, tm, h3, h4, h5, h6, h7⟩ := loopObj hW hget
        rw [hl0] at h3
        cases h3
        refine wpIn_rangeFunc fun fn _ => ?_
        obtain ⟨f1, L, hS1, hL, hLb⟩ := lay hW (Nat.lt_trans (Nat.lt_succ_self _) hnx) (o := .loop .ready none st.a.t st.a.n ps as b d0)
          (o' := .loop { state := .ready, pending := none, fn := fn, tmps := a.tmps, params := ps, assign := as, body := b, defers := D.blk }) fun g hg => .loop (hg _ _ h5) (hA.t.mono hg)
        have hle := hS1.le hW
        obtain ⟨h1, h2⟩ := fin st.A.nx st.a.d [] f1 _ _ L hS1 hL hgm (hA.d.mono hle) (hyield hle hL) h
        have hen : (Instr.enterLoop fn a.tmps ps as b (some L0.blk)).run P w = .ok (L.blk, []) (w.alloc (.loop { state := .ready, pending := none, fn := fn, tmps := a.tmps, params := ps, assign := as, body := b, defers := D.blk })) := by
          rw [hLb]
          exact run_enterLoop_inner h7 _ _ _ _ _
        have hinv : ∀ w2, (invoke (.fn (.func gf) cap') (first' ++ #[.func (.yield L.blk) #[] #[]])).run P w2 = .ok (.enter gf (first'.toList ++ [Value.func (.yield L.blk) #[] #[]] ++ cap'.toList).toArray) w2 := fun w2 => by
          rw [invoke, hargs, h1]
        exact ⟨L.blk, _, _, _, _, gf, _, _, hen, hres L.blk _, fun f' _ => FOk.fn (f := f) (rd := some l0) ⟨L0, hl0, rfl⟩ f', hinv _, fun hd => (by cases hd), h2⟩
      · cases h
  · cases h
end
end Go.Proofs.YtpfmjagbjdkdcaaGreatDoor.Am
