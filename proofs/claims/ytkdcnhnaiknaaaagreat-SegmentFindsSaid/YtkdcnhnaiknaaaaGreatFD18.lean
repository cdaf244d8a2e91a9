/- Texts of one proof, joined. -/
import Derived.Test.YtkdcnhnaiknaaaaGreatFD02
import Derived.Deep.RegionHeld3
import Derived.Test.YtkdcnhnaiknaaaaGreatFD12
import Derived.Test.YtkdcnhnaiknaaaaGreatFD17
import Derived.Test.YtkdcnhnaiknaaaaGreatFD04
import Derived.Test.YtkdcnhnaiknaaaaGreatFD15
import Derived.Test.YtkdcnhnaiknaaaaGreatFD16
import Derived.Test.YtkdcnhnaiknaaaaGreatFD08
import Derived.Deep.CutRange
import Derived.Deep.DeepCutAuto
set_option linter.unusedSimpArgs false
set_option linter.unusedVariables false
namespace Go.Proofs.YtkdcnhnaiknaaaaGreat
section
open Go.RowKit
def dstOf (ops : Array Oper) (j : Nat) : Option Tmp := (ops[j]?).bind (·.dst)
structure KnowOps (md : Region.Mode) (ops : Array Oper) (base : Array Bool) (N : Nat) : Prop where
  acyc : (List.range ops.size).all (fun i => ((ops[i]?).map fun o => o.after.all fun e => !Region.binds md e || decide (e.on < i)).getD true) = true
  nodup : (ops.toList.filterMap (·.dst)).Nodup
  bound : ops.toList.all (fun o => match o.dst with | some d => decide (d < N) | none => true) = true
  size : base.size = ops.size
def lack (ops : Array Oper) (listed : Array Bool) : List Nat := (List.range ops.size).filter fun i => !listed.getD i true
theorem lack_set {ops : Array Oper} {listed : Array Bool} {i : Nat} (hi : i ∈ lack ops listed) : (lack ops (listed.setIfInBounds i true)).length < (lack ops listed).length := by
  unfold lack at hi ⊢
  obtain ⟨hr, hl⟩ := List.mem_filter.1 hi
  have hlt : i < listed.size := by
    apply Decidable.byContradiction
    intro h
    rw [Array.getD_eq_getD_getElem?, Array.getElem?_eq_none (by omega)] at hl
    simp at hl
  have h1 : ((List.range ops.size).filter fun j => !(listed.setIfInBounds i true).getD j true) = (((List.range ops.size).filter fun j => !listed.getD j true).filter fun j => decide (j ≠ i)) := by
    rw [List.filter_filter]
    refine List.filter_congr fun j _ => ?_
    rw [Array.getD_eq_getD_getElem?, Array.getD_eq_getD_getElem?, Array.getElem?_setIfInBounds]
    by_cases h : i = j
    · subst h
      simp [hlt]
    · have : ¬ j = i := fun e => h e.symm
      simp [h, this]
  rw [h1]
  exact List.length_filter_lt_length_iff_exists.2 ⟨i, hi, by simp⟩
theorem ready_lack {md : Region.Mode} {ops : Array Oper} {listed : Array Bool} {i : Nat} (hi : i ∈ Region.ready md ops listed) : i ∈ lack ops listed ∧ ∃ o, ops[i]? = some o ∧ ∀ e ∈ o.after, Region.binds md e = true → listed.getD e.on false = true := by
  unfold Region.ready at hi
  obtain ⟨hr, hl⟩ := List.mem_filter.1 hi
  rw [Bool.and_eq_true] at hl
  refine ⟨List.mem_filter.2 ⟨hr, hl.1⟩, ?_⟩
  cases ho : ops[i]? with
  | none => rw [ho] at hl; simp at hl
  | some o =>
    rw [ho] at hl
    simp only [Option.map_some, Option.getD_some] at hl
    refine ⟨o, rfl, fun e he hb => ?_⟩
    have h2 := hl.2
    rw [Array.all_eq_true_iff_forall_mem] at h2
    have := h2 e he
    rw [hb] at this
    simpa using this
theorem lack_ready {md : Region.Mode} {ops : Array Oper} {base listed : Array Bool} {N : Nat} (hk : KnowOps md ops base N) (hs : listed.size = ops.size) (h0 : Region.ready md ops listed = []) : lack ops listed = [] := by
  apply Decidable.byContradiction
  intro hne
  have key : ∀ i, i ∉ lack ops listed := by
    intro i
    induction i using Nat.strongRecOn with
    | ind i ih =>
      intro hi
      obtain ⟨hr, hl⟩ := List.mem_filter.1 hi
      have hlt : i < ops.size := List.mem_range.1 hr
      have : i ∈ Region.ready md ops listed := by
        unfold Region.ready
        refine List.mem_filter.2 ⟨hr, ?_⟩
        rw [hl, Bool.true_and]
        have ho : ops[i]? = some ops[i] := Array.getElem?_eq_getElem hlt
        rw [ho, Option.map_some, Option.getD_some]
        rw [Array.all_eq_true_iff_forall_mem]
        intro e he
        have hac := hk.acyc
        rw [List.all_eq_true] at hac
        have h1 := hac i hr
        rw [ho, Option.map_some, Option.getD_some, Array.all_eq_true_iff_forall_mem] at h1
        cases hbd : Region.binds md e with
        | false => simp
        | true =>
        have h1e := h1 e he
        rw [hbd] at h1e
        have h2 : e.on < i := by simpa using h1e
        have h3 := ih e.on h2
        have h4 : listed.getD e.on true = true := by
          apply Decidable.byContradiction
          intro h5
          exact h3 (List.mem_filter.2 ⟨List.mem_range.2 (by omega), by simpa using h5⟩)
        have h6 : e.on < listed.size := by omega
        rw [Array.getD_eq_getD_getElem?, Array.getElem?_eq_getElem h6] at h4
        rw [Array.getD_eq_getD_getElem?, Array.getElem?_eq_getElem h6]
        simp at h4 ⊢
        rw [h4]
        try simp
      rw [h0] at this
      cases this
  cases hl : lack ops listed with
  | nil => exact hne hl
  | cons i t => exact key i (by rw [hl]; exact List.mem_cons_self ..)
theorem dst_apart {ops : Array Oper} (h : (ops.toList.filterMap (·.dst)).Nodup) {i j : Nat} {d : Tmp} (hi : dstOf ops i = some d) (hj : dstOf ops j = some d) : i = j := by
  unfold dstOf at hi hj
  obtain ⟨oi, hoi, hdi⟩ := Option.bind_eq_some_iff.1 hi
  obtain ⟨oj, hoj, hdj⟩ := Option.bind_eq_some_iff.1 hj
  have h1 : ops.toList[i]? = some oi := by simpa using hoi
  have h2 : ops.toList[j]? = some oj := by simpa using hoj
  generalize ops.toList = l at h h1 h2
  clear hoi hoj hi hj
  induction l generalizing i j with
  | nil => simp at h1
  | cons x t ih =>
    have hin : ∀ {k : Nat} {o : Oper}, t[k]? = some o → o.dst = some d → d ∈ t.filterMap (·.dst) := fun {k o} hk ho => List.mem_filterMap.2 ⟨o, List.mem_of_getElem? hk, ho⟩
    cases hx : x.dst with
    | none =>
      rw [List.filterMap_cons_none hx] at h
      cases i with
      | zero => simp at h1; subst h1; rw [hx] at hdi; cases hdi
      | succ i =>
        cases j with
        | zero => simp at h2; subst h2; rw [hx] at hdj; cases hdj
        | succ j => exact congrArg (· + 1) (ih h (by simpa using h1) (by simpa using h2))
    | some dx =>
      rw [List.filterMap_cons_some hx, List.nodup_cons] at h
      cases i with
      | zero =>
        simp at h1; subst h1
        rw [hx] at hdi; cases hdi
        cases j with
        | zero => rfl
        | succ j => exact absurd (hin (by simpa using h2) hdj) h.1
      | succ i =>
        cases j with
        | zero =>
          simp at h2; subst h2
          rw [hx] at hdj; cases hdj
          exact absurd (hin (by simpa using h1) hdi) h.1
        | succ j => exact congrArg (· + 1) (ih h.2 (by simpa using h1) (by simpa using h2))
structure KnowA (ops : Array Oper) (base : Array Bool) (a0 : Act) (wx : World) (a : Act) (w : World) : Prop where
  size : a.tmps.size = a0.tmps.size
  defers : a.defers = a0.defers
  same : ∀ d, (List.range ops.size).all (fun j => base.getD j true || decide (dstOf ops j ≠ some d)) = true → a.tmps[d]? = a0.tmps[d]?
  ext : Ext wx w
theorem wpAnyH_know {P : Program} {md : Region.Mode} {ops : Array Oper} {Q : Exit → Act → World → Prop} {S : World → Prop} {base : Array Bool} {a0 : Act} {wx : World} (hk : KnowOps md ops base a0.tmps.size) (H : Nat → Value → World → Prop)
    (hm : ∀ j v w w', H j v w → Ext w w' → H j v w') (hS : ∀ w, Ext wx w → S w)
    (hstep : ∀ i o, ops[i]? = some o → base.getD i true = false → ∀ a w, KnowA ops base a0 wx a w → (∀ e ∈ o.after, Region.binds md e = true → base.getD e.on true = false → ∀ d, dstOf ops e.on = some d → H e.on (a.tmps.getD d undef) w) →
      if Region.wanted o (yielded ops a.tmps) = true then Oper.wp P o a w (fun a' w' => ∃ v, a' = a.put o.dst v ∧ H i v w' ∧ Ext w w') Q else H i undef w)
    (hfin : ∀ a w, KnowA ops base a0 wx a w → (∀ j d, base.getD j true = false → dstOf ops j = some d → H j (a.tmps.getD d undef) w) → Q .normal a w) :
    ∀ (fuel : Nat) (listed : Array Bool) (a : Act) (w : World), listed.size = ops.size → (lack ops listed).length ≤ fuel → (∀ j, base.getD j true = true → listed.getD j true = true) → KnowA ops base a0 wx a w →
      (∀ j d, base.getD j true = false → listed.getD j true = true → dstOf ops j = some d → H j (a.tmps.getD d undef) w) → wpAnyH P md ops Q S fuel listed a w := by
  have hend : ∀ (listed : Array Bool) (a : Act) (w : World), lack ops listed = [] → listed.size = ops.size → KnowA ops base a0 wx a w → (∀ j d, base.getD j true = false → listed.getD j true = true → dstOf ops j = some d → H j (a.tmps.getD d undef) w) → Q .normal a w := fun listed a w hl hs ha hh => hfin a w ha fun j d hb hd => hh j d hb (by
    apply Decidable.byContradiction
    intro hn
    have hj : j < ops.size := by
      unfold dstOf at hd
      obtain ⟨o, ho, _⟩ := Option.bind_eq_some_iff.1 hd
      exact (Array.getElem?_eq_some_iff.1 ho).1
    have : j ∈ lack ops listed := List.mem_filter.2 ⟨List.mem_range.2 hj, by simpa using hn⟩
    rw [hl] at this
    cases this) hd
  intro fuel
  induction fuel with
  | zero =>
    intro listed a w hs hf hb ha hh
    have h0 : lack ops listed = [] := List.length_eq_zero_iff.1 (by omega)
    refine ⟨?_, hend listed a w h0 hs ha hh⟩
    cases hr : Region.ready md ops listed with
    | nil => rfl
    | cons i t =>
      have := (ready_lack (md := md) (ops := ops) (listed := listed) (i := i) (by rw [hr]; exact List.mem_cons_self ..)).1
      rw [h0] at this
      cases this
  | succ fuel ih =>
    intro listed a w hs hf hb ha hh
    refine ⟨fun h0 => hend listed a w (lack_ready hk hs h0) hs ha hh, fun i hi => ?_⟩
    obtain ⟨hil, o, ho, hdep⟩ := ready_lack hi
    have hin := (List.mem_filter.1 hil).2
    have hilt : i < listed.size := by rw [hs]; exact List.mem_range.1 (List.mem_filter.1 hil).1
    have hbi : base.getD i true = false := by
      apply Decidable.byContradiction
      intro hn
      have := hb i (by simpa using hn)
      rw [this] at hin
      cases hin
    have hst := hstep i o ho hbi a w ha fun e he hbd hbe d hd => hh e.on d hbe (by
      have h1 := hdep e he hbd
      rw [Array.getD_eq_getD_getElem?] at h1 ⊢
      cases hx : listed[e.on]? with
      | none => simp
      | some b => rw [hx] at h1; simpa using h1) hd
    have hnext : ∀ v w', H i v w' → Ext w w' → S w' ∧ wpAnyH P md ops Q S fuel (listed.setIfInBounds i true) (a.put o.dst v) w' := fun v w' hv hE => by
      have hgd : ∀ j, (listed.setIfInBounds i true).getD j true = true → j = i ∨ listed.getD j true = true := fun j hj => by
        by_cases e : j = i
        · exact .inl e
        · rw [Array.getD_eq_getD_getElem?, Array.getElem?_setIfInBounds_ne (fun h => e h.symm), ← Array.getD_eq_getD_getElem?] at hj
          exact .inr hj
      have hput : ∀ d, o.dst ≠ some d → (a.put o.dst v).tmps[d]? = a.tmps[d]? := fun d hd => by
        unfold Act.put
        cases hod : o.dst with
        | none => rfl
        | some d' =>
          simp only
          rw [Array.getElem?_setIfInBounds_ne]
          intro e
          exact hd (by rw [hod, e])
      have hsz : (a.put o.dst v).tmps.size = a.tmps.size := by
        unfold Act.put
        cases o.dst with
        | none => rfl
        | some d' => simp
      have hdf : (a.put o.dst v).defers = a.defers := by
        unfold Act.put
        cases o.dst <;> rfl
      have hdo : dstOf ops i = o.dst := by unfold dstOf; rw [ho]; rfl
      refine ⟨hS _ (ha.ext.trans hE), ih _ _ _ (by simpa using hs) (by have := lack_set hil; omega) (fun j hj => ?_) ⟨by rw [hsz]; exact ha.size, by rw [hdf]; exact ha.defers, fun d hd => ?_, ha.ext.trans hE⟩ fun j d hbj hlj hd => ?_⟩
      · have := hb j hj
        by_cases e : j = i
        · subst e
          rw [Array.getD_eq_getD_getElem?, Array.getElem?_setIfInBounds, if_pos rfl, if_pos hilt]; rfl
        · rw [Array.getD_eq_getD_getElem?, Array.getElem?_setIfInBounds_ne (fun h => e h.symm), ← Array.getD_eq_getD_getElem?]; exact this
      · rw [hput d (by
          rw [List.all_eq_true] at hd
          have := hd i (List.mem_filter.1 hil).1
          rw [hbi, Bool.false_or] at this
          rw [← hdo]
          exact of_decide_eq_true this)]
        exact ha.same d hd
      · by_cases e : j = i
        · subst e
          rw [hdo] at hd
          have hlt : d < a.tmps.size := by
            have hb2 := hk.bound
            rw [List.all_eq_true] at hb2
            have := hb2 o (by simpa using Array.mem_of_getElem? ho)
            rw [hd] at this
            rw [ha.size]
            exact of_decide_eq_true this
          have : (a.put o.dst v).tmps.getD d undef = v := by
            unfold Act.put
            rw [hd, Array.getD_eq_getD_getElem?, Array.getElem?_setIfInBounds, if_pos rfl, if_pos hlt]; rfl
          rw [this]
          exact hv
        · have hne : o.dst ≠ some d := fun h => e (dst_apart hk.nodup hd (hdo.trans h))
          rw [Array.getD_eq_getD_getElem?, hput d hne, ← Array.getD_eq_getD_getElem?]
          exact hm j _ _ _ (hh j d hbj ((hgd j hlj).resolve_left e) hd) hE
    unfold wpOp
    rw [ho]
    simp only
    split
    · rename_i hw
      rw [if_pos hw] at hst
      exact .inl (Oper.wp_mono (fun a' w' ⟨v, he, hv, hE⟩ => by rw [he]; exact hnext v w' hv hE) hst)
    · rename_i hw
      rw [if_neg hw] at hst
      exact hnext undef w hst (Ext.refl w)
section
variable {P : Program} {ops : Array Oper} {Q : Exit → Act → World → Prop} {o : Oper} {a : Act} {w : World} {H : Value → World → Prop} {E0 : Prop}
theorem sk_call {f : Nat} {xs : Array Operand} {ts : Array TypeId} {vs : Array Value} (ho : o.op = .call { callee := .value (.func f), args := xs, argTypes := ts }) (hgd : o.guard = none) (eg : ∀ args w, (callFunc f args).run P w = .ok (.enter f args) w) (hx : xs.map a.eval = vs)
    (hc : Calls P f vs w fun e w' => ∃ u, e = .returned u ∧ H u w' ∧ Ext w w') : if Region.wanted o (yielded ops a.tmps) = true then Oper.wp P o a w (fun a' w' => ∃ v, a' = a.put o.dst v ∧ H v w' ∧ Ext w w') Q else E0 := by
  rw [if_pos (by simp [Region.wanted, hgd])]
  have hr : (execOp a.eval o).run P w = .ok (.enter f vs) w := by
    unfold execOp
    simp [ho, resolve, invoke, go_sem, eg, hx]
  unfold Oper.wp
  rw [hr, Oper.upon_enter]
  refine hc.mono ?_
  rintro e w' ⟨u, rfl, h, hE⟩
  exact ⟨u, rfl, h, hE⟩
theorem sk_value {v : Value} {w' : World} (hr : (execOp a.eval o).run P w = .ok (.value v) w') (hgd : o.guard = none) (h : H v w') (hE : Ext w w') : if Region.wanted o (yielded ops a.tmps) = true then Oper.wp P o a w (fun a' w' => ∃ v, a' = a.put o.dst v ∧ H v w' ∧ Ext w w') Q else E0 := by
  rw [if_pos (by simp [Region.wanted, hgd])]
  unfold Oper.wp
  rw [hr, Oper.upon_value]
  exact ⟨v, rfl, h, hE⟩
theorem ex_move {x : Operand} {v : Value} (ho : o.op = .move x ∨ o.op = .assign x) (hx : a.eval x = v) : (execOp a.eval o).run P w = .ok (.value v) w := by
  unfold execOp
  rcases ho with ho | ho <;> simp [ho, hx]
theorem ex_load {t : TypeId} {x : Operand} {q v : Value} (ho : o.op = .load t x) (hx : a.eval x = q) (hr : (Instr.loadAt t q).run P w = .ok v w) : (execOp a.eval o).run P w = .ok (.value v) w := by
  unfold execOp
  simp [ho, hx, hr, Result.andThen]
theorem ex_faddr {t : TypeId} {x : Operand} {k : Nat} {q v : Value} (ho : o.op = .fieldAddr t x k) (hx : a.eval x = q) (hr : (Instr.fieldAt t q k).run P w = .ok v w) : (execOp a.eval o).run P w = .ok (.value v) w := by
  unfold execOp
  simp [ho, hx, hr, Result.andThen]
theorem ex_extract {x : Operand} {k : Nat} {vs : Array Value} {v : Value} (ho : o.op = .extract x k) (hx : a.eval x = .tuple vs) (hv : (Instr.extract (.tuple vs) k).run P w = .ok v w) : (execOp a.eval o).run P w = .ok (.value v) w := by
  unfold execOp
  simp [ho, hx, hv, Result.andThen]
theorem ex_build {t : TypeId} {n : Nat} {parts : Array (Nat × Operand)} {vs : Array (Nat × Value)} {v : Value} {w' : World} (ho : o.op = .buildSlice t n parts) (hx : parts.map (fun p => (p.1, a.eval p.2)) = vs) (hr : (Instr.buildSlice t n vs).run P w = .ok v w') : (execOp a.eval o).run P w = .ok (.value v) w' := by
  unfold execOp
  simp [ho, hx, hr, Result.andThen]
theorem ev_tmp {t : Tmp} {v : Value} (h : a.tmps.getD t undef = v) : a.eval (.tmp t) = v := h
theorem ev_same {a0 : Act} {t : Tmp} (h : a.tmps[t]? = a0.tmps[t]?) : a.eval (.tmp t) = a0.eval (.tmp t) := by
  show a.tmps.getD t undef = a0.tmps.getD t undef
  rw [Array.getD_eq_getD_getElem?, Array.getD_eq_getD_getElem?, h]
end
def KStep (P : Program) (md : Region.Mode) (ops : Array Oper) (Q : Exit → Act → World → Prop) (base : Array Bool) (a0 : Act) (wx : World) (H : Nat → Value → World → Prop) (i : Nat) (o : Oper) : Prop :=
  ∀ a w, KnowA ops base a0 wx a w → (∀ j d, (o.after.any fun e => e.on == j && Region.binds md e) = true → base.getD j true = false → dstOf ops j = some d → H j (a.tmps.getD d undef) w) →
    if Region.wanted o (yielded ops a.tmps) = true then Oper.wp P o a w (fun a' w' => ∃ v, a' = a.put o.dst v ∧ H i v w' ∧ Ext w w') Q else H i undef w
def KSteps (P : Program) (md : Region.Mode) (ops : Array Oper) (Q : Exit → Act → World → Prop) (base : Array Bool) (a0 : Act) (wx : World) (H : Nat → Value → World → Prop) (l : List Nat) : Prop :=
  ∀ i ∈ l, ∀ o, ops[i]? = some o → KStep P md ops Q base a0 wx H i o
section
variable {P : Program} {md : Region.Mode} {ops : Array Oper} {Q : Exit → Act → World → Prop} {base : Array Bool} {a0 : Act} {wx : World} {H : Nat → Value → World → Prop}
theorem KSteps.nil : KSteps P md ops Q base a0 wx H [] := nofun
theorem KSteps.cons {i : Nat} {o : Oper} {l : List Nat} (h0 : ops[i]? = some o) (h : KStep P md ops Q base a0 wx H i o) (hs : KSteps P md ops Q base a0 wx H l) : KSteps P md ops Q base a0 wx H (i :: l) := fun j hj o' ho' => by
  rcases List.mem_cons.1 hj with rfl | hj
  · rw [h0] at ho'; cases ho'; exact h
  · exact hs j hj o' ho'
theorem KSteps.all {l : List Nat} (hs : KSteps P md ops Q base a0 wx H l) (hl : (List.range ops.size).all (fun i => base.getD i true || l.contains i) = true) :
    ∀ i o, ops[i]? = some o → base.getD i true = false → ∀ a w, KnowA ops base a0 wx a w → (∀ e ∈ o.after, Region.binds md e = true → base.getD e.on true = false → ∀ d, dstOf ops e.on = some d → H e.on (a.tmps.getD d undef) w) →
      if Region.wanted o (yielded ops a.tmps) = true then Oper.wp P o a w (fun a' w' => ∃ v, a' = a.put o.dst v ∧ H i v w' ∧ Ext w w') Q else H i undef w := fun i o ho hb a w ha hd => by
  rw [List.all_eq_true] at hl
  have h1 := hl i (List.mem_range.2 (Array.getElem?_eq_some_iff.1 ho).1)
  rw [hb, Bool.false_or] at h1
  refine hs i (by simpa using h1) o ho a w ha fun j d hj hbj hdj => ?_
  rw [Array.any_eq_true'] at hj
  obtain ⟨e, he, hej⟩ := hj
  rw [Bool.and_eq_true] at hej
  have hjo : e.on = j := by simpa using hej.1
  subst hjo
  exact hd e he hej.2 hbj d hdj
def dsK (ops : Array Oper) (base : Array Bool) : List Tmp := (List.range ops.size).filterMap fun j => if base.getD j true then none else dstOf ops j
theorem KnowA.act {a : Act} {w : World} (h : KnowA ops base a0 wx a w) (ds : List Tmp) (hds : dsK ops base = ds) : a = { tmps := ds.foldl (fun t d => t.setIfInBounds d (a.tmps.getD d undef)) a0.tmps, defers := a0.defers } := by
  have key : ∀ (ds : List Tmp) (t0 : Array Value), t0.size = a.tmps.size → (∀ d, d ∉ ds → a.tmps[d]? = t0[d]?) → a.tmps = ds.foldl (fun t d => t.setIfInBounds d (a.tmps.getD d undef)) t0 := by
    intro ds
    induction ds with
    | nil =>
      intro t0 hs hn
      exact Array.ext_getElem? fun d => hn d List.not_mem_nil
    | cons x xs ih =>
      intro t0 hs hn
      refine ih _ (by simpa using hs) fun d hd => ?_
      rw [Array.getElem?_setIfInBounds]
      by_cases e : x = d
      · subst e
        rw [if_pos rfl]
        by_cases hlt : x < t0.size
        · rw [if_pos hlt, Array.getD_eq_getD_getElem?, Array.getElem?_eq_getElem (by rw [← hs]; exact hlt)]; rfl
        · rw [if_neg hlt, Array.getElem?_eq_none (by rw [← hs]; exact Nat.le_of_not_lt hlt)]
      · rw [if_neg e]
        exact hn d fun hm => by
          rcases List.mem_cons.1 hm with h | h
          · exact e h.symm
          · exact hd h
  have h1 := key ds a0.tmps h.size.symm fun d hd => h.same d (by
    rw [List.all_eq_true]
    intro j hj
    cases hb : base.getD j true with
    | true => rfl
    | false =>
      rw [Bool.false_or]
      refine decide_eq_true fun he => hd ?_
      rw [← hds]
      exact List.mem_filterMap.2 ⟨j, hj, by rw [hb]; exact he⟩)
  rw [← h1, ← h.defers]
theorem know_mono {Hs : List (Value → World → Prop)} (h : ∀ p ∈ Hs, ∀ v w w', p v w → Ext w w' → p v w') (j : Nat) (v : Value) (w w' : World) (hp : (Hs.getD j fun _ _ => True) v w) (hE : Ext w w') : (Hs.getD j fun _ _ => True) v w' := by
  rw [List.getD_eq_getElem?_getD] at hp ⊢
  cases hj : Hs[j]? with
  | none => trivial
  | some p =>
    rw [hj] at hp
    exact h p (List.mem_of_getElem? hj) v w w' hp hE
end
end
section
open Go.RowKit
set_option maxRecDepth 100000 in
theorem ld_int {w : World} {b k : Nat} {v : Value} (h : w.cell? ⟨b, k, none⟩ = some v) : (Instr.loadAt 3 (.pointer (some ⟨b, k, none⟩))).run Tryz.prog w = .ok v w := by
  go_simp
set_option maxRecDepth 100000 in
theorem fa_part (w : World) (b : Nat) : (Instr.fieldAt 74 (.pointer (some ⟨b, 0, none⟩)) 2).run Tryz.prog w = .ok (.pointer (some ⟨b, 2, none⟩)) w ∧ (Instr.fieldAt 74 (.pointer (some ⟨b, 0, none⟩)) 3).run Tryz.prog w = .ok (.pointer (some ⟨b, 3, none⟩)) w ∧ (Instr.fieldAt 74 (.pointer (some ⟨b, 0, none⟩)) 4).run Tryz.prog w = .ok (.pointer (some ⟨b, 4, none⟩)) w ∧ (Instr.fieldAt 74 (.pointer (some ⟨b, 0, none⟩)) 5).run Tryz.prog w = .ok (.pointer (some ⟨b, 5, none⟩)) w ∧ (Instr.fieldAt 74 (.pointer (some ⟨b, 0, none⟩)) 6).run Tryz.prog w = .ok (.pointer (some ⟨b, 6, none⟩)) w := by
  refine ⟨?_, ?_, ?_, ?_, ?_⟩ <;> go_simp
set_option maxRecDepth 100000 in
theorem bs_int5 (w : World) (a b c d e : Int) : (Instr.buildSlice 40 5 #[(0, .int .i64 a), (1, .int .i64 b), (2, .int .i64 c), (3, .int .i64 d), (4, .int .i64 e)]).run Tryz.prog w = .ok (.slice (some ⟨w.heap.size, 0, none⟩) 5 5) (w.alloc (.cells #[.int .i64 a, .int .i64 b, .int .i64 c, .int .i64 d, .int .i64 e] 3)) := by
  go_simp
set_option maxRecDepth 100000 in
theorem bs_sl6 (w : World) (a b c d e f : Option Addr) (na nb nc nd ne nf ca cb cc cd ce cf : Nat) : (Instr.buildSlice 109 6 #[(0, .slice a na ca), (1, .slice b nb cb), (2, .slice c nc cc), (3, .slice d nd cd), (4, .slice e ne ce), (5, .slice f nf cf)]).run Tryz.prog w = .ok (.slice (some ⟨w.heap.size, 0, none⟩) 6 6) (w.alloc (.cells #[.slice a na ca, .slice b nb cb, .slice c nc cc, .slice d nd cd, .slice e ne ce, .slice f nf cf] 25)) := by
  go_simp
def kEq (u : Value) (v : Value) (_ : World) : Prop := v = u
def kSl (D : List UInt8) (v : Value) (w : World) : Prop := ∃ A c b, v = .slice A D.length c ∧ Buf w b 5 A D.length c (D.map B8)
def kFi (D : List UInt8) (v : Value) (w : World) : Prop := ∃ g b, v = .pointer (some ⟨g, 0, none⟩) ∧ FilO w b g D
def kRi (a b c d e : Int) (v : Value) (w : World) : Prop := ∃ g, v = .slice (some ⟨g, 0, none⟩) 5 5 ∧ Row w g 3 #[.int .i64 a, .int .i64 b, .int .i64 c, .int .i64 d, .int .i64 e]
def kSx (v1 v3 v4 : Value) (DT D7 DV : List UInt8) (v : Value) (w : World) : Prop := ∃ g BT cT bT BY cY bY BV cV bV, v = .slice (some ⟨g, 0, none⟩) 6 6 ∧ Cells w (some ⟨g, 0, none⟩) [v1, .slice BT DT.length cT, v3, v4, .slice BY D7.length cY, .slice BV DV.length cV] ∧
  Buf w bT 5 BT DT.length cT (DT.map B8) ∧ Buf w bY 5 BY D7.length cY (D7.map B8) ∧ Buf w bV 5 BV DV.length cV (DV.map B8)
def kTu (base : Nat) (J : List UInt8) (v : Value) (w : World) : Prop := ∃ A c, v = .tuple #[.slice A J.length c, .int .i64 0] ∧ Own8 w base A J.length c J
def kSj (base : Nat) (J : List UInt8) (v : Value) (w : World) : Prop := ∃ A c, v = .slice A J.length c ∧ Own8 w base A J.length c J
theorem kEq_m (u : Value) (v : Value) (w w' : World) (h : kEq u v w) (_ : Ext w w') : kEq u v w' := h
theorem kSl_m (D : List UInt8) (v : Value) (w w' : World) (h : kSl D v w) (hE : Ext w w') : kSl D v w' := by obtain ⟨A, c, b, h1, h2⟩ := h; exact ⟨A, c, b, h1, h2.ext hE⟩
theorem kFi_m (D : List UInt8) (v : Value) (w w' : World) (h : kFi D v w) (hE : Ext w w') : kFi D v w' := by obtain ⟨g, b, h1, h2⟩ := h; exact ⟨g, b, h1, h2.ext hE⟩
theorem kRi_m (a b c d e : Int) (v : Value) (w w' : World) (h : kRi a b c d e v w) (hE : Ext w w') : kRi a b c d e v w' := by obtain ⟨g, h1, h2⟩ := h; exact ⟨g, h1, h2.ext hE⟩
theorem kSx_m (v1 v3 v4 : Value) (DT D7 DV : List UInt8) (v : Value) (w w' : World) (h : kSx v1 v3 v4 DT D7 DV v w) (hE : Ext w w') : kSx v1 v3 v4 DT D7 DV v w' := by
  obtain ⟨g, BT, cT, bT, BY, cY, bY, BV, cV, bV, h1, h2, h3, h4, h5⟩ := h
  exact ⟨g, BT, cT, bT, BY, cY, bY, BV, cV, bV, h1, h2.ext hE, h3.ext hE, h4.ext hE, h5.ext hE⟩
theorem kTu_m (base : Nat) (J : List UInt8) (v : Value) (w w' : World) (h : kTu base J v w) (hE : Ext w w') : kTu base J v w' := by obtain ⟨A, c, h1, h2⟩ := h; exact ⟨A, c, h1, h2.1, h2.2.ext hE⟩
theorem kSj_m (base : Nat) (J : List UInt8) (v : Value) (w w' : World) (h : kSj base J v w) (hE : Ext w w') : kSj base J v w' := by obtain ⟨A, c, h1, h2⟩ := h; exact ⟨A, c, h1, h2.1, h2.2.ext hE⟩
theorem newB_k {X : World} {D : List UInt8} {f : Nat} {vs : Array Value} (h : Calls Tryz.prog f vs X fun e w' => NewB X D e w') : Calls Tryz.prog f vs X fun e w' => ∃ u, e = .returned u ∧ kSl D u w' ∧ Ext X w' := h.mono (by
  rintro e w' ⟨A, c, rfl, hb, hE⟩
  exact ⟨_, rfl, ⟨A, c, _, rfl, hb⟩, hE⟩)
end
section
open Go.RowKit Go.Maps
theorem IdxM.look {w : World} {M : Nat} {rows : List (List UInt8 × List Po)} (h : IdxM w M rows) {r : List UInt8 × List Po} (hr : r ∈ rows) (hs : r.1.length ≤ 9223372036854775807) :
    ∃ (ps : List PoC) (A : Option Addr) (c : Nat), psP ps = r.2 ∧ PosOk w A ps ∧ (∀ a, A = some a → a.spot = none) ∧ ps.length ≤ c ∧ ∀ W, Ext w W → (Instr.lookup 91 (.map (some M)) (.string ⟨r.1.toArray⟩) false).run Tryz.prog W = .ok (.slice A ps.length c) W := by
  obtain ⟨L, hL, hall⟩ := h
  obtain ⟨ps, A, c, hin, h1, h2, h3, h4⟩ := hall r hr
  refine ⟨ps, A, c, h1, h2, h3, h4, fun W hE => ?_⟩
  have hz : (zeroValue 43).run Tryz.prog W = .ok (.slice none 0 0) W := by kernel_rfl
  rcases (hL.ext hE).look keyST Tryz.underlying91 (key_strV hs) hz false with ⟨u, hu, hr⟩ | ⟨hno, _⟩
  · rw [hL.unique hu hin] at hr; exact hr
  · exact absurd rfl (hno _ hin)
set_option maxRecDepth 100000 in
theorem elemEnt : Elem Tryz.prog 94 97 4 40 := ⟨Tryz.underlying94, ⟨_, _, rfl, rfl, rfl, rfl, rfl⟩, by omega, by omega⟩
theorem partD5 (P : List Dc) : ∃ a b c d e, partD P = [a, b, c, d, e] := by
  cases P with
  | nil => exact ⟨_, _, _, _, _, rfl⟩
  | cons x t => exact ⟨_, _, _, _, _, rfl⟩
theorem ints5 {X : World} {g : Nat} {a b c d e : Int} (h : Row X g 3 #[.int .i64 a, .int .i64 b, .int .i64 c, .int .i64 d, .int .i64 e]) : Cells X (some ⟨g, 0, none⟩) ([a, b, c, d, e].map (Value.int .i64)) :=
  .inr ⟨g, 0, rfl, fun i v hv => by
    rw [Nat.zero_add, h.get]
    simpa using hv⟩
theorem in8_6 {X : World} {a b c d e f : Option Addr × Nat × List UInt8} (ha : In8 X a.1 a.2.2.length a.2.1 a.2.2 ∧ a.2.2.length ≤ 16777216) (hb : In8 X b.1 b.2.2.length b.2.1 b.2.2 ∧ b.2.2.length ≤ 16777216) (hc : In8 X c.1 c.2.2.length c.2.1 c.2.2 ∧ c.2.2.length ≤ 16777216) (hd : In8 X d.1 d.2.2.length d.2.1 d.2.2 ∧ d.2.2.length ≤ 16777216)
    (he : In8 X e.1 e.2.2.length e.2.1 e.2.2 ∧ e.2.2.length ≤ 16777216) (hf : In8 X f.1 f.2.2.length f.2.1 f.2.2 ∧ f.2.2.length ≤ 16777216) : ∀ p ∈ [a, b, c, d, e, f], In8 X p.1 p.2.2.length p.2.1 p.2.2 ∧ p.2.2.length ≤ 16777216 := fun p hp => by
  simp only [List.mem_cons, List.not_mem_nil, or_false] at hp
  rcases hp with rfl | rfl | rfl | rfl | rfl | rfl <;> assumption
theorem one_ev {a : Act} {t : Tmp} {v : Value} (h : a.tmps.getD t undef = v) : #[Operand.tmp t].map a.eval = #[v] := by
  simp only [List.map_toArray, List.map_cons, List.map_nil, ev_tmp h]
theorem wpList_grow {ops : Array Oper} {rest : List Oper} {o : Oper} {a : Act} {Q : Exit → Act → World → Prop} {w : World} {t e bytes : Nat} (E : Elem Tryz.prog t e 1 bytes) {g g' n c m c' : Nat} {xs news : List Value} (hb : Cells w (some ⟨g, 0, none⟩) xs) (hr : Cells w (some ⟨g', 0, none⟩) news) (s x : Operand)
    (ho : o.op = .call { callee := .builtin .append, args := #[s, x], argTypes := #[t, t] }) (hgd : o.guard = none) (hs : a.eval s = .slice (some ⟨g, 0, none⟩) n c) (hx : a.eval x = .slice (some ⟨g', 0, none⟩) m c') (hn : xs.length = n) (hl : news.length = m) (h1 : ∀ u ∈ news, u.oneCell' = true) (hsz : n + m ≤ 4294967296) (hfull : c < n + m)
    (h : ∀ A1 c1 w', Buf w' w.heap.size e A1 (n + m) c1 (xs ++ news) → Ext w w' → wpList Tryz.prog ops Q rest (a.put o.dst (.slice A1 (n + m) c1)) w') : wpList Tryz.prog ops Q (o :: rest) a w := by
  obtain ⟨i, z, hi, hz, h3, h4, h5⟩ := E.hi
  have hbytes : (n + m) * bytes ≤ 140737488355328 := Nat.le_trans (Nat.mul_le_mul hsz E.hb) (by omega)
  have hcell : ∀ {g : Nat} {ys : List Value}, Cells w (some ⟨g, 0, none⟩) ys → ∀ j u, ys[j]? = some u → w.cell? ((⟨g, 0, none⟩ : Addr).add j) = some u := fun {g ys} hc j u hu => by
    rcases hc with hc | ⟨g1, o1, hA, hc⟩
    · rw [hc] at hu; cases hu
    · cases hA
      rw [Addr.add_lit]
      exact hc j u hu
  refine wpList_append_grows w hgd s x t ho e i z 1 bytes E.ht hi hz h3 h4 h5 (by omega) (some ⟨g, 0, none⟩) n c xs hs (fun hA => by cases hA) (by omega) (fun b hb' j u hu => by cases hb'; exact hcell hb j u hu) ⟨g', 0, none⟩ m c' news hx (by omega) (hcell hr) h1 hfull (by unfold maxLen; omega) hbytes fun v' w' hown hg => ?_
  obtain ⟨A1, c1, rfl⟩ := owns_shape hown
  exact h A1 c1 w' (Buf.of_own hown) ((Ext.refl w).grown hg (fun k hk => by cases hk))
theorem ev_const (a : Act) (v : Value) : a.eval (.const v) = v := rfl
set_option maxRecDepth 100000 in
set_option maxHeartbeats 1000000 in
theorem segEncode_no (ds : List DocC) (A : Option Addr) (m c : Nat) (w : World) (hm : m = ds.length) (h : DocsOk w A ds) (hA : ∀ a, A = some a → a.spot = none) (hmc : m ≤ c) (hm9 : m ≤ 1000000000) (hok : okDs (dcs ds) = false ∨ m = 0) :
    Calls Tryz.prog 9 #[.slice A m c] w fun e w' => e = .returned (.tuple #[.slice none 0 0, .int .i64 130]) ∧ Ext w w' := by
  by_cases h0 : okDs (dcs ds) = false
  · have hse := hide (sdEncode_no ds A m c w hm h hm9 h0)
    clear hok h hm
    go_enter Tryz.func9, Tryz.ntmps9
    go_wp2_with fail
    refine hse.out.mono ?_
    rintro e w1 ⟨rfl, hE1⟩
    go_wp2_with fail
    go_ret2
    exact ⟨rfl, hE1⟩
  · have hm0 : m = 0 := hok.resolve_left h0
    have hds : ds = [] := List.length_eq_zero_iff.1 (by omega)
    subst hds
    subst hm0
    have hse := sdEncode_yes [] A 0 c w rfl h hA hmc rfl (by simp [dcs, blockD])
    replace hse := hide hse
    clear hok h hm h0
    go_enter Tryz.func9, Tryz.ntmps9
    go_wp2_with fail
    refine hse.out.mono ?_
    rintro e w1 ⟨B, cB, rfl, _, hE1⟩
    go_wp2_with fail
    go_ret2
    exact ⟨rfl, hE1⟩
theorem encells_snoc (l : List En) (x : En) : encells (l ++ [x]) = encells l ++ x.cells := by
  unfold encells
  rw [List.flatMap_append]
  simp
set_option maxRecDepth 100000 in
set_option maxHeartbeats 8000000 in
theorem segEncode_yes (ds : List DocC) (A : Option Addr) (m c : Nat) (w : World) (hm : m = ds.length) (h : DocsOk w A ds) (hA : ∀ a, A = some a → a.spot = none) (hmc : m ≤ c) (hs : SmP (dcs ds)) (h0 : 0 < m) :
    Calls Tryz.prog 9 #[.slice A m c] w fun e w' => OkB w (segL (dcs ds)) e w' := by
  have hB := hs.seg
  have hPl : (dcs ds).length = m := by unfold dcs; rw [List.length_map, hm]
  have hm6 : m ≤ 65536 := by rw [← hPl]; exact hB.n
  have hse := sdEncode_yes ds A m c w hm h hA hmc hs.ok (by have := hs.sz; omega)
  have hix := hide (fun W (hE : Ext w W) => index_any ds A m c W hm (h.ext hE) hm6 (by have := hB.pairs; omega))
  have htd := hide (fun W (hE : Ext w W) => told_any ds A m c W hm (h.ext hE) (by omega) h0)
  have hti := hide (fun W (hE : Ext w W) => times_any ds A m c W hm (h.ext hE) (by omega))
  obtain ⟨P, hP⟩ : ∃ P, P = dcs ds := ⟨_, rfl⟩
  rw [← hP] at hB hse hix htd hti
  obtain ⟨R, hR⟩ : ∃ R, R = rowsD P := ⟨_, rfl⟩
  rw [← hR] at hix
  have hRl := hB.rows
  have hRe := hB.each
  have hRp := hB.posts
  rw [← hR] at hRl hRe hRp
  replace hB := hide hB
  replace hP := hide hP
  replace hR := hide hR
  replace hPl := hide hPl
  replace hse := hide hse
  replace hRe := hide hRe
  replace hm := hide hm
  replace h := hide h
  replace hs := hide hs
  go_enter Tryz.func9, Tryz.ntmps9
  go_wp2_with fail
  refine hse.out.mono ?_
  rintro e w1 ⟨B1, c1, rfl, hO1, hE1⟩
  have hl1 : (encDs P).length ≤ 16777216 := hB.out.docs
  obtain ⟨n1, hn1⟩ : ∃ n1, n1 = (encDs P).length := ⟨_, rfl⟩
  rw [← hn1] at hO1 hl1 ⊢
  replace hn1 := hide hn1
  replace hO1 := hide hO1
  go_wp2_with fail
  refine (hix.out w1 hE1).mono ?_
  rintro e w2 ⟨B2, n2, c2, M, rfl, hn2, hb2, hIx, hE2⟩
  rw [← hn2] at hRl
  replace hn2 := hide hn2
  replace hb2 := hide hb2
  replace hIx := hide hIx
  have hE12 := hide (hE1.trans hE2)
  replace hE2 := hide hE2
  go_wp2_with fail
  obtain ⟨b2, hb2e⟩ : ∃ b2, b2 = w2.heap.size := ⟨_, rfl⟩
  have hb2w : w.heap.size ≤ b2 := by rw [hb2e]; exact hE12.out.size
  have hb2e' := Nat.le_of_eq hb2e
  replace hb2e := hide hb2e
  go_loopw [8, 9, 11, 12, 13, 39] (fun s8 s9 s11 s12 s13 s39 wr => ∃ (i nB cB cE : Nat) (BA EA : Option Addr) (v11 v12 v13 : Value), s11 = v11 ∧ s12 = v12 ∧ s13 = v13 ∧ s39 = .int .i64 (i : Int) ∧ s8 = .slice BA nB cB ∧ s9 = .slice EA i cE ∧ i ≤ n2 ∧ nB ≤ 5000000 ∧ Hid (nB = (postB (R.take i)).length) ∧ Hid (Buf wr b2 5 BA nB cB ((postB (R.take i)).map B8)) ∧ Hid (wr.ownsRow b2 97 4 (.slice EA i cE) i (encells (enOf 0 (R.take i)))) ∧ Hid (Ext w2 wr) ∧ b2 ≤ wr.heap.size) (fun _ _ _ _ _ s39 _ => n2 - (intOf s39).toNat)
  case atStart => exact ⟨0, 0, 0, 0, none, none, _, _, _, rfl, rfl, rfl, rfl, rfl, rfl, by omega, by omega, hide rfl, hide (Buf.nil _ _ _), hide (World.ownsRow_nil _ _ _ _), hide (Ext.refl _), hb2e'⟩
  case round =>
    obtain ⟨i, nB, cB, cE, BA, EA, v11, v12, v13, rfl, rfl, rfl, rfl, rfl, rfl, hi, hnB9, hnB, hBB, hEE, hEr, hbr⟩ := hrel
    by_cases hin : i < n2
    · obtain ⟨⟨rt, rl⟩, hr⟩ : ∃ r, R[i]? = some r := ⟨_, List.getElem?_eq_getElem (by rw [← hn2.out]; exact hin)⟩
      have hrm := List.mem_of_getElem? hr
      have hre := hRe.out _ hrm
      have hrk := rows_key (P := P) (r := (rt, rl)) (by rw [← hR.out]; exact hrm)
      simp only at hre hrk
      obtain ⟨g2, o2, hgo, hcl⟩ := hb2.out.cells.at_ (by rw [List.length_map, ← hn2.out]; omega)
      subst hgo
      have hld := hEr.out.cell (hcl i (strV rt) (by rw [List.getElem?_map, hr]; rfl))
      unfold strV at hld
      obtain ⟨ps, Ap, cp, hps, hpo, hps2, hpc, hlk⟩ := hIx.out.look hrm (by simp only; omega)
      have hpr : psP ps = rl := hps
      have hpl : ps.length = rl.length := by rw [← hpr]; unfold psP; rw [List.length_map]
      obtain ⟨np, hnp⟩ : ∃ np, np = ps.length := ⟨_, rfl⟩
      rw [← hnp] at hlk hpc hpl
      have hlk1 := hlk wr hEr.out
      have hpe := poEncode_yes ps Ap np cp wr hnp (hpo.ext hEr.out) hps2 hpc (by rw [hpr]; exact hre.1) (by rw [hpr]; exact hre.2.2.2.1)
      rw [hpr] at hpe
      have hst : postB (R.take (i + 1)) = postB (R.take i) ++ encPs rl := by
        rw [List.take_add_one, hr, postB_app]
        unfold postB
        simp
      have hen : enOf 0 (R.take (i + 1)) = enOf 0 (R.take i) ++ [⟨rt, nB, (encPs rl).length, rl.length⟩] := by
        rw [List.take_add_one, hr, enOf_app, ← hnB.out, Nat.zero_add]
        rfl
      have hst9 : (postB (R.take (i + 1))).length ≤ 5000000 := by
        refine Nat.le_trans ?_ hRp
        have h1 := postB_app (R.take (i + 1)) (R.drop (i + 1))
        rw [List.take_append_drop] at h1
        rw [h1, List.length_append]
        omega
      have hel := hre.2.2.2.2
      have hrl7 := hre.2.2.1
      rw [hst, List.length_append, ← hnB.out] at hst9
      replace hre := hide hre
      replace hst := hide hst
      replace hen := hide hen
      replace hlk := hide hlk
      replace hpe := hide hpe
      replace hnp := hide hnp
      replace hr := hide hr
      replace hpl := hide hpl
      clear hrm hcl hps hpo hpr
      go_wp2_with fail
      refine hpe.out.mono ?_
      rintro e w5 ⟨B5, c5, rfl, hO5, hE5⟩
      have hlk5 := hlk.out w5 (hEr.out.trans hE5)
      obtain ⟨n5, hn5⟩ : ∃ n5, n5 = (encPs rl).length := ⟨_, rfl⟩
      rw [← hn5] at hO5 hel hst9 ⊢
      have hE25 := hide (hEr.out.trans hE5)
      have hEE5 := hE5.owns hEE.out
      have hBB5 := hBB.out.ext hE5
      have hsz5 : b2 ≤ w5.heap.size := Nat.le_trans hbr hE5.size
      replace hO5 := hide hO5
      replace hn5 := hide hn5
      replace hEE5 := hide hEE5
      replace hBB5 := hide hBB5
      have hln5 : ((encPs rl).map B8).length = n5 := by rw [List.length_map]; exact hn5.out.symm
      have hnp9 : np ≤ 70000 := by have := hpl.out; omega
      have hw2b : w2.heap.size ≤ b2 := by rw [hb2e.out]; exact Nat.le_refl _
      replace hln5 := hide hln5
      clear hlk1 hld
      go_wp2_with (first
        | (at_builtin; refine wpList_appZ (us := [.string ⟨rt.toArray⟩, .int .i64 (nB : Int), .int .i64 (n5 : Int), .int .i64 (np : Int)]) (m := 1) elemEnt hEE5.out rfl (.tmp 50) (.tmp 61) rfl rfl rfl rfl rfl (by simp [Value.oneCell']) (by omega) hsz5 (fun A8 c8 w8 ho8 hg8 hl8 => ?_); have hb8 := og_buf hEE5.out hg8 hBB5.out (by decide); have hx8 := (og_buf hEE5.out hg8 hO5.out.2 (by decide)).cells; have he8 := og_ext hEE5.out hg8 hE25.out hw2b; have hs8 : b2 ≤ w8.heap.size := Nat.le_trans hsz5 hg8.size; replace hb8 := hide hb8; replace hx8 := hide hx8; replace he8 := hide he8; replace ho8 := hide ho8; clear hg8 hl8)
        | (at_builtin; refine wpList_buf elemB hb8.out hx8.out (.tmp 63) (.tmp 64) rfl rfl rfl rfl rfl hln5.out (bytes_one _) (by omega) hs8 (fun A9 c9 w9 hb9 hg9 hx9 hl9 => ?_); have ho9 := bg_owns hb8.out hg9 ho8.out (by decide); have he9 := hx9 _ he8.out hw2b; have hs9 : b2 ≤ w9.heap.size := Nat.le_trans hs8 hg9.size; replace hb9 := hide hb9; replace ho9 := hide ho9; replace he9 := hide he9; clear hg9 hl9 hx9))
      go_roundw
      case rel =>
        refine ⟨i + 1, nB + n5, c9, c8, A9, A8, _, _, _, rfl, rfl, rfl, by first | rfl | (congr 1; omega), rfl, rfl, by omega, hst9, hide ?_, hide ?_, hide ?_, he9, hs9⟩
        · rw [hst.out, List.length_append, ← hnB.out, ← hn5.out]
        · rw [hst.out, List.map_append]; exact hb9.out
        · rw [hen.out, encells_snoc]
          rw [show (⟨rt, nB, (encPs rl).length, rl.length⟩ : En).cells = [.string ⟨rt.toArray⟩, .int .i64 (nB : Int), .int .i64 (n5 : Int), .int .i64 (np : Int)] by rw [← hn5.out, ← hpl.out]; rfl]
          exact ho9.out
      case measure => simp only [intOf]; omega
    · have hall : R.take i = R := List.take_of_length_le (by rw [← hn2.out]; omega)
      rw [hall] at hnB hBB hEE
      have hieq : i = n2 := by omega
      subst hieq
      obtain ⟨w3, hw3⟩ : ∃ w3, w3 = wr := ⟨_, rfl⟩
      subst hw3
      have hec := owns_cap hEE.out
      have hde := dEncode_any (enOf 0 R) EA i cE w3 (by rw [enOf_len]; exact hn2.out) (Cells.of_own hEE.out) hec.2 hec.1 (by rw [hR.out]; exact hB.out.ens)
      have hE13 := hide (hE12.out.trans hEr.out)
      have hdl : (encEs (enOf 0 R)).length ≤ 16777216 := by rw [hR.out]; exact hB.out.dic
      obtain ⟨D6, hD6⟩ : ∃ D6, D6 = encEs (enOf 0 R) := ⟨_, rfl⟩
      rw [← hD6] at hde hdl
      replace hD6 := hide hD6
      replace hde := hide hde
      clear hec
      go_wp2_with fail
      refine hde.out.mono ?_
      rintro e w6 ⟨B6, c6, rfl, hO6, hE6⟩
      have hE16 := hide (hE13.out.trans hE6)
      have htl := htd.out w6 hE16.out
      obtain ⟨lo, hi', fi, la, nn, hpd⟩ := partD5 P
      rw [hpd] at htl
      have hpr : prtA [lo, hi', fi, la, nn] = #[.int .i64 0, .int .i64 0, .int .i64 lo, .int .i64 hi', .int .i64 fi, .int .i64 la, .int .i64 nn] := rfl
      rw [hpr] at htl
      replace htl := hide htl
      replace hpd := hide hpd
      have hO6' := hide hO6.2
      have hB16 := hide (hO1.out.2.ext (hE2.out.trans (hEr.out.trans hE6)))
      have hBA6 := hide (hBB.out.ext hE6)
      have hb26 := hide (hb2.out.ext (hEr.out.trans hE6))
      clear hpr hO6
      go_wp2_with fail
      refine htl.out.mono ?_
      rintro e w7 ⟨rfl, hE7⟩
      have hwx := hide (hE16.out.trans hE7)
      obtain rfl := hn1.out
      obtain rfl := hnB.out
      have hlt9 : (timesD 0 P).length ≤ 16777216 := hB.out.times
      have hlb9 : 8 ≤ (ofB (R.map (·.1))).length ∧ (ofB (R.map (·.1))).length ≤ 131072 := by rw [hR.out]; exact hB.out.bits
      have hlv9 : (vall [lo, hi', fi, la, nn]).length ≤ 16777216 ∧ I64ok' lo ∧ I64ok' hi' ∧ I64ok' fi ∧ I64ok' la ∧ I64ok' nn := by
        have hpp : I64ok' lo ∧ I64ok' hi' ∧ I64ok' fi ∧ I64ok' la ∧ I64ok' nn := by
          obtain ⟨x0, hx0⟩ : ∃ x, ds[0]? = some x := ⟨_, List.getElem?_eq_getElem (by have := hm.out; omega)⟩
          obtain ⟨xl, hxl⟩ : ∃ x, ds[m - 1]? = some x := ⟨_, List.getElem?_eq_getElem (by have := hm.out; omega)⟩
          have h1 := partD_of hm.out hx0 hxl
          rw [← hP.out, hpd.out] at h1
          injection h1 with e1 h1
          injection h1 with e2 h1
          injection h1 with e3 h1
          injection h1 with e4 h1
          injection h1 with e5 h1
          have hall : ∀ d ∈ P, I64ok' d.2.at_ := fun d hd => by
            rw [hP.out] at hd
            unfold dcs at hd
            obtain ⟨x, hx, rfl⟩ := List.mem_map.1 hd
            exact (h.out.each x hx).2.1
          have q0 := (h.out.each x0 (List.mem_of_getElem? hx0)).2
          have ql := (h.out.each xl (List.mem_of_getElem? hxl)).2
          rw [e1, e2, e3, e4, e5]
          exact ⟨lowD_rng _ _ q0.1 hall, highD_rng _ _ q0.1 hall, q0.2, ql.2, by unfold I64ok'; omega⟩
        refine ⟨?_, hpp⟩
        have h2 := vall_take [lo, hi', fi, la, nn] (fun x hx => by
          simp only [List.mem_cons, List.not_mem_nil, or_false] at hx
          obtain ⟨q1, q2, q3, q4, q5⟩ := hpp
          rcases hx with rfl | rfl | rfl | rfl | rfl <;> assumption) 5
        exact Nat.le_trans h2 (by decide)
      have hlv5 : Hid (∀ x ∈ [lo, hi', fi, la, nn], -9223372036854775808 ≤ x ∧ x ≤ 9223372036854775807) := hide (fun x hx => by
        simp only [List.mem_cons, List.not_mem_nil, or_false] at hx
        obtain ⟨_, q1, q2, q3, q4, q5⟩ := hlv9
        rcases hx with rfl | rfl | rfl | rfl | rfl <;> assumption)
      have hn2l : i = (R.map (·.1)).length := by rw [List.length_map]; exact hn2.out
      have hSt : Cells w7 B2 ((R.map (·.1)).map strV) := by
        have h1 := (hb26.out.ext hE7).cells
        rw [List.map_map]
        exact h1
      have hSl : ∀ t ∈ R.map (·.1), t.length ≤ 1000000000 := fun t ht => by
        obtain ⟨r, hr, rfl⟩ := List.mem_map.1 ht
        have := rows_key (P := P) (r := r) (by rw [← hR.out]; exact hr)
        omega
      have hi9 : i ≤ 1000000000 := Nat.le_trans hRl (by decide)
      obtain ⟨DT, hDT⟩ : ∃ D, D = timesD 0 P := ⟨_, rfl⟩
      obtain ⟨D7, hD7⟩ : ∃ D, D = ofB (R.map (·.1)) := ⟨_, rfl⟩
      obtain ⟨DV, hDV⟩ : ∃ D, D = vall [lo, hi', fi, la, nn] := ⟨_, rfl⟩
      rw [← hDT] at hlt9
      rw [← hD7] at hlb9
      rw [← hDV] at hlv9
      replace hn2l := hide hn2l
      replace hSl := hide hSl
      replace hDT := hide hDT
      replace hD7 := hide hD7
      replace hDV := hide hDV
      obtain ⟨D1, hD1⟩ : ∃ D, D = encDs P := ⟨_, rfl⟩
      obtain ⟨DP, hDP⟩ : ∃ D, D = postB R := ⟨_, rfl⟩
      rw [← hD1] at hB16 hl1 ⊢
      rw [← hDP] at hBA6 hnB9 ⊢
      replace hD1 := hide hD1
      replace hDP := hide hDP
      go_upto_region 22 with fail
      obtain ⟨wx, hwxd⟩ : ∃ wx, wx = w7.alloc (Obj.cells #[Value.int IntKind.i64 0, Value.int IntKind.i64 0, Value.int IntKind.i64 lo, Value.int IntKind.i64 hi', Value.int IntKind.i64 fi, Value.int IntKind.i64 la, Value.int IntKind.i64 nn] 74) := ⟨_, rfl⟩
      rw [← hwxd]
      obtain ⟨bp, hbp⟩ : ∃ bp, bp = w7.heap.size := ⟨_, rfl⟩
      rw [← hbp]
      have hE7x : Ext w7 wx := by rw [hwxd]; exact (Ext.refl w7).alloc _
      have hrp : Row wx bp 74 #[Value.int IntKind.i64 0, Value.int IntKind.i64 0, Value.int IntKind.i64 lo, Value.int IntKind.i64 hi', Value.int IntKind.i64 fi, Value.int IntKind.i64 la, Value.int IntKind.i64 nn] := by rw [hwxd, hbp]; exact Row.new w7 _ _
      have hEw := hide (hwx.out.trans hE7x)
      have H1 := hide (hB16.out.ext (hE7.trans hE7x))
      have HA := hide (hBA6.out.ext (hE7.trans hE7x))
      have H6 := hide (hO6'.out.ext (hE7.trans hE7x))
      have HS := hide (hSt.ext hE7x)
      have hX : Hid (Ext wx wx) := hide (Ext.refl wx)
      replace hrp := hide hrp
      replace hwxd := hide hwxd
      replace hbp := hide hbp
      clear hE7 hE7x hSt hB16 hBA6 hO6' hb26
      have hcT : ∀ X, Ext wx X → Calls Tryz.prog 44 #[.slice A m c] X fun e w' => NewB X DT e w' := fun X hx => by rw [hDT.out]; exact hti.out X (hEw.out.trans hx)
      have hcO : ∀ X, Ext wx X → Calls Tryz.prog 45 #[.slice B2 i c2] X fun e w' => NewF1 X D7 e w' := fun X hx => by
        have h := fof_any B2 i c2 (R.map (·.1)) X hn2l.out (HS.out.ext hx) hi9 hSl.out
        rw [← hD7.out] at h
        exact h
      have hcY : ∀ X g b, FilO X b g D7 → Calls Tryz.prog 46 #[.pointer (some ⟨g, 0, none⟩)] X fun e w' => NewB X D7 e w' := fun X g b hf => fbytes_any g D7 X hf.fil (Nat.lt_of_lt_of_le (by decide) hlb9.1) hlb9.2
      have hcV : ∀ X g, Row X g 3 #[.int .i64 lo, .int .i64 hi', .int .i64 fi, .int .i64 la, .int .i64 nn] → Calls Tryz.prog 47 #[.slice none 0 0, .slice (some ⟨g, 0, none⟩) 5 5] X fun e w' => NewB X DV e w' := fun X g hr => by
        have h1 := putAll_any none (some ⟨g, 0, none⟩) 0 0 5 5 [lo, hi', fi, la, nn] [] X rfl (.inl rfl) (fun _ => rfl) rfl (ints5 hr) (by decide) hlv5.out
        rw [List.nil_append, ← hDV.out] at h1
        exact h1
      obtain ⟨JN, hJN⟩ : ∃ JN, JN = joinL (framesD P) := ⟨_, rfl⟩
      have hJN2 : joinL [D1, DT, DP, D6, D7, DV] = JN := by rw [hJN, hD1.out, hDT.out, hDP.out, hD6.out, hD7.out, hDV.out, ← hpd.out, hR.out]; rfl
      have hcJ : ∀ (X : World) g BT cT bT BY cY bY BV cV bV, Ext wx X → Cells X (some ⟨g, 0, none⟩) [.slice B1 D1.length c1, .slice BT DT.length cT, .slice BA DP.length cB, .slice B6 D6.length c6, .slice BY D7.length cY, .slice BV DV.length cV] → Buf X bT 5 BT DT.length cT (DT.map B8) → Buf X bY 5 BY D7.length cY (D7.map B8) → Buf X bV 5 BV DV.length cV (DV.map B8) →
          Calls Tryz.prog 43 #[.slice (some ⟨g, 0, none⟩) 6 6] X fun e w' => ∃ u, e = .returned u ∧ kTu wx.heap.size JN u w' ∧ Ext X w' := fun X g BT cT bT BY cY bY BV cV bV hx hC hT hY hV => by
        have h1 := fjoin_any (some ⟨g, 0, none⟩) 6 6 [(B1, c1, D1), (BT, cT, DT), (BA, cB, DP), (B6, c6, D6), (BY, cY, D7), (BV, cV, DV)] X rfl hC (in8_6 ⟨(H1.out.ext hx).in8, hl1⟩ ⟨hT.in8, hlt9⟩ ⟨(HA.out.ext hx).in8, Nat.le_trans hnB9 (by decide)⟩ ⟨(H6.out.ext hx).in8, hdl⟩ ⟨hY.in8, Nat.le_trans hlb9.2 (by decide)⟩ ⟨hV.in8, hlv9.1⟩) (by decide)
        refine h1.mono ?_
        rintro e w' ⟨AJ, cJ, rfl, hO, hE⟩
        have hJ3 : joinL (List.map (fun (x : Option Addr × Nat × List UInt8) => x.2.2) [(B1, c1, D1), (BT, cT, DT), (BA, cB, DP), (B6, c6, D6), (BY, cY, D7), (BV, cV, DV)]) = JN := hJN2
        rw [hJ3] at hO ⊢
        exact ⟨_, rfl, ⟨AJ, cJ, rfl, hO.1, hO.2.lower hx.size⟩, hE⟩
      replace hJN := hide hJN
      replace hcT := hide hcT
      replace hcO := hide hcO
      replace hcY := hide hcY
      replace hcV := hide hcV
      replace hcJ := hide hcJ
      go_cut [5, 16] (fun s5 s16 wy => ∃ AJ cJ, s5 = .int .i64 0 ∧ s16 = .slice AJ JN.length cJ ∧ Hid (Own8 wy wx.heap.size AJ JN.length cJ JN) ∧ Hid (Ext w wy))
      case first =>
        have hX0 : Ext wx wx.drew := (Ext.refl wx).drew
        refine wp_region_held_drew (S := fun _ => True) (by kernel_rfl) trivial (fun _ => ?_)
        refine wpAnyH_know (base := Array.replicate 27 false) (wx := wx.drew) ⟨by kernel_rfl, of_decide_eq_true (by kernel_rfl), by kernel_rfl, by kernel_rfl⟩ (fun j v w => ([kEq (.slice B1 D1.length c1), kEq (.slice A m c), kSl DT, kEq (.slice BA DP.length cB), kEq (.slice B6 D6.length c6), kEq (.slice B2 i c2), kFi D7, kSl D7, kEq (.pointer (some ⟨bp, 2, none⟩)), kEq (.int .i64 lo), kEq (.pointer (some ⟨bp, 3, none⟩)), kEq (.int .i64 hi'), kEq (.pointer (some ⟨bp, 4, none⟩)), kEq (.int .i64 fi), kEq (.pointer (some ⟨bp, 5, none⟩)), kEq (.int .i64 la), kEq (.pointer (some ⟨bp, 6, none⟩)), kEq (.int .i64 nn), kRi lo hi' fi la nn, kSl DV, kSx (.slice B1 D1.length c1) (.slice BA DP.length cB) (.slice B6 D6.length c6) DT D7 DV, kTu wx.heap.size JN, kTu wx.heap.size JN, kSj wx.heap.size JN, kEq (.int .i64 0), kSj wx.heap.size JN, kEq (.int .i64 0)].getD j fun _ _ => True) v w) (know_mono ?mono) (fun _ _ => trivial) ?hstep ?fin _ _ _ _ (by kernel_rfl) (Nat.le_of_eq (by kernel_rfl)) (fun _ h => h) ⟨rfl, rfl, fun _ _ => rfl, Ext.refl _⟩ (fun j d h1 h2 _ => absurd (h1.symm.trans h2) (by simp))
        case mono =>
          intro p hp
          simp only [List.mem_cons, List.not_mem_nil, or_false] at hp
          rcases hp with rfl | rfl | rfl | rfl | rfl | rfl | rfl | rfl | rfl | rfl | rfl | rfl | rfl | rfl | rfl | rfl | rfl | rfl | rfl | rfl | rfl | rfl | rfl | rfl | rfl | rfl | rfl <;> first | exact kEq_m _ | exact kSl_m _ | exact kFi_m _ | exact kRi_m _ _ _ _ _ | exact kSx_m _ _ _ _ _ _ | exact kTu_m _ _ | exact kSj_m _ _
        case hstep =>
          apply KSteps.all (H := (fun j v w => ([kEq (.slice B1 D1.length c1), kEq (.slice A m c), kSl DT, kEq (.slice BA DP.length cB), kEq (.slice B6 D6.length c6), kEq (.slice B2 i c2), kFi D7, kSl D7, kEq (.pointer (some ⟨bp, 2, none⟩)), kEq (.int .i64 lo), kEq (.pointer (some ⟨bp, 3, none⟩)), kEq (.int .i64 hi'), kEq (.pointer (some ⟨bp, 4, none⟩)), kEq (.int .i64 fi), kEq (.pointer (some ⟨bp, 5, none⟩)), kEq (.int .i64 la), kEq (.pointer (some ⟨bp, 6, none⟩)), kEq (.int .i64 nn), kRi lo hi' fi la nn, kSl DV, kSx (.slice B1 D1.length c1) (.slice BA DP.length cB) (.slice B6 D6.length c6) DT D7 DV, kTu wx.heap.size JN, kTu wx.heap.size JN, kSj wx.heap.size JN, kEq (.int .i64 0), kSj wx.heap.size JN, kEq (.int .i64 0)].getD j fun _ _ => True) v w)) (l := [0, 1, 2, 3, 4, 5, 6, 7, 8, 9, 10, 11, 12, 13, 14, 15, 16, 17, 18, 19, 20, 21, 22, 23, 24, 25, 26])
          rotate_left
          · kernel_rfl
          refine KSteps.cons rfl (fun a w ha hd => ?_) ?_
          · exact sk_value (ex_move (v := .slice B1 D1.length c1) (.inl rfl) (ev_same (ha.same 4 (by kernel_rfl)))) rfl rfl (Ext.refl w)
          refine KSteps.cons rfl (fun a w ha hd => ?_) ?_
          · exact sk_value (ex_move (v := .slice A m c) (.inl rfl) (ev_same (ha.same 0 (by kernel_rfl)))) rfl rfl (Ext.refl w)
          refine KSteps.cons rfl (fun a w ha hd => ?_) ?_
          · exact sk_call rfl rfl (enters_of Tryz.func44 (by kernel_rfl) rfl) (one_ev (hd 1 81 (by kernel_rfl) (by kernel_rfl) (by kernel_rfl))) (newB_k (hcT.out w (hX0.trans ha.ext)))
          refine KSteps.cons rfl (fun a w ha hd => ?_) ?_
          · exact sk_value (ex_move (v := .slice BA DP.length cB) (.inl rfl) (ev_same (ha.same 8 (by kernel_rfl)))) rfl rfl (Ext.refl w)
          refine KSteps.cons rfl (fun a w ha hd => ?_) ?_
          · exact sk_value (ex_move (v := .slice B6 D6.length c6) (.inl rfl) (ev_same (ha.same 14 (by kernel_rfl)))) rfl rfl (Ext.refl w)
          refine KSteps.cons rfl (fun a w ha hd => ?_) ?_
          · exact sk_value (ex_move (v := .slice B2 i c2) (.inl rfl) (ev_same (ha.same 6 (by kernel_rfl)))) rfl rfl (Ext.refl w)
          refine KSteps.cons rfl (fun a w ha hd => ?_) ?_
          · exact sk_call rfl rfl (enters_of Tryz.func45 (by kernel_rfl) rfl) (one_ev (hd 5 85 (by kernel_rfl) (by kernel_rfl) (by kernel_rfl))) ((hcO.out w (hX0.trans ha.ext)).mono (by rintro e w' ⟨g, rfl, _, hf, hE⟩; exact ⟨_, rfl, ⟨g, _, rfl, hf⟩, hE⟩))
          refine KSteps.cons rfl (fun a w ha hd => ?_) ?_
          · obtain ⟨g, b, hg, hf⟩ : kFi D7 (a.tmps.getD 86 undef) w := hd 6 86 (by kernel_rfl) (by kernel_rfl) (by kernel_rfl)
            exact sk_call rfl rfl (enters_of Tryz.func46 (by kernel_rfl) rfl) (one_ev hg) (newB_k (hcY.out w g b hf))
          refine KSteps.cons rfl (fun a w ha hd => ?_) ?_
          · exact sk_value (ex_faddr (q := .pointer (some ⟨bp, 0, none⟩)) rfl (ev_same (ha.same 15 (by kernel_rfl))) (fa_part w bp).1) rfl rfl (Ext.refl w)
          refine KSteps.cons rfl (fun a w ha hd => ?_) ?_
          · exact sk_value (ex_load (q := .pointer (some ⟨bp, 2, none⟩)) rfl (ev_tmp (hd 8 88 (by kernel_rfl) (by kernel_rfl) (by kernel_rfl))) (ld_int ((hrp.out.ext (hX0.trans ha.ext)).cell 2 rfl))) rfl rfl (Ext.refl w)
          refine KSteps.cons rfl (fun a w ha hd => ?_) ?_
          · exact sk_value (ex_faddr (q := .pointer (some ⟨bp, 0, none⟩)) rfl (ev_same (ha.same 15 (by kernel_rfl))) (fa_part w bp).2.1) rfl rfl (Ext.refl w)
          refine KSteps.cons rfl (fun a w ha hd => ?_) ?_
          · exact sk_value (ex_load (q := .pointer (some ⟨bp, 3, none⟩)) rfl (ev_tmp (hd 10 90 (by kernel_rfl) (by kernel_rfl) (by kernel_rfl))) (ld_int ((hrp.out.ext (hX0.trans ha.ext)).cell 3 rfl))) rfl rfl (Ext.refl w)
          refine KSteps.cons rfl (fun a w ha hd => ?_) ?_
          · exact sk_value (ex_faddr (q := .pointer (some ⟨bp, 0, none⟩)) rfl (ev_same (ha.same 15 (by kernel_rfl))) (fa_part w bp).2.2.1) rfl rfl (Ext.refl w)
          refine KSteps.cons rfl (fun a w ha hd => ?_) ?_
          · exact sk_value (ex_load (q := .pointer (some ⟨bp, 4, none⟩)) rfl (ev_tmp (hd 12 92 (by kernel_rfl) (by kernel_rfl) (by kernel_rfl))) (ld_int ((hrp.out.ext (hX0.trans ha.ext)).cell 4 rfl))) rfl rfl (Ext.refl w)
          refine KSteps.cons rfl (fun a w ha hd => ?_) ?_
          · exact sk_value (ex_faddr (q := .pointer (some ⟨bp, 0, none⟩)) rfl (ev_same (ha.same 15 (by kernel_rfl))) (fa_part w bp).2.2.2.1) rfl rfl (Ext.refl w)
          refine KSteps.cons rfl (fun a w ha hd => ?_) ?_
          · exact sk_value (ex_load (q := .pointer (some ⟨bp, 5, none⟩)) rfl (ev_tmp (hd 14 94 (by kernel_rfl) (by kernel_rfl) (by kernel_rfl))) (ld_int ((hrp.out.ext (hX0.trans ha.ext)).cell 5 rfl))) rfl rfl (Ext.refl w)
          refine KSteps.cons rfl (fun a w ha hd => ?_) ?_
          · exact sk_value (ex_faddr (q := .pointer (some ⟨bp, 0, none⟩)) rfl (ev_same (ha.same 15 (by kernel_rfl))) (fa_part w bp).2.2.2.2) rfl rfl (Ext.refl w)
          refine KSteps.cons rfl (fun a w ha hd => ?_) ?_
          · exact sk_value (ex_load (q := .pointer (some ⟨bp, 6, none⟩)) rfl (ev_tmp (hd 16 96 (by kernel_rfl) (by kernel_rfl) (by kernel_rfl))) (ld_int ((hrp.out.ext (hX0.trans ha.ext)).cell 6 rfl))) rfl rfl (Ext.refl w)
          refine KSteps.cons rfl (fun a w ha hd => ?_) ?_
          · have q0 : a.tmps.getD 89 undef = .int .i64 lo := hd 9 89 (by kernel_rfl) (by kernel_rfl) (by kernel_rfl)
            have q1 : a.tmps.getD 91 undef = .int .i64 hi' := hd 11 91 (by kernel_rfl) (by kernel_rfl) (by kernel_rfl)
            have q2 : a.tmps.getD 93 undef = .int .i64 fi := hd 13 93 (by kernel_rfl) (by kernel_rfl) (by kernel_rfl)
            have q3 : a.tmps.getD 95 undef = .int .i64 la := hd 15 95 (by kernel_rfl) (by kernel_rfl) (by kernel_rfl)
            have q4 : a.tmps.getD 97 undef = .int .i64 nn := hd 17 97 (by kernel_rfl) (by kernel_rfl) (by kernel_rfl)
            exact sk_value (ex_build (vs := #[(0, .int .i64 lo), (1, .int .i64 hi'), (2, .int .i64 fi), (3, .int .i64 la), (4, .int .i64 nn)]) rfl (by simp only [List.map_toArray, List.map_cons, List.map_nil, ev_tmp q0, ev_tmp q1, ev_tmp q2, ev_tmp q3, ev_tmp q4]) (bs_int5 w lo hi' fi la nn)) rfl ⟨w.heap.size, rfl, Row.new w _ _⟩ ((Ext.refl w).alloc _)
          refine KSteps.cons rfl (fun a w ha hd => ?_) ?_
          · obtain ⟨g, hg, hr⟩ : kRi lo hi' fi la nn (a.tmps.getD 98 undef) w := hd 18 98 (by kernel_rfl) (by kernel_rfl) (by kernel_rfl)
            exact sk_call (vs := #[.slice none 0 0, .slice (some ⟨g, 0, none⟩) 5 5]) rfl rfl (enters_of Tryz.func47 (by kernel_rfl) rfl) (by simp only [List.map_toArray, List.map_cons, List.map_nil, ev_tmp hg, ev_const]) (newB_k (hcV.out w g hr))
          refine KSteps.cons rfl (fun a w ha hd => ?_) ?_
          · have q0 : a.tmps.getD 80 undef = .slice B1 D1.length c1 := hd 0 80 (by kernel_rfl) (by kernel_rfl) (by kernel_rfl)
            obtain ⟨BT, cT, bT, q1, hT⟩ : kSl DT (a.tmps.getD 82 undef) w := hd 2 82 (by kernel_rfl) (by kernel_rfl) (by kernel_rfl)
            have q2 : a.tmps.getD 83 undef = .slice BA DP.length cB := hd 3 83 (by kernel_rfl) (by kernel_rfl) (by kernel_rfl)
            have q3 : a.tmps.getD 84 undef = .slice B6 D6.length c6 := hd 4 84 (by kernel_rfl) (by kernel_rfl) (by kernel_rfl)
            obtain ⟨BY, cY, bY, q4, hY⟩ : kSl D7 (a.tmps.getD 87 undef) w := hd 7 87 (by kernel_rfl) (by kernel_rfl) (by kernel_rfl)
            obtain ⟨BV, cV, bV, q5, hV⟩ : kSl DV (a.tmps.getD 99 undef) w := hd 19 99 (by kernel_rfl) (by kernel_rfl) (by kernel_rfl)
            exact sk_value (ex_build (vs := #[(0, .slice B1 D1.length c1), (1, .slice BT DT.length cT), (2, .slice BA DP.length cB), (3, .slice B6 D6.length c6), (4, .slice BY D7.length cY), (5, .slice BV DV.length cV)]) rfl (by simp only [List.map_toArray, List.map_cons, List.map_nil, ev_tmp q0, ev_tmp q1, ev_tmp q2, ev_tmp q3, ev_tmp q4, ev_tmp q5]) (bs_sl6 w B1 BT BA B6 BY BV _ _ _ _ _ _ _ _ _ _ _ _)) rfl ⟨w.heap.size, BT, cT, bT, BY, cY, bY, BV, cV, bV, rfl, new_cells w [.slice B1 D1.length c1, .slice BT DT.length cT, .slice BA DP.length cB, .slice B6 D6.length c6, .slice BY D7.length cY, .slice BV DV.length cV] _, hT.ext ((Ext.refl w).alloc _), hY.ext ((Ext.refl w).alloc _), hV.ext ((Ext.refl w).alloc _)⟩ ((Ext.refl w).alloc _)
          refine KSteps.cons rfl (fun a w ha hd => ?_) ?_
          · obtain ⟨g, BT, cT, bT, BY, cY, bY, BV, cV, bV, q0, hC, hT, hY, hV⟩ : kSx (.slice B1 D1.length c1) (.slice BA DP.length cB) (.slice B6 D6.length c6) DT D7 DV (a.tmps.getD 100 undef) w := hd 20 100 (by kernel_rfl) (by kernel_rfl) (by kernel_rfl)
            exact sk_call rfl rfl (enters_of Tryz.func43 (by kernel_rfl) rfl) (one_ev q0) (hcJ.out w g BT cT bT BY cY bY BV cV bV (hX0.trans ha.ext) hC hT hY hV)
          refine KSteps.cons rfl (fun a w ha hd => ?_) ?_
          · exact sk_value (ex_move (.inl rfl) rfl) rfl (hd 21 101 (by kernel_rfl) (by kernel_rfl) (by kernel_rfl)) (Ext.refl w)
          refine KSteps.cons rfl (fun a w ha hd => ?_) ?_
          · obtain ⟨AJ, cJ, q0, hO⟩ : kTu wx.heap.size JN (a.tmps.getD 79 undef) w := hd 22 79 (by kernel_rfl) (by kernel_rfl) (by kernel_rfl)
            exact sk_value (ex_extract (v := .slice AJ JN.length cJ) rfl (ev_tmp q0) rfl) rfl ⟨AJ, cJ, rfl, hO⟩ (Ext.refl w)
          refine KSteps.cons rfl (fun a w ha hd => ?_) ?_
          · obtain ⟨AJ, cJ, q0, hO⟩ : kTu wx.heap.size JN (a.tmps.getD 79 undef) w := hd 22 79 (by kernel_rfl) (by kernel_rfl) (by kernel_rfl)
            exact sk_value (ex_extract (v := .int .i64 0) rfl (ev_tmp q0) rfl) rfl rfl (Ext.refl w)
          refine KSteps.cons rfl (fun a w ha hd => ?_) ?_
          · exact sk_value (ex_move (.inr rfl) rfl) rfl (hd 23 102 (by kernel_rfl) (by kernel_rfl) (by kernel_rfl)) (Ext.refl w)
          refine KSteps.cons rfl (fun a w ha hd => ?_) ?_
          · exact sk_value (ex_move (.inr rfl) rfl) rfl (hd 24 103 (by kernel_rfl) (by kernel_rfl) (by kernel_rfl)) (Ext.refl w)
          exact KSteps.nil
        case fin =>
          intro a w9 ha hh
          obtain ⟨AJ, cJ, q16, hOJ⟩ : kSj wx.heap.size JN (a.tmps.getD 16 undef) w9 := hh 25 16 (by kernel_rfl) (by kernel_rfl)
          have q5 : a.tmps.getD 5 undef = .int .i64 0 := hh 26 5 (by kernel_rfl) (by kernel_rfl)
          have hact := ha.act [80, 81, 82, 83, 84, 85, 86, 87, 88, 89, 90, 91, 92, 93, 94, 95, 96, 97, 98, 99, 100, 101, 79, 102, 103, 16, 5] (by kernel_rfl)
          have hE9 := hide (hEw.out.trans (hX0.trans ha.ext))
          simp only [List.foldl_cons, List.foldl_nil] at hact
          rw [q16, q5] at hact
          replace hOJ := hide hOJ
          clear ha hh q16 q5
          generalize a.tmps.getD 80 undef = v80 at hact
          generalize a.tmps.getD 81 undef = v81 at hact
          generalize a.tmps.getD 82 undef = v82 at hact
          generalize a.tmps.getD 83 undef = v83 at hact
          generalize a.tmps.getD 84 undef = v84 at hact
          generalize a.tmps.getD 85 undef = v85 at hact
          generalize a.tmps.getD 86 undef = v86 at hact
          generalize a.tmps.getD 87 undef = v87 at hact
          generalize a.tmps.getD 88 undef = v88 at hact
          generalize a.tmps.getD 89 undef = v89 at hact
          generalize a.tmps.getD 90 undef = v90 at hact
          generalize a.tmps.getD 91 undef = v91 at hact
          generalize a.tmps.getD 92 undef = v92 at hact
          generalize a.tmps.getD 93 undef = v93 at hact
          generalize a.tmps.getD 94 undef = v94 at hact
          generalize a.tmps.getD 95 undef = v95 at hact
          generalize a.tmps.getD 96 undef = v96 at hact
          generalize a.tmps.getD 97 undef = v97 at hact
          generalize a.tmps.getD 98 undef = v98 at hact
          generalize a.tmps.getD 99 undef = v99 at hact
          generalize a.tmps.getD 100 undef = v100 at hact
          generalize a.tmps.getD 101 undef = v101 at hact
          generalize a.tmps.getD 79 undef = v79 at hact
          generalize a.tmps.getD 102 undef = v102 at hact
          generalize a.tmps.getD 103 undef = v103 at hact
          subst hact
          simp only [List.setIfInBounds_toArray, List.set_cons_zero, List.set_cons_succ]
          go_wp2_with fail
          go_meet
          case rel => exact ⟨AJ, cJ, rfl, rfl, hOJ, hE9⟩
      case rest =>
        obtain ⟨AJ, cJ, rfl, rfl, hOJ, hEj⟩ := hcut
        have hJ1 : 1 ≤ JN.length := by
          rw [hJN.out]
          unfold framesD joinL
          rw [List.flatMap_cons, List.length_append]
          have : 1 ≤ (frameL (encDs P)).length := by
            have h2 : (be4 (cnext 0 (vb (encDs P).length ++ encDs P))).length = 4 := rfl
            unfold frameL
            rw [List.length_append, List.length_append, h2]
            omega
          omega
        obtain ⟨gJ, hgJ⟩ : ∃ g, AJ = some ⟨g, 0, none⟩ := by
          obtain ⟨q1, q2, q3⟩ := hOJ.out.2
          rcases q3 with ⟨_, h0⟩ | ⟨g, _, h, _⟩
          · omega
          · exact ⟨g, h⟩
        subst hgJ
        have hsame := run_same wc #[.int .u8 76, .int .u8 83, .int .u8 69, .int .u8 71] 4 4
        obtain ⟨Wq, hWq⟩ : ∃ Wq, Wq = wc.alloc (Obj.cells #[Value.int IntKind.u8 76, Value.int IntKind.u8 83, Value.int IntKind.u8 69, Value.int IntKind.u8 71] 5 (4, 5)) := ⟨_, rfl⟩
        have hEq : Ext wc Wq := by rw [hWq]; exact (Ext.refl wc).alloc _
        have hbq : Cells Wq (some ⟨wc.heap.size, 0, none⟩) (([76, 83, 69, 71] : List UInt8).map B8) := by
          rw [hWq]
          exact .inr ⟨wc.heap.size, 0, rfl, fun i v hv => by
            have e : ([76, 83, 69, 71] : List UInt8).map B8 = [Value.int IntKind.u8 76, Value.int IntKind.u8 83, Value.int IntKind.u8 69, Value.int IntKind.u8 71] := rfl
            rw [e] at hv
            rw [Nat.zero_add, cell_of_row _ _ _ _ _ _ (heap_alloc_new wc _)]
            simpa using hv⟩
        have hwc : w.heap.size ≤ wc.heap.size := hEj.out.size
        have hxq : Cells Wq (some ⟨gJ, 0, none⟩) (JN.map B8) := (hOJ.out.2.ext hEq).cells
        have hlq : (JN.map B8).length = JN.length := List.length_map ..
        have hJ9 : JN.length ≤ 200000000 := by
          have h1 := joinL_len (ps := framesD P) (fun p hp => by
            unfold framesD at hp
            simp only [List.mem_cons, List.not_mem_nil, or_false] at hp
            have q1 := hB.out.docs
            have q2 := hB.out.times
            have q3 := hB.out.posts
            have q4 := hB.out.dic
            have q5 := hB.out.bits
            have q6 := hlv9.1
            rw [hDV.out, ← hpd.out] at q6
            rcases hp with rfl | rfl | rfl | rfl | rfl | rfl
            · exact q1
            · exact q2
            · exact Nat.le_trans q3 (by decide)
            · exact q4
            · exact Nat.le_trans q5.2 (by decide)
            · exact q6)
          rw [hJN.out]
          exact Nat.le_trans h1 (by show 16777236 * 6 ≤ _; decide)
        have hszq : w.heap.size ≤ Wq.heap.size := Nat.le_trans hwc hEq.size
        replace hbq := hide hbq
        replace hxq := hide hxq
        replace hlq := hide hlq
        replace hWq := hide hWq
        replace hEq := hide hEq
        go_wp2_with (at_builtin; rw [← hWq.out]; refine wpList_grow elemB hbq.out hxq.out (.tmp 107) (.tmp 108) rfl rfl rfl rfl rfl hlq.out (bytes_one _) (by omega) (by omega) (fun A9 c9 w9 hb9 hx9 => ?_); replace hb9 := hide hb9; replace hx9 := hide hx9)
        go_ret2
        have hsl : segL (dcs ds) = [76, 83, 69, 71] ++ JN := by rw [← hP.out, hJN.out]; rfl
        have hl9 : (segL (dcs ds)).length = 4 + JN.length := by rw [hsl, List.length_append]; rfl
        refine ⟨A9, c9, by rw [hl9]; rfl, ⟨rfl, ?_⟩, (hEj.out.trans hEq.out).trans hx9.out⟩
        rw [hl9, hsl, List.map_append]
        exact hb9.out.lower hszq
end
end Go.Proofs.YtkdcnhnaiknaaaaGreat
