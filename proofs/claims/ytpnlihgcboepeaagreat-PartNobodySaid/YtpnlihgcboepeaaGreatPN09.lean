/- Texts of one proof, joined. -/
import Derived.Test.YtpnlihgcboepeaaGreatPN08
set_option linter.unusedSimpArgs false
set_option linter.unusedVariables false
set_option maxRecDepth 100000
set_option maxHeartbeats 16000000
namespace Go.Proofs.YtpnlihgcboepeaaGreat
open _root_.Go.Proofs.Tryz
variable {a a0:Act} {listed:Array Bool} {ops:Array Oper} {vs:Array Value} {Q:Exit → Act → World → Prop} {la la0:Int} {L l r r1 r2 s:List UInt8} {news xs:List Value} {M N b base c c' g g' i j k m n:Nat} {S:Nat → Prop} {o:Oper} {A:Option Addr} {P:Program} {md:Region.Mode} {t:TypeId} {v:Value} {w w' wx:World}
section
open Go.RowKit
def dstOf (ops:Array Oper) (j:Nat):Option Tmp:=(ops[j]?).bind (·.dst)
structure KnowOps (md:Region.Mode) (ops:Array Oper) (base:Array Bool) (N:Nat):Prop where
  acyc:(List.range ops.size).all (fun i=>((ops[i]?).map fun o=>o.after.all fun e=> !Region.binds md e || decide (e.on<i)).getD true)=true
  nodup:(ops.toList.filterMap (·.dst)).Nodup
  bound:ops.toList.all (fun o=>match o.dst with | some d=>decide (d<N) | none=>true)=true
  size:base.size=ops.size
def lack (ops:Array Oper) (listed:Array Bool):List Nat:=(List.range ops.size).filter fun i=> !listed.getD i true
theorem GW (hi:i∈lack ops listed):(lack ops (listed.setIfInBounds i true)).length<(lack ops listed).length:=by
 unfold lack at hi ⊢;obtain⟨Y,H⟩:=List.mem_filter.1 hi;have d:i<listed.size:=by
  apply Decidable.byContradiction;intro h;rw[Array.getD_eq_getD_getElem?,Array.getElem?_eq_none (by omega)]at H;simp at H
 have h1:((List.range ops.size).filter fun j=> !(listed.setIfInBounds i true).getD j true)=(((List.range ops.size).filter fun j=> !listed.getD j true).filter fun j=>decide (j≠i)):=by
  rw[List.filter_filter];refine List.filter_congr fun j _=>?_;rw[Array.getD_eq_getD_getElem?,Array.getD_eq_getD_getElem?,Array.getElem?_setIfInBounds];by_cases h:i=j
  ·subst h;simp[d]
  ·have:¬ j=i:=fun e=>h e.symm;simp[h,this]
 rw[h1];exact List.length_filter_lt_length_iff_exists.2 ⟨i,hi,by simp⟩
theorem BU (hi:i∈Region.ready md ops listed):i∈lack ops listed/\∃o,ops[i]? = some o/\∀e∈o.after,Region.binds md e=true->listed.getD e.on false=true:=by
 unfold Region.ready at hi;obtain⟨Y,h⟩:=List.mem_filter.1 hi;rw[Bool.and_eq_true]at h;refine⟨List.mem_filter.2 ⟨Y,h.1⟩,?_⟩;cases d:ops[i]? with
 | none=>rw[d]at h;simp at h
 | some o =>
  rw[d]at h;simp only[Option.map_some,Option.getD_some]at h;refine⟨o,rfl,fun e H hb=>?_⟩;have h2:=h.2;rw[Array.all_eq_true_iff_forall_mem]at h2;have:=h2 e H;rw[hb]at this;simpa using this
theorem Ey {base listed:Array Bool} (hk:KnowOps md ops base N) (hs:listed.size=ops.size) (h0:Region.ready md ops listed = []):lack ops listed = []:=by
 apply Decidable.byContradiction;intro O;have key:∀i,i∉lack ops listed:=by
  intro i
  induction i using Nat.strongRecOn with
  | ind i ih =>
   intro hi;obtain⟨Z,H⟩:=List.mem_filter.1 hi;have U:i<ops.size:=List.mem_range.1 Z;have:i∈Region.ready md ops listed:=by
    unfold Region.ready;refine List.mem_filter.2 ⟨Z,?_⟩;rw[H,Bool.true_and];have I:ops[i]? = some ops[i]:=Array.getElem?_eq_getElem U;rw[I,Option.map_some,Option.getD_some];rw[Array.all_eq_true_iff_forall_mem];intro e he;have d:=hk.acyc;rw[List.all_eq_true]at d;have h1:=d i Z;rw[I,Option.map_some,Option.getD_some,Array.all_eq_true_iff_forall_mem]at h1;cases J:Region.binds md e with
    | false=>simp
    | true =>
    have h:=h1 e he;rw[J]at h;have h2:e.on<i:=by simpa using h
    have h3:=ih e.on h2;have Y:listed.getD e.on true=true:=by
     apply Decidable.byContradiction;intro h5;exact h3 (List.mem_filter.2 ⟨List.mem_range.2 (by omega),by simpa using h5⟩)
    have G:e.on<listed.size:=by omega
    rw[Array.getD_eq_getD_getElem?,Array.getElem?_eq_getElem G]at Y;rw[Array.getD_eq_getD_getElem?,Array.getElem?_eq_getElem G];simp at Y ⊢;rw[Y]
    try simp
   rw[h0]at this;cases this
 cases H:lack ops listed with
 | nil=>exact O H
 | cons i t=>exact key i (by rw[H];exact List.mem_cons_self ..)
theorem FB (h:(ops.toList.filterMap (·.dst)).Nodup) {d:Tmp} (hi:dstOf ops i=some d) (G:dstOf ops j=some d):i=j:=by
 unfold dstOf at hi G;obtain⟨oi,O,H⟩:=Option.bind_eq_some_iff.1 hi;obtain⟨oj,Z,Y⟩:=Option.bind_eq_some_iff.1 G;have h1:ops.toList[i]? = some oi:=by simpa using O
 have h2:ops.toList[j]? = some oj:=by simpa using Z
 generalize ops.toList=l at h h1 h2;clear O Z hi G
 induction l generalizing i j with
 | nil=>simp at h1
 | cons x t ih =>
  have U:∀ {k:Nat} {o:Oper},t[k]? = some o->o.dst=some d->d∈t.filterMap (·.dst):=fun {k o} hk I=>List.mem_filterMap.2 ⟨o,List.mem_of_getElem? hk,I⟩;cases J:x.dst with
  | none =>
   rw[List.filterMap_cons_none J]at h;cases i with
   | zero=>simp at h1;subst h1;rw[J]at H;cases H
   | succ i =>
    cases j with
    | zero=>simp at h2;subst h2;rw[J]at Y;cases Y
    | succ j=>exact congrArg (· + 1) (ih h (by simpa using h1) (by simpa using h2))
  | some dx =>
   rw[List.filterMap_cons_some J,List.nodup_cons]at h;cases i with
   | zero =>
    simp at h1;subst h1;rw[J]at H;cases H;cases j with
    | zero=>rfl
    | succ j=>exact absurd (U (by simpa using h2) Y) h.1
   | succ i =>
    cases j with
    | zero =>
     simp at h2;subst h2;rw[J]at Y;cases Y;exact absurd (U (by simpa using h1) H) h.1
    | succ j=>exact congrArg (· + 1) (ih h.2 (by simpa using h1) (by simpa using h2))
structure KnowA (ops:Array Oper) (base:Array Bool) (a0:Act) (wx:World) (a:Act) (w:World):Prop where
  size:a.tmps.size=a0.tmps.size
  defers:a.defers=a0.defers
  same:∀(d:Nat) (_:(List.range ops.size).all (fun j=>base.getD j true || decide (dstOf ops j≠some d))=true:=by kernel_rfl),a.tmps[d]? = a0.tmps[d]?
  ext:Ext wx w
theorem DZ {S:World->Prop} {base:Array Bool} (hk:KnowOps md ops base a0.tmps.size) (H:Nat->Value->World->Prop)
 (hm:∀j v w w',H j v w->Ext w w'->H j v w') (hS:∀w,Ext wx w->S w)
 (p0:∀i o,ops[i]? = some o->base.getD i true=false->∀a w,KnowA ops base a0 wx a w->(∀e∈o.after,Region.binds md e=true->base.getD e.on true=false->∀d,dstOf ops e.on=some d->H e.on (a.tmps.getD d undef) w) ->
  if Region.wanted o (yielded ops a.tmps)=true then Oper.wp P o a w (fun a' w'=>∃v,a'=a.put o.dst v/\H i v w'/\Ext w w') Q else H i undef w)
 (x0:∀a w,KnowA ops base a0 wx a w->(∀j d,base.getD j true=false->dstOf ops j=some d->H j (a.tmps.getD d undef) w)->Q .normal a w) :
 ∀(fuel:Nat) (listed:Array Bool) (a:Act) (w:World),listed.size=ops.size->(lack ops listed).length<=fuel->(∀j,base.getD j true=true->listed.getD j true=true)->KnowA ops base a0 wx a w ->
  (∀j d,base.getD j true=false->listed.getD j true=true->dstOf ops j=some d->H j (a.tmps.getD d undef) w)->wpAnyH P md ops Q S fuel listed a w:=by
 have Z:∀(listed:Array Bool) (a:Act) (w:World),lack ops listed = []->listed.size=ops.size->KnowA ops base a0 wx a w->(∀j d,base.getD j true=false->listed.getD j true=true->dstOf ops j=some d->H j (a.tmps.getD d undef) w)->Q .normal a w:=fun listed a w hl hs Y hh=>x0 a w Y fun j d hb hd=>hh j d hb (by
  apply Decidable.byContradiction;intro hn;have hj:j<ops.size:=by
   unfold dstOf at hd;obtain⟨o,ho,_⟩:=Option.bind_eq_some_iff.1 hd;exact(Array.getElem?_eq_some_iff.1 ho).1
  have:j∈lack ops listed:=List.mem_filter.2 ⟨List.mem_range.2 hj,by simpa using hn⟩;rw[hl]at this;cases this) hd
 intro fuel
 induction fuel with
 | zero =>
  intro listed a w hs hf hb Y hh;have h0:lack ops listed = []:=List.length_eq_zero_iff.1 (by omega);refine⟨?_,Z listed a w h0 hs Y hh⟩;cases hr:Region.ready md ops listed with
  | nil=>rfl
  | cons i t =>
   have:=(BU (md:=md) (ops:=ops) (listed:=listed) (i:=i) (by rw[hr];exact List.mem_cons_self ..)).1;rw[h0]at this;cases this
 | succ fuel ih =>
  intro listed a w hs hf hb Y hh;refine⟨fun h0=>Z listed a w (Ey hk hs h0) hs Y hh,fun i hi=>?_⟩;obtain⟨U,o,ho,v0⟩:=BU hi;have b0:=(List.mem_filter.1 U).2;have y0:i<listed.size:=by rw[hs];exact List.mem_range.1 (List.mem_filter.1 U).1
  have t0:base.getD i true=false:=by
   apply Decidable.byContradiction;intro hn;have:=hb i (by simpa using hn);rw[this]at b0;cases b0
  have O:=p0 i o ho t0 a w Y fun e he d0 e0 d hd=>hh e.on d e0 (by
   have h1:=v0 e he d0;rw[Array.getD_eq_getD_getElem?]at h1 ⊢;cases hx:listed[e.on]? with
   | none=>simp
   | some b=>rw[hx]at h1;simpa using h1) hd
  have J:∀v w',H i v w'->Ext w w'->S w'/\wpAnyH P md ops Q S fuel (listed.setIfInBounds i true) (a.put o.dst v) w':=fun v w' hv hE=>by
   have n0:∀j,(listed.setIfInBounds i true).getD j true=true->j=i\/listed.getD j true=true:=fun j hj=>by
    by_cases e:j=i
    ·exact .inl e
    ·rw[Array.getD_eq_getD_getElem?,Array.getElem?_setIfInBounds_ne (fun h=>e h.symm),<-Array.getD_eq_getD_getElem?]at hj;exact .inr hj
   have G:∀d,o.dst≠some d->(a.put o.dst v).tmps[d]? = a.tmps[d]? :=fun d hd=>by
    unfold Act.put;cases j1:o.dst with
    | none=>rfl
    | some d' =>
     simp only;rw[Array.getElem?_setIfInBounds_ne];intro e;exact hd (by rw[j1,e])
   have m1:(a.put o.dst v).tmps.size=a.tmps.size:=by
    unfold Act.put;cases o.dst with
    | none=>rfl
    | some d'=>simp
   have i0:(a.put o.dst v).defers=a.defers:=by
    unfold Act.put;cases o.dst <;> rfl
   have I:dstOf ops i=o.dst:=by unfold dstOf;rw[ho];rfl
   refine⟨hS _ (Y.ext.trans hE),ih _ _ _ (by simpa using hs) (by have:=GW U;omega) (fun j hj=>?_) ⟨by rw[m1];exact Y.size,by rw[i0];exact Y.defers,fun d hd=>?_,Y.ext.trans hE⟩ fun j d f0 o0 hd=>?_⟩
   ·have:=hb j hj;by_cases e:j=i
    ·subst e;rw[Array.getD_eq_getD_getElem?,Array.getElem?_setIfInBounds,if_pos rfl,if_pos y0];rfl
    ·rw[Array.getD_eq_getD_getElem?,Array.getElem?_setIfInBounds_ne (fun h=>e h.symm),<-Array.getD_eq_getD_getElem?];exact this
   ·rw[G d (by
     rw[List.all_eq_true]at hd;have:=hd i (List.mem_filter.1 U).1;rw[t0,Bool.false_or]at this;rw[<-I];exact of_decide_eq_true this)]
    exact Y.same d hd
   ·by_cases e:j=i
    ·subst e;rw[I]at hd;have r0:d<a.tmps.size:=by
      have m0:=hk.bound;rw[List.all_eq_true]at m0;have:=m0 o (by simpa using Array.mem_of_getElem? ho);rw[hd]at this;rw[Y.size];exact of_decide_eq_true this
     have:(a.put o.dst v).tmps.getD d undef=v:=by
      unfold Act.put;rw[hd,Array.getD_eq_getD_getElem?,Array.getElem?_setIfInBounds,if_pos rfl,if_pos r0];rfl
     rw[this];exact hv
    ·have p1:o.dst≠some d:=fun h=>e (FB hk.nodup hd (I.trans h));rw[Array.getD_eq_getD_getElem?,G d p1,<-Array.getD_eq_getD_getElem?];exact hm j _ _ _ (hh j d f0 ((n0 j o0).resolve_left e) hd) hE
  unfold wpOp;rw[ho];simp only;split
  ·rename_i hw;rw[if_pos hw]at O;exact .inl (Oper.wp_mono (fun a' w' ⟨v,he,hv,hE⟩=>by rw[he];exact J v w' hv hE) O)
  ·rename_i hw;rw[if_neg hw]at O;exact J undef w O (Ext.refl w)
section
variable {P:Program} {ops:Array Oper} {Q:Exit->Act->World->Prop} {o:Oper} {a:Act} {w:World} {H:Value->World->Prop} {E0:Prop}
theorem Fg {f:Nat} {xs:Array Operand} {ts:Array TypeId} (U:o.op = .call { callee:= .value (.func f),args:=xs,argTypes:=ts }) (d:o.guard=none) (eg:∀args w,(callFunc f args).run P w = .ok (.enter f args) w) (Z:xs.map a.eval=vs)
 (J:Calls P f vs w fun e w'=>∃u,e = .returned u/\H u w'/\Ext w w'):if Region.wanted o (yielded ops a.tmps)=true then Oper.wp P o a w (fun a' w'=>∃v,a'=a.put o.dst v/\H v w'/\Ext w w') Q else E0:=by
 rw[if_pos (by simp[Region.wanted,d])];have O:(execOp a.eval o).run P w = .ok (.enter f vs) w:=by
  unfold execOp;simp[U,resolve,invoke,go_sem,eg,Z]
 unfold Oper.wp;rw[O,Oper.upon_enter];refine J.mono ?_;rintro e w' ⟨u,rfl,h,Y⟩;exact⟨u,rfl,h,Y⟩
theorem AC (J:(execOp a.eval o).run P w = .ok (.value v) w') (d:o.guard=none) (h:H v w') (Y:Ext w w'):if Region.wanted o (yielded ops a.tmps)=true then Oper.wp P o a w (fun a' w'=>∃v,a'=a.put o.dst v/\H v w'/\Ext w w') Q else E0:=by
 rw[if_pos (by simp[Region.wanted,d])];unfold Oper.wp;rw[J,Oper.upon_value];exact⟨v,rfl,h,Y⟩
theorem Ah {x:Operand} (h:o.op = .move x\/o.op = .assign x) (d:a.eval x=v):(execOp a.eval o).run P w = .ok (.value v) w:=by
 unfold execOp;rcases h with h | h <;> simp[h,d]
theorem AI {x:Operand} {q v:Value} (h:o.op = .load t x) (H:a.eval x=q) (d:(Instr.loadAt t q).run P w = .ok v w):(execOp a.eval o).run P w = .ok (.value v) w:=by
 unfold execOp;simp[h,H,d,Result.andThen]
theorem Ao {x:Operand} {q v:Value} (h:o.op = .fieldAddr t x k) (H:a.eval x=q) (d:(Instr.fieldAt t q k).run P w = .ok v w):(execOp a.eval o).run P w = .ok (.value v) w:=by
 unfold execOp;simp[h,H,d,Result.andThen]
theorem GK {x:Operand} (h:o.op = .extract x k) (H:a.eval x = .tuple vs) (d:(Instr.extract (.tuple vs) k).run P w = .ok v w):(execOp a.eval o).run P w = .ok (.value v) w:=by
 unfold execOp;simp[h,H,d,Result.andThen]
theorem C0 {parts:Array (Nat×Operand)} {vs:Array (Nat×Value)} (h:o.op = .buildSlice t n parts) (H:parts.map (fun p=>(p.1,a.eval p.2))=vs) (d:(Instr.buildSlice t n vs).run P w = .ok v w'):(execOp a.eval o).run P w = .ok (.value v) w':=by
 unfold execOp;simp[h,H,d,Result.andThen]
theorem Ac {t:Tmp} (h:a.tmps.getD t undef=v):a.eval (.tmp t)=v:=h
theorem Af {t:Tmp} (h:a.tmps[t]? = a0.tmps[t]?):a.eval (.tmp t)=a0.eval (.tmp t):=by
 show a.tmps.getD t undef=a0.tmps.getD t undef;rw[Array.getD_eq_getD_getElem?,Array.getD_eq_getD_getElem?,h]
end
def KStep (P:Program) (md:Region.Mode) (ops:Array Oper) (Q:Exit->Act->World->Prop) (base:Array Bool) (a0:Act) (wx:World) (H:Nat->Value->World->Prop) (i:Nat) (o:Oper):Prop :=
 ∀a w,KnowA ops base a0 wx a w->(∀(j d:Nat) (_:(o.after.any fun e=>e.on==j&&Region.binds md e)=true:=by kernel_rfl) (_:base.getD j true=false:=by kernel_rfl) (_:dstOf ops j=some d:=by kernel_rfl),H j (a.tmps.getD d undef) w) ->
  if Region.wanted o (yielded ops a.tmps)=true then Oper.wp P o a w (fun a' w'=>∃v,a'=a.put o.dst v/\H i v w'/\Ext w w') Q else H i undef w
def KSteps (P:Program) (md:Region.Mode) (ops:Array Oper) (Q:Exit->Act->World->Prop) (base:Array Bool) (a0:Act) (wx:World) (H:Nat->Value->World->Prop) (l:List Nat):Prop :=
 ∀i∈l,∀o,ops[i]? = some o->KStep P md ops Q base a0 wx H i o
section
variable {P:Program} {md:Region.Mode} {ops:Array Oper} {Q:Exit->Act->World->Prop} {base:Array Bool} {a0:Act} {wx:World} {H:Nat->Value->World->Prop}
theorem KSteps.nil:KSteps P md ops Q base a0 wx H []:=fun _ h=>absurd h List.not_mem_nil
theorem KSteps.cons {l:List Nat} (J:ops[i]? = some o) (h:KStep P md ops Q base a0 wx H i o) (hs:KSteps P md ops Q base a0 wx H l):KSteps P md ops Q base a0 wx H (i::l):=fun j Y o' d=>by
 rcases List.mem_cons.1 Y with rfl | Y
 ·rw[J]at d;cases d;exact h
 ·exact hs j Y o' d
theorem KSteps.all {l:List Nat} (hs:KSteps P md ops Q base a0 wx H l) (Z:(List.range ops.size).all (fun i=>base.getD i true || l.contains i)=true) :
 ∀i o,ops[i]? = some o->base.getD i true=false->∀a w,KnowA ops base a0 wx a w->(∀e∈o.after,Region.binds md e=true->base.getD e.on true=false->∀d,dstOf ops e.on=some d->H e.on (a.tmps.getD d undef) w) ->
  if Region.wanted o (yielded ops a.tmps)=true then Oper.wp P o a w (fun a' w'=>∃v,a'=a.put o.dst v/\H i v w'/\Ext w w') Q else H i undef w:=fun i o G hb a w I hd=>by
 rw[List.all_eq_true]at Z;have h1:=Z i (List.mem_range.2 (Array.getElem?_eq_some_iff.1 G).1);rw[hb,Bool.false_or]at h1;refine hs i (by simpa using h1) o G a w I fun j d O Y J=>?_;rw[Array.any_eq_true']at O;obtain⟨e,he,h⟩:=O;rw[Bool.and_eq_true]at h;have U:e.on=j:=by simpa using h.1
 subst U;exact hd e he h.2 Y d J
def dsK (ops:Array Oper) (base:Array Bool):List Tmp:=(List.range ops.size).filterMap fun j=>if base.getD j true then none else dstOf ops j
theorem KnowA.act (h:KnowA ops base a0 wx a w) (ds:List Tmp) (Y:dsK ops base=ds):a = { tmps:=ds.foldl (fun t d=>t.setIfInBounds d (a.tmps.getD d undef)) a0.tmps,defers:=a0.defers }:=by
 have key:∀(ds:List Tmp) (t0:Array Value),t0.size=a.tmps.size->(∀d,d∉ds->a.tmps[d]? = t0[d]?)->a.tmps=ds.foldl (fun t d=>t.setIfInBounds d (a.tmps.getD d undef)) t0:=by
  intro ds
  induction ds with
  | nil =>
   intro t0 hs J;exact Array.ext_getElem? fun d=>J d List.not_mem_nil
  | cons x xs ih =>
   intro t0 hs J;refine ih _ (by simpa using hs) fun d hd=>?_;rw[Array.getElem?_setIfInBounds];by_cases e:x=d
   ·subst e;rw[if_pos rfl];by_cases H:x<t0.size
    ·rw[if_pos H,Array.getD_eq_getD_getElem?,Array.getElem?_eq_getElem (by rw[<-hs];exact H)];rfl
    ·rw[if_neg H,Array.getElem?_eq_none (by rw[<-hs];exact Nat.le_of_not_lt H)]
   ·rw[if_neg e];exact J d fun Z=>by
     rcases List.mem_cons.1 Z with h | h
     ·exact e h.symm
     ·exact hd h
 have h1:=key ds a0.tmps h.size.symm fun d hd=>h.same d (by
  rw[List.all_eq_true];intro j O;cases hb:base.getD j true with
  | true=>rfl
  | false =>
   rw[Bool.false_or];refine decide_eq_true fun U=>hd ?_;rw[<-Y];exact List.mem_filterMap.2 ⟨j,O,by rw[hb];exact U⟩)
 rw[<-h1,<-h.defers]
theorem FF {Hs:List (Value->World->Prop)} (h:∀p∈Hs,∀v w w',p v w->Ext w w'->p v w') (j:Nat) (v:Value) (w w':World) (d:(Hs.getD j fun _ _=>True) v w) (Y:Ext w w'):(Hs.getD j fun _ _=>True) v w':=by
 rw[List.getD_eq_getElem?_getD]at d ⊢;cases H:Hs[j]? with
 | none=>trivial
 | some p =>
  rw[H]at d;exact h p (List.mem_of_getElem? H) v w w' d Y
end
end
section
open Go.RowKit
theorem Bz (h:w.cell? ⟨b,k,none⟩=some v):(Instr.loadAt 3 (.pointer (some ⟨b,k,none⟩))).run prog w = .ok v w:=by
 go_simp
theorem Bn (w:World) (b:Nat):(Instr.fieldAt 24 (.pointer (some ⟨b,0,none⟩)) 2).run prog w = .ok (.pointer (some ⟨b,2,none⟩)) w/\(Instr.fieldAt 24 (.pointer (some ⟨b,0,none⟩)) 3).run prog w = .ok (.pointer (some ⟨b,3,none⟩)) w/\(Instr.fieldAt 24 (.pointer (some ⟨b,0,none⟩)) 4).run prog w = .ok (.pointer (some ⟨b,4,none⟩)) w/\(Instr.fieldAt 24 (.pointer (some ⟨b,0,none⟩)) 5).run prog w = .ok (.pointer (some ⟨b,5,none⟩)) w/\(Instr.fieldAt 24 (.pointer (some ⟨b,0,none⟩)) 6).run prog w = .ok (.pointer (some ⟨b,6,none⟩)) w:=by
 refine⟨?_,?_,?_,?_,?_⟩ <;> go_simp
theorem QA (w:World) (a b c d e:Int):(Instr.buildSlice 115 5 #[(0,.int .i64 a),(1,.int .i64 b),(2,.int .i64 c),(3,.int .i64 d),(4,.int .i64 e)]).run prog w = .ok (.slice (some ⟨w.heap.size,0,none⟩) 5 5) (w.alloc (.cells #[.int .i64 a,.int .i64 b,.int .i64 c,.int .i64 d,.int .i64 e] 3)):=by
 go_simp
theorem Ru (w:World) (a b c d e f:Option Addr) (na nb nc nd ne nf ca cb cc cd ce cf:Nat):(Instr.buildSlice 148 6 #[(0,.slice a na ca),(1,.slice b nb cb),(2,.slice c nc cc),(3,.slice d nd cd),(4,.slice e ne ce),(5,.slice f nf cf)]).run prog w = .ok (.slice (some ⟨w.heap.size,0,none⟩) 6 6) (w.alloc (.cells #[.slice a na ca,.slice b nb cb,.slice c nc cc,.slice d nd cd,.slice e ne ce,.slice f nf cf] 25)):=by
 go_simp
def kEq (u:Value) (v:Value) (_:World):Prop:=v=u
def kSl (D:List UInt8) (v:Value) (w:World):Prop:=∃A c b,v = .slice A D.length c/\Buf w b 5 A D.length c (D.map B8)
def kFi (D:List UInt8) (v:Value) (w:World):Prop:=∃g b,v = .pointer (some ⟨g,0,none⟩)/\FilO w b g D
def kRi (a b c d e:Int) (v:Value) (w:World):Prop:=∃g,v = .slice (some ⟨g,0,none⟩) 5 5/\Row w g 3 #[.int .i64 a,.int .i64 b,.int .i64 c,.int .i64 d,.int .i64 e]
def kSx (v1 v3 v4:Value) (DT D7 DV:List UInt8) (v:Value) (w:World):Prop:=∃g BT cT bT BY cY bY BV cV bV,v = .slice (some ⟨g,0,none⟩) 6 6/\Cells w (some ⟨g,0,none⟩) [v1,.slice BT DT.length cT,v3,v4,.slice BY D7.length cY,.slice BV DV.length cV] /\
 Buf w bT 5 BT DT.length cT (DT.map B8)/\Buf w bY 5 BY D7.length cY (D7.map B8)/\Buf w bV 5 BV DV.length cV (DV.map B8)
def kTu (base:Nat) (J:List UInt8) (v:Value) (w:World):Prop:=∃A c,v = .tuple #[.slice A J.length c,.int .i64 0]/\Own8 w base A J.length c J
def kSj (base:Nat) (J:List UInt8) (v:Value) (w:World):Prop:=∃A c,v = .slice A J.length c/\Own8 w base A J.length c J
theorem Pv (u:Value) (v:Value) (w w':World) (h:kEq u v w) (_:Ext w w'):kEq u v w':=h
theorem Sb (D:List UInt8) (v:Value) (w w':World) (h:kSl D v w) (d:Ext w w'):kSl D v w':=by obtain⟨A,c,b,h1,h2⟩:=h;exact⟨A,c,b,h1,h2.ext d⟩
theorem R4 (D:List UInt8) (v:Value) (w w':World) (h:kFi D v w) (d:Ext w w'):kFi D v w':=by obtain⟨g,b,h1,h2⟩:=h;exact⟨g,b,h1,h2.ext d⟩
theorem R9 (a b c d e:Int) (v:Value) (w w':World) (h:kRi a b c d e v w) (H:Ext w w'):kRi a b c d e v w':=by obtain⟨g,h1,h2⟩:=h;exact⟨g,h1,h2.ext H⟩
theorem Sc (v1 v3 v4:Value) (DT D7 DV:List UInt8) (v:Value) (w w':World) (h:kSx v1 v3 v4 DT D7 DV v w) (d:Ext w w'):kSx v1 v3 v4 DT D7 DV v w':=by
 obtain⟨g,BT,cT,bT,BY,cY,bY,BV,cV,bV,h1,h2,H,Y,J⟩:=h;exact⟨g,BT,cT,bT,BY,cY,bY,BV,cV,bV,h1,h2.ext d,H.ext d,Y.ext d,J.ext d⟩
theorem Sd (base:Nat) (J:List UInt8) (v:Value) (w w':World) (h:kTu base J v w) (d:Ext w w'):kTu base J v w':=by obtain⟨A,c,h1,h2⟩:=h;exact⟨A,c,h1,h2.1,h2.2.ext d⟩
theorem Sa (base:Nat) (J:List UInt8) (v:Value) (w w':World) (h:kSj base J v w) (d:Ext w w'):kSj base J v w':=by obtain⟨A,c,h1,h2⟩:=h;exact⟨A,c,h1,h2.1,h2.2.ext d⟩
theorem LY {X:World} {D:List UInt8} {f:Nat} (h:Calls prog f vs X fun e w'=>NewB X D e w'):Calls prog f vs X fun e w'=>∃u,e = .returned u/\kSl D u w'/\Ext X w':=h.mono (by
 rintro e w' ⟨A,c,rfl,hb,d⟩;exact⟨_,rfl,⟨A,c,_,rfl,hb⟩,d⟩)
end
section
open Go.RowKit Go.Maps
theorem IdxM.look {rows:List (List UInt8×List Po)} (h:IdxM w M rows) {r:List UInt8×List Po} (Y:r∈rows) (hs:r.1.length<=9223372036854775807) :
 ∃(ps:List PoC) (A:Option Addr) (c:Nat),psP ps=r.2/\PosOk w A ps/\(∀a,A=some a->a.spot=none)/\ps.length<=c/\∀W,Ext w W->(Instr.lookup 54 (.map (some M)) (.string ⟨r.1.toArray⟩) false).run prog W = .ok (.slice A ps.length c) W:=by
 obtain⟨L,U,d⟩:=h;obtain⟨ps,A,c,H,h1,h2,O,Z⟩:=d r Y;refine⟨ps,A,c,h1,h2,O,Z,fun W G=>?_⟩;have hz:(zeroValue 66).run prog W = .ok (.slice none 0 0) W:=by kernel_rfl
 rcases (U.ext G).look Kk underlying54 (DJ hs) hz false with ⟨u,I,Y⟩ | ⟨J,_⟩
 ·rw[U.unique I H]at Y;exact Y
 ·exact absurd rfl (J _ H)
theorem MR:Elem prog 192 195 4 40:=⟨underlying192,⟨_,_,rfl,rfl,rfl,rfl,rfl⟩,by omega,by omega⟩
theorem L9 (P:List Dc):∃a b c d e,partD P = [a,b,c,d,e]:=by
 cases P with
 | nil=>exact⟨_,_,_,_,_,rfl⟩
 | cons x t=>exact⟨_,_,_,_,_,rfl⟩
theorem RZ {X:World} {a b c d e:Int} (h:Row X g 3 #[.int .i64 a,.int .i64 b,.int .i64 c,.int .i64 d,.int .i64 e]):Cells X (some ⟨g,0,none⟩) ([a,b,c,d,e].map (Value.int .i64)) :=
 .inr ⟨g,0,rfl,fun i v H=>by
  rw[Nat.zero_add,h.get];simpa using H⟩
theorem Rf {X:World} {a b c d e f:Option Addr×Nat×List UInt8} (H:In8 X a.1 a.2.2.length a.2.1 a.2.2/\a.2.2.length<=16777216) (hb:In8 X b.1 b.2.2.length b.2.1 b.2.2/\b.2.2.length<=16777216) (Y:In8 X c.1 c.2.2.length c.2.1 c.2.2/\c.2.2.length<=16777216) (hd:In8 X d.1 d.2.2.length d.2.1 d.2.2/\d.2.2.length<=16777216)
 (J:In8 X e.1 e.2.2.length e.2.1 e.2.2/\e.2.2.length<=16777216) (U:In8 X f.1 f.2.2.length f.2.1 f.2.2/\f.2.2.length<=16777216):∀p ∈ [a,b,c,d,e,f],In8 X p.1 p.2.2.length p.2.1 p.2.2/\p.2.2.length<=16777216:=fun p h=>by
 simp only[List.mem_cons,List.not_mem_nil,or_false]at h;rcases h with rfl | rfl | rfl | rfl | rfl | rfl <;> assumption
theorem Dr {t:Tmp} (h:a.tmps.getD t undef=v):#[Operand.tmp t].map a.eval=#[v]:=by
 simp only[List.map_toArray,List.map_cons,List.map_nil,Ac h]
theorem Lb {rest:List Oper} {t e bytes:Nat} (E:Elem prog t e 1 bytes) (hb:Cells w (some ⟨g,0,none⟩) xs) (hr:Cells w (some ⟨g',0,none⟩) news) (s x:Operand)
 (ho:o.op = .call { callee:= .builtin .append,args:=#[s,x],argTypes:=#[t,t] }) (I:o.guard=none) (hs:a.eval s = .slice (some ⟨g,0,none⟩) n c) (hx:a.eval x = .slice (some ⟨g',0,none⟩) m c') (hn:xs.length=n) (hl:news.length=m) (h1:∀u∈news,u.oneCell'=true) (h0:n+m<=4294967296) (J:c<n+m)
 (h:∀A1 c1 w',Buf w' w.heap.size e A1 (n+m) c1 (xs++news)->Ext w w'->wpList prog ops Q rest (a.put o.dst (.slice A1 (n+m) c1)) w'):wpList prog ops Q (o::rest) a w:=by
 obtain⟨i,z,hi,hz,h3,h4,h5⟩:=E.hi;have H:(n+m)*bytes<=140737488355328:=Nat.le_trans (Nat.mul_le_mul h0 E.hb) (by omega);have d:∀ {g:Nat} {ys:List Value},Cells w (some ⟨g,0,none⟩) ys->∀j u,ys[j]? = some u->w.cell? ((⟨g,0,none⟩:Addr).add j)=some u:=fun {g ys} U j u O=>by
  rcases U with U | ⟨g1,o1,Z,U⟩
  ·rw[U]at O;cases O
  ·cases Z;rw[Addr.add_lit];exact U j u O
 refine wpList_append_grows w I s x t ho e i z 1 bytes E.ht hi hz h3 h4 h5 (by omega) (some ⟨g,0,none⟩) n c xs hs (fun Z=>by cases Z) (by omega) (fun b G j u O=>by cases G;exact d hb j u O) ⟨g',0,none⟩ m c' news hx (by omega) (d hr) h1 J (by unfold maxLen;omega) H fun v' w' Y hg=>?_;obtain⟨A1,c1,rfl⟩:=G3 Y;exact h A1 c1 w' (Buf.of_own Y) ((Ext.refl w).grown hg (fun k hk=>by cases hk))
theorem Pd (a:Act) (v:Value):a.eval (.const v)=v:=rfl
theorem Fe (ds:List DocC) (A:Option Addr) (m c:Nat) (w:World) (O:m=ds.length) (h:DocsOk w A ds) (hA:∀a,A=some a->a.spot=none) (I:m<=c) (G:m<=1000000000) (Y:okDs (dcs ds)=false\/m=0) :
 Calls prog 59 #[.slice A m c] w fun e w'=>e = .returned (.tuple #[.slice none 0 0,.int .i64 130])/\Ext w w':=by
 by_cases J:okDs (dcs ds)=false
 ·have d:=Aa (Gh ds A m c w O h G J);clear Y h O
  go_in
  go_wp2_with fail;refine d.out.mono ?_;rintro e w1 ⟨rfl,H⟩;go_wp2_with fail;go_ret2;exact⟨rfl,H⟩
 ·have Z:m=0:=Y.resolve_left J;have U:ds = []:=List.length_eq_zero_iff.1 (by omega);subst U;subst Z;have d:=Du [] A 0 c w rfl h hA I rfl (by simp[dcs,blockD]);replace d:=Aa d;clear Y h O J
  go_in
  go_wp2_with fail;refine d.out.mono ?_;rintro e w1 ⟨B,cB,rfl,_,H⟩;go_wp2_with fail;go_ret2;exact⟨rfl,H⟩
theorem Cj (l:List En) (x:En):encells (l ++ [x])=encells l++x.cells:=by
 unfold encells;rw[List.flatMap_append];simp
theorem CY (ds:List DocC) (A:Option Addr) (m c:Nat) (w:World) (hm:m=ds.length) (h:DocsOk w A ds) (hA:∀a,A=some a->a.spot=none) (q8:m<=c) (hs:SmP (dcs ds)) (h0:0<m) :
 Calls prog 59 #[.slice A m c] w fun e w'=>OkB w (segL (dcs ds)) e w':=by
 have G:=hs.seg;have c4:(dcs ds).length=m:=by unfold dcs;rw[List.length_map,hm]
 have h8:m<=65536:=by rw[<-c4];exact G.n
 have p4:=Du ds A m c w hm h hA q8 hs.ok (by have:=hs.sz;omega);have v5:=Aa (fun W (hE:Ext w W)=>NW ds A m c W hm (h.ext hE) h8 (by have:=G.pairs;omega));have t7:=Aa (fun W (hE:Ext w W)=>K4 ds A m c W hm (h.ext hE) (by omega) h0);have v7:=Aa (fun W (hE:Ext w W)=>OQ ds A m c W hm (h.ext hE) (by omega));obtain⟨P,hP⟩:=Ab (dcs ds);rw[<-hP]at G p4 v5 t7 v7;obtain⟨R,hR⟩:=Ab (rowsD P);rw[<-hR]at v5;have d4:=G.rows;have z3:=G.each;have t6:=G.posts;rw[<-hR]at d4 z3 t6;replace G:=Aa G;replace hP:=Aa hP;replace hR:=Aa hR;replace c4:=Aa c4;replace p4:=Aa p4;replace z3:=Aa z3;replace hm:=Aa hm;replace h:=Aa h;replace hs:=Aa hs
 go_in
 go_wp2_with fail;refine p4.out.mono ?_;rintro e w1 ⟨B1,c1,rfl,x3,o5⟩;have x5:(encDs P).length<=16777216:=G.out.docs;obtain⟨n1,l3⟩:=Ab ((encDs P).length);rw[<-l3]at x3 x5 ⊢;replace l3:=Aa l3;replace x3:=Aa x3;go_wp2_with fail;refine(v5.out w1 o5).mono ?_;rintro e w2 ⟨B2,n2,c2,M,rfl,k0,a3,b4,j3⟩;rw[<-k0]at d4;replace k0:=Aa k0;replace a3:=Aa a3;replace b4:=Aa b4;have j4:=Aa (o5.trans j3);replace j3:=Aa j3;go_wp2_with fail;obtain⟨b2,p0⟩:=Ab w2.heap.size;have x8:w.heap.size<=b2:=by rw[p0];exact j4.out.size
 have i4:=Nat.le_of_eq p0;replace p0:=Aa p0
 go_loopw [8,9,11,12,13,39] (fun s8 s9 s11 s12 s13 s39 wr=>∃(i nB cB cE:Nat) (BA EA:Option Addr) (v11 v12 v13:Value),s11=v11/\s12=v12/\s13=v13/\s39 = .int .i64 (i:Int)/\s8 = .slice BA nB cB/\s9 = .slice EA i cE/\i<=n2/\nB<=5000000/\Hid (nB=(postB (R.take i)).length)/\Hid (Buf wr b2 5 BA nB cB ((postB (R.take i)).map B8))/\Hid (wr.ownsRow b2 195 4 (.slice EA i cE) i (encells (enOf 0 (R.take i))))/\Hid (Ext w2 wr)/\b2<=wr.heap.size) (fun _ _ _ _ _ s39 _=>n2 - (intOf s39).toNat)
 case atStart=>exact⟨0,0,0,0,none,none,_,_,_,rfl,rfl,rfl,rfl,rfl,rfl,by omega,by omega,Aa rfl,Aa (Buf.nil _ _ _),Aa (World.ownsRow_nil _ _ _ _),Aa (Ext.refl _),i4⟩
 case round =>
  obtain⟨i,nB,cB,cE,BA,EA,v11,v12,v13,rfl,rfl,rfl,rfl,rfl,rfl,hi,x4,m2,a4,t3,I,c7⟩:=hrel;by_cases o7:i<n2
  ·obtain⟨⟨rt,rl⟩,hr⟩:∃r,R[i]? = some r:=⟨_,List.getElem?_eq_getElem (by rw[<-k0.out];exact o7)⟩
   have h4:=List.mem_of_getElem? hr;have v0:=z3.out _ h4;have p8:=DW (P:=P) (r:=(rt,rl)) (by rw[<-hR.out];exact h4);simp only at v0 p8;obtain⟨g2,o2,i7,a6⟩:=a3.out.cells.at_ (by rw[List.length_map,<-k0.out];omega);subst i7;have i6:=I.out.cell (a6 i (strV rt) (by rw[List.getElem?_map,hr];rfl));unfold strV at i6;obtain⟨ps,Ap,cp,q7,r6,p7,o6,p2⟩:=b4.out.look h4 (by simp only;omega);have j0:psP ps=rl:=q7;have x2:ps.length=rl.length:=by rw[<-j0];unfold psP;rw[List.length_map]
   obtain⟨np,o3⟩:=Ab ps.length;rw[<-o3]at p2 o6 x2;have l6:=p2 wr I.out;have r3:=E7 ps Ap np cp wr o3 (r6.ext I.out) p7 o6 (by rw[j0];exact v0.1) (by rw[j0];exact v0.2.2.2.1);rw[j0]at r3;have y2:postB (R.take (i+1))=postB (R.take i)++encPs rl:=by
    rw[List.take_add_one,hr,Cx];unfold postB;simp
   have m5:enOf 0 (R.take (i+1))=enOf 0 (R.take i) ++ [⟨rt,nB,(encPs rl).length,rl.length⟩]:=by
    rw[List.take_add_one,hr,GG,<-m2.out,Nat.zero_add];rfl
   have a2:(postB (R.take (i+1))).length<=5000000:=by
    refine Nat.le_trans ?_ t6;have h1:=Cx (R.take (i+1)) (R.drop (i+1));rw[List.take_append_drop]at h1;rw[h1,List.length_append];omega
   have d7:=v0.2.2.2.2;have a8:=v0.2.2.1;rw[y2,List.length_append,<-m2.out]at a2;replace v0:=Aa v0;replace y2:=Aa y2;replace m5:=Aa m5;replace p2:=Aa p2;replace r3:=Aa r3;replace o3:=Aa o3;replace hr:=Aa hr;replace x2:=Aa x2;clear h4 a6 q7 r6 j0;go_wp2_with fail;refine r3.out.mono ?_;rintro e w5 ⟨B5,c5,rfl,y3,f1⟩;have y8:=p2.out w5 (I.out.trans f1);obtain⟨n5,o0⟩:=Ab ((encPs rl).length);rw[<-o0]at y3 d7 a2 ⊢;have h6:=Aa (I.out.trans f1);have O:=f1.owns t3.out;have y1:=a4.out.ext f1;have y4:b2<=w5.heap.size:=Nat.le_trans c7 f1.size;replace y3:=Aa y3;replace o0:=Aa o0;replace O:=Aa O;replace y1:=Aa y1;have k2:((encPs rl).map B8).length=n5:=by rw[List.length_map];exact o0.out.symm
   have z8:np<=70000:=by have:=x2.out;omega
   have z4:w2.heap.size<=b2:=by rw[p0.out];exact Nat.le_refl _
   replace k2:=Aa k2;clear l6 i6;go_wp2_with (first
    | (at_builtin;refine AS (us:= [.string ⟨rt.toArray⟩,.int .i64 (nB:Int),.int .i64 (n5:Int),.int .i64 (np:Int)]) (m:=1) MR O.out rfl (.tmp 50) (.tmp 61) rfl rfl rfl rfl rfl (by simp[Value.oneCell']) (by omega) y4 (fun A8 c8 w8 z5 o1 r7=>?_);have b3:=Ci O.out o1 y1.out (by decide);have b5:=(Ci O.out o1 y3.out.2 (by decide)).cells;have p5:=CX O.out o1 h6.out z4;have j7:b2<=w8.heap.size:=Nat.le_trans y4 o1.size;replace b3:=Aa b3;replace b5:=Aa b5;replace p5:=Aa p5;replace z5:=Aa z5;clear o1 r7)
    | (at_builtin;refine Al Aw b3.out b5.out (.tmp 63) (.tmp 64) rfl rfl rfl rfl rfl k2.out (Ai _) (by omega) j7 (fun A9 c9 w9 t0 t5 p1 i3=>?_);have a5:=Gr b3.out t5 z5.out (by decide);have j5:=p1 _ p5.out z4;have k8:b2<=w9.heap.size:=Nat.le_trans j7 t5.size;replace t0:=Aa t0;replace a5:=Aa a5;replace j5:=Aa j5;clear t5 i3 p1))
   go_roundw
   case rel =>
    refine⟨i+1,nB+n5,c9,c8,A9,A8,_,_,_,rfl,rfl,rfl,by first | rfl | (congr 1;omega),rfl,rfl,by omega,a2,Aa ?_,Aa ?_,Aa ?_,j5,k8⟩
    ·rw[y2.out,List.length_append,<-m2.out,<-o0.out]
    ·rw[y2.out,List.map_append];exact t0.out
    ·rw[m5.out,Cj];rw[show (⟨rt,nB,(encPs rl).length,rl.length⟩:En).cells = [.string ⟨rt.toArray⟩,.int .i64 (nB:Int),.int .i64 (n5:Int),.int .i64 (np:Int)] by rw[<-o0.out,<-x2.out];rfl];exact a5.out
   case measure=>simp only[intOf];omega
  ·have c0:R.take i=R:=List.take_of_length_le (by rw[<-k0.out];omega);rw[c0]at m2 a4 t3;have f6:i=n2:=by omega
   subst f6;obtain⟨w3,g8⟩:=Ab wr;subst g8;have g5:=BN t3.out;have f3:=J0 (enOf 0 R) EA i cE w3 (by rw[Cc];exact k0.out) (Cells.of_own t3.out) g5.2 g5.1 (by rw[hR.out];exact G.out.ens);have r5:=Aa (j4.out.trans I.out);have b6:(encEs (enOf 0 R)).length<=16777216:=by rw[hR.out];exact G.out.dic
   obtain⟨D6,h3⟩:=Ab (encEs (enOf 0 R));rw[<-h3]at f3 b6;replace h3:=Aa h3;replace f3:=Aa f3;clear g5;go_wp2_with fail;refine f3.out.mono ?_;rintro e w6 ⟨B6,c6,rfl,m6,m3⟩;have g4:=Aa (r5.out.trans m3);have d2:=t7.out w6 g4.out;obtain⟨lo,J,fi,la,nn,r0⟩:=L9 P;rw[r0]at d2;have j0:prtA [lo,J,fi,la,nn]=#[.int .i64 0,.int .i64 0,.int .i64 lo,.int .i64 J,.int .i64 fi,.int .i64 la,.int .i64 nn]:=rfl;rw[j0]at d2;replace d2:=Aa d2;replace r0:=Aa r0;have m4:=Aa m6.2;have m1:=Aa (x3.out.2.ext (j3.out.trans (I.out.trans m3)));have x1:=Aa (a4.out.ext m3);have t4:=Aa (a3.out.ext (I.out.trans m3));clear j0 m6;go_wp2_with fail;refine d2.out.mono ?_;rintro e w7 ⟨rfl,i0⟩;have t8:=Aa (g4.out.trans i0);obtain rfl:=l3.out;obtain rfl:=m2.out;have v4:(timesD 0 P).length<=16777216:=G.out.times;have d0:8<=(ofB (R.map (·.1))).length/\(ofB (R.map (·.1))).length<=131072:=by rw[hR.out];exact G.out.bits
   have e0:(vall [lo,J,fi,la,nn]).length<=16777216/\I64ok' lo/\I64ok' J/\I64ok' fi/\I64ok' la/\I64ok' nn:=by
    have h7:I64ok' lo/\I64ok' J/\I64ok' fi/\I64ok' la/\I64ok' nn:=by
     obtain⟨x0,x7⟩:∃x,ds[0]? = some x:=⟨_,List.getElem?_eq_getElem (by have:=hm.out;omega)⟩
     obtain⟨xl,y7⟩:∃x,ds[m - 1]? = some x:=⟨_,List.getElem?_eq_getElem (by have:=hm.out;omega)⟩
     have h1:=C7 hm.out x7 y7;rw[<-hP.out,r0.out]at h1;injection h1 with e1 h1;injection h1 with e2 h1;injection h1 with e3 h1;injection h1 with e4 h1;injection h1 with e5 h1;have c0:∀d∈P,I64ok' d.2.at_:=fun d hd=>by
      rw[hP.out]at hd;unfold dcs at hd;obtain⟨x,hx,rfl⟩:=List.mem_map.1 hd;exact(h.out.each x hx).2.1
     have q0:=(h.out.each x0 (List.mem_of_getElem? x7)).2;have ql:=(h.out.each xl (List.mem_of_getElem? y7)).2;rw[e1,e2,e3,e4,e5];exact⟨E5 _ _ q0.1 c0,Ea _ _ q0.1 c0,q0.2,ql.2,by unfold I64ok';omega⟩
    refine⟨?_,h7⟩;have h2:=De [lo,J,fi,la,nn] (fun x hx=>by
     simp only[List.mem_cons,List.not_mem_nil,or_false]at hx;obtain⟨q1,q2,q3,q4,q5⟩:=h7;rcases hx with rfl | rfl | rfl | rfl | rfl <;> assumption) 5
    exact Nat.le_trans h2 (by decide)
   have n6:Hid (∀x ∈ [lo,J,fi,la,nn],-9223372036854775808<=x/\x<=9223372036854775807):=Aa (fun x hx=>by
    simp only[List.mem_cons,List.not_mem_nil,or_false]at hx;obtain⟨_,q1,q2,q3,q4,q5⟩:=e0;rcases hx with rfl | rfl | rfl | rfl | rfl <;> assumption)
   have j2:i=(R.map (·.1)).length:=by rw[List.length_map];exact k0.out
   have v6:Cells w7 B2 ((R.map (·.1)).map strV):=by
    have h1:=(t4.out.ext i0).cells;rw[List.map_map];exact h1
   have f4:∀t∈R.map (·.1),t.length<=1000000000:=fun t ht=>by
    obtain⟨r,hr,rfl⟩:=List.mem_map.1 ht;have:=DW (P:=P) (r:=r) (by rw[<-hR.out];exact hr);omega
   have n7:i<=1000000000:=Nat.le_trans d4 (by decide);obtain⟨DT,d1⟩:∃D,D=timesD 0 P:=⟨_,rfl⟩
   obtain⟨D7,a1⟩:∃D,D=ofB (R.map (·.1)):=⟨_,rfl⟩
   obtain⟨DV,f0⟩:∃D,D=vall [lo,J,fi,la,nn]:=⟨_,rfl⟩
   rw[<-d1]at v4;rw[<-a1]at d0;rw[<-f0]at e0;replace j2:=Aa j2;replace f4:=Aa f4;replace d1:=Aa d1;replace a1:=Aa a1;replace f0:=Aa f0;obtain⟨D1,l2⟩:∃D,D=encDs P:=⟨_,rfl⟩
   obtain⟨DP,p3⟩:∃D,D=postB R:=⟨_,rfl⟩
   rw[<-l2]at m1 x5 ⊢;rw[<-p3]at x1 x4 ⊢;replace l2:=Aa l2;replace p3:=Aa p3;go_upto_region 22 with fail;obtain⟨wx,g0⟩:=Ab (w7.alloc (Obj.cells #[Value.int IntKind.i64 0,Value.int IntKind.i64 0,Value.int IntKind.i64 lo,Value.int IntKind.i64 J,Value.int IntKind.i64 fi,Value.int IntKind.i64 la,Value.int IntKind.i64 nn] 24));rw[<-g0];obtain⟨bp,d3⟩:=Ab w7.heap.size;rw[<-d3];have U:Ext w7 wx:=by rw[g0];exact(Ext.refl w7).alloc _
   have y0:Row wx bp 24 #[Value.int IntKind.i64 0,Value.int IntKind.i64 0,Value.int IntKind.i64 lo,Value.int IntKind.i64 J,Value.int IntKind.i64 fi,Value.int IntKind.i64 la,Value.int IntKind.i64 nn]:=by rw[g0,d3];exact Row.new w7 _ _
   have j6:=Aa (t8.out.trans U);have H1:=Aa (m1.out.ext (i0.trans U));have HA:=Aa (x1.out.ext (i0.trans U));have H6:=Aa (m4.out.ext (i0.trans U));have HS:=Aa (v6.ext U);have hX:Hid (Ext wx wx):=Aa (Ext.refl wx);replace y0:=Aa y0;replace g0:=Aa g0;replace d3:=Aa d3;clear i0 U v6 m1 x1 m4 t4;have r4:∀X,Ext wx X->Calls prog 108 #[.slice A m c] X fun e w'=>NewB X DT e w':=fun X hx=>by rw[d1.out];exact v7.out X (j6.out.trans hx)
   have o4:∀X,Ext wx X->Calls prog 109 #[.slice B2 i c2] X fun e w'=>NewF1 X D7 e w':=fun X hx=>by
    have h:=QI B2 i c2 (R.map (·.1)) X j2.out (HS.out.ext hx) n7 f4.out;rw[<-a1.out]at h;exact h
   have h5:∀X g b,FilO X b g D7->Calls prog 110 #[.pointer (some ⟨g,0,none⟩)] X fun e w'=>NewB X D7 e w':=fun X g b hf=>LB g D7 X hf.fil (Nat.lt_of_lt_of_le (by decide) d0.1) d0.2;have w4:∀X g,Row X g 3 #[.int .i64 lo,.int .i64 J,.int .i64 fi,.int .i64 la,.int .i64 nn]->Calls prog 111 #[.slice none 0 0,.slice (some ⟨g,0,none⟩) 5 5] X fun e w'=>NewB X DV e w':=fun X g hr=>by
    have h1:=Ma none (some ⟨g,0,none⟩) 0 0 5 5 [lo,J,fi,la,nn] [] X rfl (.inl rfl) (fun _=>rfl) rfl (RZ hr) (by decide) n6.out;rw[List.nil_append,<-f0.out]at h1;exact h1
   obtain⟨JN,l0⟩:=Ab (joinL (framesD P));have g6:joinL [D1,DT,DP,D6,D7,DV]=JN:=by rw[l0,l2.out,d1.out,p3.out,h3.out,a1.out,f0.out,<-r0.out,hR.out];rfl
   have n4:∀(X:World) g BT cT bT BY cY bY BV cV bV,Ext wx X->Cells X (some ⟨g,0,none⟩) [.slice B1 D1.length c1,.slice BT DT.length cT,.slice BA DP.length cB,.slice B6 D6.length c6,.slice BY D7.length cY,.slice BV DV.length cV]->Buf X bT 5 BT DT.length cT (DT.map B8)->Buf X bY 5 BY D7.length cY (D7.map B8)->Buf X bV 5 BV DV.length cV (DV.map B8) ->
    Calls prog 107 #[.slice (some ⟨g,0,none⟩) 6 6] X fun e w'=>∃u,e = .returned u/\kTu wx.heap.size JN u w'/\Ext X w':=fun X g BT cT bT BY cY bY BV cV bV hx hC hT hY hV=>by
    have h1:=NL (some ⟨g,0,none⟩) 6 6 [(B1,c1,D1),(BT,cT,DT),(BA,cB,DP),(B6,c6,D6),(BY,cY,D7),(BV,cV,DV)] X rfl hC (Rf ⟨(H1.out.ext hx).in8,x5⟩ ⟨hT.in8,v4⟩ ⟨(HA.out.ext hx).in8,Nat.le_trans x4 (by decide)⟩ ⟨(H6.out.ext hx).in8,b6⟩ ⟨hY.in8,Nat.le_trans d0.2 (by decide)⟩ ⟨hV.in8,e0.1⟩) (by decide);refine h1.mono ?_;rintro e w' ⟨AJ,cJ,rfl,hO,hE⟩;have b7:joinL (List.map (fun(x:Option Addr×Nat×List UInt8)=>x.2.2) [(B1,c1,D1),(BT,cT,DT),(BA,cB,DP),(B6,c6,D6),(BY,cY,D7),(BV,cV,DV)])=JN:=g6;rw[b7]at hO ⊢;exact⟨_,rfl,⟨AJ,cJ,rfl,hO.1,hO.2.lower hx.size⟩,hE⟩
   replace l0:=Aa l0;replace r4:=Aa r4;replace o4:=Aa o4;replace h5:=Aa h5;replace w4:=Aa w4;replace n4:=Aa n4
   go_cut [5,16] (fun s5 s16 wy=>∃AJ cJ,s5 = .int .i64 0/\s16 = .slice AJ JN.length cJ/\Hid (Own8 wy wx.heap.size AJ JN.length cJ JN)/\Hid (Ext w wy))
   case first =>
    have Z:Ext wx wx.drew:=(Ext.refl wx).drew;refine wp_region_held_drew (S:=fun _=>True) (by kernel_rfl) trivial (fun _=>?_);refine DZ (base:=Array.replicate 27 false) (wx:=wx.drew) ⟨by kernel_rfl,of_decide_eq_true (by kernel_rfl),by kernel_rfl,by kernel_rfl⟩ (fun j v w=>([kEq (.slice B1 D1.length c1),kEq (.slice A m c),kSl DT,kEq (.slice BA DP.length cB),kEq (.slice B6 D6.length c6),kEq (.slice B2 i c2),kFi D7,kSl D7,kEq (.pointer (some ⟨bp,2,none⟩)),kEq (.int .i64 lo),kEq (.pointer (some ⟨bp,3,none⟩)),kEq (.int .i64 J),kEq (.pointer (some ⟨bp,4,none⟩)),kEq (.int .i64 fi),kEq (.pointer (some ⟨bp,5,none⟩)),kEq (.int .i64 la),kEq (.pointer (some ⟨bp,6,none⟩)),kEq (.int .i64 nn),kRi lo J fi la nn,kSl DV,kSx (.slice B1 D1.length c1) (.slice BA DP.length cB) (.slice B6 D6.length c6) DT D7 DV,kTu wx.heap.size JN,kTu wx.heap.size JN,kSj wx.heap.size JN,kEq (.int .i64 0),kSj wx.heap.size JN,kEq (.int .i64 0)].getD j fun _ _=>True) v w) (FF ?mono) (fun _ _=>trivial) ?hstep ?fin _ _ _ _ (by kernel_rfl) (Nat.le_of_eq (by kernel_rfl)) (fun _ h=>h) ⟨rfl,rfl,fun _ _=>rfl,Ext.refl _⟩ (fun j d h1 h2 _=>absurd (h1.symm.trans h2) (by simp))
    case mono =>
     intro p hp;simp only[List.mem_cons,List.not_mem_nil,or_false]at hp;rcases hp with rfl | rfl | rfl | rfl | rfl | rfl | rfl | rfl | rfl | rfl | rfl | rfl | rfl | rfl | rfl | rfl | rfl | rfl | rfl | rfl | rfl | rfl | rfl | rfl | rfl | rfl | rfl <;> first | exact Pv _ | exact Sb _ | exact R4 _ | exact R9 _ _ _ _ _ | exact Sc _ _ _ _ _ _ | exact Sd _ _ | exact Sa _ _
    case hstep =>
     apply KSteps.all (H:=(fun j v w=>([kEq (.slice B1 D1.length c1),kEq (.slice A m c),kSl DT,kEq (.slice BA DP.length cB),kEq (.slice B6 D6.length c6),kEq (.slice B2 i c2),kFi D7,kSl D7,kEq (.pointer (some ⟨bp,2,none⟩)),kEq (.int .i64 lo),kEq (.pointer (some ⟨bp,3,none⟩)),kEq (.int .i64 J),kEq (.pointer (some ⟨bp,4,none⟩)),kEq (.int .i64 fi),kEq (.pointer (some ⟨bp,5,none⟩)),kEq (.int .i64 la),kEq (.pointer (some ⟨bp,6,none⟩)),kEq (.int .i64 nn),kRi lo J fi la nn,kSl DV,kSx (.slice B1 D1.length c1) (.slice BA DP.length cB) (.slice B6 D6.length c6) DT D7 DV,kTu wx.heap.size JN,kTu wx.heap.size JN,kSj wx.heap.size JN,kEq (.int .i64 0),kSj wx.heap.size JN,kEq (.int .i64 0)].getD j fun _ _=>True) v w)) (l:= [0,1,2,3,4,5,6,7,8,9,10,11,12,13,14,15,16,17,18,19,20,21,22,23,24,25,26]);rotate_left
     ·kernel_rfl
     refine KSteps.cons rfl (fun a w Y hd=>?_) ?_
     ·exact AC (Ah (v:= .slice B1 D1.length c1) (.inl rfl) (Af (Y.same 4))) rfl rfl (Ext.refl w)
     refine KSteps.cons rfl (fun a w Y hd=>?_) ?_
     ·exact AC (Ah (v:= .slice A m c) (.inl rfl) (Af (Y.same 0))) rfl rfl (Ext.refl w)
     refine KSteps.cons rfl (fun a w Y hd=>?_) ?_
     ·exact Fg rfl rfl (enters_of func108 (by kernel_rfl) rfl) (Dr (hd 1 81)) (LY (r4.out w (Z.trans Y.ext)))
     refine KSteps.cons rfl (fun a w Y hd=>?_) ?_
     ·exact AC (Ah (v:= .slice BA DP.length cB) (.inl rfl) (Af (Y.same 8))) rfl rfl (Ext.refl w)
     refine KSteps.cons rfl (fun a w Y hd=>?_) ?_
     ·exact AC (Ah (v:= .slice B6 D6.length c6) (.inl rfl) (Af (Y.same 14))) rfl rfl (Ext.refl w)
     refine KSteps.cons rfl (fun a w Y hd=>?_) ?_
     ·exact AC (Ah (v:= .slice B2 i c2) (.inl rfl) (Af (Y.same 6))) rfl rfl (Ext.refl w)
     refine KSteps.cons rfl (fun a w Y hd=>?_) ?_
     ·exact Fg rfl rfl (enters_of func109 (by kernel_rfl) rfl) (Dr (hd 5 85)) ((o4.out w (Z.trans Y.ext)).mono (by rintro e w' ⟨g,rfl,_,hf,hE⟩;exact⟨_,rfl,⟨g,_,rfl,hf⟩,hE⟩))
     refine KSteps.cons rfl (fun a w Y hd=>?_) ?_
     ·obtain⟨g,b,hg,hf⟩:kFi D7 (a.tmps.getD 86 undef) w:=hd 6 86;exact Fg rfl rfl (enters_of func110 (by kernel_rfl) rfl) (Dr hg) (LY (h5.out w g b hf))
     refine KSteps.cons rfl (fun a w Y hd=>?_) ?_
     ·exact AC (Ao (q:= .pointer (some ⟨bp,0,none⟩)) rfl (Af (Y.same 15)) (Bn w bp).1) rfl rfl (Ext.refl w)
     refine KSteps.cons rfl (fun a w Y hd=>?_) ?_
     ·exact AC (AI (q:= .pointer (some ⟨bp,2,none⟩)) rfl (Ac (hd 8 88)) (Bz ((y0.out.ext (Z.trans Y.ext)).cell 2 rfl))) rfl rfl (Ext.refl w)
     refine KSteps.cons rfl (fun a w Y hd=>?_) ?_
     ·exact AC (Ao (q:= .pointer (some ⟨bp,0,none⟩)) rfl (Af (Y.same 15)) (Bn w bp).2.1) rfl rfl (Ext.refl w)
     refine KSteps.cons rfl (fun a w Y hd=>?_) ?_
     ·exact AC (AI (q:= .pointer (some ⟨bp,3,none⟩)) rfl (Ac (hd 10 90)) (Bz ((y0.out.ext (Z.trans Y.ext)).cell 3 rfl))) rfl rfl (Ext.refl w)
     refine KSteps.cons rfl (fun a w Y hd=>?_) ?_
     ·exact AC (Ao (q:= .pointer (some ⟨bp,0,none⟩)) rfl (Af (Y.same 15)) (Bn w bp).2.2.1) rfl rfl (Ext.refl w)
     refine KSteps.cons rfl (fun a w Y hd=>?_) ?_
     ·exact AC (AI (q:= .pointer (some ⟨bp,4,none⟩)) rfl (Ac (hd 12 92)) (Bz ((y0.out.ext (Z.trans Y.ext)).cell 4 rfl))) rfl rfl (Ext.refl w)
     refine KSteps.cons rfl (fun a w Y hd=>?_) ?_
     ·exact AC (Ao (q:= .pointer (some ⟨bp,0,none⟩)) rfl (Af (Y.same 15)) (Bn w bp).2.2.2.1) rfl rfl (Ext.refl w)
     refine KSteps.cons rfl (fun a w Y hd=>?_) ?_
     ·exact AC (AI (q:= .pointer (some ⟨bp,5,none⟩)) rfl (Ac (hd 14 94)) (Bz ((y0.out.ext (Z.trans Y.ext)).cell 5 rfl))) rfl rfl (Ext.refl w)
     refine KSteps.cons rfl (fun a w Y hd=>?_) ?_
     ·exact AC (Ao (q:= .pointer (some ⟨bp,0,none⟩)) rfl (Af (Y.same 15)) (Bn w bp).2.2.2.2) rfl rfl (Ext.refl w)
     refine KSteps.cons rfl (fun a w Y hd=>?_) ?_
     ·exact AC (AI (q:= .pointer (some ⟨bp,6,none⟩)) rfl (Ac (hd 16 96)) (Bz ((y0.out.ext (Z.trans Y.ext)).cell 6 rfl))) rfl rfl (Ext.refl w)
     refine KSteps.cons rfl (fun a w Y hd=>?_) ?_
     ·have q0:a.tmps.getD 89 undef = .int .i64 lo:=hd 9 89;have q1:a.tmps.getD 91 undef = .int .i64 J:=hd 11 91;have q2:a.tmps.getD 93 undef = .int .i64 fi:=hd 13 93;have q3:a.tmps.getD 95 undef = .int .i64 la:=hd 15 95;have q4:a.tmps.getD 97 undef = .int .i64 nn:=hd 17 97;exact AC (C0 (vs:=#[(0,.int .i64 lo),(1,.int .i64 J),(2,.int .i64 fi),(3,.int .i64 la),(4,.int .i64 nn)]) rfl (by simp only[List.map_toArray,List.map_cons,List.map_nil,Ac q0,Ac q1,Ac q2,Ac q3,Ac q4]) (QA w lo J fi la nn)) rfl ⟨w.heap.size,rfl,Row.new w _ _⟩ ((Ext.refl w).alloc _)
     refine KSteps.cons rfl (fun a w Y hd=>?_) ?_
     ·obtain⟨g,hg,hr⟩:kRi lo J fi la nn (a.tmps.getD 98 undef) w:=hd 18 98;exact Fg (vs:=#[.slice none 0 0,.slice (some ⟨g,0,none⟩) 5 5]) rfl rfl (enters_of func111 (by kernel_rfl) rfl) (by simp only[List.map_toArray,List.map_cons,List.map_nil,Ac hg,Pd]) (LY (w4.out w g hr))
     refine KSteps.cons rfl (fun a w Y hd=>?_) ?_
     ·have q0:a.tmps.getD 80 undef = .slice B1 D1.length c1:=hd 0 80;obtain⟨BT,cT,bT,q1,hT⟩:kSl DT (a.tmps.getD 82 undef) w:=hd 2 82;have q2:a.tmps.getD 83 undef = .slice BA DP.length cB:=hd 3 83;have q3:a.tmps.getD 84 undef = .slice B6 D6.length c6:=hd 4 84;obtain⟨BY,cY,bY,q4,hY⟩:kSl D7 (a.tmps.getD 87 undef) w:=hd 7 87;obtain⟨BV,cV,bV,q5,hV⟩:kSl DV (a.tmps.getD 99 undef) w:=hd 19 99;exact AC (C0 (vs:=#[(0,.slice B1 D1.length c1),(1,.slice BT DT.length cT),(2,.slice BA DP.length cB),(3,.slice B6 D6.length c6),(4,.slice BY D7.length cY),(5,.slice BV DV.length cV)]) rfl (by simp only[List.map_toArray,List.map_cons,List.map_nil,Ac q0,Ac q1,Ac q2,Ac q3,Ac q4,Ac q5]) (Ru w B1 BT BA B6 BY BV _ _ _ _ _ _ _ _ _ _ _ _)) rfl ⟨w.heap.size,BT,cT,bT,BY,cY,bY,BV,cV,bV,rfl,AN w [.slice B1 D1.length c1,.slice BT DT.length cT,.slice BA DP.length cB,.slice B6 D6.length c6,.slice BY D7.length cY,.slice BV DV.length cV] _,hT.ext ((Ext.refl w).alloc _),hY.ext ((Ext.refl w).alloc _),hV.ext ((Ext.refl w).alloc _)⟩ ((Ext.refl w).alloc _)
     refine KSteps.cons rfl (fun a w Y hd=>?_) ?_
     ·obtain⟨g,BT,cT,bT,BY,cY,bY,BV,cV,bV,q0,hC,hT,hY,hV⟩:kSx (.slice B1 D1.length c1) (.slice BA DP.length cB) (.slice B6 D6.length c6) DT D7 DV (a.tmps.getD 100 undef) w:=hd 20 100;exact Fg rfl rfl (enters_of func107 (by kernel_rfl) rfl) (Dr q0) (n4.out w g BT cT bT BY cY bY BV cV bV (Z.trans Y.ext) hC hT hY hV)
     refine KSteps.cons rfl (fun a w Y hd=>?_) ?_
     ·exact AC (Ah (.inl rfl) rfl) rfl (hd 21 101) (Ext.refl w)
     refine KSteps.cons rfl (fun a w Y hd=>?_) ?_
     ·obtain⟨AJ,cJ,q0,hO⟩:kTu wx.heap.size JN (a.tmps.getD 79 undef) w:=hd 22 79;exact AC (GK (v:= .slice AJ JN.length cJ) rfl (Ac q0) rfl) rfl ⟨AJ,cJ,rfl,hO⟩ (Ext.refl w)
     refine KSteps.cons rfl (fun a w Y hd=>?_) ?_
     ·obtain⟨AJ,cJ,q0,hO⟩:kTu wx.heap.size JN (a.tmps.getD 79 undef) w:=hd 22 79;exact AC (GK (v:= .int .i64 0) rfl (Ac q0) rfl) rfl rfl (Ext.refl w)
     refine KSteps.cons rfl (fun a w Y hd=>?_) ?_
     ·exact AC (Ah (.inr rfl) rfl) rfl (hd 23 102) (Ext.refl w)
     refine KSteps.cons rfl (fun a w Y hd=>?_) ?_
     ·exact AC (Ah (.inr rfl) rfl) rfl (hd 24 103) (Ext.refl w)
     exact KSteps.nil
    case fin =>
     intro a w9 Y hh;obtain⟨AJ,cJ,q16,n0⟩:kSj wx.heap.size JN (a.tmps.getD 16 undef) w9:=hh 25 16 (by kernel_rfl) (by kernel_rfl);have q5:a.tmps.getD 5 undef = .int .i64 0:=hh 26 5 (by kernel_rfl) (by kernel_rfl);have b0:=Y.act [80,81,82,83,84,85,86,87,88,89,90,91,92,93,94,95,96,97,98,99,100,101,79,102,103,16,5] (by kernel_rfl);have a7:=Aa (j6.out.trans (Z.trans Y.ext));simp only[List.foldl_cons,List.foldl_nil]at b0;rw[q16,q5]at b0;replace n0:=Aa n0;clear Y hh q16 q5;obtain⟨fv,e6⟩:∃f:Nat->Value,∀d,a.tmps.getD d undef=f d:=⟨_,fun _=>rfl⟩
     simp only[e6]at b0;clear e6;subst b0;simp only[Bv,Bw,By];go_wp2_with fail
     go_meet
     case rel=>exact⟨AJ,cJ,rfl,rfl,n0,a7⟩
   case rest =>
    obtain⟨AJ,cJ,rfl,rfl,n0,p6⟩:=hcut;have e8:1<=JN.length:=by
     rw[l0.out];unfold framesD joinL;rw[List.flatMap_cons,List.length_append];have:1<=(frameL (encDs P)).length:=by
      have h2:(be4 (cnext 0 (vb (encDs P).length++encDs P))).length=4:=rfl;unfold frameL;rw[List.length_append,List.length_append,h2];omega
     omega
    obtain⟨gJ,f7⟩:∃g,AJ=some ⟨g,0,none⟩:=by
     obtain⟨q1,q2,q3⟩:=n0.out.2;rcases q3 with ⟨_,h0⟩ | ⟨g,_,h,_⟩
     ·omega
     ·exact⟨g,h⟩
    subst f7;have j8:=P4 wc #[.int .u8 76,.int .u8 83,.int .u8 69,.int .u8 71] 4 4;obtain⟨Wq,l1⟩:=Ab (wc.alloc (Obj.cells #[Value.int IntKind.u8 76,Value.int IntKind.u8 83,Value.int IntKind.u8 69,Value.int IntKind.u8 71] 5 (4,5)));have i1:Ext wc Wq:=by rw[l1];exact(Ext.refl wc).alloc _
    have l4:Cells Wq (some ⟨wc.heap.size,0,none⟩) (([76,83,69,71]:List UInt8).map B8):=by
     rw[l1];exact .inr ⟨wc.heap.size,0,rfl,fun i v hv=>by
      have e:([76,83,69,71]:List UInt8).map B8 = [Value.int IntKind.u8 76,Value.int IntKind.u8 83,Value.int IntKind.u8 69,Value.int IntKind.u8 71]:=rfl;rw[e]at hv;rw[Nat.zero_add,cell_of_row _ _ _ _ _ _ (heap_alloc_new wc _)];simpa using hv⟩
    have m8:w.heap.size<=wc.heap.size:=p6.out.size;have d5:Cells Wq (some ⟨gJ,0,none⟩) (JN.map B8):=(n0.out.2.ext i1).cells;have y5:(JN.map B8).length=JN.length:=List.length_map ..;have f8:JN.length<=200000000:=by
     have h1:=Cv (ps:=framesD P) (fun p hp=>by
      unfold framesD at hp;simp only[List.mem_cons,List.not_mem_nil,or_false]at hp;have q1:=G.out.docs;have q2:=G.out.times;have q3:=G.out.posts;have q4:=G.out.dic;have q5:=G.out.bits;have q6:=e0.1;rw[f0.out,<-r0.out]at q6;rcases hp with rfl | rfl | rfl | rfl | rfl | rfl
      ·exact q1
      ·exact q2
      ·exact Nat.le_trans q3 (by decide)
      ·exact q4
      ·exact Nat.le_trans q5.2 (by decide)
      ·exact q6)
     rw[l0.out];exact Nat.le_trans h1 (by show 16777236*6<=_;decide)
    have m7:w.heap.size<=Wq.heap.size:=Nat.le_trans m8 i1.size;replace l4:=Aa l4;replace d5:=Aa d5;replace y5:=Aa y5;replace l1:=Aa l1;replace i1:=Aa i1;go_wp2_with (at_builtin;rw[<-l1.out];refine Lb Aw l4.out d5.out (.tmp 107) (.tmp 108) rfl rfl rfl rfl rfl y5.out (Ai _) (by omega) (by omega) (fun A9 c9 w9 t0 p1=>?_);replace t0:=Aa t0;replace p1:=Aa p1);go_ret2;have g7:segL (dcs ds) = [76,83,69,71]++JN:=by rw[<-hP.out,l0.out];rfl
    have i3:(segL (dcs ds)).length=4+JN.length:=by rw[g7,List.length_append];rfl
    refine⟨A9,c9,by rw[i3];rfl,⟨rfl,?_⟩,(p6.out.trans i1.out).trans p1.out⟩;rw[i3,g7,List.map_append];exact t0.out.lower m7
end
section
theorem DH:∀(l:List UInt8) (i n:Nat) (r:List UInt8),getV i l = .ok (n,r)->l=vb n++r/\(0<i->0<n)
 | [],i,n,r,h=>by unfold getV at h;cases h
 | x::l,i,n,r,h=>by
  have Z:=x.toNat_lt;unfold getV at h;split at h
  ·cases h
  ·split at h
   ·cases h
   ·rename_i h2;split at h
    ·rename_i H;injection h with h;injection h with e1 e2;subst e1 e2;refine⟨?_,fun hi=>?_⟩
     ·rw[Gn H];simp
     ·rcases Nat.eq_zero_or_pos x.toNat with d | d
      ·exact absurd (.inr ⟨hi,d⟩) h2
      ·exact d
    ·rename_i H;split at h
     ·rename_i m r1 Y;injection h with h;injection h with e1 e2;subst e1 e2;obtain⟨J,U⟩:=DH l (i+1) m r1 Y;have O:=U (by omega);refine⟨?_,fun _=>by omega⟩;rw[Je (n:=x.toNat - 128+128*m) (by omega),show (x.toNat - 128+128*m) / 128=m by omega,show (x.toNat - 128+128*m)%128+128=x.toNat by omega,List.cons_append,<-J];simp
     ·cases h
theorem Kg {most:Nat} (h:getT most l = .ok (s,r)):l=txL s++r:=by
 unfold getT at h;split at h
 ·cases h
 ·rename_i n r0 d;split at h
  ·cases h
  ·split at h
   ·cases h
   ·injection h with h;injection h with h1 h2;have H:=(DH l 0 n r0 d).1;have Y:s.length=n:=by rw[<-h1,List.length_take];omega
    unfold txL;rw[Y,H,<-h1,<-h2,List.append_assoc,List.take_append_drop]
theorem Iz:∀(k:Nat) (l:List UInt8) (fs:List Fd) (r:List UInt8),getFs k l=some (fs,r)->l=putFs fs++r/\fs.length=k
 | 0,l,fs,r,h=>by
  unfold getFs at h;injection h with h;injection h with h1 h2;subst h1 h2;exact⟨rfl,rfl⟩
 | k+1,l,fs,r,h=>by
  unfold getFs at h;split at h
  ·cases h
  ·rename_i nm r1 h1;split at h
   ·cases h
   ·rename_i tx r2 h2;split at h
    ·cases h
    ·rename_i fs2 r3 d;injection h with h;injection h with e1 e2;subst e1 e2;obtain⟨H,hk⟩:=Iz k r2 fs2 r3 d;refine⟨?_,by rw[List.length_cons,hk]⟩;rw[Kg h1,Kg h2,H];unfold putFs;rw[List.flatMap_cons];unfold putF;simp
theorem OT {u:Nat}:zig (unzig u)=u:=by
 unfold zig unzig;split <;> split <;> omega
theorem Pk {e:Ev} (h:getE l=some (e,r)):l=putE e++r/\I64ok' e.at_/\checkE e.fs=0:=by
 unfold getE at h;split at h
 ·cases h
 ·rename_i u r1 h1;split at h
  ·cases h
  ·rename_i n r2 h2;split at h
   ·cases h
   ·split at h
    ·cases h
    ·rename_i fs r3 d;split at h
     ·rename_i H;injection h with h;injection h with e1 e2;subst e1 e2;obtain⟨Y,hk⟩:=Iz n r2 fs r3 d;refine⟨?_,K6 (Ct h1),H⟩;unfold putE;simp only;rw[OT,hk,(DH l 0 u r1 h1).1,(DH r1 0 n r2 h2).1,Y];simp
     ·cases h
def skipV:Nat->List UInt8->Option (List UInt8)
 | 0,l=>some l
 | k+1,l=>match getV 0 l with
  | .error _=>none
  | .ok (_,r)=>skipV k r
def readD:Nat->Int->List UInt8->Option (List Dc)
 | 0,_,_=>some []
 | k+1,last,l=>match getV 0 l with
  | .error _=>none
  | .ok (s,r)=>if 1099511627776<s then none else match getE r with
   | none=>none
   | some (e,r2)=>if 1099511627776<last+1+s then none else match readD k (last+1+s) r2 with
    | none=>none
    | some ds=>some ((last+1+s,e)::ds)
def decDs (b:List UInt8):Option (List Dc):=match getV 0 b with
 | .error _=>none
 | .ok (n,r)=>if 65536<n then none else match skipV (2*((n+15) / 16)) r with
  | none=>none
  | some r2=>match readD n 0 r2 with
   | none=>none
   | some ds=>if okDs ds=true/\encDs ds=b then some ds else none
theorem Iq {b:List UInt8} {ds:List Dc} (h:decDs b=some ds):okDs ds=true/\encDs ds=b:=by
 unfold decDs at h;split at h
 ·cases h
 ·split at h
  ·cases h
  ·split at h
   ·cases h
   ·split at h
    ·cases h
    ·split at h
     ·rename_i d;injection h with h;subst h;exact d
     ·cases h
theorem IT:∀(k:Nat) (last:Int) (l:List UInt8) (ds:List Dc),readD k last l=some ds->(blockD last ds).length<=l.length/\ds.length=k/\∀d∈ds,I64ok' d.2.at_/\checkE d.2.fs=0
 | 0,last,l,ds,h=>by
  unfold readD at h;injection h with h;subst h;exact⟨Nat.zero_le _,rfl,nofun⟩
 | k+1,last,l,ds,h=>by
  unfold readD at h;split at h
  ·cases h
  ·rename_i s r h1;split at h
   ·cases h
   ·split at h
    ·cases h
    ·rename_i e r2 h2;split at h
     ·cases h
     ·split at h
      ·cases h
      ·rename_i ds2 H;injection h with h;subst h;obtain⟨i1,i2,i3⟩:=IT k _ r2 ds2 H;obtain⟨j1,j2,j3⟩:=Pk h2;have Y:=(DH l 0 s r h1).1;refine⟨?_,by rw[List.length_cons,i2],fun d hd=>?_⟩
       ·show (oneD last (last+1+s,e)++blockD (last+1+s) ds2).length<=_;unfold oneD;simp only;rw[show (last+1+(s:Int) - last - 1).toNat=s by omega,Y,j1];simp only[List.length_append];omega
       ·rcases List.mem_cons.1 hd with rfl | hd
        ·exact⟨j2,j3⟩
        ·exact i3 d hd
theorem Ht:∀(bs:List (List Dc)) (lo:Int) (r:List UInt8),(∀k:Nat,lastD lo ((bs.take k).flatMap id)<9223372036854775808/\(blockD lo ((bs.take k).flatMap id)).length<9223372036854775808)->skipV (2*bs.length) (headD lo bs++r)=some r
 | [],lo,r,_=>rfl
 | b::bs,lo,r,h=>by
  have h1:=h 1;rw[List.take_succ_cons,List.take_zero,List.flatMap_cons,List.flatMap_nil,List.append_nil]at h1;simp only[id]at h1;have ih:=Ht bs (lastD lo b) r fun k=>by
   have:=h (k+1);rw[List.take_succ_cons,List.flatMap_cons,C4,Bj,List.length_append]at this;simp only[id]at this;exact⟨this.1,by omega⟩
  show skipV (2*(bs.length+1)) ((vb (lastD lo b).toNat++vb (blockD lo b).length++headD (lastD lo b) bs)++r)=_;rw[show 2*(bs.length+1)=2*bs.length+1+1 by omega,List.append_assoc,List.append_assoc];unfold skipV;rw[BD (by omega)];simp only;unfold skipV;rw[BD (by omega)];exact ih
theorem Gc:∀(P:List Dc) (lo:Int),risB 1099511627777 lo (P.map (·.1))=true->0<=lo->(∀d∈P,I64ok' d.2.at_/\checkE d.2.fs=0)->readD P.length lo (blockD lo P)=some P
 | [],lo,_,_,_=>rfl
 | d::P,lo,h,U,J=>by
  rw[List.map_cons,risB,Bool.and_eq_true,Bool.and_eq_true]at h;have h1:=of_decide_eq_true h.1.1;have h2:=of_decide_eq_true h.1.2;obtain⟨H,Y⟩:=J d (List.mem_cons_self ..);have ih:=Gc P d.1 h.2 (by omega) fun x O=>J x (List.mem_cons_of_mem _ O);show readD (P.length+1) lo (oneD lo d++blockD d.1 P)=_;unfold readD oneD;rw[List.append_assoc,BD (by omega)];simp only;rw[if_neg (by omega),Pm H Y];simp only;rw[show lo+1+(((d.1 - lo - 1).toNat:Nat):Int)=d.1 by omega,if_neg (by omega),ih]
theorem J1 {P:List Dc} (h:okDs P=true) (I:∀d∈P,I64ok' d.2.at_) (q0:(blockD 0 P).length<=50000000):decDs (encDs P)=some P:=by
 have H:=h;unfold okDs at h;rw[Bool.and_eq_true,Bool.and_eq_true]at h;obtain⟨Z,G,hc⟩:=h;have Z:=of_decide_eq_true Z;have J:(chunkL 16 P).length=(P.length+15) / 16:=AO (by omega) P;have hk:∀k:Nat,lastD 0 (((chunkL 16 P).take k).flatMap id)<9223372036854775808/\(blockD 0 (((chunkL 16 P).take k).flatMap id)).length<9223372036854775808:=fun k=>by
  rw[BF (by omega)];have h1:=(Uy (l:=P.take (k*16)) (lo:=0) (n:=1099511627777) (by rw[List.map_take];exact Bp _ G) (by omega)).2;have h2:=CV P (k*16);omega
 have Y:=Ht (chunkL 16 P) 0 (blockD 0 P) hk;have U:=Gc P 0 G (by omega) fun d hd=>⟨I d hd,of_decide_eq_true (List.all_eq_true.1 hc d hd)⟩
 rw[J]at Y;have O:encDs P=vb P.length++(headD 0 (chunkL 16 P)++blockD 0 P):=by unfold encDs;rw[List.append_assoc]
 unfold decDs;rw[O,BD (by omega)];simp only;rw[if_neg (by omega),Y];simp only;rw[U];simp only;rw[if_pos ⟨H,by rw[O]⟩]
end
section
open Go.RowKit
structure DocsOwn (w:World) (base:Nat) (A:Option Addr) (c:Nat) (l:List DocC):Prop where
  own:w.ownsRow base 109 3 (.slice A l.length c) l.length (dcells l)
  each:∀x∈l,x.e.Own w base x.A x.c
  ints:∀x∈l,I64ok' x.e.at_/\I64ok' x.seq
theorem DocsOwn.ok {l:List DocC} (h:DocsOwn w base A c l):DocsOk w A l:=⟨Cells.of_own h.own,fun x d=>⟨(h.each x d).ok,h.ints x d⟩⟩
theorem DocsOwn.nil (w:World) (base:Nat):DocsOwn w base none 0 []:=⟨⟨rfl,.inl ⟨rfl,rfl⟩⟩,nofun,nofun⟩
theorem DocsOwn.chg {l:List DocC} (h:DocsOwn w base A c l) (U:Chg S w w') (J:∀g t cs,Row w g t cs->t=90\/t=109->base<=g->¬ S g):DocsOwn w' base A c l :=
 ⟨U.owns h.own fun g d=>by obtain⟨cs,H,hb⟩:=Ae h.own d;exact J g _ cs H (.inr rfl) hb,fun x Y=>⟨U.owns (h.each x Y).1 fun g d=>by obtain⟨cs,H,hb⟩:=Ae (h.each x Y).1 d;exact J g _ cs H (.inl rfl) hb,(h.each x Y).2⟩,h.ints⟩
theorem DocsOwn.ext {l:List DocC} (h:DocsOwn w base A c l) (d:Ext w w'):DocsOwn w' base A c l:=⟨d.owns h.own,fun x H=>⟨d.owns (h.each x H).1,(h.each x H).2⟩,h.ints⟩
theorem DocsOwn.lower {l:List DocC} (h:DocsOwn w base A c l) (hb:b<=base):DocsOwn w b A c l:=⟨AD h.own hb,fun x d=>⟨AD (h.each x d).1 hb,(h.each x d).2⟩,h.ints⟩
theorem DocsOwn.cap {l:List DocC} (h:DocsOwn w base A c l):l.length<=c/\∀a,A=some a->a.spot=none:=BN h.own
theorem MQ:Elem prog 31 109 3 40:=⟨underlying31,⟨_,_,rfl,rfl,rfl,rfl,rfl⟩,by omega,by omega⟩
theorem FX (l:List DocC) (x:DocC):dcells (l ++ [x])=dcells l++x.cells:=by
 unfold dcells;rw[List.flatMap_append];simp
theorem BJ (l:List DocC) (x:DocC):dcs (l ++ [x])=dcs l ++ [x.dc]:=by unfold dcs;rw[List.map_append];rfl
def SdecP (w:World) (res:Option (List Dc)) (e:Ending) (w':World):Prop:=Ext w w'/\match res with
 | some P=>∃(l:List DocC) (A:Option Addr) (c:Nat),dcs l=P/\e = .returned (.tuple #[.slice A l.length c,.int .i64 0])/\DocsOwn w' w.heap.size A c l
 | none=>e = .returned (.tuple #[.slice none 0 0,.int .i64 120])
theorem SdecP.no {res:Option (List Dc)} (d:Ext w w') (h:res=none):SdecP w res (.returned (.tuple #[.slice none 0 0,.int .i64 120])) w':=by
 subst h;exact⟨d,rfl⟩
def aheadD (read:List Dc):Option (List Dc)->Option (List Dc)
 | none=>none
 | some l=>some (read++l)
theorem Ld (x:Option (List Dc)):aheadD [] x=x:=by cases x <;> rfl
theorem Mt (h:skipV k L=skipV (k - i) r) (hi:i<k) (h1:getV 0 r = .ok (n,r1)):skipV k L=skipV (k - (i+1)) r1:=by
 obtain⟨j,d⟩:∃j,k - i=j+1:=⟨k - i - 1,by omega⟩
 rw[h,d,show k - (i+1)=j by omega]
 conv=>lhs;unfold skipV
 rw[h1]
theorem P8 {e:Nat} (h:skipV k L=skipV (k - i) r) (hi:i<k) (h1:getV 0 r = .error e):skipV k L=none:=by
 obtain⟨j,d⟩:∃j,k - i=j+1:=⟨k - i - 1,by omega⟩
 rw[h,d];unfold skipV;rw[h1]
theorem OB (h:skipV k L=skipV (k - i) r) (hi:k<=i):skipV k L=some r:=by
 rw[h,show k - i=0 by omega];rfl
section
variable {k i:Nat} {la0 la:Int} {read:List Dc} {L r:List UInt8} (h:readD k la0 L=aheadD read (readD (k - i) la r)) (hi:i<k)
include h hi
theorem Od {e:Nat} (h1:getV 0 r = .error e):readD k la0 L=none:=by
 obtain⟨j,d⟩:∃j,k - i=j+1:=⟨k - i - 1,by omega⟩
 rw[h,d];unfold readD;rw[h1];rfl
theorem Oe {s:Nat} (h1:getV 0 r = .ok (s,r1)) (h2:1099511627776<s):readD k la0 L=none:=by
 obtain⟨j,d⟩:∃j,k - i=j+1:=⟨k - i - 1,by omega⟩
 rw[h,d];unfold readD;rw[h1];simp only;rw[if_pos h2];rfl
theorem Og {s:Nat} (h1:getV 0 r = .ok (s,r1)) (h2:getE r1=none):readD k la0 L=none:=by
 obtain⟨j,d⟩:∃j,k - i=j+1:=⟨k - i - 1,by omega⟩
 rw[h,d];unfold readD;rw[h1];simp only;rw[h2];split <;> rfl
theorem Oh {s:Nat} {e:Ev} (h1:getV 0 r = .ok (s,r1)) (h2:getE r1=some (e,r2)) (d:1099511627776<la+1+s):readD k la0 L=none:=by
 obtain⟨j,H⟩:∃j,k - i=j+1:=⟨k - i - 1,by omega⟩
 rw[h,H];unfold readD;rw[h1];simp only;rw[h2];simp only;rw[if_pos d];split <;> rfl
theorem Mf {s:Nat} {e:Ev} (h1:getV 0 r = .ok (s,r1)) (d:¬ 1099511627776<s) (h2:getE r1=some (e,r2)) (H:¬ 1099511627776<la+1+s):readD k la0 L=aheadD (read ++ [(la+1+s,e)]) (readD (k - (i+1)) (la+1+s) r2):=by
 obtain⟨j,Y⟩:∃j,k - i=j+1:=⟨k - i - 1,by omega⟩
 rw[h,Y,show k - (i+1)=j by omega]
 conv=>lhs;unfold readD
 rw[h1];simp only;rw[if_neg d,h2];simp only;rw[if_neg H];cases readD j (la+1+s) r2 with
 | none=>rfl
 | some p=>simp[aheadD]
end
theorem Oc {read:List Dc} (h:readD k la0 L=aheadD read (readD (k - i) la r)) (hi:k<=i):readD k la0 L=some read:=by
 rw[h,show k - i=0 by omega];simp[readD,aheadD]
end
section
open Go.RowKit
theorem JA (A:Option Addr) (n c:Nat) (bs:List UInt8) (w:World) (h:In8 w A n c bs) (x2:n<=50000000) :
 Calls prog 73 #[.slice A n c] w fun e w'=>SdecP w (decDs bs) e w':=by
 have x1:=Cl A n c bs w w h (Ext.refl w) (by omega);have j6:bs.length<=50000000:=by rw[<-h.len];exact x2
 obtain⟨Z,hZ⟩:=Ab (decDs bs);rw[<-hZ];unfold decDs at hZ;cases l1:getV 0 bs with
 | error k =>
  rw[l1]at x1 hZ;have hk:=BK bs 0 k l1;have n4:((k:Int) != 0)=true:=by simp;omega
  have hg:=Aa x1;replace hZ:=Aa hZ;clear l1 hk x1
  go_in
  go_wp2_with fail;refine hg.out.mono ?_;rintro e w1 ⟨m1,rfl⟩;go_wp2_with fail;go_ret2;exact SdecP.no m1 hZ.out
 | ok p =>
  obtain⟨q,r⟩:=p;have b5:r.length<=50000000:=by have:=Cs l1;omega
  rw[l1]at x1 hZ;simp only at hZ;have hg:=Aa x1;unfold Got at hg;simp only at hg;clear l1 x1;by_cases b3:65536<q
  ·rw[if_pos b3]at hZ;have a5:(65536:Int)<q:=by omega
   replace hZ:=Aa hZ
   go_in
   go_wp2_with fail;refine hg.out.mono ?_;rintro e w1 ⟨m1,A1,c1,rfl,l3⟩;go_wp2_with fail;go_ret2;exact SdecP.no m1 hZ.out
  ·rw[if_neg b3]at hZ;have a5:¬ (65536:Int)<q:=by omega
   obtain⟨K,hK⟩:=Ab (2*((q+15) / 16));rw[<-hK]at hZ;replace hZ:=Aa hZ
   go_in
   go_wp2_with fail;refine hg.out.mono ?_;rintro e w1 ⟨m1,A1,c1,rfl,l3⟩;go_wp2_with fail;have v4:2*(((q:Int)+16 - 1) / 16)=(K:Int):=by omega
   rw[v4];have p6:K<=100000:=by omega
   replace hK:=Aa hK;have t4:=Aa m1;have i4:=Aa l3;clear v4 hg m1 l3;have a3:=Aa (fun A n c r W (h:In8 w A n c r) (hw:Ext w W) (x2:n<=1000000000)=>Cl A n c r w W h hw x2)
   go_loopw [5,31] (fun s5 s31 wr=>∃(i:Nat) (rr:List UInt8) (A3:Option Addr) (c3:Nat),s31 = .int .u64 (i:Int)/\s5 = .slice A3 rr.length c3/\i<=K/\rr.length<=50000000/\Hid (skipV K r=skipV (K - i) rr)/\Hid (In8 w A3 rr.length c3 rr)/\Hid (Ext w wr)) (fun _ s31 _=>K - (intOf s31).toNat)
   case atStart=>exact⟨0,r,A1,c1,rfl,rfl,by omega,b5,Aa rfl,i4,t4⟩
   case round =>
    obtain⟨i,rr,A3,c3,rfl,rfl,hi,d5,t3,j2,hE⟩:=hrel;by_cases l4:i<K
    ·have H:=a3.out A3 rr.length c3 rr wr j2.out hE.out (by omega);cases hv:getV 0 rr with
     | error k =>
      have p0:=P8 t3.out l4 hv;have hk:=BK rr 0 k hv;have n4:((k:Int) != 0)=true:=by simp;omega
      rw[hv]at H;have U:Z=none:=by rw[hZ.out,p0]
      replace U:=Aa U;replace H:=Aa H;clear hv hk p0;go_wp2_with fail;refine H.out.mono ?_;rintro e w2 ⟨Y,rfl⟩;go_wp2_with fail;go_ret2;exact SdecP.no (hE.out.trans Y) U.out
     | ok p =>
      obtain⟨v,r1⟩:=p;have i5:=Aa (Mt t3.out l4 hv);have q4:=Cs hv;rw[hv]at H;unfold Got at H;simp only at H;replace H:=Aa H;clear hv;go_wp2_with fail;refine H.out.mono ?_;rintro e w2 ⟨Y,A4,c4,rfl,t5⟩;go_wp2_with fail;exact⟨⟨i+1,r1,A4,c4,by go_num,rfl,by omega,by omega,i5,Aa t5,Aa (hE.out.trans Y)⟩,by simp only[intOf];omega⟩
    ·obtain rfl:i=K:=by omega
     have c0:=OB t3.out (Nat.le_refl _);have x0:=hZ.out;rw[c0]at x0;simp only at x0;replace x0:=Aa x0;clear c0 t3;go_wp2_with fail;have e4:=Aa (fun A n c r W (h:In8 w A n c r) (hw:Ext w W) (x2:n<=1000000000)=>NF A n c r w W h hw x2)
     go_loopw [5,7,8,43] (fun s5 s7 s8 s43 wr=>∃(j:Nat) (read:List DocC) (rr2:List UInt8) (A3 B:Option Addr) (c3 d:Nat) (la:Int),s43 = .int .u64 (j:Int)/\s5 = .slice A3 rr2.length c3/\s7 = .slice B j d/\s8 = .int .i64 la/\j<=q/\rr2.length<=50000000/\0<=la/\la<=1099511627776/\Hid (j=read.length)/\Hid (readD q 0 rr=aheadD (dcs read) (readD (q - j) la rr2))/\Hid (DocsOwn wr w.heap.size B d read)/\Hid (In8 w A3 rr2.length c3 rr2)/\Hid (Ext w wr)) (fun _ _ _ s43 _=>q - (intOf s43).toNat)
     case atStart=>exact⟨0,[],rr,A3,none,c3,0,0,rfl,rfl,rfl,rfl,by omega,d5,by omega,by omega,Aa rfl,Aa (by show _=aheadD [] _;rw[Ld];rfl),Aa (DocsOwn.nil _ _),j2,hE⟩
     case round =>
      clear j2 hE;obtain⟨j,read,rr2,A4,B,c4,d,la,rfl,rfl,rfl,rfl,hj,r5,n5,o5,a1,n0,f0,j2,hE⟩:=hrel;by_cases m2:j<q
      ·have H:=a3.out A4 rr2.length c4 rr2 wr j2.out hE.out (by omega);have U:readD q 0 rr=none->Hid (Z=none):=fun hn=>Aa (by rw[x0.out,hn]);replace U:=Aa U;cases hv:getV 0 rr2 with
       | error k =>
        have p0:=U.out (Od n0.out m2 hv);have hk:=BK rr2 0 k hv;have n4:((k:Int) != 0)=true:=by simp;omega
        rw[hv]at H;replace H:=Aa H;clear hv hk;go_wp2_with fail;refine H.out.mono ?_;rintro e w2 ⟨Y,rfl⟩;go_wp2_with fail;go_ret2;exact SdecP.no (hE.out.trans Y) p0.out
       | ok p =>
        obtain⟨s,r1⟩:=p;have q4:=Cs hv;rw[hv]at H;unfold Got at H;simp only at H;replace H:=Aa H;by_cases d3:1099511627776<s
        ·have p0:=U.out (Oe n0.out m2 hv d3);have e5:(1099511627776:Int)<s:=by omega
         clear hv;go_wp2_with fail;refine H.out.mono ?_;rintro e w2 ⟨Y,A5,c5,rfl,o3⟩;go_wp2_with fail;go_ret2;exact SdecP.no (hE.out.trans Y) p0.out
        ·have e5:¬ (1099511627776:Int)<s:=by omega
         have g6:IntKind.i64.wrap (s:Int)=(s:Int):=BP (by omega) (by omega);obtain⟨sq,i1⟩:=Ab (la+1+s:Int);have h6:0<=sq:=by omega
         have q6:sq<=2199023255553:=by omega
         have v0:=fun(hn:getE r1=none)=>U.out (Og n0.out m2 hv hn);have q1:=fun e r2 (h1:getE r1=some (e,r2)) (h2:1099511627776<sq)=>U.out (Oh n0.out m2 hv h1 (by rw[<-i1];exact h2));have I:=fun e r2 (h1:getE r1=some (e,r2)) (h2:¬ 1099511627776<sq)=>Mf n0.out m2 hv d3 h1 (by rw[<-i1];exact h2);rw[<-i1]at I;replace i1:=Aa i1;replace v0:=Aa v0;replace q1:=Aa q1;replace I:=Aa I;clear hv n0;go_wp2_with fail;refine H.out.mono ?_;rintro e w2 ⟨Y,A5,c5,rfl,o3⟩;go_wp2_with fail;rw[<-i1.out];obtain⟨g,hg⟩:=Ab w2.heap.size;obtain⟨W3,q2⟩:=Ab (w2.alloc (.cells #[.int .i64 sq,.int .i64 0,.slice none 0 0] 109));have r0:Ext w2 W3:=by rw[q2];exact(Ext.refl w2).alloc _
         have m3:Row W3 g 109 #[.int .i64 sq,.int .i64 0,.slice none 0 0]:=by rw[q2,hg];exact Row.new w2 _ _
         rw[<-q2,<-hg];have k3:w.heap.size<=g:=by rw[hg];exact(hE.out.trans Y).size
         have j4:=Aa (f0.out.ext Y);have i0:=Aa ((hE.out.trans Y).trans r0);have q0:=e4.out A5 r1.length c5 r1 W3 o3 i0.out (by omega);replace q2:=Aa q2;replace m3:=Aa m3;replace hg:=Aa hg;replace r0:=Aa r0;clear o3;cases d0:getE r1 with
         | none =>
          have p0:=v0.out d0;rw[d0]at q0;replace q0:=Aa q0;clear d0;go_wp2_with fail;refine q0.out.mono ?_;rintro e w4 ⟨G,rfl⟩;have J:=m3.out.ext G;have e1:=J.cell 1 rfl;have e2:=J.cell 2 rfl;have f1:=J.free 1;have f2:=J.free 2;replace J:=Aa J;replace G:=Aa (i0.out.trans G);go_wp2_with fail;go_ret2;exact SdecP.no ((G.out.setCell (p:=⟨g,1,none⟩) k3 _).setCell (p:=⟨g,2,none⟩) k3 _) p0.out
         | some p =>
          obtain⟨ev,r2⟩:=p;have q5:=NP d0;have g5:=Aa (q1.out ev r2 d0);have f5:=Aa (I.out ev r2 d0);rw[d0]at q0;unfold GotE at q0;simp only at q0;replace q0:=Aa q0;clear d0 q1 I v0;go_wp2_with fail;refine q0.out.mono ?_;rintro e w4 ⟨G,B4,d4,A6,c6,rfl,b0,r3,f3⟩;unfold Ev.val;obtain⟨at_,fs⟩:=ev;simp only;have J:=m3.out.ext G;have e1:=J.cell 1 rfl;have e2:=J.cell 2 rfl;have f1:=J.free 1;have f2:=J.free 2;obtain⟨w5,j0⟩:=Ab ((w4.setCell ⟨g,1,none⟩ (.int .i64 at_)).setCell ⟨g,2,none⟩ (.slice B4 fs.length d4));have l2:Row w5 g 109 #[.int .i64 sq,.int .i64 at_,.slice B4 fs.length d4]:=by rw[j0];exact(J.put 1 _).put 2 _
          have o1:Ext w w5:=by rw[j0];exact((i0.out.trans G).setCell (p:=⟨g,1,none⟩) k3 _).setCell (p:=⟨g,2,none⟩) k3 _
          have x3:Chg (fun k=>k=g) w4 w5:=by rw[j0];exact(Chg.of_set (S:=fun k=>k=g) w4 _ rfl).trans (Chg.of_set (S:=fun k=>k=g) _ _ rfl) fun _ _ h=>h
          have z4:Chg (fun k=>k=g) w2 w5:=(Chg.of_ext (r0.out.trans G) _).trans x3 fun _ _ h=>h;have l0:DocsOwn w5 w.heap.size B d read:=j4.out.chg z4 fun g' t cs hr _ _ hk=>by have:=hr.lt;have:=hg.out;omega
          have f4:=i0.out.size;have e0:Ev.Own ⟨at_,fs⟩ w5 w.heap.size B4 d4:=⟨x3.owns (AD b0.1 f4) fun k hk=>by
           obtain⟨cs,hr,_⟩:=Ae b0.1 hk;exact fun e=>Row.unlike hr J (by decide) e,b0.2⟩
          have y0:=l2.cell 0 rfl;have y1:=l2.cell 1 rfl;have y2:=l2.cell 2 rfl;rw[j0]at y0 y1 y2;replace J:=Aa J;replace j0:=Aa j0;replace l2:=Aa l2;replace o1:=Aa o1;replace l0:=Aa l0;replace e0:=Aa e0;replace b0:=Aa b0;replace r3:=Aa r3;replace f3:=Aa f3;by_cases hb:1099511627776<sq
          ·have p0:=g5.out hb;go_wp2_with fail;go_ret2;rw[<-j0.out];exact SdecP.no o1.out p0.out
          ·have o4:=Aa (f5.out (by omega));have i2:w5.ownsRow w.heap.size 109 3 (.slice B j d) j (dcells read):=by have:=l0.out.own;rw[<-a1.out]at this;exact this
           have e3:=o1.out.size;obtain⟨fl,p2⟩:=Ab fs.length;rw[<-p2]at y0 y1 y2 j0;have O:=i2;have o2:=e3;rw[j0.out]at O o2;rw[<-p2];replace p2:=Aa p2;clear i2 e3;go_wp2_with (at_builtin;refine AS (us:= [.int .i64 sq,.int .i64 at_,.slice B4 fl d4]) (m:=1) MQ O (by simp) (.tmp 79) (.tmp 81) rfl rfl rfl rfl rfl (Az rfl) (by omega) o2 (fun A8 c8 w8 p4 k2 x5=>?_);rw[<-j0.out]at k2 O;replace p4:=Aa p4;replace k2:=Aa k2;have j1:=Aa O;clear O x5);have hlen:(read ++ [(⟨sq,⟨at_,fs⟩,B4,d4⟩:DocC)]).length=j+1:=by rw[List.length_append,<-a1.out];rfl
           have a4:Chg (fun k'=>(Value.slice B j d).ownBlock=some k') w5 w8:=Chg.of_grown k2.out fun k' _ v5=>v5;have r4:∀k cs,Row w5 k 90 cs->¬ (Value.slice B j d).ownBlock=some k:=fun k cs hr=>Am j1.out hr (by decide);have p5:Ext w w8:=o1.out.grown k2.out fun k hk=>by obtain⟨_,_,hb⟩:=Ae j1.out hk;omega
           refine⟨⟨j+1,read ++ [⟨sq,⟨at_,fs⟩,B4,d4⟩],r2,A6,A8,c6,c8,sq,by go_num,rfl,rfl,rfl,by omega,by omega,by omega,by omega,Aa hlen.symm,Aa (by rw[BJ];exact o4.out),Aa ⟨?_,?_,?_⟩,r3,Aa p5⟩,by simp only[intOf];omega⟩
           ·rw[hlen,FX];show w8.ownsRow _ _ _ _ _ (dcells read ++ [.int .i64 sq,.int .i64 at_,.slice B4 fs.length d4]);rw[<-p2.out];exact p4.out
           ·intro x hx;rcases List.mem_append.1 hx with hx | hx
            ·exact⟨a4.owns (l0.out.each x hx).1 fun g' i3=>by obtain⟨cs,hr,_⟩:=Ae (l0.out.each x hx).1 i3;exact r4 _ _ hr,(l0.out.each x hx).2⟩
            ·rw[List.mem_singleton.1 hx];exact⟨a4.owns e0.out.1 fun g' i3=>by obtain⟨cs,hr,_⟩:=Ae e0.out.1 i3;exact r4 _ _ hr,e0.out.2⟩
           ·intro x hx;rcases List.mem_append.1 hx with hx | hx
            ·exact l0.out.ints x hx
            ·rw[List.mem_singleton.1 hx];exact⟨f3.out,by show -9223372036854775808<=sq/\sq<=9223372036854775807;omega⟩
      ·obtain rfl:j=q:=by omega
       have c0:=Oc n0.out (Nat.le_refl _);have h0:=x0.out;rw[c0]at h0;simp only at h0;have y5:=(IT _ _ _ _ c0).1;have y3:=f0.out.cap;obtain⟨P,hP⟩:=Ab (dcs read);have p3:=Du read B j d wr a1.out f0.out.ok y3.2 (by rw[a1.out];exact y3.1);have q3:=Gh read B j d wr a1.out f0.out.ok (by omega);rw[<-hP]at h0 p3 q3 y5;have y4:(blockD 0 P).length<=50000000:=by omega
       cases d1:okDs P with
       | false =>
        have U:Z=none:=by rw[h0,d1];simp
        have b4:=Aa (q3 d1);replace U:=Aa U;clear p3 q3 h0 x0 hZ;go_wp2_with fail;refine b4.out.mono ?_;rintro e w2 ⟨rfl,Y⟩;go_wp2_with fail;go_ret2;exact SdecP.no (hE.out.trans Y) U.out
       | true =>
        have z3:=Aa (p3 d1 y4);rw[d1]at h0;replace h0:=Aa h0;clear p3 q3 x0 hZ;go_wp2_with fail;refine z3.out.mono ?_;rintro e w2 ⟨A9,c9,rfl,x4,Y⟩;have m5:(encDs P).length<=60000000:=by
         have h1:=Gy d1 y4 (chunkL 16 P).length;rw[List.take_length]at h1;have d2:=d1;unfold okDs at d2;rw[Bool.and_eq_true]at d2;have h2:=of_decide_eq_true d2.1;have h3:=Ag (n:=P.length) (by omega);have h4:=AO (k:=16) (by omega) P;unfold encDs;rw[List.length_append,List.length_append];omega
        have t0:=GJ A9 A (encDs P).length n c9 c (encDs P) bs w2 x4.2.in8 (h.ext (hE.out.trans Y)) (by omega) (by omega);obtain⟨ne,a2⟩:=Ab ((encDs P).length);rw[<-a2]at t0 ⊢;have i0:=Aa (hE.out.trans Y);have g4:=Aa (f0.out.ext Y);replace a2:=Aa a2;clear x4 m5 z3;by_cases he:encDs P=bs
        ·have m0:=h0.out;rw[if_pos ⟨trivial,he⟩]at m0;rw[decide_eq_true he]at t0;replace t0:=Aa t0;replace m0:=Aa m0;replace hP:=Aa hP;clear he;go_wp2_with fail;refine t0.out.mono ?_;rintro e w3 ⟨rfl,G⟩;go_wp2_with fail;go_ret2;rw[m0.out];refine⟨i0.out.trans G,read,B,d,hP.out.symm,by rw[<-a1.out];rfl,g4.out.ext G⟩
        ·have m0:=h0.out;rw[if_neg (fun x=>he x.2)]at m0;rw[decide_eq_false he]at t0;replace t0:=Aa t0;replace m0:=Aa m0;clear he;go_wp2_with fail;refine t0.out.mono ?_;rintro e w3 ⟨rfl,G⟩;go_wp2_with fail;go_ret2;exact SdecP.no (i0.out.trans G) m0.out
def EntD (w0:World) (g:Nat) (x:En) (r:List UInt8) (W:World) (e:Ending) (W':World):Prop:=e = .returned (.agg x.cells.toArray)/\RdD w0 g r W'/\Chg (fun k=>k=g) W W'
theorem E4 (hi:i<3) (W:World):(Instr.index 289 (.agg #[.pointer (some ⟨g,1,none⟩),.pointer (some ⟨g,2,none⟩),.pointer (some ⟨g,3,none⟩)]) (.int .i64 (i:Int))).run prog W = .ok (.pointer (some ⟨g,i+1,none⟩)) W:=by
 rcases (show i=0\/i=1\/i=2 by omega)with rfl | rfl | rfl
 ·show _=_
  kernel_rfl
 ·show _=_
  kernel_rfl
 ·show _=_
  kernel_rfl
def nRest (off len n:Nat) (r:List UInt8) (j:Nat):List UInt8:=if j=0 then vb off++(vb len++(vb n++r)) else if j=1 then vb len++(vb n++r) else if j=2 then vb n++r else r
def nThr (off len n j:Nat):Nat:=if j=0 then off else if j=1 then len else n
def nRow (t:List UInt8) (off len n j:Nat):Array Value:=#[.string ⟨t.toArray⟩,.int .i64 (if 0<j then (off:Int) else 0),.int .i64 (if 1<j then (len:Int) else 0),.int .i64 (if 2<j then (n:Int) else 0)]
theorem LW {off len n:Nat} (h:j<3):nRest off len n r j=vb (nThr off len n j)++nRest off len n r (j+1):=by
 rcases (show j=0\/j=1\/j=2 by omega)with rfl | rfl | rfl <;> simp[nRest,nThr]
theorem N1 {t:List UInt8} {off len n:Nat} (h:j<3):(nRow t off len n j).setIfInBounds (j+1) (.int .i64 (nThr off len n j:Int))=nRow t off len n (j+1):=by
 rcases (show j=0\/j=1\/j=2 by omega)with rfl | rfl | rfl <;> simp[nRow,nThr]
theorem PB (t:List UInt8) (off len n:Nat) (h:j<3):∃u,(nRow t off len n j)[j+1]? = some u:=⟨_,Array.getElem?_eq_getElem (by show j+1<4;omega)⟩
theorem Lt (w0 W : World) (g : Nat) (la : List UInt8) (x : En) (r : List UInt8) (h : RdD w0 g (enB la x ++ r) W) (hg : w0.heap.size ≤ g) (hx : okEn x) (l4 : la.length ≤ 65) (t0 : (enB la x ++ r).length ≤ 1000000000) :
    Calls prog 129 #[.pointer (some ⟨g, 0, none⟩), .string ⟨la.toArray⟩] W fun e W' => EntD w0 g x r W e W' := by
  obtain ⟨t, off, len, n⟩ := x
  obtain ⟨b0, b1, b2, b3⟩ := hx
  simp only at b0 b1 b2 b3
  obtain ⟨k, hk⟩ := Ab (cpl la t)
  have f4 : k ≤ t.length := by rw [hk]; exact (DC la t).2
  have y3 : k ≤ la.length := by rw [hk]; exact (DC la t).1
  have m2 : la.take k ++ t.drop k = t := by rw [hk, JX la t]; exact List.take_append_drop _ _
  obtain ⟨R3, j0⟩ := Ab (vb off ++ (vb len ++ (vb n ++ r)))
  have Z : enB la ⟨t, off, len, n⟩ ++ r = vb k ++ (txL (t.drop k) ++ R3) := by
    unfold enB
    rw [hk, j0]
    simp
  rw [Z] at h t0
  have e0 : (txL (t.drop k) ++ R3).length ≤ 1000000000 := by rw [List.length_append] at t0; omega
  have l1 : R3.length ≤ 1000000000 := by rw [List.length_append] at e0; omega
  have a3 := Aa (fun W h => DD w0 W g k (txL (t.drop k) ++ R3) 65 h hg (by omega) (by omega) t0)
  have i3 := Aa (fun W h => Nz w0 W g (t.drop k) R3 h hg (by rw [List.length_drop]; omega) e0)
  have d3 := Aa (fun W q r h (hq : q ≤ 67108864) hl => DD w0 W g q r 67108864 h hg (by omega) (by omega) hl)
  have x3 := fun W => Jy (l := la) y3 (z := (k : Int)) rfl W
  obtain ⟨ln, o1⟩ := Ab la.length
  have m4 : (⟨la.toArray⟩ : ByteArray).size = ln := by rw [o1]; exact ByteArray.size_mk_toArray la
  have e4 : ¬ (ln : Int) < (k : Int) := by omega
  have w3 : (⟨(la.take k).toArray⟩ : ByteArray) ++ ⟨(t.drop k).toArray⟩ = ⟨t.toArray⟩ := by
    have e : (⟨(la.take k).toArray⟩ : ByteArray) ++ ⟨(t.drop k).toArray⟩ = ⟨(la.take k ++ t.drop k).toArray⟩ := by
      apply ByteArray.ext
      simp
    rw [e, m2]
  have t4 : (⟨(la.take k).toArray⟩ : ByteArray).size = k := by rw [ByteArray.size_mk_toArray, List.length_take]; omega
  obtain ⟨tn, l0⟩ := Ab ((t.drop k).length)
  have v4 : (⟨(t.drop k).toArray⟩ : ByteArray).size = tn := by rw [l0]; exact ByteArray.size_mk_toArray _
  have l3 : tn ≤ 65 := by rw [l0, List.length_drop]; omega
  have j4 : k ≤ 65 := by omega
  obtain ⟨W4, q0⟩ := Ab (W.alloc (.cells #[.string ⟨#[]⟩, .int .i64 0, .int .i64 0, .int .i64 0] 195))
  obtain ⟨g4, G⟩ := Ab W.heap.size
  have p2 : Row W4 g4 195 #[.string ⟨#[]⟩, .int .i64 0, .int .i64 0, .int .i64 0] := by rw [q0, G]; exact Row.new W _ _
  have a1 : RdD w0 g (vb k ++ (txL (t.drop k) ++ R3)) W4 := by rw [q0]; exact h.ext ((Ext.refl W).alloc _)
  have x1 : Chg (fun k => k = g) W W4 := by rw [q0]; exact Chg.of_ext ((Ext.refl W).alloc _) _
  have d4 : g < W.heap.size := by obtain ⟨_, _, q, _⟩ := h; exact q.lt
  have g0 : g4 ≠ g := by omega
  replace h := Aa h
  replace hk := Aa hk
  replace m2 := Aa m2
  replace j0 := Aa j0
  replace Z := Aa Z
  replace o1 := Aa o1
  replace l0 := Aa l0
  replace p2 := Aa p2
  replace a1 := Aa a1
  replace x1 := Aa x1
  replace q0 := Aa q0
  replace G := Aa G
  replace t0 := Aa t0
  replace e0 := Aa e0
  replace l1 := Aa l1
  go_in
  go_wp2_with fail
  rw [← q0.out, ← G.out]
  refine (a3.out W4 a1.out).mono ?_
  rintro e w5 ⟨rfl, d1, p0⟩
  have k2 := Aa (p0.row p2.out g0)
  replace p0 := Aa (x1.out.trans p0 fun _ _ h => h)
  replace d1 := Aa d1
  go_wp2_with fail
  have p4 : W.heap.size ≤ w5.heap.size := p0.out.size
  have r0 : W.heap.size < w5.heap.size := by have := k2.out.lt; have := G.out; omega
  have q4 : w0.heap.size ≤ W.heap.size := by obtain ⟨_, _, _, _, q⟩ := h.out; exact q.size
  go_cut [6] (fun s6 wy => ∃ g6, s6 = .pointer (some ⟨g6, 0, none⟩) ∧ W.heap.size < g6 ∧ Hid (Row wy g6 195 #[.string ⟨t.toArray⟩, .int .i64 0, .int .i64 0, .int .i64 0]) ∧ Hid (RdD w0 g R3 wy) ∧ Hid (Row wy g4 195 #[.string ⟨#[]⟩, .int .i64 0, .int .i64 0, .int .i64 0]) ∧ Hid (Chg (fun k => k = g) W wy))
  case first =>
    have o0 := d1.out.ext (Ext.refl w5).drew
    have e2 := o0.ext ((Ext.refl w5.drew).alloc (.cells #[.string ⟨#[]⟩, .int .i64 0, .int .i64 0, .int .i64 0] 195))
    have v0 : Row (w5.drew.alloc (.cells #[.string ⟨#[]⟩, .int .i64 0, .int .i64 0, .int .i64 0] 195)) w5.heap.size 195 #[.string ⟨#[]⟩, .int .i64 0, .int .i64 0, .int .i64 0] := Row.new w5.drew _ _
    have p1 : w5.heap.size ≠ g := by omega
    have m1 := Aa (k2.out.ext (Ext.refl w5).drew)
    have o2 := Aa (m1.out.alloc (.cells #[.string ⟨#[]⟩, .int .i64 0, .int .i64 0, .int .i64 0] 195))
    have n0 := Aa (p0.out.trans (Chg.of_ext (Ext.refl w5).drew (fun k => k = g)) fun _ _ h => h)
    have x2 := Aa (n0.out.trans (Chg.of_ext ((Ext.refl w5.drew).alloc (.cells #[.string ⟨#[]⟩, .int .i64 0, .int .i64 0, .int .i64 0] 195)) (fun k => k = g)) fun _ _ h => h)
    replace v0 := Aa v0
    go_region_with ((go_at_call 180; refine (i3.out _ (by first | exact o0 | exact e2)).mono ?_; rintro e w6 ⟨rfl, O, H⟩; replace O := Aa O; (first | (have r6 := Chg.row H v0.out p1; have c0 := r6.get; have f0 := r6.free; replace r6 := Aa r6) | skip); replace H := Aa H))
    all_goals
      go_wp2_with fail
      go_meet
      case rel =>
        first
        | (have r6' := r6.out
           have m3 := x2.out.trans H.out fun _ _ h => h
           have f3 := (((r6'.put 0 (.string ⟨t.toArray⟩)).put 1 (.int .i64 0)).put 2 (.int .i64 0)).put 3 (.int .i64 0)
           have U := (((Chg.of_set (S := fun k => k = w5.heap.size) w6 (a := ⟨w5.heap.size, 0, none⟩) (.string ⟨t.toArray⟩) rfl).trans (Chg.of_set (S := fun k => k = w5.heap.size) _ (a := ⟨w5.heap.size, 1, none⟩) (.int .i64 0) rfl) fun _ _ h => h).trans (Chg.of_set (S := fun k => k = w5.heap.size) _ (a := ⟨w5.heap.size, 2, none⟩) (.int .i64 0) rfl) fun _ _ h => h).trans (Chg.of_set (S := fun k => k = w5.heap.size) _ (a := ⟨w5.heap.size, 3, none⟩) (.int .i64 0) rfl) fun _ _ h => h
           have x0 := H.out.row o2.out g0
           refine ⟨w5.heap.size, rfl, r0, Aa f3, Aa ?_, Aa (U.row x0 (fun e => ?_)), Aa (m3.trans U fun i hi e => by omega)⟩
           · obtain ⟨B, d, q1, q2, q3⟩ := O.out
             exact ⟨B, d, U.row q1 (fun e => p1 e.symm), q2, q3.chg U fun i hi e => by omega⟩
           · have := k2.out.lt
             omega)
        | (refine ⟨w6.heap.size, rfl, Nat.lt_of_lt_of_le r0 H.out.size, Aa (Row.new w6 _ _), Aa (O.out.ext ((Ext.refl w6).alloc _)), Aa ((H.out.row m1.out g0).alloc _), Aa ((n0.out.trans H.out fun _ _ h => h).trans (Chg.of_ext ((Ext.refl w6).alloc _) _) fun _ _ h => h)⟩)
  case rest =>
    obtain ⟨g6, rfl, c4, h3, O, x0, H⟩ := hcut
    have h1 : g6 ≠ g := by omega
    have a2 : Hid (RdD w0 g (nRest off len n r 0) _) := Aa (by have := O.out; rw [j0.out] at this; exact this)
    have p3 : Hid (Row _ g6 195 (nRow t off len n 0)) := h3
    have h2 : (nRest off len n r 0).length ≤ 1000000000 := by have := l1.out; rw [j0.out] at this; exact this
    replace h2 := Aa h2
    clear h3 O
    go_wp2_with fail
    go_loopw [29] (fun s29 wr => ∃ j : Nat, s29 = .int .i64 (j : Int) ∧ j ≤ 3 ∧ Hid (RdD w0 g (nRest off len n r j) wr) ∧ Hid (Row wr g6 195 (nRow t off len n j)) ∧ Hid (Row wr g4 195 #[.string ⟨#[]⟩, .int .i64 0, .int .i64 0, .int .i64 0]) ∧ Hid (Chg (fun k => k = g) W wr) ∧ Hid ((nRest off len n r j).length ≤ 1000000000)) (fun s29 _ => 3 - (intOf s29).toNat)
    case atStart => exact ⟨0, rfl, by omega, a2, p3, x0, H, h2⟩
    case round =>
      obtain ⟨j, rfl, hj, f2, k3, h0, y2, z3⟩ := hrel
      by_cases d0 : j < 3
      · have hx := fun W => E4 (g := g6) d0 W
        have l2 : (j : Int) < 3 := by omega
        have j2 := LW (off := off) (len := len) (n := n) (r := r) d0
        have J := f2.out
        have m0 := z3.out
        rw [j2] at J m0
        have i0 := N1 (t := t) (off := off) (len := len) (n := n) d0
        obtain ⟨u, hu⟩ := PB t off len n d0
        obtain ⟨v, hv⟩ := Ab (nThr off len n j)
        have r3 : v ≤ 67108864 := by rw [hv]; unfold nThr; split; exact b1; split; exact b2; exact b3
        rw [← hv] at J m0 i0
        have n1 : (nRest off len n r (j + 1)).length ≤ 1000000000 := by rw [List.length_append] at m0; omega
        have hc := Aa (d3.out wr v _ J r3 m0)
        replace n1 := Aa n1
        replace j2 := Aa j2
        replace i0 := Aa i0
        replace hu := Aa hu
        replace hv := Aa hv
        clear J m0
        go_wp2_with fail
        refine hc.out.mono ?_
        rintro e w8 ⟨rfl, e1, k0⟩
        have Y := k0.row k3.out h1
        have y0 := k0.row h0.out g0
        have y1 := y2.out.trans k0 fun _ _ h => h
        have c1 := Y.cell (j + 1) hu.out
        have f1 := Y.free (j + 1)
        replace Y := Aa Y
        replace y0 := Aa y0
        replace y1 := Aa y1
        replace e1 := Aa e1
        replace k0 := Aa k0
        go_wp2_with fail
        have i1 := Chg.of_set (S := fun k => k = g6) w8 (a := ⟨g6, j + 1, none⟩) (.int .i64 (v : Int)) rfl
        have j1 := Y.out.put (j + 1) (.int .i64 (v : Int))
        rw [i0.out] at j1
        have d2 : RdD w0 g (nRest off len n r (j + 1)) (w8.setCell ⟨g6, j + 1, none⟩ (.int .i64 (v : Int))) := by
          obtain ⟨B, d, q1, q2, q3⟩ := e1.out
          exact ⟨B, d, i1.row q1 (fun e => h1 e.symm), q2, q3.chg i1 fun i hi e => by omega⟩
        have i2 : g4 ≠ g6 := by have := G.out; omega
        exact ⟨⟨j + 1, by congr 1, by omega, Aa d2, Aa j1, Aa (y0.out.away i2 _), Aa (y1.out.trans i1 fun i hi e => by omega), n1⟩, by simp only [intOf]; omega⟩
      · have l2 : ¬ (j : Int) < 3 := by omega
        have I : j = 3 := by omega
        have Y : Row wr g6 195 #[.string ⟨t.toArray⟩, .int .i64 (off : Int), .int .i64 (len : Int), .int .i64 (n : Int)] := by
          have := k3.out
          rw [I] at this
          exact this
        have J : RdD w0 g r wr := by
          have := f2.out
          rw [I] at this
          exact this
        have z4 := Y.get
        have a4 := h0.out.get
        have b4 := h0.out.free
        replace Y := Aa Y
        replace J := Aa J
        replace I := Aa I
        go_wp2_with fail
        have e3 := (((h0.out.put 0 (.string ⟨t.toArray⟩)).put 1 (.int .i64 (off : Int))).put 2 (.int .i64 (len : Int))).put 3 (.int .i64 (n : Int))
        have U := (((Chg.of_set (S := fun k => k = g4) wr (a := ⟨g4, 0, none⟩) (.string ⟨t.toArray⟩) rfl).trans (Chg.of_set (S := fun k => k = g4) _ (a := ⟨g4, 1, none⟩) (.int .i64 (off : Int)) rfl) fun _ _ h => h).trans (Chg.of_set (S := fun k => k = g4) _ (a := ⟨g4, 2, none⟩) (.int .i64 (len : Int)) rfl) fun _ _ h => h).trans (Chg.of_set (S := fun k => k = g4) _ (a := ⟨g4, 3, none⟩) (.int .i64 (n : Int)) rfl) fun _ _ h => h
        have h4 := G.out
        refine bodyPost_ret (results_cell_row rfl _ _ g4 195 #[.string ⟨t.toArray⟩, .int .i64 (off : Int), .int .i64 (len : Int), .int .i64 (n : Int)] (0, 0) _ rfl e3 underlying195 rfl (by kernel_rfl)) rfl ⟨rfl, ?_, y2.out.trans U fun i hi e => by omega⟩
        obtain ⟨B, d, q1, q2, q3⟩ := J.out
        exact ⟨B, d, U.row q1 (fun e => g0 e.symm), q2, q3.chg U fun i hi e => by omega⟩
end
end Go.Proofs.YtpnlihgcboepeaaGreat
