/- Texts of one proof, joined. -/
import Derived.Test.YtfifdilapbeiiaaGreatPP13
set_option linter.unusedSimpArgs false
set_option linter.unusedVariables false
set_option maxRecDepth 100000
set_option maxHeartbeats 16000000
namespace Go.Proofs.YtfifdilapbeiiaaGreat
open _root_.Go.Proofs.Tryz
variable {a0:Act} {ops:Array Oper} {Q:Exit → Act → World → Prop} {z z0:Int} {xs:List Value} {c fr i k n:Nat} {o:Oper} {A A' A1:Option Addr} {P:Program} {md:Region.Mode} {e t:TypeId} {u v:Value} {w w' w0 w1:World}
section
open Go.RowKit
theorem HO {S:World->Prop} {base:Array Bool} (hk:KnowOps md ops base a0.tmps.size) (V:Nat->Value) (I:(Nat->Bool)->World->Prop) (hS:∀w,S w)
 (y0:∀i o,ops[i]? = some o->base.getD i true=false->∀(L:Nat->Bool) a w,KnowB md ops base a0 w0 i a w ->
  (∀e∈o.after,Region.binds md e=true->base.getD e.on true=false->∀d,dstOf ops e.on=some d->a.tmps.getD d undef=V e.on)->(∀j,base.getD j true=false->(aboveK md ops base i).contains j=true->L j=false)->I L w ->
  Region.wanted o (yielded ops a.tmps)=true/\Oper.wp P o a w (fun a' w'=>a'=a.put o.dst (V i)/\I (fun j=>if j=i then true else L j) w'/\Ext w0 w') Q)
 (i0:∀a w,KnowA ops base a0 w0 a w->(∀j d,base.getD j true=false->dstOf ops j=some d->a.tmps.getD d undef=V j)->I (fun _=>true) w->Q .normal a w) :
 ∀(fuel:Nat) (listed:Array Bool) (a:Act) (w:World),listed.size=ops.size->(lack ops listed).length<=fuel->(∀j,base.getD j true=true->listed.getD j true=true)->KnowC md ops base a0 w0 listed a w ->
  (∀j d,base.getD j true=false->listed.getD j true=true->dstOf ops j=some d->a.tmps.getD d undef=V j)->I (fun j=>listed.getD j true) w->wpAnyH P md ops Q S fuel listed a w:=by
 have q0:∀(listed:Array Bool) (a:Act) (w:World),lack ops listed = []->listed.size=ops.size->KnowC md ops base a0 w0 listed a w ->
  (∀j d,base.getD j true=false->listed.getD j true=true->dstOf ops j=some d->a.tmps.getD d undef=V j)->I (fun j=>listed.getD j true) w->Q .normal a w:=fun listed a w hl hs J hh hI=>by
  have G:∀j,listed.getD j true=true:=fun j=>by
   apply Decidable.byContradiction;intro hn;have hj:j<ops.size:=by
    apply Decidable.byContradiction;intro h;rw[Array.getD_eq_getD_getElem?,Array.getElem?_eq_none (by omega)]at hn;simp at hn
   have:j∈lack ops listed:=List.mem_filter.2 ⟨List.mem_range.2 hj,by simpa using hn⟩;rw[hl]at this;cases this
  have U:(fun j=>listed.getD j true)=fun _=>true:=funext G;rw[U]at hI;exact i0 a w J.a (fun j d hb hd=>hh j d hb (G j) hd) hI
 intro fuel
 induction fuel with
 | zero =>
  intro listed a w hs hf hb J hh hI;have h0:lack ops listed = []:=List.length_eq_zero_iff.1 (by omega);refine⟨?_,q0 listed a w h0 hs J hh hI⟩;cases hr:Region.ready md ops listed with
  | nil=>rfl
  | cons i t =>
   have:=(BU (md:=md) (ops:=ops) (listed:=listed) (i:=i) (by rw[hr];exact List.mem_cons_self ..)).1;rw[h0]at this;cases this
 | succ fuel ih =>
  intro listed a w hs hf hb J hh hI;refine⟨fun h0=>q0 listed a w (Ey hk hs h0) hs J hh hI,fun i hi=>?_⟩;obtain⟨m0,o,ho,e0⟩:=BU hi;have t0:=(List.mem_filter.1 m0).2;have n0:i<listed.size:=by rw[hs];exact List.mem_range.1 (List.mem_filter.1 m0).1
  have l0:listed.getD i true=false:=by simpa using t0
  have d0:base.getD i true=false:=by
   apply Decidable.byContradiction;intro hn;have:=hb i (by simpa using hn);rw[this]at t0;cases t0
  have f0:∀e∈o.after,Region.binds md e=true->listed.getD e.on true=true:=fun e U H=>by
   have h1:=e0 e U H;rw[Array.getD_eq_getD_getElem?]at h1 ⊢;cases hx:listed[e.on]? with
   | none=>simp
   | some b=>rw[hx]at h1;simpa using h1
  obtain⟨q2,r0⟩:=y0 i o ho d0 (fun j=>listed.getD j true) a w (J.b l0) (fun e U H m1 d hd=>hh e.on d m1 (f0 e U H) hd) (fun j Z hj=>by
   apply Decidable.byContradiction;intro hn;have:=Ej J.closed j (by simpa using hj) (by simpa using hn);rw[l0]at this;cases this) hI
  have Y:∀j,j≠i->(listed.setIfInBounds i true).getD j true=listed.getD j true:=fun j hj=>by
   rw[Array.getD_eq_getD_getElem?,Array.getElem?_setIfInBounds_ne (fun h=>hj h.symm),<-Array.getD_eq_getD_getElem?]
  have O:(listed.setIfInBounds i true).getD i true=true:=by
   rw[Array.getD_eq_getD_getElem?,Array.getElem?_setIfInBounds,if_pos rfl,if_pos n0];rfl
  have y1:(fun j=>if j=i then true else listed.getD j true)=fun j=>(listed.setIfInBounds i true).getD j true:=funext fun j=>by
   by_cases e:j=i
   ·subst e;rw[if_pos rfl,O]
   ·rw[if_neg e,Y j e]
  rw[y1]at r0;have p0:∀v d,o.dst≠some d->(a.put o.dst v).tmps[d]? = a.tmps[d]? :=fun v d hd=>by
   unfold Act.put;cases o1:o.dst with
   | none=>rfl
   | some d' =>
    simp only;rw[Array.getElem?_setIfInBounds_ne];intro e;exact hd (by rw[o1,e])
  have h2:∀v,(a.put o.dst v).tmps.size=a.tmps.size:=fun v=>by
   unfold Act.put;cases o.dst with
   | none=>rfl
   | some d'=>simp
  have x1:∀v,(a.put o.dst v).defers=a.defers:=fun v=>by
   unfold Act.put;cases o.dst <;> rfl
  have j0:dstOf ops i=o.dst:=by unfold dstOf;rw[ho];rfl
  unfold wpOp;rw[ho];simp only;rw[if_pos q2];refine .inl (Oper.wp_mono (fun a' w' ⟨U,j1,k1⟩=>?_) r0);subst U;refine⟨hS _,ih _ _ _ (by simpa using hs) (by have:=GW m0;omega) (fun j hj=>?_) ⟨by rw[h2];exact J.size,by rw[x1];exact J.defers,fun d hd=>?_,k1,fun j Z T o' x0 e U H=>?_⟩ (fun j d Z T hd=>?_) j1⟩
  ·have:=hb j hj;by_cases e:j=i
   ·subst e;exact O
   ·rw[Y j e];exact this
  ·rw[p0 _ d (by
    rw[<-j0];exact hd i d0 O)]
   exact J.same d fun j hb hl=>hd j hb (by
    by_cases e:j=i
    ·subst e;exact O
    ·rw[Y j e];exact hl)
  ·have a1:∀e∈o'.after,Region.binds md e=true->listed.getD e.on true=true:=fun e U H=>by
    by_cases e1:j=i
    ·subst e1;rw[ho]at x0;cases x0;exact f0 e U H
    ·rw[Y j e1]at T;exact J.closed j Z T o' x0 e U H
   by_cases e2:e.on=i
   ·rw[e2];exact O
   ·rw[Y _ e2];exact a1 e U H
  ·by_cases e:j=i
   ·subst e;have j2:=hd;rw[j0]at hd;have f1:d<a.tmps.size:=by
     have c0:=hk.bound;rw[List.all_eq_true]at c0;have:=c0 o (by simpa using Array.mem_of_getElem? ho);rw[hd]at this;rw[J.size];exact of_decide_eq_true this
    unfold Act.put;rw[hd,Array.getD_eq_getD_getElem?,Array.getElem?_setIfInBounds,if_pos rfl,if_pos f1];rfl
   ·have i1:o.dst≠some d:=fun h=>e (FB hk.nodup hd (j0.trans h));rw[Y j e]at T;rw[Array.getD_eq_getD_getElem?,p0 _ d i1,<-Array.getD_eq_getD_getElem?];exact hh j d Z T hd
def IGoal (P:Program) (ops:Array Oper) (Q:Exit->Act->World->Prop) (w0:World) (V:Nat->Value) (I:(Nat->Bool)->World->Prop) (L:Nat->Bool) (i:Nat) (o:Oper) (a:Act) (w:World):Prop :=
 Region.wanted o (yielded ops a.tmps)=true/\Oper.wp P o a w (fun a' w'=>a'=a.put o.dst (V i)/\I (fun j=>if j=i then true else L j) w'/\Ext w0 w') Q
def IStep (P:Program) (md:Region.Mode) (ops:Array Oper) (Q:Exit->Act->World->Prop) (base:Array Bool) (a0:Act) (w0:World) (V:Nat->Value) (I:(Nat->Bool)->World->Prop) (i:Nat) (o:Oper):Prop :=
 ∀L a w,KnowB md ops base a0 w0 i a w->(∀(j d:Nat) (_:(o.after.any fun e=>e.on==j&&Region.binds md e)=true:=by kernel_rfl) (_:base.getD j true=false:=by kernel_rfl) (_:dstOf ops j=some d:=by kernel_rfl),a.tmps.getD d undef=V j)->(∀(j:Nat) (_:base.getD j true=false:=by kernel_rfl) (_:(aboveK md ops base i).contains j=true:=by kernel_rfl),L j=false)->I L w->IGoal P ops Q w0 V I L i o a w
def ISteps (P:Program) (md:Region.Mode) (ops:Array Oper) (Q:Exit->Act->World->Prop) (base:Array Bool) (a0:Act) (w0:World) (V:Nat->Value) (I:(Nat->Bool)->World->Prop) (l:List Nat):Prop :=
 ∀i∈l,∀o,ops[i]? = some o->IStep P md ops Q base a0 w0 V I i o
section
variable {P:Program} {md:Region.Mode} {ops:Array Oper} {Q:Exit->Act->World->Prop} {base:Array Bool} {a0:Act} {w0:World} {V:Nat->Value} {I:(Nat->Bool)->World->Prop}
theorem ISteps.nil:ISteps P md ops Q base a0 w0 V I []:=fun _ h=>absurd h List.not_mem_nil
theorem ISteps.cons {l:List Nat} (H:ops[i]? = some o) (h:IStep P md ops Q base a0 w0 V I i o) (hs:ISteps P md ops Q base a0 w0 V I l):ISteps P md ops Q base a0 w0 V I (i::l):=fun j a o' b=>by
 rcases List.mem_cons.1 a with rfl | a
 ·rw[H]at b;cases b;exact h
 ·exact hs j a o' b
theorem ISteps.all {l:List Nat} (hs:ISteps P md ops Q base a0 w0 V I l) (U:(List.range ops.size).all (fun i=>base.getD i true || l.contains i)=true) :
 ∀i o,ops[i]? = some o->base.getD i true=false->∀(L:Nat->Bool) a w,KnowB md ops base a0 w0 i a w ->
  (∀e∈o.after,Region.binds md e=true->base.getD e.on true=false->∀d,dstOf ops e.on=some d->a.tmps.getD d undef=V e.on)->(∀j,base.getD j true=false->(aboveK md ops base i).contains j=true->L j=false)->I L w ->
  Region.wanted o (yielded ops a.tmps)=true/\Oper.wp P o a w (fun a' w'=>a'=a.put o.dst (V i)/\I (fun j=>if j=i then true else L j) w'/\Ext w0 w') Q:=fun i o O hb L a w Z hd hab T=>by
 rw[List.all_eq_true]at U;have h1:=U i (List.mem_range.2 (Array.getElem?_eq_some_iff.1 O).1);rw[hb,Bool.false_or]at h1;refine hs i (by simpa using h1) o O L a w Z (fun j d J b H=>?_) hab T;rw[Array.any_eq_true']at J;obtain⟨e,G,h⟩:=J;rw[Bool.and_eq_true]at h;have Y:e.on=j:=by simpa using h.1
 subst Y;exact hd e G h.2 b d H
variable {o:Oper} {a:Act} {w:World} {i:Nat} {L:Nat->Bool}
theorem Aq (b:Ext w0 w) (H:I (fun j=>if j=i then true else L j) w) (Y:(execOp a.eval o).run P w = .ok (.value (V i)) w) (h:o.guard=none) :
 IGoal P ops Q w0 V I L i o a w:=by
 unfold IGoal;refine⟨by simp[Region.wanted,h],?_⟩;unfold Oper.wp;rw[Y,Oper.upon_value];exact⟨rfl,H,b⟩
theorem Da {x y:Operand} {q v:Value} (U:o.op = .store t x y) (h:o.guard=none) (T:a.eval x=q) (Z:a.eval y=v) (O:(Instr.storeAt t q v).run P w = .ok () w') (Y:V i=undef) (H:I (fun j=>if j=i then true else L j) w') (b:Ext w0 w') :
 IGoal P ops Q w0 V I L i o a w:=by
 unfold IGoal;refine⟨by simp[Region.wanted,h],?_⟩;have J:(execOp a.eval o).run P w = .ok .skip w':=by
  unfold execOp;simp[U,T,Z,O,Result.andThen]
 unfold Oper.wp;rw[J,Oper.upon_skip,Y];exact⟨rfl,H,b⟩
theorem RA {xs:Array Operand} {ts:Array TypeId} {x y m:Int} (j:o.op = .call { callee:= .builtin .min,args:=xs,argTypes:=ts }) (b:xs.map a.eval=#[.int .i64 x,.int .i64 y]) (h:m=min x y):(execOp a.eval o).run P w = .ok (.value (.int .i64 m)) w:=by
 unfold execOp;have:=AQ (P:=P) ts o.type h w;simp only[j,resolve,invoke,builtin,Sem.run_bind,Sem.run_pure,Result.andThen_ok,b,this]
theorem Rz {xs:Array Operand} {ts:Array TypeId} {x y m:Int} (j:o.op = .call { callee:= .builtin .max,args:=xs,argTypes:=ts }) (b:xs.map a.eval=#[.int .i64 x,.int .i64 y]) (h:m=max x y):(execOp a.eval o).run P w = .ok (.value (.int .i64 m)) w:=by
 unfold execOp;have:=Eg (P:=P) ts o.type h w;simp only[j,resolve,invoke,builtin,Sem.run_bind,Sem.run_pure,Result.andThen_ok,b,this]
end
end
section
open Go.RowKit Go.Maps
def FtI (ds:List DocC) (x0:DocC) (i:Nat) (lo hi fi la:Int):Prop:=(i=0->lo=0/\hi=0/\fi=0/\la=0)/\(0<i->lo=lowD x0.e.at_ (dcs (ds.take i))/\hi=highD x0.e.at_ (dcs (ds.take i))/\fi=x0.seq/\∀x,ds[i - 1]? = some x->la=x.seq)
theorem FtI.step {ds:List DocC} {x0 x:DocC} {lo hi fi la lo1 hi1 fi1 lo2 hi2:Int} (h:FtI ds x0 i lo hi fi la) (U:ds[0]? = some x0) (a:ds[i]? = some x) (e0:i=0->lo1=x.e.at_/\hi1=x.e.at_/\fi1=x.seq) (e1:0<i->lo1=lo/\hi1=hi/\fi1=fi) (h1:lo2=min lo1 x.e.at_) (h2:hi2=max hi1 x.e.at_):FtI ds x0 (i+1) lo2 hi2 fi1 x.seq:=by
 refine⟨fun h=>absurd h (Nat.succ_ne_zero i),fun _=>?_⟩;have H:dcs (ds.take (i+1))=dcs (ds.take i) ++ [x.dc]:=by rw[List.take_add_one,a];exact BJ _ _
 have Y:∀y,ds[i+1 - 1]? = some y->x.seq=y.seq:=fun y J=>by
  rw[Nat.add_sub_cancel,a]at J;rw[Option.some.inj J]
 rw[H,GY,FE];rcases Nat.eq_zero_or_pos i with j | b
 ·obtain⟨q1,q2,q3⟩:=e0 j;subst j;rw[U]at a;obtain rfl:=Option.some.inj a;refine⟨?_,?_,q3,Y⟩
  ·rw[h1,q1];rfl
  ·rw[h2,q2];rfl
 ·obtain⟨q1,q2,q3⟩:=e1 b;obtain⟨r1,r2,r3,_⟩:=h.2 b;refine⟨?_,?_,by rw[q3,r3],Y⟩
  ·rw[h1,q1,r1];rfl
  ·rw[h2,q2,r2];rfl
def kF6 (ga g5:Nat) (sq at_:Int) (u:Value) (L:Nat->Bool) (w:World):Prop:=Row w ga 79 #[.int .i64 0,.int .i64 0,.int .i64 0,.int .i64 0,.int .i64 0,.int .i64 0,.int .i64 0]/\Row w g5 71 #[.int .i64 sq,.int .i64 at_,u]/\Row w (ga+1) 79 #[.int .i64 0,.int .i64 0,.int .i64 (if L 9 then at_ else 0),.int .i64 (if L 11 then at_ else 0),.int .i64 (if L 13 then sq else 0),.int .i64 0,.int .i64 0]
def kF8 (ga g5:Nat) (sq at_:Int) (u:Value) (lo lo2 hi hi2 fi la i:Int) (L:Nat->Bool) (w:World):Prop:=Row w ga 79 #[.int .i64 0,.int .i64 0,.int .i64 0,.int .i64 0,.int .i64 0,.int .i64 0,.int .i64 0]/\Row w g5 71 #[.int .i64 sq,.int .i64 at_,u]/\Row w (ga+1) 79 #[.int .i64 0,.int .i64 0,.int .i64 (if L 15 then lo2 else lo),.int .i64 (if L 17 then hi2 else hi),.int .i64 fi,.int .i64 (if L 19 then sq else la),.int .i64 i]
theorem D9 (w:World) (g:Nat):(Instr.fieldAt 71 (.pointer (some ⟨g,0,none⟩)) 0).run prog w = .ok (.pointer (some ⟨g,0,none⟩)) w/\(Instr.fieldAt 71 (.pointer (some ⟨g,0,none⟩)) 1).run prog w = .ok (.pointer (some ⟨g,1,none⟩)) w:=by
 refine⟨?_,?_⟩ <;> go_simp
theorem Jj (w:World) (g:Nat):(Instr.fieldAt 69 (.pointer (some ⟨g,1,none⟩)) 0).run prog w = .ok (.pointer (some ⟨g,1,none⟩)) w:=by
 go_simp
theorem FQ {b k:Nat} (h:w.cell? ⟨b,k,none⟩=some u) (j:w.frozen? ⟨b,k,none⟩=false):(Instr.storeAt 3 (.pointer (some ⟨b,k,none⟩)) (.int .i64 z)).run prog w = .ok () (w.setCell ⟨b,k,none⟩ (.int .i64 z)):=by
 go_simp
theorem Ga (ds:List DocC) (A:Option Addr) (m c:Nat) (w:World) (hm:m=ds.length) (h:DocsOk w A ds) (m3:m<=1000000) (h0:0<m) :
 Calls prog 64 #[.slice A m c] w fun e w'=>e = .returned (.agg (prtA (partD (dcs ds))))/\Ext w w':=by
 obtain⟨x0,i0⟩:∃x,ds[0]? = some x:=⟨_,List.getElem?_eq_getElem (by omega)⟩
 obtain⟨xl,n0⟩:∃x,ds[m - 1]? = some x:=⟨_,List.getElem?_eq_getElem (by omega)⟩
 have m0:partD (dcs ds) = [lowD x0.e.at_ (dcs ds),highD x0.e.at_ (dcs ds),x0.seq,xl.seq,(m:Int)]:=C7 hm i0 n0;obtain⟨W,hW⟩:=Ab ((w.alloc (.cells #[.int .i64 0,.int .i64 0,.int .i64 0,.int .i64 0,.int .i64 0,.int .i64 0,.int .i64 0] 79)).alloc (.cells #[.int .i64 0,.int .i64 0,.int .i64 0,.int .i64 0,.int .i64 0,.int .i64 0,.int .i64 0] 79));have r0:Ext w W:=by rw[hW];exact((Ext.refl w).alloc _).alloc _
 obtain⟨ga,T⟩:=Ab w.heap.size;have r1:Row W ga 79 #[.int .i64 0,.int .i64 0,.int .i64 0,.int .i64 0,.int .i64 0,.int .i64 0,.int .i64 0]:=by rw[hW,T];exact(Row.new w _ _).alloc _
 have r2:Row W (ga+1) 79 #[.int .i64 0,.int .i64 0,.int .i64 0,.int .i64 0,.int .i64 0,.int .i64 0,.int .i64 0]:=by
  rw[hW,T];have h:=Row.new (w.alloc (.cells #[.int .i64 0,.int .i64 0,.int .i64 0,.int .i64 0,.int .i64 0,.int .i64 0,.int .i64 0] 79)) 79 #[.int .i64 0,.int .i64 0,.int .i64 0,.int .i64 0,.int .i64 0,.int .i64 0,.int .i64 0];simpa using h
 rw[m0];replace h:=Aa h;replace hm:=Aa hm;replace i0:=Aa i0;replace n0:=Aa n0;clear m0
 go_in
 go_wp2_with fail;rw[<-hW,<-T];replace hW:=Aa hW;replace T:=Aa T
 go_loopw [4] (fun s4 wr=>∃(i:Nat) (lo hi fi la:Int),s4 = .int .i64 (i:Int)/\i<=m/\Hid (FtI ds x0 i lo hi fi la)/\Hid (Row wr ga 79 #[.int .i64 0,.int .i64 0,.int .i64 0,.int .i64 0,.int .i64 0,.int .i64 0,.int .i64 0])/\Hid (Row wr (ga+1) 79 #[.int .i64 0,.int .i64 0,.int .i64 lo,.int .i64 hi,.int .i64 fi,.int .i64 la,.int .i64 (i:Int)])/\Hid (Ext w wr)) (fun s4 _=>m - (intOf s4).toNat)
 case atStart=>exact⟨0,0,0,0,0,rfl,by omega,Aa ⟨fun _=>⟨rfl,rfl,rfl,rfl⟩,fun h=>absurd h (Nat.lt_irrefl _)⟩,Aa r1,Aa r2,Aa r0⟩
 case round =>
  clear r1 r2 r0;obtain⟨i,lo,q0,fi,la,rfl,hi,j0,r1,r2,hE⟩:=hrel;by_cases him:i<m
  ·obtain⟨x,hx⟩:∃x,ds[i]? = some x:=⟨_,List.getElem?_eq_getElem (by rw[<-hm.out];exact him)⟩
   obtain⟨g,o,hA,l0,l1,l2⟩:=AR (h.out.cells.ext hE.out) hx;have k0:=fun lo1 hi1 fi1 lo2 hi2 e0 e1 h1 h2=>j0.out.step (lo1:=lo1) (hi1:=hi1) (fi1:=fi1) (lo2:=lo2) (hi2:=hi2) i0.out hx e0 e1 h1 h2;obtain⟨sq,⟨at_,fs⟩,xA,xc⟩:=x;simp only at l0 l1 l2 k0;obtain⟨fl,a1⟩:=Ab fs.length;rw[<-a1]at l2;obtain⟨w5,t0⟩:=Ab (wr.alloc (.cells #[.int .i64 sq,.int .i64 at_,.slice xA fl xc] 71));obtain⟨g5,f0⟩:=Ab wr.heap.size;have r5:Row w5 g5 71 #[.int .i64 sq,.int .i64 at_,.slice xA fl xc]:=by rw[t0,f0];exact Row.new wr _ _
   have c0:Ext wr w5:=by rw[t0];exact(Ext.refl wr).alloc _
   have r15:=r1.out.ext c0;have r25:=r2.out.ext c0;have i2:ga+1<g5:=by have:=r2.out.lt;omega
   have O:=Aa (hE.out.trans c0);subst hA;replace t0:=Aa t0;replace f0:=Aa f0;replace k0:=Aa k0;clear hx a1 c0;have y0:w5.cell? ⟨g5,0,none⟩=some (.int .i64 sq):=r5.cell 0 rfl;have y1:w5.cell? ⟨g5,1,none⟩=some (.int .i64 at_):=r5.cell 1 rfl;have t3:ga+1≠g5:=by omega
   have Y:Hid (w.heap.size<=ga+1):=Aa (by have:=T.out;omega);have p0:g5≠ga+1:=by omega
   replace r15:=Aa r15;replace r25:=Aa r25;replace r5:=Aa r5;clear y0 y1;go_upto_if 17 with fail;rw[<-t0.out,<-f0.out]
   go_cut [28] from 18 to 28 (fun s28 wx=>∃(lo1 hi1 fi1 la1:Int) (u:Value),s28=u/\Hid (Row wx ga 79 #[.int .i64 0,.int .i64 0,.int .i64 0,.int .i64 0,.int .i64 0,.int .i64 0,.int .i64 0])/\Hid (Row wx (ga+1) 79 #[.int .i64 0,.int .i64 0,.int .i64 lo1,.int .i64 hi1,.int .i64 fi1,.int .i64 la1,.int .i64 (i:Int)])/\Hid (Row wx g5 71 #[.int .i64 sq,.int .i64 at_,.slice xA fl xc])/\Hid (Ext w wx)/\Hid (i=0->lo1=at_/\hi1=at_/\fi1=sq)/\Hid (0<i->lo1=lo/\hi1=q0/\fi1=fi))
   case first =>
    by_cases f1:i=0
    ·subst f1;obtain⟨z1,z2,z3,z4⟩:=j0.out.1 rfl;subst z1 z2 z3 z4;clear k0 j0;simp only[Nat.zero_mul,Nat.add_zero]at l0 l1 l2;go_wp2_with fail;refine wp_region_held_drew (S:=fun _=>True) (by kernel_rfl) trivial (fun _=>?_);refine HO (base:=Array.replicate 14 false) (w0:=w) ⟨by kernel_rfl,of_decide_eq_true (by kernel_rfl),by kernel_rfl,by kernel_rfl⟩ (fun j=>([.pointer (some ⟨g5,1,none⟩),.pointer (some ⟨g5,1,none⟩),.int .i64 at_,.pointer (some ⟨g5,1,none⟩),.pointer (some ⟨g5,1,none⟩),.int .i64 at_,.pointer (some ⟨g5,0,none⟩),.int .i64 sq,.pointer (some ⟨ga+1,2,none⟩),undef,.pointer (some ⟨ga+1,3,none⟩),undef,.pointer (some ⟨ga+1,4,none⟩),undef]:List Value).getD j undef) (kF6 ga g5 sq at_ (.slice xA fl xc)) (fun _=>trivial) ?hstep ?fin _ _ _ _ (by kernel_rfl) (Nat.le_of_eq (by kernel_rfl)) (fun _ h=>h) ⟨rfl,rfl,fun _ _=>rfl,O.out.drew,fun j h1 h2=>absurd (h1.symm.trans h2) (by simp)⟩ (fun j d h1 h2 _=>absurd (h1.symm.trans h2) (by simp)) ⟨r15.out.drew,r5.out.drew,r25.out.drew⟩
     case hstep =>
      apply ISteps.all (V:=(fun j=>([.pointer (some ⟨g5,1,none⟩),.pointer (some ⟨g5,1,none⟩),.int .i64 at_,.pointer (some ⟨g5,1,none⟩),.pointer (some ⟨g5,1,none⟩),.int .i64 at_,.pointer (some ⟨g5,0,none⟩),.int .i64 sq,.pointer (some ⟨ga+1,2,none⟩),undef,.pointer (some ⟨ga+1,3,none⟩),undef,.pointer (some ⟨ga+1,4,none⟩),undef]:List Value).getD j undef)) (I:=kF6 ga g5 sq at_ (.slice xA fl xc)) (l:= [0,1,2,3,4,5,6,7,8,9,10,11,12,13]);rotate_left
      ·kernel_rfl
      refine ISteps.cons rfl (fun L a wq b hd hab H=>?_) ?_
      ·exact Aq b.ext H (Ao (q:= .pointer (some ⟨g5,0,none⟩)) rfl (Af (b.same 5)) ((D9 wq g5).2)) rfl
      refine ISteps.cons rfl (fun L a wq b hd hab H=>?_) ?_
      ·exact Aq b.ext H (Ao (q:= .pointer (some ⟨g5,1,none⟩)) rfl (Ac (hd 0 18)) (Jj wq g5)) rfl
      refine ISteps.cons rfl (fun L a wq b hd hab H=>?_) ?_
      ·exact Aq b.ext H (AI (q:= .pointer (some ⟨g5,1,none⟩)) rfl (Ac (hd 1 19)) (Bz (H.2.1.cell 1 rfl))) rfl
      refine ISteps.cons rfl (fun L a wq b hd hab H=>?_) ?_
      ·exact Aq b.ext H (Ao (q:= .pointer (some ⟨g5,0,none⟩)) rfl (Af (b.same 5)) ((D9 wq g5).2)) rfl
      refine ISteps.cons rfl (fun L a wq b hd hab H=>?_) ?_
      ·exact Aq b.ext H (Ao (q:= .pointer (some ⟨g5,1,none⟩)) rfl (Ac (hd 3 21)) (Jj wq g5)) rfl
      refine ISteps.cons rfl (fun L a wq b hd hab H=>?_) ?_
      ·exact Aq b.ext H (AI (q:= .pointer (some ⟨g5,1,none⟩)) rfl (Ac (hd 4 22)) (Bz (H.2.1.cell 1 rfl))) rfl
      refine ISteps.cons rfl (fun L a wq b hd hab H=>?_) ?_
      ·exact Aq b.ext H (Ao (q:= .pointer (some ⟨g5,0,none⟩)) rfl (Af (b.same 5)) ((D9 wq g5).1)) rfl
      refine ISteps.cons rfl (fun L a wq b hd hab H=>?_) ?_
      ·exact Aq b.ext H (AI (q:= .pointer (some ⟨g5,0,none⟩)) rfl (Ac (hd 6 24)) (Bz (H.2.1.cell 0 rfl))) rfl
      refine ISteps.cons rfl (fun L a wq b hd hab H=>?_) ?_
      ·exact Aq b.ext H (Ao (q:= .pointer (some ⟨ga+1,0,none⟩)) rfl (Af (b.same 3)) ((Bn wq (ga+1)).1)) rfl
      refine ISteps.cons rfl (fun L a wq b hd hab H=>?_) ?_
      ·obtain⟨h1,h2,J⟩:=H;exact Da (q:= .pointer (some ⟨ga+1,2,none⟩)) (v:= .int .i64 at_) rfl rfl (Ac (hd 8 26)) (Ac (hd 2 20)) (FQ (J.cell 2 rfl) (J.free 2)) rfl ⟨h1.away (p:=⟨ga+1,2,none⟩) (by simp) _,h2.away (p:=⟨ga+1,2,none⟩) p0 _,J.put 2 _⟩ (b.ext.setCell Y.out _)
      refine ISteps.cons rfl (fun L a wq b hd hab H=>?_) ?_
      ·exact Aq b.ext H (Ao (q:= .pointer (some ⟨ga+1,0,none⟩)) rfl (Af (b.same 3)) ((Bn wq (ga+1)).2.1)) rfl
      refine ISteps.cons rfl (fun L a wq b hd hab H=>?_) ?_
      ·obtain⟨h1,h2,J⟩:=H;exact Da (q:= .pointer (some ⟨ga+1,3,none⟩)) (v:= .int .i64 at_) rfl rfl (Ac (hd 10 27)) (Ac (hd 5 23)) (FQ (J.cell 3 rfl) (J.free 3)) rfl ⟨h1.away (p:=⟨ga+1,3,none⟩) (by simp) _,h2.away (p:=⟨ga+1,3,none⟩) p0 _,J.put 3 _⟩ (b.ext.setCell Y.out _)
      refine ISteps.cons rfl (fun L a wq b hd hab H=>?_) ?_
      ·exact Aq b.ext H (Ao (q:= .pointer (some ⟨ga+1,0,none⟩)) rfl (Af (b.same 3)) ((Bn wq (ga+1)).2.2.1)) rfl
      refine ISteps.cons rfl (fun L a wq b hd hab H=>?_) ?_
      ·obtain⟨h1,h2,J⟩:=H;exact Da (q:= .pointer (some ⟨ga+1,4,none⟩)) (v:= .int .i64 sq) rfl rfl (Ac (hd 12 28)) (Ac (hd 7 25)) (FQ (J.cell 4 rfl) (J.free 4)) rfl ⟨h1.away (p:=⟨ga+1,4,none⟩) (by simp) _,h2.away (p:=⟨ga+1,4,none⟩) p0 _,J.put 4 _⟩ (b.ext.setCell Y.out _)
      exact ISteps.nil
     case fin =>
      intro a w8 b hh H;have U:=b.act [18,19,20,21,22,23,24,25,26,27,28] (by kernel_rfl);obtain⟨r18,r58,r28⟩:=H;have j2:=Aa b.ext;simp only[List.foldl_cons,List.foldl_nil]at U;clear b hh;obtain⟨fv,g0⟩:∃f:Nat->Value,∀d,a.tmps.getD d undef=f d:=⟨_,fun _=>rfl⟩
      simp only[g0]at U;clear g0;subst U;simp only[Bv,Bw,By];go_wp2_with fail
      go_meet
      case rel=>exact⟨at_,at_,sq,0,_,rfl,Aa r18,Aa r28,Aa r58,j2,Aa (fun _=>⟨rfl,rfl,rfl⟩),Aa (fun h=>absurd h (Nat.lt_irrefl _))⟩
    ·have o2:((i:Int)==0)=false:=by simp;omega
     go_wp2_with fail
     go_meet
     case rel=>exact⟨lo,q0,fi,la,_,rfl,r15,r25,r5,O,Aa (fun h=>absurd h f1),Aa (fun _=>⟨rfl,rfl,rfl⟩)⟩
   case rest =>
    clear r15 r25 r5 O;obtain⟨lo1,hi1,fi1,la1,u28,rfl,r15,r25,r5,O,j1,m1⟩:=hcut;obtain⟨lo2,G⟩:=Ab (min lo1 at_);obtain⟨hi2,Z⟩:=Ab (max hi1 at_);have x1:=Aa (k0.out lo1 hi1 fi1 lo2 hi2 j1.out m1.out G Z);replace G:=Aa G;replace Z:=Aa Z;clear k0 j0 j1 m1;go_wp2_with fail;refine wp_region_held_drew (S:=fun _=>True) (by kernel_rfl) trivial (fun _=>?_);refine HO (base:=Array.replicate 20 false) (w0:=w) ⟨by kernel_rfl,of_decide_eq_true (by kernel_rfl),by kernel_rfl,by kernel_rfl⟩ (fun j=>([.pointer (some ⟨ga+1,2,none⟩),.int .i64 lo1,.pointer (some ⟨g5,1,none⟩),.pointer (some ⟨g5,1,none⟩),.int .i64 at_,.int .i64 lo2,.pointer (some ⟨ga+1,3,none⟩),.int .i64 hi1,.pointer (some ⟨g5,1,none⟩),.pointer (some ⟨g5,1,none⟩),.int .i64 at_,.int .i64 hi2,.pointer (some ⟨g5,0,none⟩),.int .i64 sq,.pointer (some ⟨ga+1,2,none⟩),undef,.pointer (some ⟨ga+1,3,none⟩),undef,.pointer (some ⟨ga+1,5,none⟩),undef]:List Value).getD j undef) (kF8 ga g5 sq at_ (.slice xA fl xc) lo1 lo2 hi1 hi2 fi1 la1 (i:Int)) (fun _=>trivial) ?hstep ?fin _ _ _ _ (by kernel_rfl) (Nat.le_of_eq (by kernel_rfl)) (fun _ h=>h) ⟨rfl,rfl,fun _ _=>rfl,O.out.drew,fun j h1 h2=>absurd (h1.symm.trans h2) (by simp)⟩ (fun j d h1 h2 _=>absurd (h1.symm.trans h2) (by simp)) ⟨r15.out.drew,r5.out.drew,r25.out.drew⟩
    case hstep =>
     apply ISteps.all (V:=(fun j=>([.pointer (some ⟨ga+1,2,none⟩),.int .i64 lo1,.pointer (some ⟨g5,1,none⟩),.pointer (some ⟨g5,1,none⟩),.int .i64 at_,.int .i64 lo2,.pointer (some ⟨ga+1,3,none⟩),.int .i64 hi1,.pointer (some ⟨g5,1,none⟩),.pointer (some ⟨g5,1,none⟩),.int .i64 at_,.int .i64 hi2,.pointer (some ⟨g5,0,none⟩),.int .i64 sq,.pointer (some ⟨ga+1,2,none⟩),undef,.pointer (some ⟨ga+1,3,none⟩),undef,.pointer (some ⟨ga+1,5,none⟩),undef]:List Value).getD j undef)) (I:=kF8 ga g5 sq at_ (.slice xA fl xc) lo1 lo2 hi1 hi2 fi1 la1 (i:Int)) (l:= [0,1,2,3,4,5,6,7,8,9,10,11,12,13,14,15,16,17,18,19]);rotate_left
     ·kernel_rfl
     refine ISteps.cons rfl (fun L a wq b hd hab H=>?_) ?_
     ·exact Aq b.ext H (Ao (q:= .pointer (some ⟨ga+1,0,none⟩)) rfl (Af (b.same 3)) ((Bn wq (ga+1)).1)) rfl
     refine ISteps.cons rfl (fun L a wq b hd hab H=>?_) ?_
     ·have hL:L 15=false:=hab 15;have hc:wq.cell? ⟨ga+1,2,none⟩=some (.int .i64 (if L 15 then lo2 else lo1)):=H.2.2.cell 2 rfl;rw[hL,if_neg (by decide)]at hc;exact Aq b.ext H (AI (q:= .pointer (some ⟨ga+1,2,none⟩)) rfl (Ac (hd 0 29)) (Bz hc)) rfl
     refine ISteps.cons rfl (fun L a wq b hd hab H=>?_) ?_
     ·exact Aq b.ext H (Ao (q:= .pointer (some ⟨g5,0,none⟩)) rfl (Af (b.same 5)) ((D9 wq g5).2)) rfl
     refine ISteps.cons rfl (fun L a wq b hd hab H=>?_) ?_
     ·exact Aq b.ext H (Ao (q:= .pointer (some ⟨g5,1,none⟩)) rfl (Ac (hd 2 31)) (Jj wq g5)) rfl
     refine ISteps.cons rfl (fun L a wq b hd hab H=>?_) ?_
     ·exact Aq b.ext H (AI (q:= .pointer (some ⟨g5,1,none⟩)) rfl (Ac (hd 3 32)) (Bz (H.2.1.cell 1 rfl))) rfl
     refine ISteps.cons rfl (fun L a wq b hd hab H=>?_) ?_
     ·have qx:a.eval (.tmp 30) = .int .i64 lo1:=(Ac (hd 1 30))
      have qy:a.eval (.tmp 33) = .int .i64 at_:=(Ac (hd 4 33))
      exact Aq b.ext H (RA rfl (by simp only[List.map_toArray,List.map_cons,List.map_nil,qx,qy]) G.out) rfl
     refine ISteps.cons rfl (fun L a wq b hd hab H=>?_) ?_
     ·exact Aq b.ext H (Ao (q:= .pointer (some ⟨ga+1,0,none⟩)) rfl (Af (b.same 3)) ((Bn wq (ga+1)).2.1)) rfl
     refine ISteps.cons rfl (fun L a wq b hd hab H=>?_) ?_
     ·have hL:L 17=false:=hab 17;have hc:wq.cell? ⟨ga+1,3,none⟩=some (.int .i64 (if L 17 then hi2 else hi1)):=H.2.2.cell 3 rfl;rw[hL,if_neg (by decide)]at hc;exact Aq b.ext H (AI (q:= .pointer (some ⟨ga+1,3,none⟩)) rfl (Ac (hd 6 35)) (Bz hc)) rfl
     refine ISteps.cons rfl (fun L a wq b hd hab H=>?_) ?_
     ·exact Aq b.ext H (Ao (q:= .pointer (some ⟨g5,0,none⟩)) rfl (Af (b.same 5)) ((D9 wq g5).2)) rfl
     refine ISteps.cons rfl (fun L a wq b hd hab H=>?_) ?_
     ·exact Aq b.ext H (Ao (q:= .pointer (some ⟨g5,1,none⟩)) rfl (Ac (hd 8 37)) (Jj wq g5)) rfl
     refine ISteps.cons rfl (fun L a wq b hd hab H=>?_) ?_
     ·exact Aq b.ext H (AI (q:= .pointer (some ⟨g5,1,none⟩)) rfl (Ac (hd 9 38)) (Bz (H.2.1.cell 1 rfl))) rfl
     refine ISteps.cons rfl (fun L a wq b hd hab H=>?_) ?_
     ·have qx:a.eval (.tmp 36) = .int .i64 hi1:=(Ac (hd 7 36))
      have qy:a.eval (.tmp 39) = .int .i64 at_:=(Ac (hd 10 39))
      exact Aq b.ext H (Rz rfl (by simp only[List.map_toArray,List.map_cons,List.map_nil,qx,qy]) Z.out) rfl
     refine ISteps.cons rfl (fun L a wq b hd hab H=>?_) ?_
     ·exact Aq b.ext H (Ao (q:= .pointer (some ⟨g5,0,none⟩)) rfl (Af (b.same 5)) ((D9 wq g5).1)) rfl
     refine ISteps.cons rfl (fun L a wq b hd hab H=>?_) ?_
     ·exact Aq b.ext H (AI (q:= .pointer (some ⟨g5,0,none⟩)) rfl (Ac (hd 12 41)) (Bz (H.2.1.cell 0 rfl))) rfl
     refine ISteps.cons rfl (fun L a wq b hd hab H=>?_) ?_
     ·exact Aq b.ext H (Ao (q:= .pointer (some ⟨ga+1,0,none⟩)) rfl (Af (b.same 3)) ((Bn wq (ga+1)).1)) rfl
     refine ISteps.cons rfl (fun L a wq b hd hab H=>?_) ?_
     ·obtain⟨h1,h2,J⟩:=H;exact Da (q:= .pointer (some ⟨ga+1,2,none⟩)) (v:= .int .i64 lo2) rfl rfl (Ac (hd 14 43)) (Ac (hd 5 34)) (FQ (J.cell 2 rfl) (J.free 2)) rfl ⟨h1.away (p:=⟨ga+1,2,none⟩) (by simp) _,h2.away (p:=⟨ga+1,2,none⟩) p0 _,J.put 2 _⟩ (b.ext.setCell Y.out _)
     refine ISteps.cons rfl (fun L a wq b hd hab H=>?_) ?_
     ·exact Aq b.ext H (Ao (q:= .pointer (some ⟨ga+1,0,none⟩)) rfl (Af (b.same 3)) ((Bn wq (ga+1)).2.1)) rfl
     refine ISteps.cons rfl (fun L a wq b hd hab H=>?_) ?_
     ·obtain⟨h1,h2,J⟩:=H;exact Da (q:= .pointer (some ⟨ga+1,3,none⟩)) (v:= .int .i64 hi2) rfl rfl (Ac (hd 16 44)) (Ac (hd 11 40)) (FQ (J.cell 3 rfl) (J.free 3)) rfl ⟨h1.away (p:=⟨ga+1,3,none⟩) (by simp) _,h2.away (p:=⟨ga+1,3,none⟩) p0 _,J.put 3 _⟩ (b.ext.setCell Y.out _)
     refine ISteps.cons rfl (fun L a wq b hd hab H=>?_) ?_
     ·exact Aq b.ext H (Ao (q:= .pointer (some ⟨ga+1,0,none⟩)) rfl (Af (b.same 3)) ((Bn wq (ga+1)).2.2.2.1)) rfl
     refine ISteps.cons rfl (fun L a wq b hd hab H=>?_) ?_
     ·obtain⟨h1,h2,J⟩:=H;exact Da (q:= .pointer (some ⟨ga+1,5,none⟩)) (v:= .int .i64 sq) rfl rfl (Ac (hd 18 45)) (Ac (hd 13 42)) (FQ (J.cell 5 rfl) (J.free 5)) rfl ⟨h1.away (p:=⟨ga+1,5,none⟩) (by simp) _,h2.away (p:=⟨ga+1,5,none⟩) p0 _,J.put 5 _⟩ (b.ext.setCell Y.out _)
     exact ISteps.nil
    case fin =>
     intro a w9 b hh H;have U:=b.act [29,30,31,32,33,34,35,36,37,38,39,40,41,42,43,44,45] (by kernel_rfl);obtain⟨r19,r59,r29⟩:=H;have m2:=Aa b.ext;simp only[List.foldl_cons,List.foldl_nil]at U;clear b hh;obtain⟨fv,g0⟩:∃f:Nat->Value,∀d,a.tmps.getD d undef=f d:=⟨_,fun _=>rfl⟩
     simp only[g0]at U;clear g0;subst U;simp only[Bv,Bw,By];have r29b:Row w9 (ga+1) 79 #[.int .i64 0,.int .i64 0,.int .i64 lo2,.int .i64 hi2,.int .i64 fi1,.int .i64 sq,.int .i64 (i:Int)]:=r29;have z6:w9.cell? ⟨ga+1,6,none⟩=some (.int .i64 (i:Int)):=r29b.cell 6 rfl;have u6:=r29b.free 6;have p1:=Aa (r19.away (p:=⟨ga+1,6,none⟩) (by simp) (.int .i64 ((i:Int)+1)));have p2:=Aa (r29b.put 6 (.int .i64 ((i:Int)+1)));have p3:=Aa (m2.out.setCell (p:=⟨ga+1,6,none⟩) Y.out (.int .i64 ((i:Int)+1)));clear r29 r29b;replace r19:=Aa r19;clear r59;go_wp2_with fail;exact⟨⟨i+1,lo2,hi2,fi1,sq,by go_num,by omega,x1,p1,p2,p3⟩,by simp only[intOf];omega⟩
  ·obtain rfl:i=m:=by omega
   obtain⟨q1,q2,q3,q4⟩:=j0.out.2 h0;have q5:=q4 xl n0.out;have o1:ds.take i=ds:=List.take_of_length_le (by rw[<-hm.out];exact Nat.le_refl _);rw[o1]at q1 q2;replace q1:=Aa q1;replace q2:=Aa q2;replace q3:=Aa q3;replace q5:=Aa q5;clear o1 q4;have v0:wr.cell? ⟨ga+1,0,none⟩=some (.int .i64 0):=r2.out.cell 0 rfl;have v1:wr.cell? ⟨ga+1,1,none⟩=some (.int .i64 0):=r2.out.cell 1 rfl;have v2:wr.cell? ⟨ga+1,2,none⟩=some (.int .i64 lo):=r2.out.cell 2 rfl;have v3:wr.cell? ⟨ga+1,3,none⟩=some (.int .i64 q0):=r2.out.cell 3 rfl;have v4:wr.cell? ⟨ga+1,4,none⟩=some (.int .i64 fi):=r2.out.cell 4 rfl;have v5:wr.cell? ⟨ga+1,5,none⟩=some (.int .i64 la):=r2.out.cell 5 rfl;have v6:wr.cell? ⟨ga+1,6,none⟩=some (.int .i64 (i:Int)):=r2.out.cell 6 rfl;have u0:=r1.out.free 0;have u1:=r1.out.free 1;have u2:=r1.out.free 2;have u3:=r1.out.free 3;have u4:=r1.out.free 4;have u5:=r1.out.free 5;have u6:=r1.out.free 6;have d0:wr.cell? ⟨ga,0,none⟩=some (.int .i64 0):=r1.out.cell 0 rfl;have d1:wr.cell? ⟨ga,1,none⟩=some (.int .i64 0):=r1.out.cell 1 rfl;have d2:wr.cell? ⟨ga,2,none⟩=some (.int .i64 0):=r1.out.cell 2 rfl;have d3:wr.cell? ⟨ga,3,none⟩=some (.int .i64 0):=r1.out.cell 3 rfl;have d4:wr.cell? ⟨ga,4,none⟩=some (.int .i64 0):=r1.out.cell 4 rfl;have d5:wr.cell? ⟨ga,5,none⟩=some (.int .i64 0):=r1.out.cell 5 rfl;have d6:wr.cell? ⟨ga,6,none⟩=some (.int .i64 0):=r1.out.cell 6 rfl;go_wp2_with fail;have pf:=((((((r1.out.put 0 (.int .i64 0)).put 1 (.int .i64 0)).put 2 (.int .i64 lo)).put 3 (.int .i64 q0)).put 4 (.int .i64 fi)).put 5 (.int .i64 la)).put 6 (.int .i64 (i:Int));have Y:w.heap.size<=ga:=by rw[T.out];exact Nat.le_refl _
   have x2:=((((((hE.out.setCell (p:=⟨ga,0,none⟩) Y (.int .i64 0)).setCell (p:=⟨ga,1,none⟩) Y (.int .i64 0)).setCell (p:=⟨ga,2,none⟩) Y (.int .i64 lo)).setCell (p:=⟨ga,3,none⟩) Y (.int .i64 q0)).setCell (p:=⟨ga,4,none⟩) Y (.int .i64 fi)).setCell (p:=⟨ga,5,none⟩) Y (.int .i64 la)).setCell (p:=⟨ga,6,none⟩) Y (.int .i64 (i:Int));refine bodyPost_ret (results_cell_row rfl _ _ ga 79 #[.int .i64 0,.int .i64 0,.int .i64 lo,.int .i64 q0,.int .i64 fi,.int .i64 la,.int .i64 (i:Int)] (0,0) _ rfl pf underlying79 rfl (by kernel_rfl)) rfl ⟨?_,x2⟩;rw[<-q1.out,<-q2.out,q3.out,q5.out];rfl
end
section
open Go.RowKit Go.Maps
def PutR (w:World) (base:Nat) (A:Option Addr) (L:List UInt8) (e:Ending) (w':World):Prop:=∃(A1:Option Addr) (m c1:Nat),e = .returned (.slice A1 m c1)/\m=L.length/\Buf w' base 5 A1 m c1 (L.map B8)/\Push w A A1 w'
theorem Push.grow (j:w.grownBy w' (Value.slice A n c).ownBlock) (h:A1=A\/A1=some ⟨w.heap.size,0,none⟩):Push w A A1 w':=by
 refine⟨Chg.of_grown j fun k _ hk=>?_,?_⟩
 ·cases A with
  | none=>simp[Value.ownBlock]at hk
  | some b=>exact⟨b,rfl,by simpa [Value.ownBlock]using hk⟩
 ·rcases h with rfl | rfl
  ·exact .inl rfl
  ·exact .inr ⟨_,rfl,Nat.le_refl _⟩
theorem Buf.base {base:Nat} (h:Buf w base e A n c xs):∀a,A=some a->base<=a.block:=fun a j=>by
 obtain⟨_,_,⟨h1,_⟩ | ⟨g,cur,b,hb,_⟩⟩:=h
 ·rw[h1]at j;cases j
 ·rw[b]at j;cases j;exact hb
theorem Hi (A:Option Addr) (n c:Nat) (l:List UInt8) (x:Int) (base:Nat) (w:World) (hn:n=l.length) (hb:Buf w base 5 A n c (l.map B8)) (j:base<=w.heap.size) (hx:0<=x) (g0:x<=9223372036854775807) (p0:n<=1000000000) :
 Calls prog 106 #[.slice A n c,.int .i64 x] w fun e w'=>PutR w base A (l++vb x.toNat) e w':=by
 have b:=Aa (rbytes x.toNat w (by omega));have hw:=Dg (m:=x.toNat) (by omega);have a:((x.toNat:Nat):Int)=x:=Int.toNat_of_nonneg hx;rw[a]at hw;have H:=Ag (n:=x.toNat) (by omega);obtain⟨V,J⟩:=Ab (vb x.toNat);rw[<-J]at b H ⊢;rw[a]at b;replace hn:=Aa hn;replace J:=Aa J;clear a
 go_in
 go_wp2_with fail;refine b.out.mono ?_;rintro e w1 ⟨B,d,rfl,U,h⟩;have O:=hb.ext h;have G:base<=w1.heap.size:=Nat.le_trans j h.size;have I:=U.cells;obtain⟨k,hk⟩:=Ab V.length;rw[<-hk]at H ⊢;have h0:(V.map B8).length=k:=by rw[List.length_map,hk]
 replace hk:=Aa hk;go_wp2_with (at_builtin;refine Al Aw O I (.tmp 5) (.tmp 8) rfl rfl rfl rfl rfl h0 (Ai _) (by omega) G (fun A2 c2 w2 T Z q0 Y=>?_));go_ret;refine⟨A2,n+k,c2,rfl,by rw[List.length_append,<-hn.out,<-hk.out],?_,(Push.of_ext h A).trans (Push.grow Z Y)⟩;rw[List.map_append];exact T
theorem Hj (A:Option Addr) (n c:Nat) (l:List UInt8) (x:Int) (base:Nat) (w:World) (hn:n=l.length) (hb:Buf w base 5 A n c (l.map B8)) (j:base<=w.heap.size) (hx:0<=x) (g0:x<=9223372036854775807) (p0:n<=1000000000) :
 Calls prog 103 #[.slice A n c,.int .i64 x] w fun e w'=>PutR w base A (l++vb x.toNat) e w':=by
 have b:=Aa (rbytes x.toNat w (by omega));have hw:=Dg (m:=x.toNat) (by omega);have a:((x.toNat:Nat):Int)=x:=Int.toNat_of_nonneg hx;rw[a]at hw;have H:=Ag (n:=x.toNat) (by omega);obtain⟨V,J⟩:=Ab (vb x.toNat);rw[<-J]at b H ⊢;rw[a]at b;replace hn:=Aa hn;replace J:=Aa J;clear a
 go_in
 go_wp2_with fail;refine b.out.mono ?_;rintro e w1 ⟨B,d,rfl,U,h⟩;have O:=hb.ext h;have G:base<=w1.heap.size:=Nat.le_trans j h.size;have I:=U.cells;obtain⟨k,hk⟩:=Ab V.length;rw[<-hk]at H ⊢;have h0:(V.map B8).length=k:=by rw[List.length_map,hk]
 replace hk:=Aa hk;go_wp2_with (at_builtin;refine Al Aw O I (.tmp 5) (.tmp 8) rfl rfl rfl rfl rfl h0 (Ai _) (by omega) G (fun A2 c2 w2 T Z q0 Y=>?_));go_ret;refine⟨A2,n+k,c2,rfl,by rw[List.length_append,<-hn.out,<-hk.out],?_,(Push.of_ext h A).trans (Push.grow Z Y)⟩;rw[List.map_append];exact T
theorem Jw {n:Int}:∀ {l:List Int} {lo:Int},risB n lo l=true->∀(i:Nat) (x:Int),l[i]? = some x->lo<x/\x<n/\∀y,0<i->l[i - 1]? = some y->y<x
 | [],lo,_,i,x,b=>by simp at b
 | z::t,lo,h,0,x,b=>by
  obtain rfl:z=x:=by simpa using b
  rw[risB,Bool.and_eq_true,Bool.and_eq_true]at h;exact⟨of_decide_eq_true h.1.1,of_decide_eq_true h.1.2,fun y hi=>absurd hi (Nat.lt_irrefl _)⟩
 | z::t,lo,h,i+1,x,b=>by
  rw[risB,Bool.and_eq_true,Bool.and_eq_true]at h;have h1:=of_decide_eq_true h.1.1;have a:t[i]? = some x:=by simpa using b
  obtain⟨h2,Y,J⟩:=Jw h.2 i x a;refine⟨by omega,Y,fun y _ H=>?_⟩;rw[Nat.add_sub_cancel]at H;cases i with
  | zero =>
   obtain rfl:z=y:=by simpa using H
   exact h2
  | succ j=>exact J y (by omega) (by simpa using H)
end
section
open Go.RowKit
theorem KL (a b:List UInt8) (w:World) (ha:a.length<=1000000000) (hb:b.length<=1000000000) :
 Calls prog 156 #[.string ⟨a.toArray⟩,.string ⟨b.toArray⟩] w fun e w'=>e = .returned (.int .i64 (cpl a b:Int))/\Ext w w':=by
 obtain⟨Z,hZ⟩:=Ab (cpl a b);rw[<-hZ];obtain⟨n,hn⟩:=Ab a.length;obtain⟨m,G⟩:=Ab b.length;have v0:(⟨a.toArray⟩:ByteArray).size=n:=by rw[hn];exact ByteArray.size_mk_toArray a
 have x0:(⟨b.toArray⟩:ByteArray).size=m:=by rw[G];exact ByteArray.size_mk_toArray b
 rw[<-hn]at ha;rw[<-G]at hb;have j0:Z<=n/\Z<=m:=by have:=DC a b;omega
 replace hZ:=Aa hZ;replace hn:=Aa hn;replace G:=Aa G
 go_in
 go_wp2_with fail
 go_loopw [5] (fun s5 wr=>∃i:Nat,s5 = .int .i64 (i:Int)/\i<=n/\i<=m/\Hid (a.take i=b.take i)/\Hid (Ext w wr)) (fun s5 _=>n - (intOf s5).toNat)
 case atStart=>exact⟨0,rfl,by omega,by omega,Aa (by simp),Aa (Ext.refl w)⟩
 case round =>
  obtain⟨i,rfl,p0,him,ht,I⟩:=hrel;have Y:=GD i a b ht.out (by rw[<-hn.out];exact p0) (by rw[<-G.out];exact him);rw[<-hZ.out]at Y;replace Y:=Aa Y;by_cases h1:i<n
  ·by_cases h2:i<m
   ·obtain⟨x,O⟩:∃x,a[i]? = some x:=⟨_,List.getElem?_eq_getElem (by rw[<-hn.out];exact h1)⟩
    obtain⟨y,T⟩:∃y,b[i]? = some y:=⟨_,List.getElem?_eq_getElem (by rw[<-G.out];exact h2)⟩
    have m0:=fun W=>AB O (z:=(i:Int)) rfl W;have t0:=fun W=>AB T (z:=(i:Int)) rfl W;have J:a.drop i=x::a.drop (i+1):=by
     rw[List.drop_eq_getElem_cons (List.getElem?_eq_some_iff.1 O).1,(List.getElem?_eq_some_iff.1 O).2]
    have U:b.drop i=y::b.drop (i+1):=by
     rw[List.drop_eq_getElem_cons (List.getElem?_eq_some_iff.1 T).1,(List.getElem?_eq_some_iff.1 T).2]
    by_cases H:x=y
    ·have q1:((x.toNat:Int)==(y.toNat:Int))=true:=by rw[H];exact beq_self_eq_true _
     have k0:Hid (a.take (i+1)=b.take (i+1)):=Aa (by rw[List.take_add_one,List.take_add_one,O,T,ht.out,H]);replace O:=Aa O;replace T:=Aa T;replace J:=Aa J;replace U:=Aa U;replace H:=Aa H;go_wp2_with fail;refine AE (fun K hK=>?_);go_wp2_with fail;refine⟨by kernel_rfl,?_⟩;go_wp2_with fail;exact⟨⟨i+1,by congr 1,by omega,by omega,k0,Aa I.out.drew⟩,by simp only[intOf];omega⟩
    ·have q1:((x.toNat:Int)==(y.toNat:Int))=false:=beq_eq_false_iff_ne.2 fun h=>H (UInt8.toNat_inj.1 (by omega));have j:Z=i:=by rw[Y.out,J,U,cpl,if_neg H];rfl
     replace O:=Aa O;replace T:=Aa T;replace J:=Aa J;replace U:=Aa U;replace H:=Aa H;replace j:=Aa j;go_wp2_with fail;refine AE (fun K hK=>?_);go_wp2_with fail;refine⟨by kernel_rfl,?_⟩;go_wp2_with fail;go_ret;exact⟨by rw[j.out];rfl,I.out.drew⟩
   ·have j:Z=i:=by have:=Y.out;omega
    replace j:=Aa j;go_wp2_with fail;refine AE (fun K hK=>?_);go_wp2_with fail;refine⟨by kernel_rfl,?_⟩;go_wp2_with fail;go_ret;exact⟨by rw[j.out];rfl,I.out.drew⟩
  ·have j:Z=i:=by have:=Y.out;omega
   replace j:=Aa j;go_wp2_with fail;refine AE (fun K hK=>?_);go_wp2_with fail;refine⟨by kernel_rfl,?_⟩;go_wp2_with fail;go_ret;exact⟨by rw[j.out];rfl,I.out.drew⟩
theorem Mm (n:Nat) (w:World) (hn:n<=67108864):Calls prog 155 #[.int .i64 (n:Int)] w fun e w'=>e = .returned (.bool true)/\w'=w:=by
 have q1:decide ((n:Int)<=67108864)=true:=decide_eq_true (by omega);have q2:decide ((0:Int)<=n)=true:=decide_eq_true (by omega)
 go_in
 go_wp2_with fail;go_ret;exact⟨rfl,rfl⟩
theorem KJ (n:Nat) (w:World) (hn:n<=1000000000):Calls prog 109 #[.int .i64 (n:Int)] w fun e w'=>NewB w (vb n) e w':=by
 have h:=Aa (rbytes n w (by omega));have b:=Dg (m:=n) (by omega)
 go_in
 go_wp2_with fail;refine h.out.mono ?_;rintro e w1 ⟨A,c,rfl,hb,j⟩;go_wp2_with fail;go_ret;exact⟨A,c,rfl,hb,j⟩
theorem PR (l:List En) (A:Option Addr) (n c:Nat) (w:World) (hn:n=l.length) (h:Cells w A (encells l)) (T:OkEs l) :
 Calls prog 108 #[.slice A n c] w fun e w'=>e = .returned (.bool true)/\Ext w w':=by
 have r0:n<=262144:=by rw[hn];exact T.few
 have i0:=Aa (List.pairwise_iff_getElem.1 T.up);have h0:=Aa (fun n W (hn:n<=67108864)=>Mm n W hn);have q0:decide ((262144:Int)<n)=false:=decide_eq_false (by omega);have I:=Aa T.each;replace hn:=Aa hn;replace h:=Aa h;clear T
 go_in
 go_wp2_with fail
 go_loopw [3] (fun s3 wr=>∃i:Nat,s3 = .int .i64 (i:Int)/\i<=n/\Hid (Ext w wr)) (fun s3 _=>n - (intOf s3).toNat)
 case atStart=>exact⟨0,rfl,by omega,Aa (Ext.refl _)⟩
 case round =>
  obtain⟨i,rfl,hi,hE⟩:=hrel;by_cases d0:i<n
  ·obtain⟨x,G⟩:∃x,l[i]? = some x:=⟨_,List.getElem?_eq_getElem (by rw[<-hn.out];exact d0)⟩
   obtain⟨g,o,hA,x0,x1,x2,x3⟩:=AX (h.out.ext hE.out) G;obtain⟨⟨b1,b2,b3,b4⟩,g0⟩:=I.out x (List.mem_of_getElem? G);have k0:=(List.getElem?_eq_some_iff.1 G)
   have J:∀j,i=j+1->∃y,l[j]? = some y/\y.t<x.t:=fun j hj=>by
    have j0:j<l.length:=by rw[<-hn.out];omega
    refine⟨l[j],List.getElem?_eq_getElem j0,?_⟩;have h1:=i0.out j i j0 k0.1 (by omega);rw[k0.2]at h1;exact h1
   have Z:∀j,i=j+1->∃yt:List UInt8,(∀W,Ext wr W->W.cell? ⟨g,o+j*4,none⟩=some (.string ⟨yt.toArray⟩))/\Op.bytesLess yt x.t=true:=fun j hj=>by
    obtain⟨y,hy,e0⟩:=J j hj;refine⟨y.t,fun W c0=>?_,by rw[Bm];exact decide_eq_true e0⟩;obtain⟨g2,o2,U,y0,_⟩:=AX (h.out.ext (hE.out.trans c0)) hy;rw[hA]at U;injection U with U;injection U with e1 e2;subst e1 e2;exact y0
   have m0:1<=x.t.length:=List.length_pos_iff.2 g0;obtain⟨t,off,len,nn⟩:=x;simp only at x0 x1 x2 x3 b1 b2 b3 b4 Z m0;have f0:(⟨t.toArray⟩:ByteArray).size=t.length:=ByteArray.size_mk_toArray t;obtain⟨tl,p0⟩:=Ab t.length;rw[<-p0]at f0 b1 m0;have r1:decide ((tl:Int)<1)=false:=decide_eq_false (by omega);have r2:decide ((65:Int)<tl)=false:=decide_eq_false (by omega);obtain⟨W5,a⟩:=Ab (wr.alloc (.cells #[.string ⟨t.toArray⟩,.int .i64 (off:Int),.int .i64 (len:Int),.int .i64 (nn:Int)] 100));obtain⟨g5,Y⟩:=Ab wr.heap.size;have H:Row W5 g5 100 #[.string ⟨t.toArray⟩,.int .i64 (off:Int),.int .i64 (len:Int),.int .i64 (nn:Int)]:=by rw[a,Y];exact Row.new wr _ _
   have b:Ext wr W5:=by rw[a];exact(Ext.refl wr).alloc _
   have O:=hE.out.trans b;have y0:W5.cell? ⟨g5,0,none⟩=some (.string ⟨t.toArray⟩):=H.cell 0 rfl;have y1:W5.cell? ⟨g5,1,none⟩=some (.int .i64 (off:Int)):=H.cell 1 rfl;have y2:W5.cell? ⟨g5,2,none⟩=some (.int .i64 (len:Int)):=H.cell 2 rfl;have y3:W5.cell? ⟨g5,3,none⟩=some (.int .i64 (nn:Int)):=H.cell 3 rfl;have c1:=Aa (h0.out off W5.drew b2);have c2:=Aa (h0.out len W5.drew b3);have c3:=Aa (h0.out nn W5.drew b4);subst hA;replace H:=Aa H;replace O:=Aa O;replace a:=Aa a;replace Y:=Aa Y;replace p0:=Aa p0;clear G k0 J g0;cases i with
   | succ j =>
    obtain⟨yt,t0,k1⟩:=Z j rfl;have z0:=t0 W5 b;clear Z t0 b;go_upto_region 7 with fail;rw[<-a.out,<-Y.out];refine AE (fun K hK=>?_);go_wp2_with fail;refine c1.out.mono ?_;rintro e w6 ⟨rfl,rfl⟩;go_wp2_with fail;refine c2.out.mono ?_;rintro e w7 ⟨rfl,rfl⟩;go_wp2_with fail;refine c3.out.mono ?_;rintro e w8 ⟨rfl,rfl⟩;go_wp2_with fail;refine⟨by kernel_rfl,?_⟩;go_wp2_with fail;go_roundw
    case rel=>exact⟨j+1+1,by go_num,by omega,Aa O.out.drew⟩
    case measure=>simp only[intOf];omega
   | zero =>
    clear Z b;simp only[Nat.zero_mul,Nat.add_zero]at x0 x1 x2 x3;go_upto_region 7 with fail;rw[<-a.out,<-Y.out];refine AE (fun K hK=>?_);go_wp2_with fail;refine c1.out.mono ?_;rintro e w6 ⟨rfl,rfl⟩;go_wp2_with fail;refine c2.out.mono ?_;rintro e w7 ⟨rfl,rfl⟩;go_wp2_with fail;refine c3.out.mono ?_;rintro e w8 ⟨rfl,rfl⟩;go_wp2_with fail;refine⟨by kernel_rfl,?_⟩;go_wp2_with fail;go_roundw
    case rel=>exact⟨1,by go_num,by omega,Aa O.out.drew⟩
    case measure=>simp only[intOf];omega
  ·obtain rfl:i=n:=by omega
   go_wp2_with fail;go_ret;exact⟨rfl,hE.out⟩
theorem M0 (w:World) (g o n c i:Nat) (hi:i<n):(Instr.indexAt 97 (.slice (some ⟨g,o,none⟩) n c) (.int .i64 (i:Int))).run prog w = .ok (.pointer (some ⟨g,o+i*4,none⟩)) w:=by
 have h1:(i:Int)<n:=by omega
 go_simp
theorem MW (w:World) (g o:Nat):(Instr.fieldAt 100 (.pointer (some ⟨g,o,none⟩)) 0).run prog w = .ok (.pointer (some ⟨g,o,none⟩)) w/\(Instr.fieldAt 100 (.pointer (some ⟨g,o,none⟩)) 1).run prog w = .ok (.pointer (some ⟨g,o+1,none⟩)) w/\(Instr.fieldAt 100 (.pointer (some ⟨g,o,none⟩)) 2).run prog w = .ok (.pointer (some ⟨g,o+2,none⟩)) w/\(Instr.fieldAt 100 (.pointer (some ⟨g,o,none⟩)) 3).run prog w = .ok (.pointer (some ⟨g,o+3,none⟩)) w:=by
 refine⟨?_,?_,?_,?_⟩ <;> go_simp
theorem RJ {b k:Nat} (h:w.cell? ⟨b,k,none⟩=some v):(Instr.loadAt 9 (.pointer (some ⟨b,k,none⟩))).run prog w = .ok v w:=by
 go_simp
end
section
open Go.RowKit Go.Maps
theorem IW (ds:List DocC) (A:Option Addr) (n c:Nat) (w:World) (hn:n=ds.length) (h:DocsOk w A ds) (f0:n<=1000000000) :
 Calls prog 102 #[.slice A n c] w fun e w'=>e = .returned (.bool (okDs (dcs ds)))/\Ext w w':=by
 obtain⟨Z,Y⟩:=Ab (okDs (dcs ds));rw[<-Y];have hlen:(dcs ds).length=n:=by unfold dcs;rw[List.length_map,hn]
 unfold okDs at Y;rw[hlen]at Y;by_cases x0:65536<n
 ·rw[decide_eq_false (by omega),Bool.false_and]at Y;subst Y;clear hlen;replace hn:=Aa hn
  go_in
  go_wp2_with fail;go_ret;exact⟨rfl,Ext.refl _⟩
 ·rw[decide_eq_true (by omega),Bool.true_and]at Y;have H:Z=ckD 0 ((dcs ds).drop 0):=Y;have k0:=Aa (fun(e:Ev) B d W h=>Gd e B d W h);replace H:=Aa H;replace hn:=Aa hn;replace h:=Aa h;replace hlen:=Aa hlen;clear Y
  go_in
  go_wp2_with fail
  go_loopw [3,4] (fun s3 s4 wr=>∃(i:Nat) (la:Int),s3 = .int .i64 la/\s4 = .int .i64 (i:Int)/\i<=n/\0<=la/\la<=1099511627776/\Hid (Z=ckD la ((dcs ds).drop i))/\Hid (Ext w wr)) (fun _ s4 _=>n - (intOf s4).toNat)
  case atStart=>exact⟨0,0,rfl,rfl,by omega,by omega,by omega,H,Aa (Ext.refl _)⟩
  case round =>
   clear H;obtain⟨i,la,rfl,rfl,hi,y0,c0,hz,U⟩:=hrel;by_cases j0:i<n
   ·obtain⟨x,hx⟩:∃x,ds[i]? = some x:=⟨_,List.getElem?_eq_getElem (by rw[<-hn.out];exact j0)⟩
    obtain⟨g,o,hA,l0,l1,l2⟩:=AR (h.out.cells.ext U.out) hx;obtain⟨T,_,m0⟩:=h.out.each x (List.mem_of_getElem? hx);have I:(dcs ds)[i]? = some x.dc:=by unfold dcs;rw[List.getElem?_map,hx];rfl
    have j:=hz.out;obtain⟨hi2,J⟩:=List.getElem?_eq_some_iff.1 I;rw[List.drop_eq_getElem_cons hi2,J,JW]at j;obtain⟨sq,⟨at_,fs⟩,xA,xc⟩:=x;unfold DocC.dc at j;simp only at l0 l1 l2 T m0 j;have b:=k0.out ⟨at_,fs⟩ xA xc wr (T.ext U.out);unfold Ev.val at b;simp only at b;obtain⟨fl,O⟩:=Ab fs.length;obtain⟨q,hq⟩:=Ab (checkE fs);rw[<-O]at b l2;rw[<-hq]at b j;subst hA;replace b:=Aa b;replace O:=Aa O;replace hq:=Aa hq;clear hx I J T hz;by_cases h1:la<sq
    ·rw[decide_eq_true h1,Bool.true_and]at j;have q1:decide (sq<=la)=false:=decide_eq_false (by omega);by_cases h2:sq<1099511627777
     ·rw[decide_eq_true h2,Bool.true_and]at j;have q2:decide (1099511627776<sq)=false:=decide_eq_false (by omega);by_cases h3:q=0
      ·rw[decide_eq_true h3,Bool.true_and]at j;replace j:=Aa j;have d0:=Aa h3;subst h3;go_wp2_with fail;refine b.out.mono ?_;rintro e w2 ⟨rfl,a⟩;have l0:=a.cell l0;have p0:=Aa (U.out.trans a);clear l1 l2;go_wp2_with fail;go_roundw
       case rel=>exact⟨i+1,sq,rfl,by go_num,by omega,by omega,by omega,j,p0⟩
       case measure=>simp only[intOf];omega
      ·rw[decide_eq_false h3,Bool.false_and]at j;have q3:((q:Int) != 0)=true:=by simp;omega
       subst j;go_wp2_with fail;refine b.out.mono ?_;rintro e w2 ⟨rfl,a⟩;go_wp2_with fail;go_ret;exact⟨rfl,U.out.trans a⟩
     ·rw[decide_eq_false h2]at j;simp only[Bool.false_and]at j;have q2:decide (1099511627776<sq)=true:=decide_eq_true (by omega);subst j;go_wp2_with fail;go_ret;exact⟨rfl,U.out⟩
    ·rw[decide_eq_false h1]at j;simp only[Bool.false_and]at j;have q1:decide (sq<=la)=true:=decide_eq_true (by omega);subst j;go_wp2_with fail;go_ret;exact⟨rfl,U.out⟩
   ·have G:=hz.out;rw[List.drop_of_length_le (by rw[hlen.out];omega)]at G;have v0:Z=true:=G;subst v0;clear G;go_wp2_with fail;go_ret;exact⟨rfl,U.out⟩
end
section
open Go.RowKit Go.Maps
theorem PY (x:PoC) (w:World) (hc:Cells w x.A (x.pos.map IV)) (hd:0<=x.doc) (p0:x.doc<65536) (J:okPo x.po=true) :
 Calls prog 154 #[.agg #[.int .i64 x.doc,.slice x.A x.pos.length x.c]] w fun e w'=>e = .returned (.bool true)/\Ext w w':=by
 obtain⟨doc,pos,A,c⟩:=x;unfold PoC.po okPo at J;rw[Bool.and_eq_true]at J;simp only at hc hd p0 J ⊢;obtain⟨O,Y⟩:=J;have O:=of_decide_eq_true O;have G:=DU Y (by omega);have q0:=Aa (fun i x (h:pos[i]? = some x)=>Jw Y i x h);obtain⟨n,hn⟩:=Ab pos.length;rw[<-hn]at O G ⊢;have x0:n<=1048577:=by omega
 have b:Ext w (w.alloc (.cells #[.int .i64 doc,.slice A n c] 89)):=(Ext.refl w).alloc _;have H:Row (w.alloc (.cells #[.int .i64 doc,.slice A n c] 89)) w.heap.size 89 #[.int .i64 doc,.slice A n c]:=Row.new w _ _;have q1:decide (doc<0)=false:=decide_eq_false (by omega);have q2:decide (65535<doc)=false:=decide_eq_false (by omega);have q3:((n:Int)==0)=false:=by simp;omega
 replace hn:=Aa hn;replace hc:=Aa hc;clear Y G
 go_in
 go_wp2_with fail;obtain⟨W1,U⟩:=Ab (w.alloc (.cells #[.int .i64 doc,.slice A n c] 89));rw[<-U]at b H ⊢;obtain⟨g,hg⟩:=Ab w.heap.size;rw[<-hg]at H ⊢;replace U:=Aa U;replace H:=Aa H;replace hg:=Aa hg;replace b:=Aa b
 go_loopw [3] (fun s3 wr=>∃i:Nat,s3 = .int .i64 (i:Int)/\i<=n/\Hid (Ext W1 wr)) (fun s3 _=>n - (intOf s3).toNat)
 case atStart=>exact⟨0,rfl,by omega,Aa (Ext.refl _)⟩
 case round =>
  obtain⟨i,rfl,hi,Z⟩:=hrel;have y1:wr.cell? ⟨g,1,none⟩=some (.slice A n c):=(H.out.ext Z.out).cell 1 rfl;by_cases g0:i<n
  ·obtain⟨x,I⟩:∃x,pos[i]? = some x:=⟨_,List.getElem?_eq_getElem (by rw[<-hn.out];exact g0)⟩
   obtain⟨y0,c0,T⟩:=q0.out i x I;obtain⟨ga,oa,hA,a⟩:=(hc.out.ext (b.out.trans Z.out)).at_ (by rw[List.length_map,<-hn.out];omega);have r1:decide (x<0)=false:=decide_eq_false (by omega);have r2:decide (1048575<x)=false:=decide_eq_false (by omega);subst hA;cases i with
   | succ j =>
    have k0:wr.cell? ⟨ga,oa+(j+1),none⟩=some (.int .i64 x):=a (j+1) _ (by rw[List.getElem?_map,I];rfl);obtain⟨y,hy⟩:∃y,pos[j]? = some y:=⟨_,List.getElem?_eq_getElem (by rw[<-hn.out];omega)⟩
    have d0:=T y (by omega) hy;have k1:wr.cell? ⟨ga,oa+j,none⟩=some (.int .i64 y):=a j _ (by rw[List.getElem?_map,hy];rfl);have r3:decide (x<=y)=false:=decide_eq_false (by omega);clear T a I hy;go_wp2_with fail;refine AE (fun K hK=>?_);go_wp2_with fail;refine⟨by kernel_rfl,?_⟩;go_wp2_with fail;go_roundw
    case rel=>exact⟨j+1+1,by go_num,by omega,Aa (Z.out.trans (Ext.refl _).drew)⟩
    case measure=>simp only[intOf];omega
   | zero =>
    have k0:wr.cell? ⟨ga,oa,none⟩=some (.int .i64 x):=a 0 _ (by rw[List.getElem?_map,I];rfl);clear T a I;go_wp2_with fail;refine AE (fun K hK=>?_);go_wp2_with fail;refine⟨by kernel_rfl,?_⟩;go_wp2_with fail;go_roundw
    case rel=>exact⟨1,by go_num,by omega,Aa (Z.out.trans (Ext.refl _).drew)⟩
    case measure=>simp only[intOf];omega
  ·go_wp2_with fail;go_ret;exact⟨rfl,b.out.trans Z.out⟩
theorem Oi (ps:List PoC) (A:Option Addr) (n c:Nat) (w:World) (hn:n=ps.length) (h:PosOk w A ps) (T:okPs (psP ps)=true) (q2:n<=1000000000) :
 Calls prog 105 #[.slice A n c] w fun e w'=>e = .returned (.bool true)/\Ext w w':=by
 rw[Ed,Bool.and_eq_true]at T;have e0:=Aa (fun i x (h:((psP ps).map (·.1))[i]? = some x)=>Jw T.1 i x h);have k0:=Aa (List.all_eq_true.1 T.2);have g0:=Aa (fun(x:PoC) W (hc:Cells W x.A (x.pos.map IV)) h1 h2 h3=>PY x W hc h1 h2 h3);replace hn:=Aa hn;replace h:=Aa h;clear T
 go_in
 go_wp2_with fail
 go_loopw [3] (fun s3 wr=>∃i:Nat,s3 = .int .i64 (i:Int)/\i<=n/\Hid (Ext w wr)) (fun s3 _=>n - (intOf s3).toNat)
 case atStart=>exact⟨0,rfl,by omega,Aa (Ext.refl _)⟩
 case round =>
  obtain⟨i,rfl,hi,a⟩:=hrel;by_cases i0:i<n
  ·obtain⟨x,hx⟩:∃x,ps[i]? = some x:=⟨_,List.getElem?_eq_getElem (by rw[<-hn.out];exact i0)⟩
   have G:=List.mem_of_getElem? hx;obtain⟨o0,v0,Z⟩:=e0.out i x.doc (by unfold psP;rw[List.map_map,List.getElem?_map,hx];rfl);have p0:=k0.out x.po (List.mem_map.2 ⟨x,G,rfl⟩);obtain⟨q0,_⟩:=h.out.each x G;obtain⟨g,o,hA,l0,l1⟩:=Bc (h.out.cells.ext a.out) hx;have h1:=fun W (a:Ext w W)=>g0.out x W (q0.ext a) (by omega) v0 p0;obtain⟨k,hk⟩:=Ab x.pos.length;obtain⟨d1,O⟩:=Ab x.doc;obtain⟨B,hB⟩:=Ab x.A;obtain⟨d,hd⟩:=Ab x.c;rw[<-hk,<-O,<-hB,<-hd]at h1;rw[<-O]at l0 o0 v0 Z;rw[<-hk,<-hB,<-hd]at l1;subst hA;cases i with
   | succ j =>
    obtain⟨y,hy⟩:∃y,ps[j]? = some y:=⟨_,List.getElem?_eq_getElem (by rw[<-hn.out];omega)⟩
    have x0:=Z y.doc (by omega) (by unfold psP;rw[List.map_map,List.getElem?_map,Nat.add_sub_cancel,hy];rfl);obtain⟨g2,o2,I,m0,_⟩:=Bc (h.out.cells.ext a.out) hy;injection I with I;injection I with e1 e2;subst e1 e2;obtain⟨d0,j0⟩:=Ab y.doc;rw[<-j0]at m0 x0;have r3:decide (d1<=d0)=false:=decide_eq_false (by omega);have Y:∀x,(x.cell? ⟨g,o+(j+1)*2,none⟩=some (.int .i64 d1)/\x.cell? ⟨g,o+(j+1)*2+1,none⟩=some (.slice B k d)/\x.cell? ⟨g,o+j*2,none⟩=some (.int .i64 d0)/\Ext w x)->Calls prog 154 #[.agg #[.int .i64 d1,.slice B k d]] x fun e y=>e = .returned (.bool true)/\(y.cell? ⟨g,o+(j+1)*2,none⟩=some (.int .i64 d1)/\y.cell? ⟨g,o+(j+1)*2+1,none⟩=some (.slice B k d)/\y.cell? ⟨g,o+j*2,none⟩=some (.int .i64 d0)/\Ext w y):=fun x ⟨a0,a1,a2,a⟩ =>
     (h1 x a).mono fun e y ⟨he,b⟩=>⟨he,b.cell a0,b.cell a1,b.cell a2,a.trans b⟩
    have m1:(0:Int)<=j:=by omega
    have n0:(j:Int)<n:=by omega
    have x1:(0:Int)<=(j:Int)+1:=by omega
    have y1:(j:Int)+1<n:=by omega
    have f1:(0:Int)<(j:Int)+1:=by omega
    have i1:(j:Int)+1 - 1=j:=by omega
    have o1:IntKind.i64.wrap (j:Int)=(j:Int):=BP (by omega) (by omega);have U:wr.cell? ⟨g,o+(j+1)*2,none⟩=some (.int .i64 d1)/\wr.cell? ⟨g,o+(j+1)*2+1,none⟩=some (.slice B k d)/\wr.cell? ⟨g,o+j*2,none⟩=some (.int .i64 d0)/\Ext w wr:=⟨l0,l1,m0,a.out⟩
    have H:wr.drew.cell? ⟨g,o+(j+1)*2,none⟩=some (.int .i64 d1)/\wr.drew.cell? ⟨g,o+(j+1)*2+1,none⟩=some (.slice B k d)/\wr.drew.cell? ⟨g,o+j*2,none⟩=some (.int .i64 d0)/\Ext w wr.drew:=⟨l0,l1,m0,a.out.drew⟩
    have J:∀x,(x.cell? ⟨g,o+(j+1)*2,none⟩=some (.int .i64 d1)/\x.cell? ⟨g,o+(j+1)*2+1,none⟩=some (.slice B k d)/\x.cell? ⟨g,o+j*2,none⟩=some (.int .i64 d0)/\Ext w x)->Ext w x:=fun x h=>h.2.2.2;replace Y:=Aa Y;replace U:=Aa U;replace H:=Aa H;replace J:=Aa J;clear hx hy G p0 q0 h1 hk O hB hd j0 Z x0;go_wp2_with fail
    go_region_held3 (fun x=>x.cell? ⟨g,o+(j+1)*2,none⟩=some (.int .i64 d1)/\x.cell? ⟨g,o+(j+1)*2+1,none⟩=some (.slice B k d)/\x.cell? ⟨g,o+j*2,none⟩=some (.int .i64 d0)/\Ext w x) (first | exact H.out | exact U.out | exact ‹_›) (first | (go_at_call 154;refine(Y.out _ ‹_›).mono ?_;rintro e w3 ⟨rfl,c0⟩))
    go_wp2_with fail;have h0:=Aa (J.out _ ‹_›);go_roundw
    case rel=>exact⟨j+1+1,by go_num,by omega,h0⟩
    case measure=>simp only[intOf];omega
   | zero =>
    rw[Nat.zero_mul,Nat.add_zero]at l0 l1;have Y:∀x,(x.cell? ⟨g,o,none⟩=some (.int .i64 d1)/\x.cell? ⟨g,o+1,none⟩=some (.slice B k d)/\Ext w x)->Calls prog 154 #[.agg #[.int .i64 d1,.slice B k d]] x fun e y=>e = .returned (.bool true)/\(y.cell? ⟨g,o,none⟩=some (.int .i64 d1)/\y.cell? ⟨g,o+1,none⟩=some (.slice B k d)/\Ext w y):=fun x ⟨a0,a1,a⟩ =>
     (h1 x a).mono fun e y ⟨he,b⟩=>⟨he,b.cell a0,b.cell a1,a.trans b⟩
    have n0:(0:Int)<n:=by omega
    have U:wr.cell? ⟨g,o,none⟩=some (.int .i64 d1)/\wr.cell? ⟨g,o+1,none⟩=some (.slice B k d)/\Ext w wr:=⟨l0,l1,a.out⟩
    have H:wr.drew.cell? ⟨g,o,none⟩=some (.int .i64 d1)/\wr.drew.cell? ⟨g,o+1,none⟩=some (.slice B k d)/\Ext w wr.drew:=⟨l0,l1,a.out.drew⟩
    have J:∀x,(x.cell? ⟨g,o,none⟩=some (.int .i64 d1)/\x.cell? ⟨g,o+1,none⟩=some (.slice B k d)/\Ext w x)->Ext w x:=fun x h=>h.2.2;replace Y:=Aa Y;replace U:=Aa U;replace H:=Aa H;replace J:=Aa J;clear hx G p0 q0 h1 hk O hB hd Z;go_wp2_with fail;refine AE (fun K hK=>?_);go_wp2_with fail;refine(Y.out _ H.out).mono ?_;rintro e w3 ⟨rfl,c0⟩;go_wp2_with fail;refine⟨by kernel_rfl,?_⟩;go_wp2_with fail;have h0:=Aa (J.out _ ‹_›);go_roundw
    case rel=>exact⟨1,by go_num,by omega,h0⟩
    case measure=>simp only[intOf];omega
  ·go_wp2_with fail;go_ret;exact⟨rfl,a.out⟩
end
section
open Go.RowKit Go.Maps
theorem FG (z lo:Int) (t:List Int):(z::t).getLast?.getD lo=t.getLast?.getD z:=by
 cases t with
 | nil=>rfl
 | cons y u =>
  rw[List.getLast?_cons_cons];cases h:(y::u).getLast? with
  | none=>simp at h
  | some v=>rfl
theorem Ef {n:Int}:∀ {l:List Int} {lo:Int},risB n lo l=true->∀(k:Nat) (x:Int),l[k]? = some x->(l.take k).getLast?.getD lo<x/\lo<=(l.take k).getLast?.getD lo/\x<n
 | [],lo,_,k,x,j=>by simp at j
 | z::t,lo,h,0,x,j=>by
  obtain rfl:z=x:=by simpa using j
  rw[risB,Bool.and_eq_true,Bool.and_eq_true]at h;exact⟨of_decide_eq_true h.1.1,Int.le_refl _,of_decide_eq_true h.1.2⟩
 | z::t,lo,h,k+1,x,j=>by
  rw[risB,Bool.and_eq_true,Bool.and_eq_true]at h;have h1:=of_decide_eq_true h.1.1;obtain⟨h2,a,b⟩:=Ef h.2 k x (by simpa using j);rw[List.take_succ_cons,FG];exact⟨h2,by omega,b⟩
theorem Ec {l:List Int} {x lo:Int} (h:l[k]? = some x):(l.take (k+1)).getLast?.getD lo=x:=by
 rw[List.take_add_one,h,List.getLast?_append];rfl
theorem Gk {l:List Int} {x:Int} (h:l[k]? = some x) (lo:Int):stepsL lo (l.take (k+1))=stepsL lo (l.take k)++vb (x - (l.take k).getLast?.getD lo - 1).toNat:=by
 rw[List.take_add_one,h];exact HC _ x lo
theorem CS:∀(P:List Po) (lo:Int),lastPo lo P=(P.map (·.1)).getLast?.getD lo
 | [],lo=>rfl
 | p::t,lo=>by
  rw[List.map_cons,FG];exact CS t p.1
theorem Jf {P:List Po} {p:Po} (h:P[k]? = some p) (lo:Int):blockPo lo (P.take (k+1))=blockPo lo (P.take k)++onePo (lastPo lo (P.take k)) p:=by
 rw[List.take_add_one,h,Be];show _++(onePo _ p ++ [])=_;rw[List.append_nil]
theorem Lh (P:List Po) (k:Nat) (lo:Int):(blockPo lo (P.take k)).length<=(blockPo lo P).length:=by
 conv=>rhs;rw[<-List.take_append_drop k P,Be,List.length_append]
 omega
theorem OI (l:List Int) (k:Nat) (lo:Int):(stepsL lo (l.take k)).length<=(stepsL lo l).length:=by
 rcases Nat.lt_or_ge k l.length with h | h
 ·have key:∀(d j:Nat),j+d=l.length->(stepsL lo (l.take j)).length<=(stepsL lo l).length:=by
   intro d
   induction d with
   | zero=>intro j b;rw[List.take_of_length_le (by omega)];exact Nat.le_refl _
   | succ d ih =>
    intro j b;have h1:=ih (j+1) (by omega);obtain⟨x,a⟩:∃x,l[j]? = some x:=⟨_,List.getElem?_eq_getElem (by omega)⟩
    rw[Gk a,List.length_append]at h1;omega
  exact key (l.length - k) k (by omega)
 ·rw[List.take_of_length_le h];exact Nat.le_refl _
theorem Jt (ps:List PoC) (A:Option Addr) (n c:Nat) (lo:Int) (w:World) (hn:n=ps.length) (h:PosOk w A ps) (r3 : -1<=lo) (i2:lo<65536) (d0:risB 65536 lo ((psP ps).map (·.1))=true) (J:∀p∈psP ps,okPo p=true) (j3:(blockPo lo (psP ps)).length<=50000000) (b4:n<=1000000000) :
 Calls prog 107 #[.slice A n c,.int .i64 lo] w fun e w'=>NewB w (blockPo lo (psP ps)) e w':=by
 obtain⟨P,hP⟩:=Ab (psP ps);rw[<-hP]at d0 J j3 ⊢;have c0:=Aa (fun A n c l x base W (hn:n=l.length) (hb:Buf W base 5 A n c (l.map B8)) (h2:base<=W.heap.size) (hx:0<=x) (j4:x<=9223372036854775807) (o3:n<=1000000000)=>Hi A n c l x base W hn hb h2 hx j4 o3);have q4:=Aa (fun k x (h:(P.map (·.1))[k]? = some x)=>Ef d0 k x h);have p4:=Aa (fun k=>Nat.le_trans (Lh P k lo) j3);replace hn:=Aa hn;replace h:=Aa h;replace hP:=Aa hP;replace J:=Aa J;clear d0
 go_in
 go_wp2_with fail
 go_loopw [1,5,6] (fun s1 s5 s6 wr=>∃(i m d:Nat) (B:Option Addr) (a:Int),s1 = .int .i64 a/\s5 = .slice B m d/\s6 = .int .i64 (i:Int)/\i<=n /\ -1<=a/\a<65536/\m<=50000000/\Hid (a=lastPo lo (P.take i))/\Hid (m=(blockPo lo (P.take i)).length)/\Hid (Buf wr w.heap.size 5 B m d ((blockPo lo (P.take i)).map B8))/\Hid (Ext w wr)) (fun _ _ s6 _=>n - (intOf s6).toNat)
 case atStart=>exact⟨0,0,0,none,lo,rfl,rfl,rfl,by omega,r3,i2,by omega,Aa rfl,Aa rfl,Aa (Buf.nil _ _ _),Aa (Ext.refl _)⟩
 case round =>
  obtain⟨i,m,d,B,a,rfl,rfl,rfl,hi,z4,a4,k3,ha,Z,hb,H⟩:=hrel;by_cases f3:i<n
  ·obtain⟨x,hx⟩:∃x,ps[i]? = some x:=⟨_,List.getElem?_eq_getElem (by rw[<-hn.out];exact f3)⟩
   have f0:P[i]? = some x.po:=by rw[hP.out];unfold psP;rw[List.getElem?_map,hx];rfl
   have y3:=q4.out i x.doc (by rw[List.getElem?_map,f0];rfl);rw[<-List.map_take,<-CS,<-ha.out]at y3;obtain⟨k4,_,x3⟩:=y3;obtain⟨j1,f1⟩:=h.out.each x (List.mem_of_getElem? hx);have T:=J.out _ (List.mem_of_getElem? f0);obtain⟨g,o,hA,b⟩:∃g o,A=some ⟨g,o,none⟩/\∀W,Ext w W->W.cell? ⟨g,o+i*2,none⟩=some (.int .i64 x.doc)/\W.cell? ⟨g,o+i*2+1,none⟩=some (.slice x.A x.pos.length x.c):=by
    obtain⟨g,o,hA,_,_⟩:=Bc h.out.cells hx;refine⟨g,o,hA,fun W H=>?_⟩;obtain⟨g2,o2,i0,l0,l1⟩:=Bc (h.out.cells.ext H) hx;rw[hA]at i0;injection i0 with i0;injection i0 with e1 e2;subst e1 e2;exact⟨l0,l1⟩
   have j:=Jf f0 lo;rw[<-ha.out]at j;have t3:=p4.out (i+1);have h1:lastPo lo (P.take (i+1))=x.doc:=by
    rw[CS,List.map_take];exact Ec (by rw[List.getElem?_map,f0];rfl)
   obtain⟨doc,pos,xA,xc⟩:=x;unfold okPo at T;unfold PoC.po at j T;unfold onePo at j;rw[Bool.and_eq_true]at T;simp only at k4 x3 j1 f1 b h1 j T;have i3:=Aa (fun k x (h:pos[k]? = some x)=>Ef T.2 k x h);obtain⟨L0,y2⟩:=Ab (blockPo lo (P.take i));obtain⟨LT,r0⟩:=Ab (blockPo lo (P.take (i+1)));obtain⟨np,O⟩:=Ab pos.length;rw[<-y2]at hb Z j;rw[<-r0]at j t3;rw[<-O]at b j f1;have p0:LT.length=L0.length+((vb (doc - a - 1).toNat).length+(vb np).length+(stepsL (-1) pos).length):=by rw[j];simp only[List.length_append]
   have e0:=OI pos;obtain⟨l0,l1⟩:=b wr H.out;have v4:(0:Int)<=doc - a - 1:=by omega
   have k1:=c0.out B m d L0 (doc - a - 1) w.heap.size wr Z.out hb.out H.out.size v4 (by omega) (by omega);have Y:=Z.out;subst hA;replace b:=Aa b;replace k1:=Aa k1;replace j1:=Aa j1;replace j:=Aa j;replace O:=Aa O;replace r0:=Aa r0;replace h1:=Aa h1;replace e0:=Aa e0;replace p0:=Aa p0;replace Y:=Aa Y;clear hx f0 T y2 ha Z;go_wp2_with fail;refine k1.out.mono ?_;rintro e w1 ⟨B1,m1,d1,rfl,v0,I,x1⟩;have n0:=Aa (x1.ext H.out hb.out.base);obtain⟨l0,l1⟩:=b.out w1 n0.out;have h3:m1<=50000000:=by have:=p0.out;have:=Y.out;rw[v0,List.length_append];omega
   have x0:=c0.out B1 m1 d1 _ (np:Int) w.heap.size w1 v0 I n0.out.size (by omega) (by omega) (by omega);rw[Int.toNat_natCast]at x0;replace x0:=Aa x0;replace I:=Aa I;replace v0:=Aa v0;clear x1 k1;go_wp2_with fail;refine x0.out.mono ?_;rintro e w2 ⟨B2,m2,d2,rfl,U,h0,y1⟩;have x2:=Aa (y1.ext n0.out I.out.base);have q3:m2<=50000000:=by have:=p0.out;have:=Y.out;rw[U];simp only[List.length_append];omega
   obtain⟨L2,o0⟩:=Ab (L0++vb (doc - a - 1).toNat++vb np);rw[<-o0]at U h0;have k0:LT.length=L2.length+(stepsL (-1) pos).length:=by rw[p0.out,o0];simp only[List.length_append];omega
   have g0:LT=L2++stepsL (-1) pos:=by rw[j.out,o0];simp only[List.append_assoc]
   replace g0:=Aa g0;replace k0:=Aa k0;replace h0:=Aa h0;replace U:=Aa U;clear y1 x0 l0 l1 o0 I v0 h3;go_wp2_with fail
   go_loopw [5,7,8] (fun s5 s7 s8 wr=>∃(k m d:Nat) (B:Option Addr) (la:Int),s5 = .slice B m d/\s7 = .int .i64 la/\s8 = .int .i64 (k:Int)/\k<=np /\ -1<=la/\la<1048576/\m<=50000000/\Hid (la=(pos.take k).getLast?.getD (-1))/\Hid (m=(L2++stepsL (-1) (pos.take k)).length)/\Hid (Buf wr w.heap.size 5 B m d ((L2++stepsL (-1) (pos.take k)).map B8))/\Hid (Ext w wr)) (fun _ _ s8 _=>np - (intOf s8).toNat)
   case atStart=>exact⟨0,m2,d2,B2,-1,rfl,rfl,rfl,by omega,by omega,by omega,q3,Aa rfl,Aa (by rw[List.take_zero];show _=(L2 ++ []).length;rw[List.append_nil];exact U.out),Aa (by rw[List.take_zero];show Buf _ _ _ _ _ _ ((L2 ++ []).map B8);rw[List.append_nil];exact h0.out),x2⟩
   case round =>
    clear h0 U x2 hb H n0;obtain⟨k,m,d,B,la,rfl,rfl,rfl,hk,x4,y4,k3,t0,Z,hb,H⟩:=hrel;obtain⟨l0,l1⟩:=b.out wr H.out;by_cases l3:k<np
    ·obtain⟨y,hy⟩:∃y,pos[k]? = some y:=⟨_,List.getElem?_eq_getElem (by rw[<-O.out];exact l3)⟩
     obtain⟨m4,_,t4⟩:=i3.out k y hy;rw[<-t0.out]at m4;obtain⟨ga,oa,g4,f2⟩:=(j1.out).at_ (by rw[List.length_map,<-O.out];omega);have m0:w.cell? ⟨ga,oa+k,none⟩=some (.int .i64 y):=f2 k _ (by rw[List.getElem?_map,hy];rfl);have k2:=Gk hy (-1);rw[<-t0.out]at k2;have q2:=Ec (lo:= -1) hy;have c4:=e0.out (k+1) (-1);have j0:=k0.out;have Y:=Z.out;have y0:=c0.out B m d _ (y - la - 1) w.heap.size wr Z.out hb.out H.out.size (by omega) (by omega) (by omega);rw[List.append_assoc,<-k2]at y0;have q0:=H.out.cell m0;have e3:=Aa (fun W (H:Ext w W)=>H.cell m0);subst g4;replace y0:=Aa y0;replace q2:=Aa q2;replace Y:=Aa Y;replace j0:=Aa j0;clear f2 m0 k2 hy;go_wp2_with fail;refine y0.out.mono ?_;rintro e w3 ⟨B3,m3,d3,rfl,q1,o1,a1⟩;have i1:=Aa (a1.ext H.out hb.out.base);obtain⟨l0,l1⟩:=b.out w3 i1.out;have q0:=e3.out w3 i1.out;have p3:m3<=50000000:=by have:=j0.out;rw[q1,List.length_append];omega
     replace q1:=Aa q1;replace o1:=Aa o1;clear a1 y0;go_wp2_with fail;go_roundw
     case rel=>exact⟨k+1,m3,d3,B3,y,rfl,rfl,by go_num,by omega,by omega,t4,p3,Aa q2.out.symm,q1,o1,i1⟩
     case measure=>simp only[intOf];omega
    ·obtain rfl:k=np:=by omega
     have G:pos.take k=pos:=List.take_of_length_le (by rw[<-O.out];exact Nat.le_refl _);rw[G]at Z hb;rw[<-g0.out,r0.out]at Z hb;clear t0;go_wp2_with fail;go_roundw
     case rel=>exact⟨i+1,m,d,B,doc,rfl,rfl,by go_num,by omega,by omega,x3,k3,Aa h1.out.symm,Z,hb,H⟩
     case measure=>simp only[intOf];omega
  ·obtain rfl:i=n:=by omega
   have G:P.take i=P:=List.take_of_length_le (by rw[hP.out];unfold psP;rw[List.length_map,hn.out];exact Nat.le_refl _);rw[G]at Z hb;go_wp2_with fail;go_ret;have h4:=Z.out;subst h4;exact⟨B,d,rfl,hb.out,H.out⟩
end
section
open Go.RowKit
section
variable {t e sz:Nat}
theorem Hl (ht:prog.underlying t=some (.slice e)) (hs:∀W:World,(sizeOf e).run prog W = .ok sz W) (h:fr+k<=n) (I:n<=c) (Z:∀a,A=some a->a.spot=none) (T:z0=(fr:Int)) (G:z=(fr:Int)+(k:Int)) :
 ∃A' c',(∀W:World,(Instr.sliceAt t (.slice A n c) (some (.int .i64 z0)) (some (.int .i64 z)) none).run prog W = .ok (.slice A' k c') W)/\(∀(w:World) (xs:List Value),xs.length=n*sz->Cells w A xs->Cells w A' ((xs.drop (fr*sz)).take (k*sz)))/\(∀a,A'=some a->a.spot=none)/\k<=c':=by
 subst T G;have O:prog.elem t=e:=by unfold Program.elem;rw[ht]
 have j:∀W:World,(Instr.sliceAt t (.slice A n c) (some (.int .i64 fr)) (some (.int .i64 ((fr:Int)+k))) none).run prog W = .ok (sliced A fr (fr+k) c sz) W:=by
  intro W;rw[run_sliceAt_slice W t _ _ _ _ (by rw[ht,O]),run_slice_lh W t A n c (by rw[ht,O]) .i64 .i64 fr ((fr:Int)+k) (by omega) (by omega) (by omega),O,hs];simp only[Result.andThen_ok];congr 1
 unfold sliced at j;rw[Nat.add_sub_cancel_left]at j;refine⟨_,_,j,fun w xs hx U=>?_,fun a H=>?_,by omega⟩
 ·rcases U with hb | ⟨g,o,rfl,hb⟩
  ·left;rw[hb];simp
  ·by_cases J:c=fr
   ·left;obtain rfl:k=0:=by omega
    simp
   ·refine .inr ⟨g,o+fr*sz,by rw[if_neg J];simp[Addr.add_lit],fun i v Y=>?_⟩;rw[Nat.add_assoc];refine hb (fr*sz+i) v ?_;rw[List.getElem?_take]at Y;split at Y
    ·rw[List.getElem?_drop]at Y;exact Y
    ·cases Y
 ·cases A with
  | none=>split at H <;> cases H
  | some a0 =>
   obtain⟨b,o,sp⟩:=a0;obtain rfl:sp=none:=Z _ rfl;split at H
   ·cases H;rfl
   ·rw[Option.map_some,Addr.add_lit]at H;cases H;rfl
end
end
section
open Go.RowKit Go.Maps
theorem PosOk.sub {ps:List PoC} (h:PosOk w A ps) (hn:n=ps.length) (j:∀(w:World) (xs:List Value),xs.length=n*2->Cells w A xs->Cells w A' ((xs.drop (fr*2)).take (k*2))):PosOk w A' ((ps.drop fr).take k):=by
 refine⟨?_,fun x b=>h.each x (List.mem_of_mem_drop (List.mem_of_mem_take b))⟩;have h1:=j w (pcells ps) (by rw[G9,hn]) h.cells;unfold pcells at h1 ⊢;rw[Bh (f:=PoC.cells) (k:=2) (fun _=>rfl),Bo (f:=PoC.cells) (k:=2) (fun _=>rfl)];exact h1
theorem Q2 (ps:List PoC) (fr k:Nat):psP ((ps.drop fr).take k)=((psP ps).drop fr).take k:=by unfold psP;rw[List.map_take,List.map_drop]
theorem Ee (ps:List PoC):(psP ps).length=ps.length:=List.length_map ..
def Apart (A B:Option Addr):Prop:=∀a b,A=some a->B=some b->a.block≠b.block
theorem Apart.symm {A B:Option Addr} (h:Apart A B):Apart B A:=fun a b j hb e=>h b a hb j e.symm
theorem Push.apart {A A1 B:Option Addr} (h:Push w A A1 w1) (Y:∀b,B=some b->b.block<w.heap.size) (hn:Apart A B):Apart A1 B:=fun a b j hb=>by
 rcases h.new with rfl | ⟨q,H,J⟩
 ·exact hn a b j hb
 ·rw[j]at H;cases H;have:=Y b hb;omega
theorem Buf.below {base:Nat} (h:Buf w base e A n c xs):∀a,A=some a->a.block<w.heap.size:=fun a j=>by
 obtain⟨_,_,⟨h1,_⟩ | ⟨g,cur,b,_,H,_⟩⟩:=h
 ·rw[h1]at j;cases j
 ·rw[b]at j;cases j;exact H.lt
theorem Buf.push {base n c:Nat} {A A1 B:Option Addr} (hb:Buf w base e B n c xs) (h:Push w A A1 w1) (hn:Apart A B):Buf w1 base e B n c xs:=by
 obtain⟨h1,h2,⟨b,H⟩ | ⟨g,cur,j,U,O,Y⟩⟩:=hb
 ·exact⟨h1,h2,.inl ⟨b,H⟩⟩
 ·exact⟨h1,h2,.inr ⟨g,cur,j,U,h.row O fun a J=>hn a _ J j,Y⟩⟩
theorem HZ (ps:List PoC) (A:Option Addr) (n c:Nat) (w:World) (hn:n=ps.length) (h:PosOk w A ps) (hA:∀a,A=some a->a.spot=none) (n5:n<=c) (i1:okPs (psP ps)=true) (q5:(blockPo (-1) (psP ps)).length<=50000000) :
 Calls prog 62 #[.slice A n c] w fun e w'=>OkB w (encPs (psP ps)) e w':=by
 have f6:n<=65536:=by have:=E6 i1;rw[Ee,<-hn]at this;exact this
 have f4:=Aa (Oi ps A n c w hn h i1 (by omega));obtain⟨P,hP⟩:=Ab (psP ps);have g0:P.length=n:=by rw[hP,Ee,hn]
 have n4:=Aa (fun r (hr:r*32<(psP ps).length)=>Hb i1 q5 hr);have i2:=Aa (fun r (hr:(psP ps).length<=r*32)=>Iu (psP ps) r hr);have z4:=Aa (fun(qs:List PoC) B m d lo W (hm:m=qs.length) (hq:PosOk W B qs) h1 h2 h3 h4 h5 h6=>Jt qs B m d lo W hm hq h1 h2 h3 h4 h5 h6);have i0:=Aa (fun A n c l x base W (hn:n=l.length) (hb:Buf W base 5 A n c (l.map B8)) (z3:base<=W.heap.size) (hx:0<=x) (p6:x<=9223372036854775807) (l5:n<=1000000000)=>Hi A n c l x base W hn hb z3 hx p6 l5);have r4:=Aa (fun(fr k:Nat) (z0 z:Int) (h:fr+k<=n) (j6:z0=(fr:Int)) (hz:z=(fr:Int)+(k:Int))=>Hl underlying47 (fun W:World=>(by kernel_rfl:(sizeOf 89).run prog W = .ok 2 W)) (n:=n) (c:=c) (fr:=fr) (k:=k) (A:=A) h n5 hA j6 hz);have b6:=Ag (n:=n) (by omega);rw[<-hP]at n4 i2 q5 ⊢;replace hP:=Aa hP;replace hn:=Aa hn;replace h:=Aa h;replace g0:=Aa g0;clear i1
 go_in
 go_wp2_with fail;refine f4.out.mono ?_;rintro e w1 ⟨rfl,t3⟩;have d0:=i0.out none 0 0 [] (n:Int) w.heap.size w1 rfl (Buf.nil _ _ _) t3.size (by omega) (by omega) (by omega);rw[List.nil_append,Int.toNat_natCast]at d0;replace d0:=Aa d0;go_wp2_with fail;refine d0.out.mono ?_;rintro e w2 ⟨H2,m2,d2,rfl,y0,k1,k3⟩;have k4:=Aa (k3.ext t3 nofun);replace y0:=Aa y0;replace k1:=Aa k1;clear d0 f4 k3 t3;go_wp2_with fail
 go_loopw [4,5,6,7] (fun s4 s5 s6 s7 wr=>∃(r mh dh mb db:Nat) (Hd Bd:Option Addr) (a:Int),s4 = .slice Hd mh dh/\s5 = .slice Bd mb db/\s6 = .int .i64 a/\s7 = .int .i64 ((r*32:Nat):Int)/\r*32<=n+31/\mh<=10+20*r/\mb<=50000000/\Hid (a=lastPo (-1) (P.take (r*32)))/\Hid (mh=(vb n++headPo (-1) ((chunkL 32 P).take r)).length)/\Hid (Buf wr w.heap.size 5 Hd mh dh ((vb n++headPo (-1) ((chunkL 32 P).take r)).map B8))/\Hid (mb=(blockPo (-1) (P.take (r*32))).length)/\Hid (Buf wr w.heap.size 5 Bd mb db ((blockPo (-1) (P.take (r*32))).map B8))/\Hid (Apart Hd Bd)/\Hid (Ext w wr)) (fun _ _ _ s7 _=>n+31 - (intOf s7).toNat)
 case atStart =>
  refine⟨0,m2,d2,0,0,H2,none,-1,rfl,rfl,rfl,rfl,by omega,by rw[y0.out];omega,by omega,Aa rfl,Aa ?_,Aa ?_,Aa rfl,Aa (Buf.nil _ _ _),Aa nofun,k4⟩
  ·rw[List.take_zero];show m2=(vb n ++ []).length;rw[List.append_nil];exact y0.out
  ·rw[List.take_zero];show Buf _ _ _ _ _ _ ((vb n ++ []).map B8);rw[List.append_nil];exact k1.out
 case round =>
  clear y0 k1 k4;obtain⟨r,mh,dh,mb,db,Hd,Bd,a,rfl,rfl,rfl,rfl,hr,z6,y6,ha,f1,m1,d1,a3,g4,hE⟩:=hrel;by_cases o5:r*32<n
  ·have o4:=n4.out r (by rw[g0.out];exact o5);rw[<-ha.out]at o4;obtain⟨k,hk⟩:=Ab (min (n - r*32) 32);obtain⟨f,hf⟩:=Ab (r*32);have c6:0<k:=by omega
   have t6:k<=32:=by omega
   have f5:f+k<=n:=by omega
   obtain⟨z,hz⟩:=Ab ((f:Int)+(k:Int):Int);have a6:=AQ (P:=prog) #[3,3] 3 (x:=(n:Int)) (y:=((f:Nat):Int)+32) (m:=z) (by omega);obtain⟨A',c',l6,c4,_,_⟩:=r4.out f k (f:Int) z f5 rfl hz;have k2:k=((ps.drop f).take k).length:=by rw[List.length_take,List.length_drop,<-hn.out];omega
   have a4:psP ((ps.drop f).take k)=(P.drop (r*32)).take 32:=by
    rw[Q2,<-hP.out,<-hf];have e4:(P.drop f).length=n - f:=by rw[List.length_drop,g0.out]
    rcases Nat.le_total (n - f) 32 with h3 | h3
    ·rw[List.take_of_length_le (by rw[e4];omega),List.take_of_length_le (by rw[e4];omega)]
    ·rw[show k=32 by omega]
   have f0:=(h.out.ext hE.out).sub (fr:=f) (k:=k) hn.out c4;obtain⟨h1,h2,h3,h4,h5,h6,h7,h8,h9,v5,j0,n0,x5⟩:=o4;rw[h1]at h4 h5 h6 h7 h8 h9 j0 n0;rw[<-a4]at h4 h5 h6 h7 h8 h9 j0 n0;obtain⟨X,hX⟩:=Ab (blockPo a (psP ((ps.drop f).take k)));have I:=z4.out ((ps.drop f).take k) A' k c' a wr k2 f0 h2 h3 h4 h5 (by omega) (by omega);rw[<-hX]at I h8 h9 n0;have a5:X.length<=50000000:=by omega
   obtain⟨x,hx⟩:∃x,((ps.drop f).take k)[k - 1]? = some x:=⟨_,List.getElem?_eq_getElem (by rw[<-k2];omega)⟩
   obtain⟨a2,x3⟩:=Ab (lastPo a (psP ((ps.drop f).take k)));have k5:x.doc=a2:=by
    rw[x3,CS];have y5:((psP ((ps.drop f).take k)).map (·.1))[k - 1]? = some x.doc:=by unfold psP;rw[List.map_map,List.getElem?_map,hx];rfl
    have r3:=Ec (lo:=a) y5;rw[List.take_of_length_le (by rw[List.length_map,Ee,<-k2];omega)]at r3;exact r3.symm
   rw[<-x3]at h6 h7 h8 j0;have e3:∀W,Ext wr W->∃g o,A'=some ⟨g,o,none⟩/\W.cell? ⟨g,o+(k - 1)*2,none⟩=some (.int .i64 a2):=fun W hE=>by
    obtain⟨g,o,hA,l0,_⟩:=Bc (f0.cells.ext hE) hx;rw[k5]at l0;exact⟨g,o,hA,l0⟩
   obtain⟨g,o,p4,_⟩:=e3 wr (Ext.refl _);have q2:∀W,Ext wr W->W.cell? ⟨g,o+(k - 1)*2,none⟩=some (.int .i64 a2):=fun W hE=>by
    obtain⟨g2,o2,q1,l0⟩:=e3 W hE;rw[p4]at q1;injection q1 with q1;injection q1 with e1 e2;subst e1 e2;exact l0
   have Y:=m1.out.below;have j:=a3.out.below;obtain⟨nx,c0⟩:=Ab X.length;have n6:=Ag (n:=a2.toNat) (by omega);have o6:=Ag (n:=nx) (by omega);obtain⟨kk,i5⟩:∃kk,k=kk+1:=⟨k - 1,by omega⟩
   rw[show k - 1=kk by omega]at q2;subst p4;have d3:r*32=f:=hf.symm;have b3:(r+1)*32=f+32:=by omega
   unfold NewB at I;rw[<-c0]at I h8 n0 a5;rw[d3];subst i5;replace I:=Aa I;replace q2:=Aa q2;replace hz:=Aa hz;replace c0:=Aa c0;replace h8:=Aa h8;replace h9:=Aa h9;replace j0:=Aa j0;replace b3:=Aa b3;replace d3:=Aa d3;replace Y:=Aa Y;replace j:=Aa j;clear hf hk k2 a4 f0 h1 h2 h3 h4 h5 v5 x5 hX hx k5 x3 e3 c4 ha;go_wp2_with fail;refine I.out.mono ?_;rintro e w3 ⟨X3,dx,rfl,G,t0⟩;have q0:=q2.out w3 t0;have x2:=Aa (hE.out.trans t0);have o1:=i0.out Hd mh dh _ a2 w.heap.size w3 f1.out (m1.out.ext t0) x2.out.size h7 (by omega) (by omega);have p3:Apart Hd X3:=fun a b ha hb=>by
    have h1:=Y.out a ha;have h2:=G.base b hb;omega
   have m6:Apart Bd X3:=fun a b ha hb=>by
    have h1:=j.out a ha;have h2:=G.base b hb;omega
   have J:=a3.out.ext t0;have p0:=m1.out.ext t0;replace o1:=Aa o1;replace G:=Aa G;replace J:=Aa J;replace p0:=Aa p0;clear I;go_wp2_with fail;refine o1.out.mono ?_;rintro e w4 ⟨H4,m4,d4,rfl,y1,x0,H⟩;have y2:=Aa (H.ext x2.out p0.out.base);have k0:=G.out.push H p3;have U:=J.out.push H g4.out;have q3:=H.apart J.out.below g4.out;have y3:=H.apart G.out.below p3;have v6:m4<=mh+10:=by rw[y1,List.length_append,<-f1.out];omega
   have e0:=i0.out H4 m4 d4 _ (nx:Int) w.heap.size w4 y1 x0 y2.out.size (by omega) (by omega) (by omega);rw[Int.toNat_natCast,List.append_assoc,List.append_assoc,<-h8.out]at e0;replace e0:=Aa e0;replace k0:=Aa k0;replace U:=Aa U;replace x0:=Aa x0;replace y1:=Aa y1;clear H o1 q0 G J p0;go_wp2_with fail;refine e0.out.mono ?_;rintro e w5 ⟨H5,m5,d5,rfl,a1,j1,T⟩;have f2:=Aa (T.ext y2.out x0.out.base);have b4:=(k0.out.push T y3).cells;have v4:=U.out.push T q3;have h0:=T.apart U.out.below q3;have x6:m5<=mh+20:=by
    have h1:=congrArg List.length h8.out;simp only[List.length_append]at h1;have h2:=f1.out;rw[List.length_append]at h2;rw[a1,List.length_append,h1];omega
   have r5:=f2.out.size;have k6:(X.map B8).length=nx:=by rw[List.length_map,c0.out]
   have l4:mb+nx<=50000000:=by have:=d1.out;omega
   replace a1:=Aa a1;replace j1:=Aa j1;replace h0:=Aa h0;clear T e0 k0 U x0;go_wp2_with (at_builtin;refine Al Aw v4 b4 (.tmp 46) (.tmp 47) rfl rfl rfl rfl rfl k6 (Ai _) (by omega) r5 (fun B6 d6 w6 Z x1 v0 o0=>?_);have j3:=Push.grow x1 o0;replace Z:=Aa Z;have m0:=Aa (v0 w f2.out (Nat.le_refl _));clear x1 v0 o0);have y4:=j1.out.push j3 h0.out.symm;have t4:=(j3.apart j1.out.below h0.out.symm).symm;have i4:mb+nx=(blockPo (-1) (P.take ((r+1)*32))).length:=by rw[h9.out,List.length_append,<-d1.out,<-c0.out]
   have x4:Buf w6 w.heap.size 5 B6 (mb+nx) d6 ((blockPo (-1) (P.take ((r+1)*32))).map B8):=by rw[h9.out,List.map_append];exact Z.out
   refine⟨⟨r+1,m5,d5,mb+nx,d6,H5,B6,a2,rfl,rfl,rfl,by rw[b3.out];go_num,by omega,by omega,l4,Aa j0.out.symm,a1,Aa y4,Aa i4,Aa x4,Aa t4,m0⟩,by simp only[intOf];omega⟩
  ·have O:=i2.out r (by rw[g0.out];omega);rw[g0.out]at O;have hlen:=congrArg List.length O;rw[List.length_append,<-f1.out,<-d1.out]at hlen;have c5:=a3.out.cells;have q6:=hE.out.size;have b5:((blockPo (-1) (P.take (r*32))).map B8).length=mb:=by rw[List.length_map,d1.out]
   replace O:=Aa O;replace hlen:=Aa hlen;go_wp2_with (at_builtin;refine Al Aw m1.out c5 (.tmp 49) (.tmp 50) rfl rfl rfl rfl rfl b5 (Ai _) (by omega) q6 (fun B6 d6 w6 Z x1 v0 o0=>?_);replace Z:=Aa Z;have m0:=Aa (v0 w hE.out (Nat.le_refl _));clear x1 v0 o0);go_ret2;refine⟨B6,d6,by rw[hlen.out];rfl,⟨rfl,?_⟩,m0.out⟩;rw[hlen.out,O.out,List.map_append];exact Z.out
end
section
open Go.RowKit Go.Maps
theorem EC:∀(P:List Dc) (lo:Int),lastD lo P=(P.map (·.1)).getLast?.getD lo
 | [],lo=>rfl
 | p::t,lo=>by
  rw[List.map_cons,FG];exact EC t p.1
theorem JQ {P:List Dc} {p:Dc} (h:P[k]? = some p) (lo:Int):blockD lo (P.take (k+1))=blockD lo (P.take k)++oneD (lastD lo (P.take k)) p:=by
 rw[List.take_add_one,h,Bj];show _++(oneD _ p ++ [])=_;rw[List.append_nil]
theorem Nl (P:List Dc) (k:Nat) (lo:Int):(blockD lo (P.take k)).length<=(blockD lo P).length:=by
 conv=>rhs;rw[<-List.take_append_drop k P,Bj,List.length_append]
 omega
theorem Buf.own_base {base:Nat} (h:Buf w base e A n c xs):∀k,(Value.slice A n c).ownBlock=some k->base<=k:=fun k hk=>by
 cases A with
 | none=>simp[Value.ownBlock]at hk
 | some b =>
  have:=h.base b rfl;have h2:b.block=k:=by simpa [Value.ownBlock]using hk
  omega
theorem Jq (ds:List DocC) (A:Option Addr) (n c:Nat) (w:World) (hn:n=ds.length) (h:DocsOk w A ds) (H:n<=1000000000) (b:okDs (dcs ds)=false) :
 Calls prog 61 #[.slice A n c] w fun e w'=>e = .returned (.tuple #[.slice none 0 0,.int .i64 120])/\Ext w w':=by
 have j:=IW ds A n c w hn h H;rw[b]at j;replace j:=Aa j;replace hn:=Aa hn;clear h b
 go_in
 go_wp2_with fail;refine j.out.mono ?_;rintro e w1 ⟨rfl,a⟩;go_wp2_with fail;go_ret2;exact⟨rfl,a⟩
theorem Oq (w:World) (g o k fl xc:Nat) (sq at_:Int) (xA:Option Addr) (T:∀W,Ext w W->W.cell? ⟨g,o+k*3,none⟩=some (.int .i64 sq)/\W.cell? ⟨g,o+k*3+1,none⟩=some (.int .i64 at_)/\W.cell? ⟨g,o+k*3+2,none⟩=some (.slice xA fl xc)/\Ext w W) (bs:Nat) (H:w.heap.size<=bs) (X:Option Addr) (m d:Nat) (L:List UInt8) (z:Int) (I:m=L.length) (hz:0<=z) (U:z<=9223372036854775807) (Y:m<=1000000000) (W:World) (Z:Ext w W) (hb:Buf W bs 5 X m d (L.map B8)) (b:bs<=W.heap.size) :
 Calls prog 103 #[.slice X m d,.int .i64 z] W fun e W'=>∃(X1:Option Addr) (m1 d1:Nat),e = .returned (.slice X1 m1 d1)/\m1=(L++vb z.toNat).length/\Buf W' bs 5 X1 m1 d1 ((L++vb z.toNat).map B8)/\(W'.cell? ⟨g,o+k*3,none⟩=some (.int .i64 sq)/\W'.cell? ⟨g,o+k*3+1,none⟩=some (.int .i64 at_)/\W'.cell? ⟨g,o+k*3+2,none⟩=some (.slice xA fl xc)/\Ext w W')/\Push W X X1 W':=by
 refine(Hj X m d L z bs W I hb b hz U Y).mono ?_;rintro e W' ⟨X1,m1,d1,rfl,J,j,h⟩;have O:=h.ext Z fun a G=>Nat.le_trans H (hb.base a G);exact⟨X1,m1,d1,rfl,J,j,T W' O,h⟩
theorem PZ (w:World) (g o k fl xc:Nat) (sq at_:Int) (xA:Option Addr) (H:∀W,Ext w W->W.cell? ⟨g,o+k*3,none⟩=some (.int .i64 sq)/\W.cell? ⟨g,o+k*3+1,none⟩=some (.int .i64 at_)/\W.cell? ⟨g,o+k*3+2,none⟩=some (.slice xA fl xc)/\Ext w W) (fs:List Fd) (h:fl=fs.length) (hk:checkE fs=0) (Y:I64ok' at_) (j:Ev.Ok ⟨at_,fs⟩ w xA) (W:World) (a:Ext w W) :
 Calls prog 104 #[.agg #[.int .i64 at_,.slice xA fl xc]] W fun e W'=>∃(E:Option Addr) (dE:Nat),e = .returned (.slice E (putE ⟨at_,fs⟩).length dE)/\Buf W' W.heap.size 5 E (putE ⟨at_,fs⟩).length dE ((putE ⟨at_,fs⟩).map B8)/\(W'.cell? ⟨g,o+k*3,none⟩=some (.int .i64 sq)/\W'.cell? ⟨g,o+k*3+1,none⟩=some (.int .i64 at_)/\W'.cell? ⟨g,o+k*3+2,none⟩=some (.slice xA fl xc)/\Ext w W')/\Ext W W':=by
 have h1:=Ox ⟨at_,fs⟩ xA xc W (j.ext a) hk Y;unfold Ev.val at h1;simp only at h1;rw[<-h]at h1;refine h1.mono ?_;rintro e W' ⟨E,dE,rfl,hb,b⟩;exact⟨E,dE,rfl,hb,H W' (a.trans b),b⟩
end
section
open Go.RowKit
def kRv7 (b0:Nat) (A:Option Addr) (n c i g o dx:Nat) (X:Option Addr) (L t:List UInt8) (k:Nat):OwnK:=ownK [(kV (.slice X L.length dx),none),(kV (.int .i64 (k:Int)),none),(kB (b0) (vb k),some 3),(kB (b0) (L++vb k),some 12),(kV (.slice A n c),none),(kV (.int .i64 (i:Int)),none),(kV (.pointer (some ⟨g,o+i*4,none⟩)),none),(kV (.pointer (some ⟨g,o+i*4,none⟩)),none),(kV (.string ⟨t.toArray⟩),none),(kV (.int .i64 (k:Int)),none),(kV (.string ⟨(t.drop k).toArray⟩),none),(kB (b0) (txL (t.drop k)),some 12),(kB (b0) ((L++vb k)++txL (t.drop k)),some 13),(kB (b0) ((L++vb k)++txL (t.drop k)),none)] (fun w=>Buf w b0 5 X L.length dx (L.map B8)) (fun k=>(Value.slice X L.length dx).ownBlock=some k) 3
def kRv8 (b0:Nat) (A:Option Addr) (n c i g o dx:Nat) (X:Option Addr) (L:List UInt8) (x y z:Nat):OwnK:=ownK [(kV (.slice X L.length dx),none),(kV (.slice A n c),none),(kV (.int .i64 (i:Int)),none),(kV (.pointer (some ⟨g,o+i*4,none⟩)),none),(kV (.pointer (some ⟨g,o+i*4+1,none⟩)),none),(kV (.int .i64 (x:Int)),none),(kB (b0) (vb x),some 7),(kB (b0) (L++vb x),some 14),(kV (.slice A n c),none),(kV (.int .i64 (i:Int)),none),(kV (.pointer (some ⟨g,o+i*4,none⟩)),none),(kV (.pointer (some ⟨g,o+i*4+2,none⟩)),none),(kV (.int .i64 (y:Int)),none),(kB (b0) (vb y),some 14),(kB (b0) ((L++vb x)++vb y),some 21),(kV (.slice A n c),none),(kV (.int .i64 (i:Int)),none),(kV (.pointer (some ⟨g,o+i*4,none⟩)),none),(kV (.pointer (some ⟨g,o+i*4+3,none⟩)),none),(kV (.int .i64 (z:Int)),none),(kB (b0) (vb z),some 21),(kB (b0) (((L++vb x)++vb y)++vb z),some 22),(kB (b0) (((L++vb x)++vb y)++vb z),none)] (fun w=>Buf w b0 5 X L.length dx (L.map B8)) (fun k=>(Value.slice X L.length dx).ownBlock=some k) 7
theorem Ju (l:List En) (A:Option Addr) (n c:Nat) (w:World) (hn:n=l.length) (h:Cells w A (encells l)) (f0:∀e∈l,okEn e) (q4:n<=262144) :
 Calls prog 110 #[.slice A n c] w fun e w'=>NewB w (blockE [] l) e w':=by
 obtain⟨Z,hZ⟩:=Ab (blockE [] l);rw[<-hZ];have q0:=Aa (fun k W (hk:k<=1000000000)=>KJ k W hk);have a1:=Aa (fun s W (hk:s.length<=1000000000)=>FL s W hk);have b3:=Aa (fun a b W (h1:a.length<=1000000000) (h2:b.length<=1000000000)=>KL a b W h1 h2);replace hn:=Aa hn;replace h:=Aa h;replace f0:=Aa f0;replace hZ:=Aa hZ
 go_in
 go_wp2_with fail
 go_loopw [3,4,5] (fun s3 s4 s5 wr=>∃(i dx:Nat) (X:Option Addr) (L la:List UInt8),s3 = .slice X L.length dx/\s4 = .string ⟨la.toArray⟩/\s5 = .int .i64 (i:Int)/\i<=n/\L.length<=200*i/\la.length<=65/\Hid (Z=L++blockE la (l.drop i))/\Hid (Buf wr w.heap.size 5 X L.length dx (L.map B8))/\Hid (Ext w wr)) (fun _ _ s5 _=>n - (intOf s5).toNat)
 case atStart=>exact⟨0,0,none,[],[],rfl,rfl,rfl,by omega,by simp,by simp,Aa (by rw[hZ.out];rfl),Aa (Buf.nil _ _ _),Aa (Ext.refl _)⟩
 case round =>
  obtain⟨i,dx,X,L,la,rfl,rfl,rfl,hi,i3,h4,hz,hb,hE⟩:=hrel;by_cases y0:i<n
  ·obtain⟨x,O⟩:∃x,l[i]? = some x:=⟨_,List.getElem?_eq_getElem (by rw[<-hn.out];exact y0)⟩
   obtain⟨m2,y3,z3,a3⟩:=f0.out x (List.mem_of_getElem? O);obtain⟨g,o,hA,x0,_,_,_⟩:=AX (h.out.ext hE.out) O;have U:∀W,Ext w W->W.cell? ⟨g,o+i*4,none⟩=some (.string ⟨x.t.toArray⟩)/\W.cell? ⟨g,o+i*4+1,none⟩=some (.int .i64 (x.off:Int))/\W.cell? ⟨g,o+i*4+2,none⟩=some (.int .i64 (x.len:Int))/\W.cell? ⟨g,o+i*4+3,none⟩=some (.int .i64 (x.n:Int)):=fun W hW=>by
    obtain⟨g2,o2,c0,l0,l1,l2,l3⟩:=AX (h.out.ext hW) O;rw[hA]at c0;injection c0 with c0;injection c0 with e1 e2;subst e1 e2;exact⟨l0,l1,l2,l3⟩
   have q2:l.drop i=x::l.drop (i+1):=by
    rw[List.drop_eq_getElem_cons (List.getElem?_eq_some_iff.1 O).1,(List.getElem?_eq_some_iff.1 O).2]
   have J:=hz.out;rw[q2]at J;have k2:blockE la (x::l.drop (i+1))=enB la x++blockE x.t (l.drop (i+1)):=rfl;rw[k2]at J;have m0:=MS (last:=la) (f0.out x (List.mem_of_getElem? O));have i0:=b3.out la x.t;have y1:=(DC la x.t).2;obtain⟨t,x,y,z⟩:=x;unfold enB at J m0;simp only at m2 y3 z3 a3 x0 U J m0 i0 y1;obtain⟨k,x1⟩:=Ab (cpl la t);rw[<-x1]at J m0 i0 y1;have n0:=i0 wr (by omega) (by omega);simp only[List.length_append]at m0;have v4:=Ag (n:=k) (by omega);subst hA;have hA:Hid ((some ⟨g,o,none⟩:Option Addr)=some ⟨g,o,none⟩):=Aa rfl;replace U:=Aa U;replace J:=Aa J;replace n0:=Aa n0;replace x1:=Aa x1;clear O q2 i0 k2 hz;go_wp2_with fail;refine n0.out.mono ?_;rintro e w2 ⟨rfl,k1⟩;have e0:=hb.out.ext k1;have T:=hE.out.trans k1;have I:=Aa (show Buf w2.drew w.heap.size 5 X L.length dx (L.map B8)from e0.drew);have r0:=Aa T.drew;replace e0:=Aa e0;replace T:=Aa T;clear k1 n0 x0;go_wp2_with fail;refine wp_region_held_drew (S:=fun _=>True) (by kernel_rfl) trivial (fun _=>?_);refine EK (base:=Array.replicate 14 false) (w0:=w) ⟨by kernel_rfl,of_decide_eq_true (by kernel_rfl),by kernel_rfl,by kernel_rfl⟩ (kRv7 (w.heap.size) (some ⟨g,o,none⟩) n c i g o dx X L t k) (FJ ?mono) ?mono0 (fun _=>trivial) ?hstep ?fin _ _ (fun _ _=>False) _ _ (by kernel_rfl) (Nat.le_of_eq (by kernel_rfl)) (fun _ h=>h) ⟨rfl,rfl,fun _ _=>rfl,r0.out,fun j h1 h2=>absurd (h1.symm.trans h2) (by simp)⟩ (OwnI.start (fun _ h=>h) ⟨I.out,fun k hk=>⟨I.out.own_base k hk,L8 I.out k hk⟩⟩)
   case mono =>
    intro p hp;simp only[List.mem_cons,List.not_mem_nil,or_false]at hp;rcases hp with rfl | rfl | rfl | rfl | rfl | rfl | rfl | rfl | rfl | rfl | rfl | rfl | rfl | rfl <;> first | exact RH _ _ _ | exact RF _ _ _ _ | exact RG _ _ _ _ _ _ _
   case mono0=>exact fun _ _ _ h hC _ hO=>h.chg hC fun a H=>hO a.block (by rw[H];rfl)
   case hstep =>
    apply OSteps.all (K:=(kRv7 (w.heap.size) (some ⟨g,o,none⟩) n c i g o dx X L t k)) (l:= [0,1,2,3,4,5,6,7,8,9,10,11,12,13]);rotate_left
    ·kernel_rfl
    refine OSteps.cons rfl (fun F a wq H hd=>?_) ?_
    ·exact Aj (Ah (v:= .slice X L.length dx) (.inl rfl) (Af (H.same 3))) rfl ⟨rfl,fun _ h=>h⟩
    refine OSteps.cons rfl (fun F a wq H hd=>?_) ?_
    ·exact Aj (Ah (v:= .int .i64 (k:Int)) (.inl rfl) (Af (H.same 6))) rfl ⟨rfl,fun _ h=>h⟩
    refine OSteps.cons rfl (fun F a wq H hd=>?_) ?_
    ·have qa:a.tmps.getD 21 undef = .int .i64 (k:Int):=(hd.one 1 21).1.1;exact Fj rfl rfl (enters_of func109 (by kernel_rfl) rfl) (Dr qa) (G1 H.ext.size (q0.out k wq (by omega)))
    refine OSteps.cons rfl (fun F a wq H hd=>?_) ?_
    ·have qs:a.eval (.tmp 20) = .slice X L.length dx:=(Ac (hd.one 0 20).1.1)
     have hb:=(hd.zero rfl).1;obtain⟨⟨Ax,cx,qx,O,_⟩,h3⟩:(kB (w.heap.size) (vb k)) (a.tmps.getD 22 undef) (F 2) wq/\_:=hd.one 2 22;exact Fi rfl hb O (.tmp 20) (.tmp 22) rfl qs qx (by omega) H.ext.size (fun k hk=>OU rfl hk) (fun _ _ _ h=>h)
    refine OSteps.cons rfl (fun F a wq H hd=>?_) ?_
    ·exact Aj (Ah (v:= .slice (some ⟨g,o,none⟩) n c) (.inl rfl) (Af (H.same 0))) rfl ⟨rfl,fun _ h=>h⟩
    refine OSteps.cons rfl (fun F a wq H hd=>?_) ?_
    ·exact Aj (Ah (v:= .int .i64 (i:Int)) (.inl rfl) (Af (H.same 5))) rfl ⟨rfl,fun _ h=>h⟩
    refine OSteps.cons rfl (fun F a wq H hd=>?_) ?_
    ·exact Aj (DF (q:= .slice (some ⟨g,o,none⟩) n c) (z:= .int .i64 (i:Int)) (v:= .pointer (some ⟨g,o+i*4,none⟩)) rfl (Ac (hd.one 4 24).1.1) (Ac (hd.one 5 25).1.1) (M0 wq g o n c i y0)) rfl ⟨rfl,fun _ h=>h⟩
    refine OSteps.cons rfl (fun F a wq H hd=>?_) ?_
    ·exact Aj (Ao (q:= .pointer (some ⟨g,o+i*4,none⟩)) (v:= .pointer (some ⟨g,o+i*4,none⟩)) rfl (Ac (hd.one 6 26).1.1) ((MW wq g (o+i*4)).1)) rfl ⟨rfl,fun _ h=>h⟩
    refine OSteps.cons rfl (fun F a wq H hd=>?_) ?_
    ·exact Aj (AI (q:= .pointer (some ⟨g,o+i*4,none⟩)) (v:= .string ⟨t.toArray⟩) rfl (Ac (hd.one 7 27).1.1) (RJ (U.out wq H.ext).1)) rfl ⟨rfl,fun _ h=>h⟩
    refine OSteps.cons rfl (fun F a wq H hd=>?_) ?_
    ·exact Aj (Ah (v:= .int .i64 (k:Int)) (.inl rfl) (Af (H.same 6))) rfl ⟨rfl,fun _ h=>h⟩
    refine OSteps.cons rfl (fun F a wq H hd=>?_) ?_
    ·exact Aj (ET (q:= .string ⟨t.toArray⟩) (v:= .string ⟨(t.drop k).toArray⟩) (l:=some (.int .i64 (k:Int))) (h:=none) (m:=none) rfl (Ac (hd.one 8 28).1.1) (congrArg some (Ac (hd.one 9 29).1.1)) rfl rfl (Ge t k y1 rfl wq)) rfl ⟨rfl,fun _ h=>h⟩
    refine OSteps.cons rfl (fun F a wq H hd=>?_) ?_
    ·have qa:a.tmps.getD 30 undef = .string ⟨(t.drop k).toArray⟩:=(hd.one 10 30).1.1;exact Fj rfl rfl (enters_of func153 (by kernel_rfl) rfl) (Dr qa) (G1 H.ext.size (a1.out (t.drop k) wq (by rw[List.length_drop];omega)))
    refine OSteps.cons rfl (fun F a wq H hd=>?_) ?_
    ·obtain⟨⟨As,cs,qs,hb,hS⟩,q3⟩:(kB (w.heap.size) (L++vb k)) (a.tmps.getD 23 undef) (F 3) wq/\_:=hd.one 3 23;obtain⟨⟨Ax,cx,qx,O,_⟩,p3⟩:(kB (w.heap.size) (txL (t.drop k))) (a.tmps.getD 31 undef) (F 11) wq/\_:=hd.one 11 31;exact Fi rfl hb O (.tmp 23) (.tmp 31) rfl qs qx (by rw[List.length_append];omega) H.ext.size (fun k hk=>Em (j:=3) (d:=23) rfl (by kernel_rfl) (by kernel_rfl) (by kernel_rfl) (by kernel_rfl) ((hS k).2 (by rw[qs];exact hk))) (fun _ _ _ h=>h)
    refine OSteps.cons rfl (fun F a wq H hd=>?_) ?_
    ·obtain⟨⟨As,cs,qs,hb,hS⟩,j1⟩:(kB (w.heap.size) ((L++vb k)++txL (t.drop k))) (a.tmps.getD 32 undef) (F 12) wq/\_:=hd.one 12 32;exact Fk (S:=F 12) (Ah (.inr rfl) qs) rfl ⟨As,cs,rfl,hb,fun k=>by rw[hS k,qs]⟩ (Ext.refl _) (fun k hk=> .inr ⟨(j1 k hk).2,Em (j:=12) (d:=32) rfl (by kernel_rfl) (by kernel_rfl) (by kernel_rfl) (by kernel_rfl) hk⟩)
    exact OSteps.nil
   case fin =>
    intro F a w9 H hh;obtain⟨⟨A9,c9,q9,g0,o3⟩,o1⟩:(kB (w.heap.size) ((L++vb k)++txL (t.drop k))) (a.tmps.getD 3 undef) (F 13) w9/\_:=hh 13 3 (by kernel_rfl) (by kernel_rfl) (by kernel_rfl);have Y:=H.act [20,21,22,23,24,25,26,27,28,29,30,31,32,3] (by kernel_rfl);have f1:=Aa H.ext;simp only[List.foldl_cons,List.foldl_nil]at Y;rw[q9]at Y;replace g0:=Aa g0;clear H hh q9;obtain⟨fv,v0⟩:∃f:Nat->Value,∀d,a.tmps.getD d undef=f d:=⟨_,fun _=>rfl⟩
    simp only[v0]at Y;clear v0;subst Y;simp only[Bv,Bw,By];obtain⟨L2,k0⟩:=Ab (L++vb k++txL (t.drop k));rw[<-k0]at g0 ⊢;have e3:L2.length<=L.length+((vb k).length+(txL (t.drop k)).length):=by rw[k0];simp only[List.length_append];omega
    have p0:Z=L2++((vb x++vb y++vb z)++blockE t (l.drop (i+1))):=by rw[J.out,k0];simp only[List.append_assoc]
    have h0:=Aa g0.out.drew;have q1:=Aa f1.out.drew;replace k0:=Aa k0;replace p0:=Aa p0;clear e0 I T r0 J hb;go_wp2_with fail;refine wp_region_held_drew (S:=fun _=>True) (by kernel_rfl) trivial (fun _=>?_);refine EK (base:=Array.replicate 23 false) (w0:=w) ⟨by kernel_rfl,of_decide_eq_true (by kernel_rfl),by kernel_rfl,by kernel_rfl⟩ (kRv8 (w.heap.size) (some ⟨g,o,none⟩) n c i g o c9 A9 L2 x y z) (FJ ?mono) ?mono0 (fun _=>trivial) ?hstep ?fin _ _ (fun _ _=>False) _ _ (by kernel_rfl) (Nat.le_of_eq (by kernel_rfl)) (fun _ h=>h) ⟨rfl,rfl,fun _ _=>rfl,q1.out,fun j h1 h2=>absurd (h1.symm.trans h2) (by simp)⟩ (OwnI.start (fun _ h=>h) ⟨h0.out,fun k hk=>⟨h0.out.own_base k hk,L8 h0.out k hk⟩⟩)
    case mono =>
     intro p hp;simp only[List.mem_cons,List.not_mem_nil,or_false]at hp;rcases hp with rfl | rfl | rfl | rfl | rfl | rfl | rfl | rfl | rfl | rfl | rfl | rfl | rfl | rfl | rfl | rfl | rfl | rfl | rfl | rfl | rfl | rfl | rfl <;> first | exact RH _ _ _ | exact RF _ _ _ _ | exact RG _ _ _ _ _ _ _
    case mono0=>exact fun _ _ _ h hC _ hO=>h.chg hC fun a H=>hO a.block (by rw[H];rfl)
    case hstep =>
     apply OSteps.all (K:=(kRv8 (w.heap.size) (some ⟨g,o,none⟩) n c i g o c9 A9 L2 x y z)) (l:= [0,1,2,3,4,5,6,7,8,9,10,11,12,13,14,15,16,17,18,19,20,21,22]);rotate_left
     ·kernel_rfl
     refine OSteps.cons rfl (fun F a wq H hd=>?_) ?_
     ·exact Aj (Ah (v:= .slice A9 L2.length c9) (.inl rfl) (Af (H.same 3))) rfl ⟨rfl,fun _ h=>h⟩
     refine OSteps.cons rfl (fun F a wq H hd=>?_) ?_
     ·exact Aj (Ah (v:= .slice (some ⟨g,o,none⟩) n c) (.inl rfl) (Af (H.same 0))) rfl ⟨rfl,fun _ h=>h⟩
     refine OSteps.cons rfl (fun F a wq H hd=>?_) ?_
     ·exact Aj (Ah (v:= .int .i64 (i:Int)) (.inl rfl) (Af (H.same 5))) rfl ⟨rfl,fun _ h=>h⟩
     refine OSteps.cons rfl (fun F a wq H hd=>?_) ?_
     ·exact Aj (DF (q:= .slice (some ⟨g,o,none⟩) n c) (z:= .int .i64 (i:Int)) (v:= .pointer (some ⟨g,o+i*4,none⟩)) rfl (Ac (hd.one 1 34).1.1) (Ac (hd.one 2 35).1.1) (M0 wq g o n c i y0)) rfl ⟨rfl,fun _ h=>h⟩
     refine OSteps.cons rfl (fun F a wq H hd=>?_) ?_
     ·exact Aj (Ao (q:= .pointer (some ⟨g,o+i*4,none⟩)) (v:= .pointer (some ⟨g,o+i*4+1,none⟩)) rfl (Ac (hd.one 3 36).1.1) ((MW wq g (o+i*4)).2.1)) rfl ⟨rfl,fun _ h=>h⟩
     refine OSteps.cons rfl (fun F a wq H hd=>?_) ?_
     ·exact Aj (AI (q:= .pointer (some ⟨g,o+i*4+1,none⟩)) (v:= .int .i64 (x:Int)) rfl (Ac (hd.one 4 37).1.1) (Bz (U.out wq H.ext).2.1)) rfl ⟨rfl,fun _ h=>h⟩
     refine OSteps.cons rfl (fun F a wq H hd=>?_) ?_
     ·have qa:a.tmps.getD 38 undef = .int .i64 (x:Int):=(hd.one 5 38).1.1;exact Fj rfl rfl (enters_of func109 (by kernel_rfl) rfl) (Dr qa) (G1 H.ext.size (q0.out x wq (by omega)))
     refine OSteps.cons rfl (fun F a wq H hd=>?_) ?_
     ·have qs:a.eval (.tmp 33) = .slice A9 L2.length c9:=(Ac (hd.one 0 33).1.1)
      have hb:=(hd.zero rfl).1;obtain⟨⟨Ax,cx,qx,O,_⟩,k3⟩:(kB (w.heap.size) (vb x)) (a.tmps.getD 39 undef) (F 6) wq/\_:=hd.one 6 39;exact Fi rfl hb O (.tmp 33) (.tmp 39) rfl qs qx (by omega) H.ext.size (fun k hk=>OU rfl hk) (fun _ _ _ h=>h)
     refine OSteps.cons rfl (fun F a wq H hd=>?_) ?_
     ·exact Aj (Ah (v:= .slice (some ⟨g,o,none⟩) n c) (.inl rfl) (Af (H.same 0))) rfl ⟨rfl,fun _ h=>h⟩
     refine OSteps.cons rfl (fun F a wq H hd=>?_) ?_
     ·exact Aj (Ah (v:= .int .i64 (i:Int)) (.inl rfl) (Af (H.same 5))) rfl ⟨rfl,fun _ h=>h⟩
     refine OSteps.cons rfl (fun F a wq H hd=>?_) ?_
     ·exact Aj (DF (q:= .slice (some ⟨g,o,none⟩) n c) (z:= .int .i64 (i:Int)) (v:= .pointer (some ⟨g,o+i*4,none⟩)) rfl (Ac (hd.one 8 41).1.1) (Ac (hd.one 9 42).1.1) (M0 wq g o n c i y0)) rfl ⟨rfl,fun _ h=>h⟩
     refine OSteps.cons rfl (fun F a wq H hd=>?_) ?_
     ·exact Aj (Ao (q:= .pointer (some ⟨g,o+i*4,none⟩)) (v:= .pointer (some ⟨g,o+i*4+2,none⟩)) rfl (Ac (hd.one 10 43).1.1) ((MW wq g (o+i*4)).2.2.1)) rfl ⟨rfl,fun _ h=>h⟩
     refine OSteps.cons rfl (fun F a wq H hd=>?_) ?_
     ·exact Aj (AI (q:= .pointer (some ⟨g,o+i*4+2,none⟩)) (v:= .int .i64 (y:Int)) rfl (Ac (hd.one 11 44).1.1) (Bz (U.out wq H.ext).2.2.1)) rfl ⟨rfl,fun _ h=>h⟩
     refine OSteps.cons rfl (fun F a wq H hd=>?_) ?_
     ·have qa:a.tmps.getD 45 undef = .int .i64 (y:Int):=(hd.one 12 45).1.1;exact Fj rfl rfl (enters_of func109 (by kernel_rfl) rfl) (Dr qa) (G1 H.ext.size (q0.out y wq (by omega)))
     refine OSteps.cons rfl (fun F a wq H hd=>?_) ?_
     ·obtain⟨⟨As,cs,qs,hb,hS⟩,j3⟩:(kB (w.heap.size) (L2++vb x)) (a.tmps.getD 40 undef) (F 7) wq/\_:=hd.one 7 40;obtain⟨⟨Ax,cx,qx,O,_⟩,m3⟩:(kB (w.heap.size) (vb y)) (a.tmps.getD 46 undef) (F 13) wq/\_:=hd.one 13 46;exact Fi rfl hb O (.tmp 40) (.tmp 46) rfl qs qx (by rw[List.length_append];omega) H.ext.size (fun k hk=>Em (j:=7) (d:=40) rfl (by kernel_rfl) (by kernel_rfl) (by kernel_rfl) (by kernel_rfl) ((hS k).2 (by rw[qs];exact hk))) (fun _ _ _ h=>h)
     refine OSteps.cons rfl (fun F a wq H hd=>?_) ?_
     ·exact Aj (Ah (v:= .slice (some ⟨g,o,none⟩) n c) (.inl rfl) (Af (H.same 0))) rfl ⟨rfl,fun _ h=>h⟩
     refine OSteps.cons rfl (fun F a wq H hd=>?_) ?_
     ·exact Aj (Ah (v:= .int .i64 (i:Int)) (.inl rfl) (Af (H.same 5))) rfl ⟨rfl,fun _ h=>h⟩
     refine OSteps.cons rfl (fun F a wq H hd=>?_) ?_
     ·exact Aj (DF (q:= .slice (some ⟨g,o,none⟩) n c) (z:= .int .i64 (i:Int)) (v:= .pointer (some ⟨g,o+i*4,none⟩)) rfl (Ac (hd.one 15 48).1.1) (Ac (hd.one 16 49).1.1) (M0 wq g o n c i y0)) rfl ⟨rfl,fun _ h=>h⟩
     refine OSteps.cons rfl (fun F a wq H hd=>?_) ?_
     ·exact Aj (Ao (q:= .pointer (some ⟨g,o+i*4,none⟩)) (v:= .pointer (some ⟨g,o+i*4+3,none⟩)) rfl (Ac (hd.one 17 50).1.1) ((MW wq g (o+i*4)).2.2.2)) rfl ⟨rfl,fun _ h=>h⟩
     refine OSteps.cons rfl (fun F a wq H hd=>?_) ?_
     ·exact Aj (AI (q:= .pointer (some ⟨g,o+i*4+3,none⟩)) (v:= .int .i64 (z:Int)) rfl (Ac (hd.one 18 51).1.1) (Bz (U.out wq H.ext).2.2.2)) rfl ⟨rfl,fun _ h=>h⟩
     refine OSteps.cons rfl (fun F a wq H hd=>?_) ?_
     ·have qa:a.tmps.getD 52 undef = .int .i64 (z:Int):=(hd.one 19 52).1.1;exact Fj rfl rfl (enters_of func109 (by kernel_rfl) rfl) (Dr qa) (G1 H.ext.size (q0.out z wq (by omega)))
     refine OSteps.cons rfl (fun F a wq H hd=>?_) ?_
     ·obtain⟨⟨As,cs,qs,hb,hS⟩,t3⟩:(kB (w.heap.size) ((L2++vb x)++vb y)) (a.tmps.getD 47 undef) (F 14) wq/\_:=hd.one 14 47;obtain⟨⟨Ax,cx,qx,O,_⟩,x3⟩:(kB (w.heap.size) (vb z)) (a.tmps.getD 53 undef) (F 20) wq/\_:=hd.one 20 53;exact Fi rfl hb O (.tmp 47) (.tmp 53) rfl qs qx (by rw[List.length_append,List.length_append];omega) H.ext.size (fun k hk=>Em (j:=14) (d:=47) rfl (by kernel_rfl) (by kernel_rfl) (by kernel_rfl) (by kernel_rfl) ((hS k).2 (by rw[qs];exact hk))) (fun _ _ _ h=>h)
     refine OSteps.cons rfl (fun F a wq H hd=>?_) ?_
     ·obtain⟨⟨As,cs,qs,hb,hS⟩,m1⟩:(kB (w.heap.size) (((L2++vb x)++vb y)++vb z)) (a.tmps.getD 54 undef) (F 21) wq/\_:=hd.one 21 54;exact Fk (S:=F 21) (Ah (.inr rfl) qs) rfl ⟨As,cs,rfl,hb,fun k=>by rw[hS k,qs]⟩ (Ext.refl _) (fun k hk=> .inr ⟨(m1 k hk).2,Em (j:=21) (d:=54) rfl (by kernel_rfl) (by kernel_rfl) (by kernel_rfl) (by kernel_rfl) hk⟩)
     exact OSteps.nil
    case fin =>
     intro F a w10 H hh;obtain⟨⟨A10,c10,q10,G,f3⟩,o1⟩:(kB (w.heap.size) (((L2++vb x)++vb y)++vb z)) (a.tmps.getD 3 undef) (F 22) w10/\_:=hh 22 3 (by kernel_rfl) (by kernel_rfl) (by kernel_rfl);have Y:=H.act [33,34,35,36,37,38,39,40,41,42,43,44,45,46,47,48,49,50,51,52,53,54,3] (by kernel_rfl);have o0:=Aa H.ext;simp only[List.foldl_cons,List.foldl_nil]at Y;rw[q10]at Y;replace G:=Aa G;clear H hh q10;obtain⟨fv,v0⟩:∃f:Nat->Value,∀d,a.tmps.getD d undef=f d:=⟨_,fun _=>rfl⟩
     simp only[v0]at Y;clear v0;subst Y;simp only[Bv,Bw,By];obtain⟨L3,j0⟩:=Ab (L2++vb x++vb y++vb z);rw[<-j0]at G ⊢;have i1:L3.length<=200*(i+1):=by rw[j0];simp only[List.length_append];omega
     have d1:Z=L3++blockE t (l.drop (i+1)):=by rw[p0.out,j0];simp only[List.append_assoc]
     replace j0:=Aa j0;replace d1:=Aa d1;have t0:w10.cell? ⟨g,o+i*4,none⟩=some (.string ⟨t.toArray⟩):=(U.out w10 o0.out).1;clear g0 h0 f1 q1 p0 m0;go_wp2_with fail;go_roundw
     case rel=>exact⟨i+1,c10,A10,L3,t,rfl,rfl,by go_num,by omega,i1,m2,d1,G,o0⟩
     case measure=>simp only[intOf];omega
  ·obtain rfl:i=n:=by omega
   have J:=hz.out;rw[hn.out,List.drop_length]at J;have p0:Z=L:=by rw[J];exact List.append_nil _
   subst p0;go_wp2_with fail;go_ret;exact⟨X,dx,rfl,hb.out,hE.out⟩
end
end Go.Proofs.YtfifdilapbeiiaaGreat
