/- Texts of one proof, joined. -/
import Derived.Test.YtfifdilapbeiiaaGreatPG06
import Derived.BigRegion
import Derived.Maps.RangeRun
import Derived.Maps.Range
import Derived.Laws.IdiomRangeMap
set_option linter.unusedSimpArgs false
set_option linter.unusedVariables false
set_option maxRecDepth 100000
set_option maxHeartbeats 16000000
namespace Go.Proofs.YtfifdilapbeiiaaGreat
open _root_.Go.Proofs.Tryz
variable {a a' a0:Act} {listed:Array Bool} {ops:Array Oper} {cs cs' lb vs:Array Value} {Q R:Exit → Act → World → Prop} {fl la la0 z z0 z1 z2:Int} {bs ks ns ps:List (List UInt8)} {L':List (Value × Value)} {ms rs:List Nat} {Hd Hd' L f l l1 l2 nm p pre r r1 r2 s tx:List UInt8} {news us xs ys:List Value} {B B1 M N X acc b b1 b2 base bytes c c' c1 c2 c3 cl fr fuel g g' g1 g2 g3 gd gf i j k lo m m' n n1 n2 n3 off q x:Nat} {S:Nat → Prop} {o y:Oper} {A A' A1 A2 A3 A8:Option Addr} {P:Program} {md:Region.Mode} {E T e t t' t1 t2 tp tq tr ty:TypeId} {V V1 u u0 v v1 v2 v3:Value} {C W W' W1 W6 w w' w0 w1 w2 w8 w9 wx:World}
section
open Go.RowKit
structure DocC where
  seq:Int
  e:Ev
  A:Option Addr
  c:Nat
def DocC.cells (x:DocC):List Value:= [.int .i64 x.seq,.int .i64 x.e.at_,.slice x.A x.e.fs.length x.c]
def DocC.val (x:DocC):Value:= .agg #[.int .i64 x.seq,.int .i64 x.e.at_,.slice x.A x.e.fs.length x.c]
def DocC.dc (x:DocC):Dc:=(x.seq,x.e)
def dcells (l:List DocC):List Value:=l.flatMap DocC.cells
def dcs (l:List DocC):List Dc:=l.map DocC.dc
theorem Er (l:List DocC):(dcells l).length=l.length*3:=AU (cellsA:=DocC.cells) (k:=3) (fun _=>rfl) l
theorem Ep {l:List DocC} {x:DocC} (h:l[i]? = some x) (d:j<3):(dcells l)[i*3+j]? = x.cells[j]? :=AW (cellsA:=DocC.cells) (k:=3) (fun _=>rfl) l i x j h d
theorem AR {l:List DocC} (h:Cells w A (dcells l)) {x:DocC} (d:l[i]? = some x):∃g o,A=some ⟨g,o,none⟩/\w.cell? ⟨g,o+i*3,none⟩=some (.int .i64 x.seq)/\w.cell? ⟨g,o+i*3+1,none⟩=some (.int .i64 x.e.at_)/\w.cell? ⟨g,o+i*3+2,none⟩=some (.slice x.A x.e.fs.length x.c):=by
 obtain⟨g,o,Y,H⟩:=h.at_ (by rw[Er];have:=(List.getElem?_eq_some_iff.1 d).1;omega);refine⟨g,o,Y,?_,?_,?_⟩
 ·have:=H (i*3+0) _ (by rw[Ep d (by omega)];rfl);exact this
 ·have:=H (i*3+1) _ (by rw[Ep d (by omega)];rfl);exact this
 ·have:=H (i*3+2) _ (by rw[Ep d (by omega)];rfl);exact this
structure DocsOk (w:World) (A:Option Addr) (l:List DocC):Prop where
  cells:Cells w A (dcells l)
  each:∀x∈l,x.e.Ok w x.A/\I64ok' x.e.at_/\I64ok' x.seq
theorem DocsOk.ext {l:List DocC} (h:DocsOk w A l) (d:Ext w w1):DocsOk w1 A l:=⟨h.cells.ext d,fun x H=>⟨(h.each x H).1.ext d,(h.each x H).2⟩⟩
theorem DocsOk.nil (w:World) (A:Option Addr):DocsOk w A []:=⟨.inl rfl,nofun⟩
theorem DocsOk.part {ps:List DocC} (h:DocsOk w A ps) (d:∀a,A=some a->a.spot=none) (i m:Nat):DocsOk w (A.map fun a=>a.add (i*3)) ((ps.drop i).take m):=by
 refine⟨?_,fun x H=>h.each x (List.mem_of_mem_drop (List.mem_of_mem_take H))⟩;unfold dcells;rw[Bh (f:=DocC.cells) (k:=3) (fun _=>rfl),Bo (f:=DocC.cells) (k:=3) (fun _=>rfl)];exact h.cells.part d _ _
def ckD (lo:Int) (l:List Dc):Bool:=risB 1099511627777 lo (l.map (·.1))&&l.all okD
theorem JW (lo:Int) (x:Dc) (t:List Dc):ckD lo (x::t)=(decide (lo<x.1)&&decide (x.1<1099511627777)&&decide (checkE x.2.fs=0)&&ckD x.1 t):=by
 unfold ckD;rw[List.map_cons,risB,List.all_cons];unfold okD;cases decide (lo<x.1) <;> cases decide (x.1<1099511627777) <;> cases decide (checkE x.2.fs=0) <;> simp
theorem Gg (ds:List DocC) (A:Option Addr) (m c:Nat) (w:World) (hm:m=ds.length) (h:DocsOk w A ds) (q1:m<=1000000000) :
 Calls prog 78 #[.slice A m c] w fun e w'=>e = .returned (.int .i64 (if okDs (dcs ds) then 0 else 120))/\Ext w w':=by
 have m0:=Aa (fun(e:Ev) B d W h=>Dj e B d W h);obtain⟨Z,hZ⟩:=Ab (okDs (dcs ds));rw[<-hZ];have hlen:(dcs ds).length=m:=by unfold dcs;rw[List.length_map,hm]
 by_cases l0:65536<m
 ·have b0:Z=false:=by
   rw[hZ];unfold okDs;rw[hlen,decide_eq_false (by omega)];rfl
  subst b0;have c0:(65536:Int)<m:=by omega
  clear hZ m0 h
  go_in
  go_wp2_with fail;go_ret;exact⟨rfl,Ext.refl _⟩
 ·have c0:¬ (65536:Int)<m:=by omega
  have j0:Z=ckD 0 (dcs ds):=by
   rw[hZ];unfold okDs;rw[hlen,decide_eq_true (by omega)];rfl
  replace hZ:=Aa j0;clear j0;replace hm:=Aa hm;replace h:=Aa h;replace hlen:=Aa hlen
  go_in
  go_wp2_with fail
  go_loopw [3,11] (fun s3 s11 wr=>∃(i:Nat) (la:Int),s3 = .int .i64 la/\s11 = .int .i64 (i:Int)/\i<=m/\Hid (Z=ckD la (dcs (ds.drop i)))/\Hid (Ext w wr)) (fun _ s11 _=>m - (intOf s11).toNat)
  case atStart=>exact⟨0,0,rfl,rfl,by omega,Aa (by rw[hZ.out];rfl),Aa (Ext.refl w)⟩
  case round =>
   obtain⟨i,la,rfl,rfl,hi,hb,hE⟩:=hrel;by_cases f0:i<m
   ·obtain⟨x,I⟩:∃x,ds[i]? = some x:=⟨_,List.getElem?_eq_getElem (by rw[<-hm.out];exact f0)⟩
    obtain⟨g,o,hA,d0,e0,g0⟩:=AR (h.out.cells.ext hE.out) I;subst hA;have hx:=h.out.each x (List.mem_of_getElem? I);have H:=hb.out;rw[AY I]at H;unfold dcs at H;rw[List.map_cons,JW]at H;obtain⟨W2,Y⟩:=Ab (wr.alloc (.cells #[.int .i64 x.seq,.int .i64 x.e.at_,.slice x.A x.e.fs.length x.c] 71));have O:Ext w W2:=by rw[Y];exact hE.out.alloc _
    have J:=m0.out x.e x.A x.c W2 (hx.1.ext O);have U:Row W2 wr.heap.size 71 #[.int .i64 x.seq,.int .i64 x.e.at_,.slice x.A x.e.fs.length x.c]:=by rw[Y];exact Row.new wr _ _
    obtain⟨g2,G⟩:=Ab wr.heap.size;rw[<-G]at U;have r0:=U.cell 0 rfl;have r1:=U.cell 1 rfl;have r2:=U.cell 2 rfl;unfold Ev.val at J;obtain⟨seq,⟨at_,fs⟩,B,cB⟩:=x;change Z=(decide (la<seq)&&decide (seq<1099511627777)&&decide (checkE fs=0)&&ckD seq (dcs (ds.drop (i+1))))at H;simp only at d0 e0 g0 J Y r0 r1 r2;obtain⟨fl,p0⟩:=Ab fs.length;rw[<-p0]at g0 J Y U r2;replace J:=Aa J;replace U:=Aa U;replace G:=Aa G;replace O:=Aa O;replace Y:=Aa Y;replace p0:=Aa p0;replace hx:=Aa hx;replace I:=Aa I;clear hb;by_cases h1:seq<=la
    ·rw[decide_eq_false (by omega),Bool.false_and,Bool.false_and,Bool.false_and]at H;subst H;go_upto_region 7 with fail;rw[<-Y.out,<-G.out];go_wp2_with fail;go_ret;exact⟨rfl,O.out⟩
    ·by_cases h2:1099511627776<seq
     ·rw[decide_eq_false (p:=seq<1099511627777) (by omega),Bool.and_false,Bool.false_and,Bool.false_and]at H;subst H;go_upto_region 7 with fail;rw[<-Y.out,<-G.out];go_wp2_with fail;go_ret;exact⟨rfl,O.out⟩
     ·rw[decide_eq_true (p:=la<seq) (by omega),decide_eq_true (p:=seq<1099511627777) (by omega),Bool.true_and,Bool.true_and]at H;by_cases h3:checkE fs=0
      ·rw[decide_eq_true h3,Bool.true_and]at H;rw[h3]at J;replace H:=Aa H;go_upto_region 7 with fail;rw[<-Y.out,<-G.out];go_wp2_with fail;refine J.out.mono ?_;rintro e w3 ⟨rfl,h0⟩;have q0:=(U.out.ext h0).cell 0 rfl;go_wp2_with fail;exact⟨⟨i+1,seq,rfl,rfl,by omega,H,Aa (O.out.trans h0)⟩,by simp only[intOf];omega⟩
      ·rw[decide_eq_false h3,Bool.false_and]at H;subst H;obtain⟨k,hk⟩:=Ab (checkE fs);rw[<-hk]at J h3;have n0:¬ (k:Int)=0:=by omega
       replace hk:=Aa hk;go_upto_region 7 with fail;rw[<-Y.out,<-G.out];go_wp2_with fail;refine J.out.mono ?_;rintro e w3 ⟨rfl,h0⟩;go_wp2_with fail;go_ret;exact⟨rfl,O.out.trans h0⟩
   ·obtain rfl:i=m:=by omega
    have y0:Z=true:=by rw[hb.out,List.drop_eq_nil_of_le (by rw[<-hm.out];exact Nat.le_refl _)];rfl
    subst y0;go_wp2_with fail;go_ret;exact⟨rfl,hE.out⟩
theorem MN (h:Buf w base e A n c xs):A=none->c=0:=fun d=>by
 rcases h.2.2 with ⟨_,h⟩ | ⟨g,_,h,_⟩
 ·exact h
 ·rw[h]at d;cases d
theorem OQ (ds:List DocC) (A:Option Addr) (m c:Nat) (w:World) (hm:m=ds.length) (h:DocsOk w A ds) (p1:m<=1000000) :
 Calls prog 48 #[.slice A m c] w fun e w'=>NewB w (timesD 0 (dcs ds)) e w':=by
 have f0:=Aa (fun A n c x l W h1 h2 h3 h4 h5 h6=>EF A n c x l W h1 h2 h3 h4 h5 h6);have k0:∀i,(timesD 0 (dcs (ds.take i))).length<=10*i:=fun i=>by
  have:=Dx (dcs (ds.take i)) 0;have h2:(dcs (ds.take i)).length<=i:=by unfold dcs;rw[List.length_map,List.length_take];omega
  omega
 replace k0:=Aa k0;replace h:=Aa h;replace hm:=Aa hm
 go_in
 go_wp2_with fail
 go_loopw [3,4,9] (fun s3 s4 s9 wr=>∃(i n:Nat) (B:Option Addr) (k:Nat) (a:Int),s9 = .int .i64 (i:Int)/\s3 = .slice B n k/\s4 = .int .i64 a/\i<=m/\n<=10*i/\Hid (a=lastAt 0 (dcs (ds.take i)))/\Hid (n=(timesD 0 (dcs (ds.take i))).length)/\Hid (Buf wr w.heap.size 5 B n k ((timesD 0 (dcs (ds.take i))).map B8))/\Hid (Ext w wr)) (fun _ _ s9 _=>m - (intOf s9).toNat)
 case atStart=>exact⟨0,0,none,0,0,rfl,rfl,rfl,by omega,by omega,Aa rfl,Aa rfl,Aa (Buf.nil _ _ _),Aa (Ext.refl w)⟩
 case round =>
  obtain⟨i,n,B,k,a,rfl,rfl,rfl,hi,hn,ha,O,hB,hE⟩:=hrel;by_cases e0:i<m
  ·obtain⟨x,hx⟩:∃x,ds[i]? = some x:=⟨_,List.getElem?_eq_getElem (by rw[<-hm.out];exact e0)⟩
   have t0:=h.out.ext hE.out;obtain⟨g,o,hA,x0,x1,x2⟩:=AR t0.cells hx;subst hA;have Z:dcs (ds.take (i+1))=dcs (ds.take i) ++ [x.dc]:=by rw[List.take_add_one,hx];unfold dcs;rw[List.map_append];rfl
   have p0:lastAt 0 (dcs (ds.take (i+1)))=x.e.at_:=by rw[Z,Ez];rfl
   have G:timesD 0 (dcs (ds.take (i+1)))=timesD 0 (dcs (ds.take i))++vb (zig (wrap64 (x.e.at_ - a))):=by
    rw[Z,EI,<-ha.out];show _++(_ ++ [])=_;rw[List.append_nil];rfl
   obtain⟨d,hd⟩:=Ab (wrap64 (x.e.at_ - a));have h0:=Fw (x.e.at_ - a);rw[<-hd]at G h0;have m0:=k0.out (i+1);replace Z:=Aa Z;replace p0:=Aa p0;replace G:=Aa G;replace hx:=Aa hx;clear t0;go_wp2_with fail;obtain⟨W5,J⟩:=Ab (wr.alloc (Obj.cells #[Value.int IntKind.i64 x.seq,Value.int IntKind.i64 x.e.at_,Value.slice x.A x.e.fs.length x.c] 71));have I:Ext wr W5:=by rw[J];exact(Ext.refl wr).alloc _
   have r5:Row W5 wr.heap.size 71 #[Value.int IntKind.i64 x.seq,Value.int IntKind.i64 x.e.at_,Value.slice x.A x.e.fs.length x.c]:=by rw[J];exact Row.new wr _ _
   obtain⟨g5,q0⟩:=Ab wr.heap.size;rw[<-J,<-q0,<-hd];rw[<-q0]at r5;have j0:=hB.out.ext I;refine(f0.out B n k d _ W5 O.out j0.cells (MN j0) (by omega) h0.1 h0.2).mono ?_;rintro e w6 ⟨A6,c6,rfl,H,Y⟩;rw[<-G.out]at H ⊢;have r6:=r5.ext Y;have y1:=r6.cell 1 rfl;have v0:w.heap.size<=W5.heap.size:=(hE.out.trans I).size;obtain⟨n6,U⟩:=Ab ((timesD 0 (dcs (ds.take (i+1)))).length);rw[<-U]at H m0 ⊢;replace U:=Aa U;replace H:=Aa (H.lower v0);replace Y:=Aa (I.trans Y);clear J q0 hd r5 r6;go_wp2_with fail;go_roundw
   case rel=>exact⟨i+1,n6,A6,c6,_,rfl,rfl,rfl,by omega,m0,Aa p0.out.symm,U,H,Aa (hE.out.trans Y.out)⟩
   case measure=>simp only[intOf];omega
  ·have k1:m=i:=by omega
   have g0:ds.take i=ds:=List.take_of_length_le (by rw[<-hm.out];omega);rw[g0]at hB O;go_wp2_with fail;go_ret;exact⟨B,k,by rw[O.out];rfl,by rw[<-O.out];exact hB.out,hE.out⟩
def prtA:List Int->Array Value
 | [a,b,c,d,e]=>#[.int .i64 0,.int .i64 0,.int .i64 a,.int .i64 b,.int .i64 c,.int .i64 d,.int .i64 e]
 | _=>#[]
theorem E5:∀(l:List Dc) (m:Int),I64ok' m->(∀d∈l,I64ok' d.2.at_)->I64ok' (lowD m l)
 | [],m,H,_=>H
 | d::t,m,H,h=>by
  have h1:=h d (List.mem_cons_self ..);refine E5 t _ ?_ fun x Y=>h x (List.mem_cons_of_mem _ Y);unfold I64ok' at *;omega
theorem Ea:∀(l:List Dc) (m:Int),I64ok' m->(∀d∈l,I64ok' d.2.at_)->I64ok' (highD m l)
 | [],m,H,_=>H
 | d::t,m,H,h=>by
  have h1:=h d (List.mem_cons_self ..);refine Ea t _ ?_ fun x Y=>h x (List.mem_cons_of_mem _ Y);unfold I64ok' at *;omega
theorem IH:∀(l:List Dc) (d:Dc),lastD d.1 l=((d::l)[l.length]?.map (·.1)).getD 0
 | [],d=>rfl
 | p::t,d=>by
  show lastD p.1 t=_;rw[IH t p];rfl
theorem C7 {ds:List DocC} {x0 xl:DocC} (H:m=ds.length) (h:ds[0]? = some x0) (d:ds[m - 1]? = some xl):partD (dcs ds) = [lowD x0.e.at_ (dcs ds),highD x0.e.at_ (dcs ds),x0.seq,xl.seq,(m:Int)]:=by
 cases ds with
 | nil=>simp at h
 | cons y t =>
  obtain rfl:y=x0:=by simpa using h
  have h1:=IH (dcs t) y.dc;have hk:(dcs t).length=t.length:=by unfold dcs;rw[List.length_map]
  have h2:(y.dc::dcs t)[t.length]? = some xl.dc:=by
   show (dcs (y::t))[t.length]? = _;unfold dcs;rw[List.getElem?_map];rw[H,List.length_cons,Nat.add_sub_cancel]at d;rw[d];rfl
  rw[hk,h2]at h1;show [lowD y.e.at_ (dcs (y::t)),highD y.e.at_ (dcs (y::t)),y.seq,lastD y.dc.1 (dcs t),((dcs (y::t)).length:Int)]=_;rw[h1];have Y:(dcs (y::t)).length=m:=by rw[H];unfold dcs;rw[List.length_map]
  rw[Y];rfl
theorem Fa {fn:Func} {p:Tmp} (h:fn.results=#[.cell p ty]) (tmps:Array Value) (w:World) (g:Nat) (cs:Array Value)
 (d:tmps.getD p undef = .pointer (some ⟨g,0,none⟩)) (H:(loadVar ty ⟨g,0,none⟩).run P w = .ok (.agg cs) w) :
 (results fn tmps).run P w = .ok (.agg cs) w:=by
 rw[Array.getD_eq_getD_getElem?]at d;simp only[results,h];simp[Sem.run_bind,Result.andThen,d,asAddr,H]
theorem K4 (ds:List DocC) (A:Option Addr) (m c:Nat) (w:World) (hm:m=ds.length) (h:DocsOk w A ds) (x2:m<=1000000) (h0:0<m) :
 Calls prog 46 #[.slice A m c] w fun e w'=>e = .returned (.agg (prtA (partD (dcs ds))))/\Ext w w':=by
 obtain⟨x0,j0⟩:∃x,ds[0]? = some x:=⟨_,List.getElem?_eq_getElem (by omega)⟩
 obtain⟨xl,g0⟩:∃x,ds[m - 1]? = some x:=⟨_,List.getElem?_eq_getElem (by omega)⟩
 obtain⟨g,o,hA,a0,a1,a2⟩:=AR h.cells j0;obtain⟨g',o',Y,b0,b1,b2⟩:=AR h.cells g0;rw[hA]at Y;injection Y with Y;injection Y with hg ho;subst hg;subst ho;rw[Nat.zero_mul,Nat.add_zero]at a0 a1 a2;have J:partD (dcs ds) = [lowD x0.e.at_ (dcs ds),highD x0.e.at_ (dcs ds),x0.seq,xl.seq,(m:Int)]:=C7 hm j0 g0;subst hA;replace h:=Aa h;replace hm:=Aa hm;replace j0:=Aa j0;replace g0:=Aa g0;obtain⟨k,hk⟩:∃k,m=k+1:=⟨m - 1,by omega⟩
 subst hk;rw[show k+1 - 1=k by omega]at b0 b1 b2;have m0:∀d∈dcs ds,I64ok' d.2.at_:=fun d hd=>by
  unfold dcs at hd;obtain⟨x,hx,rfl⟩:=List.mem_map.1 hd;exact(h.out.each x hx).2.1
 replace m0:=Aa m0;replace J:=Aa J
 go_in
 go_wp2_with fail;obtain⟨W1,O⟩:=Ab (w.alloc (Obj.cells #[Value.int IntKind.i64 0,Value.int IntKind.i64 0,Value.int IntKind.i64 0,Value.int IntKind.i64 0,Value.int IntKind.i64 0,Value.int IntKind.i64 0,Value.int IntKind.i64 0] 79));rw[<-O];have U:Ext w W1:=by rw[O];exact(Ext.refl w).alloc _
 have r1:Row W1 w.heap.size 79 #[Value.int IntKind.i64 0,Value.int IntKind.i64 0,Value.int IntKind.i64 0,Value.int IntKind.i64 0,Value.int IntKind.i64 0,Value.int IntKind.i64 0,Value.int IntKind.i64 0]:=by rw[O];exact Row.new w _ _
 have c1:=U.cell a1;have c0:=U.cell a0;have d0:=U.cell b0;replace O:=Aa O;refine AE (fun K hK=>?_);go_wp2_with fail;refine⟨by kernel_rfl,?_⟩;go_wp2_with fail;obtain⟨W2,Z⟩:=Ab ((W1.alloc (Obj.cells #[Value.int IntKind.i64 0,Value.int IntKind.i64 0,Value.int IntKind.i64 x0.e.at_,Value.int IntKind.i64 x0.e.at_,Value.int IntKind.i64 x0.seq,Value.int IntKind.i64 xl.seq,Value.int IntKind.i64 ((k:Int)+1)] 79)).drew);rw[<-Z];obtain⟨b1,I⟩:=Ab w.heap.size;obtain⟨b2,q0⟩:=Ab W1.heap.size;have h1:Ext W1 W2:=by rw[Z];exact((Ext.refl W1).alloc _).drew
 have r2:Row W2 b2 79 #[Value.int IntKind.i64 0,Value.int IntKind.i64 0,Value.int IntKind.i64 x0.e.at_,Value.int IntKind.i64 x0.e.at_,Value.int IntKind.i64 x0.seq,Value.int IntKind.i64 xl.seq,Value.int IntKind.i64 ((k:Int)+1)]:=by rw[Z,q0];exact Row.new W1 _ _
 have r12:=r1.ext h1;rw[<-I]at r12;have j2:b1<b2:=by have:=r1.lt;omega
 rw[<-I,<-q0];have hE:=Aa (U.trans h1);replace r2:=Aa r2;replace r12:=Aa r12;replace Z:=Aa Z;replace I:=Aa I;replace q0:=Aa q0;clear r1 c0 c1 d0
 go_loopw [32] (fun s32 wr=>∃(i:Nat) (lo hi:Int),s32 = .int .i64 (i:Int)/\i<=k+1/\Hid (lo=lowD x0.e.at_ (dcs (ds.take i)))/\Hid (hi=highD x0.e.at_ (dcs (ds.take i)))/\Hid (Row wr b2 79 #[Value.int IntKind.i64 0,Value.int IntKind.i64 0,Value.int IntKind.i64 lo,Value.int IntKind.i64 hi,Value.int IntKind.i64 x0.seq,Value.int IntKind.i64 xl.seq,Value.int IntKind.i64 ((k:Int)+1)])/\Hid (Row wr b1 79 #[Value.int IntKind.i64 0,Value.int IntKind.i64 0,Value.int IntKind.i64 0,Value.int IntKind.i64 0,Value.int IntKind.i64 0,Value.int IntKind.i64 0,Value.int IntKind.i64 0])/\Hid (Ext w wr)) (fun s32 _=>k+1 - (intOf s32).toNat)
 case atStart=>exact⟨0,x0.e.at_,x0.e.at_,rfl,by omega,Aa rfl,Aa rfl,r2,r12,hE⟩
 case round =>
  obtain⟨i,lo,hi,rfl,m2,l0,i0,q2,q1,hE⟩:=hrel;by_cases o1:i<k+1
  ·obtain⟨x,hx⟩:∃x,ds[i]? = some x:=⟨_,List.getElem?_eq_getElem (by rw[<-hm.out];exact o1)⟩
   obtain⟨g',o',Y,x0',x1',x2'⟩:=AR (h.out.ext hE.out).cells hx;injection Y with Y;injection Y with hg ho;subst hg;subst ho;have k0:dcs (ds.take (i+1))=dcs (ds.take i) ++ [x.dc]:=by rw[List.take_add_one,hx];unfold dcs;rw[List.map_append];rfl
   have m1:Hid (min lo x.e.at_=lowD x0.e.at_ (dcs (ds.take (i+1)))):=Aa (by rw[k0,GY,<-l0.out];rfl);have j1:Hid (max hi x.e.at_=highD x0.e.at_ (dcs (ds.take (i+1)))):=Aa (by rw[k0,FE,<-i0.out];rfl);replace k0:=Aa k0;replace hx:=Aa hx;have y1:=q2.out.lt;have x1:=q1.out.lt;go_wp2_with fail;obtain⟨W5,G⟩:=Ab (wr.alloc (Obj.cells #[Value.int IntKind.i64 x.seq,Value.int IntKind.i64 x.e.at_,Value.slice x.A x.e.fs.length x.c] 71));have y0:Ext wr W5:=by rw[G];exact(Ext.refl wr).alloc _
   have r5:Row W5 wr.heap.size 71 #[Value.int IntKind.i64 x.seq,Value.int IntKind.i64 x.e.at_,Value.slice x.A x.e.fs.length x.c]:=by rw[G];exact Row.new wr _ _
   obtain⟨g5,p0⟩:=Ab wr.heap.size;rw[<-G,<-p0];rw[<-p0]at r5;have p2:=q2.out.ext y0;have v2:=p2.cell 2 rfl;have v3:=p2.cell 3 rfl;have f2:=p2.free 2;have f3:=p2.free 3;have u1:=r5.cell 1 rfl;have y2:g5≠b2:=by omega
   replace p2:=Aa p2;replace r5:=Aa r5;replace G:=Aa G;replace p0:=Aa p0;clear x0' x1' x2' x1 y1;go_region;have i1:∀g t cs,g≠b2->Row W5 g t cs->Row (((W5.setCell ⟨b2,2,none⟩ (.int .i64 (min lo x.e.at_))).setCell ⟨b2,3,none⟩ (.int .i64 (max hi x.e.at_))).drew) g t cs:=fun g t cs hg hr=>(hr.away (p:=⟨b2,2,none⟩) hg _).away (p:=⟨b2,3,none⟩) hg _;have k1:w.heap.size<=b2:=by rw[q0.out];exact U.size
   have e0:Ext w (((W5.setCell ⟨b2,2,none⟩ (.int .i64 (min lo x.e.at_))).setCell ⟨b2,3,none⟩ (.int .i64 (max hi x.e.at_))).drew):=(((hE.out.trans y0).setCell (p:=⟨b2,2,none⟩) k1 _).setCell (p:=⟨b2,3,none⟩) k1 _).drew;have p9:Row (((W5.setCell ⟨b2,2,none⟩ (.int .i64 (min lo x.e.at_))).setCell ⟨b2,3,none⟩ (.int .i64 (max hi x.e.at_))).drew) b2 79 #[Value.int IntKind.i64 0,Value.int IntKind.i64 0,Value.int IntKind.i64 (min lo x.e.at_),Value.int IntKind.i64 (max hi x.e.at_),Value.int IntKind.i64 x0.seq,Value.int IntKind.i64 xl.seq,Value.int IntKind.i64 ((k:Int)+1)]:=(p2.out.put 2 _).put 3 _;have q19:=i1 b1 _ _ (by omega) (q1.out.ext y0);replace e0:=Aa e0;replace p9:=Aa p9;replace q19:=Aa q19;go_wp2_with fail;go_roundw
   case rel=>exact⟨i+1,_,_,rfl,by omega,m1,j1,p9,q19,e0⟩
   case measure=>simp only[intOf];omega
  ·have p1:ds.take i=ds:=List.take_of_length_le (by rw[<-hm.out];omega);rw[p1]at l0 i0;have v0:=q2.out.cell 0 rfl;have v1:=q2.out.cell 1 rfl;have v2:=q2.out.cell 2 rfl;have v3:=q2.out.cell 3 rfl;have v4:=q2.out.cell 4 rfl;have v5:=q2.out.cell 5 rfl;have v6:=q2.out.cell 6 rfl;have f0:=q1.out.free 0;have f1:=q1.out.free 1;have f2:=q1.out.free 2;have f3:=q1.out.free 3;have f4:=q1.out.free 4;have f5:=q1.out.free 5;have f6:=q1.out.free 6;have t0:=q1.out.cell 0 rfl;have t1:=q1.out.cell 1 rfl;have t2:=q1.out.cell 2 rfl;have t3:=q1.out.cell 3 rfl;have t4:=q1.out.cell 4 rfl;have t5:=q1.out.cell 5 rfl;have t6:=q1.out.cell 6 rfl;go_wp2_with fail;have H:w.heap.size<=b1:=by rw[I.out];exact Nat.le_refl _
   have h2:=((((((q1.out.put 0 (.int .i64 0)).put 1 (.int .i64 0)).put 2 (.int .i64 lo)).put 3 (.int .i64 hi)).put 4 (.int .i64 x0.seq)).put 5 (.int .i64 xl.seq)).put 6 (.int .i64 ((k:Int)+1));have e1:=((((((hE.out.setCell (p:=⟨b1,0,none⟩) H (.int .i64 0)).setCell (p:=⟨b1,1,none⟩) H (.int .i64 0)).setCell (p:=⟨b1,2,none⟩) H (.int .i64 lo)).setCell (p:=⟨b1,3,none⟩) H (.int .i64 hi)).setCell (p:=⟨b1,4,none⟩) H (.int .i64 x0.seq)).setCell (p:=⟨b1,5,none⟩) H (.int .i64 xl.seq)).setCell (p:=⟨b1,6,none⟩) H (.int .i64 ((k:Int)+1));refine bodyPost_ret (Fa rfl _ _ b1 #[.int .i64 0,.int .i64 0,.int .i64 lo,.int .i64 hi,.int .i64 x0.seq,.int .i64 xl.seq,.int .i64 ((k:Int)+1)] rfl (run_loadVar_row _ b1 79 79 _ (0,0) _ h2 underlying79 rfl (by kernel_rfl))) rfl ⟨?_,e1⟩;rw[J.out,<-l0.out,<-i0.out];rfl
def IterS {α:Type} (P:Program) (gf:Nat) (lb:Array Value) (encs:α->Array Value) (St:World->World->World->Prop) (Nx:List α->α->World->Prop) (Kp:World->World->Prop) (Fin:List α->World->World->Prop) (w:World):Prop :=
 ∀(l:Nat) (J:List α->World->Prop) (W:World),Ext w W->(∀pre A B,J pre A->St W A B->J pre B) ->
  (∀pre x W1,J pre W1->Nx pre x W1->YieldAt Fence.wide 0 P l (encs x) W1 fun e W'=>e = .returned (.bool true)/\J (pre ++ [x]) W'/\Kp W1 W'/\KeepsOthers W1 W')->J [] W ->
  Calls P gf (#[.func (.yield l) #[] #[]]++lb) W fun e W'=>(∃v,e = .returned v)/\∃xs W2,J xs W2/\Fin xs W2 W'
theorem Md {α:Type} {g:Operand} {ps:Array Tmp} {assign body:Code}
 (hg:a.eval g = .func (.func gf) #[] lb) (eg:∀args w,(callFunc gf args).run P w = .ok (.enter gf args) w)
 {encs:α->Array Value} {St:World->World->World->Prop} {Nx:List α->α->World->Prop} {Kp:World->World->Prop} {Fin:List α->World->World->Prop} (h1:IterS P gf lb encs St Nx Kp Fin w)
 (y1:∀x,(encs x).size=ps.size) (d0:∀W A B,St W A B->∀k o,k<W.heap.size->A.heap[k]? = some o->o.isCells=false->B.heap[k]? = some o) (p0:∀xs A B,Fin xs A B->KeepsOthers A B)
 (j0:∀A B C,Kp A B->Kp B C->Kp A C) (b0:∀A B,Alike w.heap.size A B->Kp A B)
 (I:List α->World->Prop) (hI:∀pre A B,I pre A->Alike w.heap.size A B->I pre B) (i0:∀W pre A B,Ext w W->I pre A->St W A B->I pre B) (h0:∀W,Alike w.heap.size w W->I [] W)
 (q0:∀(l:Nat) (pre:List α) (x:α) (W:World),I pre W->Nx pre x W->assign.wpIn (Fence.wide.inRound l) 0 P (Exit.then (roundGo w.heap.size P l body Kp I (pre ++ [x]) W) (fun _ _ _=>False)) { tmps:=(ps.zip (encs x)).foldl (fun t (p,v)=>t.setIfInBounds p v) a.tmps,defers:= [] } W)
 (m0:∀(D:Nat) (xs:List α) (W2 W3 W4:World),w.heap.size<=D->I xs W2->Fin xs W2 W3->Alike w.heap.size W3 W4->W4.heap[D]? = some (.deferred (some []))->Q .normal { a with defers:= { target:= .collected D,args:=#[] }::a.defers } W4) :
 (Code.rangeFunc g ps assign body).wpIn Fence.wide 0 P Q a w:=by
 refine wpIn_rangeFunc ?_;intro fn o0;show ∃_,_;obtain⟨rec,d⟩:=Ab (fun st pe=> { state:=st,pending:=pe,fn,tmps:=a.tmps,params:=ps,assign,body,defers:=w.heap.size }:LoopState->Option Code->Loop);obtain⟨W1,U⟩:∃W1,(w.alloc (.deferred (some []))).alloc (.loop (rec .ready none))=W1:=⟨_,rfl⟩
 have c0:W1.heap[w.heap.size+1]? = some (.loop (rec .ready none)):=by
  rw[<-U];have:=World.alloc_heap_new (w.alloc (.deferred (some []))) (.loop (rec .ready none));rwa [World.size_alloc]at this
 have y0:W1.heap[w.heap.size]? = some (.deferred (some [])):=by
  rw[<-U];exact(Below.heap_alloc _ _ _ (by simp)).trans (World.alloc_heap_new w _)
 have k0:Ext w W1:=by rw[<-U];exact((Ext.refl w).alloc _).alloc _
 refine⟨w.heap.size+1,[{ target:= .collected w.heap.size,args:=#[] }],W1,{ target:= .fn (.func gf) lb,args:=#[.func (.yield (w.heap.size+1)) #[] #[]] },W1,gf,
  #[.func (.yield (w.heap.size+1)) #[] #[]]++lb,W1,?_,?_,?_,?_,fun h=>(by cases h),?_⟩
 ·rw[<-U,d];exact run_enterLoop_outer _ _ _ _ _
 ·simp only[resolve,hg];simp[go_sem]
 ·intro f' _;trivial
 ·simp[invoke,go_sem,eg]
 ·refine callsIn_wide.2 ((h1 (w.heap.size+1)
   (fun pre W=>I pre W/\W.heap[w.heap.size+1]? = some (.loop (rec .ready none))/\W.heap[w.heap.size]? = some (.deferred (some [])))
   W1 k0 (fun pre A B h hs=>⟨i0 W1 pre A B k0 h.1 hs,d0 W1 A B hs _ _ (Array.getElem?_eq_some_iff.1 c0).1 h.2.1 rfl,d0 W1 A B hs _ _ (Array.getElem?_eq_some_iff.1 y0).1 h.2.2 rfl⟩)
   ?_ ⟨h0 W1 (Chg.of_ext k0 _),c0,y0⟩).mono ?_)
  ·rintro pre x W ⟨hi,hl,hk⟩ m1;have q2:w.heap.size+1<W.heap.size:=(Array.getElem?_eq_some_iff.1 hl).1;have hy:=run_yield (P:=P) (args:=encs x) hl (by rw[d];exact y1 x);rw[d]at hy;refine⟨fn,_,assign,body,hy,roundIn_of_wpIn o0 ?_⟩;refine wpIn_mono (q0 _ pre x W hi m1) ?_;rintro e a1 W2 J;cases e with
   | normal =>
    obtain⟨Z,k1,g0⟩:=J;have H:=Z.same _ _ hl rfl;have t0:=Z.same _ _ hk rfl;have f0:w.heap.size+1<W2.heap.size:=(Array.getElem?_eq_some_iff.1 H).1;refine⟨W2.putObj (w.heap.size+1) (.loop { rec .ready none with state:= .busy }),run_beginRound H (by rw[d]),?_⟩;have ha:=Alike.others (B:=w.heap.size) H rfl (by omega) (.loop { rec .ready none with state:= .busy });have j1:(W2.putObj (w.heap.size+1) (.loop { rec .ready none with state:= .busy })).heap[w.heap.size+1]? = some (.loop { rec .ready none with state:= .busy }):=World.putObj_heap_same f0;have q1:(W2.putObj (w.heap.size+1) (.loop { rec .ready none with state:= .busy })).heap[w.heap.size]? = some (.deferred (some [])):=(World.putObj_heap_other (by omega)).trans t0;refine wpIn_mono (g0 _ ha) ?_;rintro e a3 W3 hp;cases e with
    | normal =>
     obtain⟨Y,e0,r0⟩:=hp;have G:=Y.same _ _ j1 rfl;have p1:=Y.same _ _ q1 rfl;have hr:=run_endRound (P:=P) none G;rw[d]at hr;have O:=Alike.others (B:=w.heap.size) G rfl (by omega) (.loop (rec .ready none));rw[d]at O;refine⟨_,_,hr,rfl,⟨hI _ _ _ r0 O,?_,?_⟩,j0 _ _ _ (j0 _ _ _ k1 (b0 _ _ ha)) (j0 _ _ _ e0 (b0 _ _ O)),?_⟩
     ·rw[d];exact World.putObj_heap_same (Array.getElem?_eq_some_iff.1 G).1
     ·exact(World.putObj_heap_other (by omega)).trans p1
     ·refine⟨Nat.le_trans Z.size (Nat.le_trans ha.size (Nat.le_trans Y.size O.size)),fun q o ho hc=>?_⟩;by_cases J:q=w.heap.size+1
      ·subst J;rw[hl,d]at ho;rw[<-ho];exact World.putObj_heap_same (Array.getElem?_eq_some_iff.1 G).1
      ·refine(World.putObj_heap_other J).trans (Y.same q o ?_ hc);exact(World.putObj_heap_other J).trans (Z.same q o ho hc)
    | ret=>exact hp.elim
    | exit id=>exact hp.elim
    | goto t=>exact hp.elim
    | panic ch=>exact hp.elim
    | outgrown=>exact hp.elim
   | ret=>exact J.elim
   | exit id=>exact J.elim
   | goto t=>exact J.elim
   | panic ch=>exact J.elim
   | outgrown=>exact J.elim
  ·rintro e W2 ⟨⟨v,rfl⟩,xs,W3,⟨hi,hl,hk⟩,hf⟩;have H:=(p0 _ _ _ hf).same _ _ hl rfl;have t0:=(p0 _ _ _ hf).same _ _ hk rfl;refine⟨none,_,by have:=run_endLoop (P:=P) H (by rw[d];simp);rw[d]at this;exact this,m0 _ xs W3 W2 _ (Nat.le_refl _) hi hf ?_ ((World.putObj_heap_other (by omega)).trans t0)⟩;rw[d]at H;exact Alike.others H rfl (by omega) _
end
section
open Go.RowKit
attribute [local go_sem] Oper.semAt_some AP Cp
def NewTm (w:World) (R:List (List UInt8×List Int)) (e:Ending) (w':World):Prop :=
 ∃L c D,e = .returned (.slice L D.length c)/\w'.ownsRow w.heap.size 157 2 (.slice L D.length c) D.length (tcs D)/\TmsOk w' w.heap.size D R/\Ext w w'
theorem OO (e:Ev) (A:Option Addr) (c:Nat) (w:World) (h:e.Ok w A) :
 Calls prog 81 #[e.val A c] w (NewTm w (termsL e)):=by
 have t3:=Aa (fun W (hE:Ext w W)=>Dj e A c W (h.ext hE));have m2:termsL e=if checkE e.fs=0 then grp (rawT 0 e.fs) else []:=rfl;have x3:=@AM e.fs;obtain⟨T,hT⟩:=Ab (termsL e);rw[<-hT]at m2 ⊢;obtain⟨at_,fs⟩:=e;have f4:=h.cells;unfold Ev.val at t3 ⊢;simp only at m2 t3 x3 f4 ⊢;obtain⟨z,hz⟩:=Ab (checkE fs);rw[<-hz]at m2 t3 x3;obtain⟨n,hn⟩:=Ab fs.length;rw[<-hn]at t3 x3 ⊢;replace m2:=Aa m2;replace x3:=Aa x3;replace f4:=Aa f4;replace hz:=Aa hz;replace hn:=Aa hn;clear h hT;refine(callsIn_wide (n:=0)).1 ?_;refine callsIn_of_wp_marks func81 rfl trivial ?_;simp only[ntmps81,List.size_toArray,List.length_cons,List.length_nil,Nat.reduceAdd,Nat.reduceSub,Array.replicate_succ,Array.replicate_zero,List.push_toArray,List.append_toArray,List.nil_append,List.cons_append];gi_wp2_with fail;obtain⟨W0,e3⟩:=Ab (w.alloc (Obj.cells #[.int .i64 at_,.slice A n c] 69));rw[<-e3];have c5:Ext w W0:=by rw[e3];exact(Ext.refl w).alloc _
 refine(callsIn_wide.2 (t3.out W0 c5)).mono ?_;rintro e w1 ⟨rfl,q3⟩;have r0:Row w1 w.heap.size 69 #[.int .i64 at_,.slice A n c]:=by
  refine Row.ext ?_ q3;rw[e3];exact Row.new w _ _
 have k0:=r0.cell 0 rfl;have k1:=r0.cell 1 rfl;replace q3:=Aa (c5.trans q3);replace r0:=Aa r0;replace e3:=Aa e3;clear c5 t3;by_cases y6:z=0
 ·obtain⟨b9,h4⟩:=x3.out y6;subst y6;have hT:=m2.out;rw[if_pos rfl]at hT;replace hT:=Aa hT;have y9:=r0.out.lt;gi_wp2_with fail;obtain⟨W2,f3⟩:=Ab (w1.alloc (Obj.cells #[Value.slice none 0 0] 155));rw[<-f3];obtain⟨h1,p4⟩:=Ab w1.heap.size;have q1:Row W2 h1 155 #[.slice none 0 0]:=by rw[f3,p4];exact Row.new w1 _ _
  have d6:Ext w1 W2:=by rw[f3];exact(Ext.refl w1).alloc _
  rw[<-p4];replace f3:=Aa f3;replace p4:=Aa p4;refine(callsIn_wide.2 (Nk at_ A n c W2)).mono ?_;rintro e w4 ⟨b0,rfl,rb0,i9,o0⟩;have d5:Ext w w4:=(q3.out.trans d6).trans o0;have e5:TI w.heap.size h1 [] w w4:=⟨none,0,[],q1.ext o0,World.ownsRow_nil _ _ _ _,TmsOk.nil _ _,d5⟩
  have e0:w.heap.size<=w4.heap.size:=d5.size;have r4:=Lf at_ fs A n c b0 w.heap.size w w4 hn.out f4.out (Nat.le_refl _) d5 (by omega) (fun f hf=>by have:=h4 f hf;omega) rb0;have v9:w.heap.size<=h1:=by rw[p4.out];exact q3.out.size
  replace e5:=Aa e5;replace r4:=Aa r4;clear q1 d6 o0 rb0;gi_wp2_with fail;unfold BsIter at r4;have q6:∀b,baseT 0 (fs.take b)<=1000000000:=fun b=>by
   have:=EN (k:=4096) (fs.take b) 0 (fun f hf=>(h4 f (List.mem_of_mem_take hf)).2);have h2:(fs.take b).length<=16:=by rw[List.length_take,<-hn.out];omega
   omega
  replace q6:=Aa q6;refine C8 (gf:=172) (lb:=#[.pointer (some ⟨b0,0,none⟩)]) rfl (enters_of func172 (by kernel_rfl) rfl) r4.out (fun _=>rfl) (fun _ _ h=>h.others) (fun _ _ _ h=>h.2.others) (KpT.trans w.heap.size) (KpT.alike e0)
   (fun pre W=>TI w.heap.size h1 (rawT 0 (fs.take pre.length)) w W) (fun pre A B hi ha=>hi.alike ha e0) (fun pre A B hi hE=>hi.ext hE) ?h0 ?hround ?hdone
  case h0 =>
   intro W ha;have:=e5.out.alike ha e0;simpa [rawT]using this
  case hround =>
   rintro l pre ⟨bs,nm,tx⟩ W hI ⟨hf,e4⟩;simp only at hf e4;unfold fdV;simp only;have z8:=h4 _ (List.mem_of_getElem? hf);simp only at z8;have m7:=q6.out pre.length;rw[<-e4]at m7;have h9:=CK tx;have m1:rawT 0 (fs.take (pre ++ [(bs,nm,tx)]).length)=rawT 0 (fs.take pre.length)++fieldT bs (nm,tx):=by
    rw[List.length_append,List.length_singleton,List.take_add_one,hf,He,<-e4];simp[rawT]
   obtain⟨Z,hZ⟩:=Ab (rawT 0 (fs.take pre.length));rw[<-hZ]at hI m1;obtain⟨Y,hY⟩:=Ab (fieldT bs (nm,tx));rw[<-hY]at m1;have f9:Z.length<=65536:=by
    have:=CH (k:=4096) (fs.take pre.length) 0 (fun f hf=>(h4 f (List.mem_of_mem_take hf)).2);have h2:(fs.take pre.length).length<=16:=by rw[List.length_take,<-hn.out];omega
    rw[hZ];omega
   clear hZ e4 hf;replace m1:=Aa m1;obtain⟨nt,y3⟩:=Ab ((tokL tx).length);obtain⟨W5,i3⟩:=Ab (W.alloc (Obj.cells #[.string ⟨nm.toArray⟩,.string ⟨tx.toArray⟩] 91));have f0:Ext W W5:=by rw[i3];exact(Ext.refl W).alloc _
   have q5:Row W5 W.heap.size 91 #[.string ⟨nm.toArray⟩,.string ⟨tx.toArray⟩]:=by rw[i3];exact Row.new W _ _
   have a1:=Aa (fun W=>HL tx W (by omega));rw[<-y3]at h9;replace y3:=Aa y3;replace hY:=Aa hY;replace hI:=Aa hI;gi_wp2_with fail;rw[<-i3];obtain⟨g5,f1⟩:=Ab W.heap.size;rw[<-f1]at q5 ⊢;refine⟨f0.others,KpT.ext f0,fun W6 a5=>?_⟩;have z4:=(hI.out.ext f0).alike a5 e0;have r6:=a5.row q5;have y0:=r6.cell 0 rfl;have y1:=r6.cell 1 rfl;replace z4:=Aa z4;replace i3:=Aa i3;replace f1:=Aa f1;clear hI q5 f0 a5;gi_wp2_with fail;refine(Bb (a1.out W6)).mono ?_;rintro e w7 ⟨A7,c7,rfl,U,H⟩;rw[<-y3.out]at U ⊢;have j8:=Aa (z4.out.ext H);have f7:=Aa (fun(W:World) (h:KpT w.heap.size w7 W) (i:Nat) (x:List UInt8) (hx:(tokL tx)[i]? = some x)=>Si U (w1:=W) (fun g cs hr=>h.2 g _ cs (by decide) (by decide) hr) hx);replace U:=Aa U;have r7:=Aa (r6.ext H);clear y0 y1 z4;gi_wp2_with fail
   gi_loopw [23] (fun s23 wr=>∃(i:Nat),s23 = .int .i64 (i:Int)/\i<=nt/\Hid (TI w.heap.size h1 (Z++Y.take i) w wr)/\Hid (KpT w.heap.size w7 wr)/\Hid (KeepsOthers w7 wr)) (fun s23 _=>nt - (intOf s23).toNat)
   case atStart=>exact⟨0,rfl,by omega,by rw[List.take_zero,List.append_nil];exact j8,Aa (KpT.ext (Ext.refl _)),Aa (KeepsOthers.refl _)⟩
   case round =>
    obtain⟨i,rfl,hi,i5,a4,n6⟩:=hrel;by_cases o4:i<nt
    ·obtain⟨wd,x4⟩:∃wd,(tokL tx)[i]? = some wd:=⟨_,List.getElem?_eq_getElem (by rw[<-y3.out];exact o4)⟩
     obtain⟨g7,o7,p8,x0,x1⟩:=f7.out wr a4.out i wd x4;subst p8;obtain⟨L,cl,D,r3,G,i2,m0⟩:=i5.out;have r5:=a4.out.2 _ _ _ (by decide) (by decide) r7.out;have z0:=r5.cell 0 rfl;have z3:=r3.cell 0 rfl;have z9:=r3.lt;have a9:=r5.lt;replace r3:=Aa r3;replace r5:=Aa r5;replace G:=Aa G;replace i2:=Aa i2;replace m0:=Aa m0;have o9:D.length<=100000:=by
      have:=i2.out.len;unfold oneT at this;rw[List.length_map,List.length_append,List.length_take]at this;omega
     have n5:Y[i]? = some (nm++58::wd,((bs+i:Nat):Int)):=by rw[hY.out];exact Iv x4
     replace n5:=Aa n5;have pa:=FU (List.mem_of_getElem? x4);replace x4:=Aa x4;have o5:(Z++Y.take (i+1))=(Z++Y.take i) ++ [(nm++58::wd,((bs+i:Nat):Int))]:=by rw[List.take_add_one,n5.out,List.append_assoc];rfl
     replace o5:=Aa o5;obtain⟨S,hS⟩:=Ab (nm++58::wd);have w3:ByteArray.mk nm.toArray++ByteArray.mk #[58]++ByteArray.mk wd.toArray=⟨S.toArray⟩:=by
      have h1:=Jg nm [58];have h2:=Jg (nm ++ [58]) wd;rw[hS,h1,h2];simp
     obtain⟨Wb,m3⟩:=Ab ((wr.alloc (Obj.cells #[Value.string ⟨wd.toArray⟩,Value.int IntKind.i64 (i:Int)] 207)).alloc (Obj.cells #[Value.int IntKind.i64 ((bs:Int)+(i:Int))] 3));obtain⟨Wa,j3⟩:=Ab (Wb.alloc (Obj.cells #[Value.string ⟨S.toArray⟩,Value.slice (some ⟨wr.heap.size+1,0,none⟩) 1 1] 157));have e6:Ext wr Wb:=by rw[m3];exact((Ext.refl wr).alloc _).alloc _
     have z5:Wb.heap.size=wr.heap.size+2:=by rw[m3];simp
     have i0:Ext wr Wa:=by rw[j3];exact e6.alloc _
     have qi:Row Wb (wr.heap.size+1) 3 #[Value.int IntKind.i64 ((bs:Int)+(i:Int))]:=by
      rw[m3];have:=Row.new (wr.alloc (Obj.cells #[Value.string ⟨wd.toArray⟩,Value.int IntKind.i64 (i:Int)] 207)) 3 #[Value.int IntKind.i64 ((bs:Int)+(i:Int))]
      rwa [World.size_alloc]at this
     have qi2:Row Wa (wr.heap.size+1) 3 #[Value.int IntKind.i64 ((bs:Int)+(i:Int))]:=by rw[j3];exact qi.alloc _
     have t6:Cells Wa (some ⟨wr.heap.size+2,0,none⟩) (tcell (S,some ⟨wr.heap.size+1,0,none⟩,1,1)):=by
      have:=AN Wb [Value.string ⟨S.toArray⟩,Value.slice (some ⟨wr.heap.size+1,0,none⟩) 1 1] 157;rw[z5]at this;rw[j3];exact this
     have j0:=i0.owns G.out;have e7:w.heap.size<=Wa.heap.size:=(m0.out.trans i0).size;replace qi2:=Aa qi2;replace t6:=Aa t6;replace j0:=Aa j0;replace i0:=Aa i0;have q7:Hid (((wr.alloc (Obj.cells #[Value.string ⟨wd.toArray⟩,Value.int IntKind.i64 (i:Int)] 207)).alloc (Obj.cells #[Value.int IntKind.i64 ((bs:Int)+(i:Int))] 3)).alloc (Obj.cells #[Value.string (ByteArray.mk nm.toArray++ByteArray.mk #[58]++ByteArray.mk wd.toArray),Value.slice (some ⟨wr.heap.size+1,0,none⟩) 1 1] 157)=Wa):=Aa (by rw[j3,m3,w3]);replace j3:=Aa j3;replace m3:=Aa m3;replace w3:=Aa w3;clear qi e6 z5;have ogr:=Aa (fun(w6:World) (J:Wa.grownBy w6 (Value.slice L D.length cl).ownBlock)=>Jn j0.out J (r3.out.ext i0.out) (by decide));gi_wp2_with (gi_at_builtin;rw[q7.out];refine DA Lx j0.out t6.out (.tmp 27) (.tmp 40) rfl rfl rfl rfl rfl rfl (by simp[tcell,Value.oneCell']) (by omega) e7 (fun A1 c1 w6 p5 J z7=>?_);have r16:=ogr.out w6 J;have u1:=r16.cell 0 rfl;have u2:=r16.free 0;replace r16:=Aa r16;replace p5:=Aa p5;replace J:=Aa J;replace z7:=Aa z7);have n7:∀w0:World,w0.heap.size<=w.heap.size->Ext w0 wr->Ext w0 (w6.setCell ⟨h1,0,none⟩ (.slice A1 (D.length+1) c1)):=fun w0 h0 hE=>(CX j0.out J.out (hE.trans i0.out) h0).setCell (p:=⟨h1,0,none⟩) (by show w0.heap.size<=h1;omega) _;have y8:∀A n c xs,Buf wr w.heap.size 3 A n c xs->Buf (w6.setCell ⟨h1,0,none⟩ (.slice A1 (D.length+1) c1)) w.heap.size 3 A n c xs:=fun A n c xs hb=>by
      have q:=Ci j0.out J.out (hb.ext i0.out) (by decide);exact q.setCell (q.unlike r16.out (by decide)) _
     have h6:Buf (w6.setCell ⟨h1,0,none⟩ (.slice A1 (D.length+1) c1)) w.heap.size 3 (some ⟨wr.heap.size+1,0,none⟩) 1 1 ([((bs+i:Nat):Int)].map IV):=by
      have q0:Buf Wa w.heap.size 3 (some ⟨wr.heap.size+1,0,none⟩) 1 1 ([((bs+i:Nat):Int)].map IV):=⟨rfl,Nat.le_refl _,.inr ⟨_,_,rfl,by have:=m0.out.size;omega,qi2.out,by simp,by simp[IV]⟩⟩
      have q:=Ci j0.out J.out q0 (by decide);exact q.setCell (q.unlike r16.out (by decide)) _
     have r8:∀g t cs,t≠155->t≠157->Row wr g t cs->Row (w6.setCell ⟨h1,0,none⟩ (.slice A1 (D.length+1) c1)) g t cs:=fun g t cs n1 n2 hr=>by
      have q:=Jn j0.out J.out (hr.ext i0.out) n2;exact q.away (q.unlike r16.out n1) _
     have o8:(w6.setCell ⟨h1,0,none⟩ (.slice A1 (D.length+1) c1)).ownsRow w.heap.size 157 2 (.slice A1 (D.length+1) c1) (D.length+1) (tcs D++tcell (S,some ⟨wr.heap.size+1,0,none⟩,1,1)) :=
      (Chg.of_set (S:=fun k=>k=h1) w6 _ rfl).owns p5.out fun g hg a8=>by
       obtain⟨cur,hc,_⟩:=Ae p5.out hg;exact hc.unlike r16.out (by decide) a8
     have x7:(D ++ [(S,(some ⟨wr.heap.size+1,0,none⟩:Option Addr),1,1)]).length=D.length+1:=by rw[List.length_append];rfl
     refine⟨⟨i+1,by first | rfl | (congr 1;omega),by omega,Aa ⟨A1,c1,D ++ [(S,some ⟨wr.heap.size+1,0,none⟩,1,1)],?_,?_,?_,n7 w (Nat.le_refl _) m0.out⟩,Aa (KpT.trans _ _ _ _ a4.out ⟨n7,r8⟩),Aa (n6.out.trans ((i0.out.others.trans (FH j0.out J.out)).trans (KeepsOthers.setCell _ _ _)))⟩,by simp only[intOf];omega⟩
     ·rw[x7];exact r16.out.put 0 _
     ·rw[x7,DX];exact o8
     ·rw[o5.out,N2];exact i2.out.snoc y8 hS h6 (fun a ha=>by cases ha;show wr.heap.size<=wr.heap.size+1;omega)
    ·have v8:Y.take i=Y:=by
      rw[List.take_of_length_le];rw[hY.out,CB,<-y3.out];omega
     rw[v8,<-m1.out]at i5;gi_wp2_with fail;exact⟨(H.others).trans n6.out,KpT.trans _ _ _ _ (KpT.ext H) a4.out,i5.out⟩
  case hdone =>
   rintro Dm xs W2' W3 W4 hD hI ⟨f6,i6⟩ b6 hk;have l6:=(hI.ext i6).alike b6 e0;rw[f6,List.take_length]at l6;obtain⟨L,cl,D,r3,G,v4,o0⟩:=l6;have k8:D.length<=65536:=by
    have h1:=v4.len;have h2:=CH (k:=4096) fs 0 (fun f hf=>(h4 f hf).2);unfold oneT at h1;rw[List.length_map]at h1;rw[<-hn.out]at h2;omega
   obtain⟨c4,e2,y4⟩:=v4.tz;have g0:=Mv w.heap.size L D.length cl D W4 G rfl (by omega);unfold cmpV at g0;obtain⟨n4,h5⟩:=Ab D.length;rw[<-h5]at g0 k8 G r3;have z3:=r3.cell 0 rfl;have j6:=o0.size;replace g0:=Aa g0;replace r3:=Aa r3;replace G:=Aa G;replace c4:=Aa c4;replace e2:=Aa e2;replace y4:=Aa y4;replace o0:=Aa o0;replace hk:=Aa hk;replace h5:=Aa h5;clear hI f6 i6 b6 v4;gi_wp2_with fail;refine(callsIn_wide.2 g0.out).mono ?_;rintro e w5 ⟨rfl,E,a2,f1,h3⟩;have x5:∀g t cs,t≠157->Row W4 g t cs->Row w5 g t cs:=fun g t cs ht hr=>h3.row hr fun hg=>by
    obtain⟨cur,hc,_⟩:=Ae G.out hg;exact hr.unlike hc ht rfl
   have k7:∀A n c xs,Buf W4 w.heap.size 3 A n c xs->Buf w5 w.heap.size 3 A n c xs:=fun A n c xs hb=>hb.chg h3 fun a ha hg=>by
    obtain⟨cur,hc,_⟩:=Ae G.out hg;exact hb.unlike hc (by decide) a ha rfl
   have f0:Ext w w5:=o0.out.chg h3 fun i hi hg=>by
    obtain⟨_,_,hl⟩:=Ae G.out hg;omega
   have o6:KeepsOthers W4 w5:=⟨h3.size,fun k o hk n8=>by
    refine(h3.block k (Array.getElem?_eq_some_iff.1 hk).1 fun hg=>?_).trans hk;obtain⟨cur,hc,_⟩:=Ae G.out hg;unfold Row at hc;rw[hc]at hk;injection hk with hk;subst hk;cases n8⟩
   have e8:=Aa (o6.same _ _ hk.out rfl);have r35:=x5 _ _ _ (by decide) r3.out;have z35:=r35.cell 0 rfl;have k3:E.length=n4:=by rw[h5.out];exact a2.2.len
   have p2:=a2.2.perm;have l5:TZ w5 w.heap.size (E.map fun x=>(x,(x.1,ptsOf W4 x.2))):=(c4.out.perm (p2.map _)).keep k7;have q2:∀x∈E,ptsOf W4 x.2 = [(ptsOf W4 x.2).headD 0]:=fun x hx=>e2.out x (p2.mem_iff.1 hx);have q4:(E.map fun x=>(x.1,(ptsOf W4 x.2).headD 0)).foldl joinS []=T:=by
    have h1:=(a2.stabM fun x=>(ptsOf W4 x).headD 0).grp;rw[h1,y4.out];exact hT.out.symm
   have b3:(E.map fun x=>(x.1,(ptsOf W4 x.2).headD 0)).length=n4:=by rw[List.length_map,k3]
   obtain⟨b5,p1⟩:=Ab w5.heap.size;have o2:w.heap.size<=b5:=by rw[p1];exact f0.size
   replace l5:=Aa l5;replace q2:=Aa q2;replace q4:=Aa q4;replace k3:=Aa k3;replace b3:=Aa b3;replace f0:=Aa f0;replace f1:=Aa f1;replace r35:=Aa r35;replace p1:=Aa p1;clear h3 x5 k7 o6 a2 p2 g0 c4 e2 y4 hk j6;gi_wp2_with fail
   gi_loopw [8,47] (fun s8 s47 wr=>∃(i m c:Nat) (O:Option Addr) (P:List TmP),s47 = .int .i64 (i:Int)/\s8 = .slice O m c/\i<=n4/\m<=i/\Hid (m=P.length)/\Hid (wr.ownsRow b5 157 2 (.slice O m c) m (tcs (P.map Prod.fst)))/\Hid (P.map Prod.snd=((E.map fun x=>(x.1,(ptsOf W4 x.2).headD 0)).take i).foldl joinS [])/\Hid (TZ wr w.heap.size (P++(E.map fun x=>(x,(x.1,ptsOf W4 x.2))).drop i))/\Hid (Ext w wr)/\Hid (∀g cs,g<b5->Row w5 g 157 cs->Row wr g 157 cs)/\Hid (KeepsOthers w5 wr)/\b5<=wr.heap.size) (fun _ s47 _=>n4 - (intOf s47).toNat)
   case atStart=>exact⟨0,0,0,none,[],rfl,rfl,by omega,by omega,Aa rfl,Aa (World.ownsRow_nil _ _ _ _),Aa rfl,Aa (by rw[List.drop_zero];exact l5.out),f0,Aa (fun _ _ _ h=>h),Aa (KeepsOthers.refl _),by rw[p1.out];exact Nat.le_refl _⟩
   case round =>
    obtain⟨i,m,c,O,P,rfl,rfl,hi,n9,k4,g4,b4,e1,m0,l4,k5,j7⟩:=hrel;by_cases o4:i<n4
    ·obtain⟨⟨ys,yA,yn,yc⟩,hy⟩:∃y,E[i]? = some y:=⟨_,List.getElem?_eq_getElem (by rw[k3.out];exact o4)⟩
     obtain⟨g,hL,l9,cs,t4,t7⟩:=f1.out (by omega);subst hL;have k2:=l4.out g cs (by rw[p1.out];exact t4.lt) t4;obtain⟨x0,x1⟩:=TR.at_ (w:=wr) (g:=g) (D:=E) ⟨cs,k2,t7⟩ hy;simp only at x0 x1;obtain⟨yz,v6⟩:=Ab ((ptsOf W4 (yA,yn,yc)).headD 0);have h8:ptsOf W4 (yA,yn,yc) = [yz]:=by rw[v6];exact q2.out _ (List.mem_of_getElem? hy)
     have y7:(E.map fun x=>(x,(x.1,ptsOf W4 x.2))).drop i=((ys,yA,yn,yc),(ys,[yz]))::(E.map fun x=>(x,(x.1,ptsOf W4 x.2))).drop (i+1):=by
      rw[List.drop_eq_getElem_cons (by rw[List.length_map,k3.out];exact o4),List.getElem_map];have:=(List.getElem?_eq_some_iff.1 hy).2;rw[this];simp only[h8]
     have a1:((E.map fun x=>(x.1,(ptsOf W4 x.2).headD 0)).take (i+1)).foldl joinS []=joinS (((E.map fun x=>(x.1,(ptsOf W4 x.2).headD 0)).take i).foldl joinS []) (ys,yz):=by
      rw[List.take_add_one,List.foldl_append,List.getElem?_map,hy,v6];rfl
     rw[y7]at e1;rw[<-b4.out]at a1;obtain⟨R,hR⟩:=Ab ((E.map fun x=>(x,(x.1,ptsOf W4 x.2))).drop (i+1));rw[<-hR]at e1;have d3:∀z∈P.map Prod.snd,z.2.length<=i:=fun z hz=>by
      rw[b4.out]at hz;have:=Kc _ [] 0 nofun z hz;rw[List.length_take]at this;omega
     replace d3:=Aa d3;replace hR:=Aa hR;replace a1:=Aa a1;replace hy:=Aa hy;replace k2:=Aa k2;clear y7 v6 h8 t4 t7 b4;rcases List.eq_nil_or_concat P with p0 | ⟨P0,x,p0⟩
     ·have l8:m=0:=by rw[k4.out,p0];rfl
      subst l8;have j4:Hid (joinS (P.map Prod.snd) (ys,yz)=P.map Prod.snd ++ [(ys,[yz])]):=Aa (by rw[p0];rfl);replace p0:=Aa p0;gi_wp2_with fail;obtain⟨W6,c0⟩:=Ab (wr.alloc (Obj.cells #[Value.string ⟨ys.toArray⟩,Value.slice yA yn yc] 157));rw[<-c0];obtain⟨g6,J⟩:=Ab wr.heap.size;have r6:Row W6 g6 157 #[Value.string ⟨ys.toArray⟩,Value.slice yA yn yc]:=by rw[c0,J];exact Row.new wr _ _
      rw[<-J];have I:Ext wr W6:=by rw[c0];exact(Ext.refl wr).alloc _
      have t0:=r6.cell 0 rfl;have t1:=r6.cell 1 rfl;replace r6:=Aa r6;replace I:=Aa I;replace c0:=Aa c0;replace J:=Aa J;refine wpIn_wide.2 (AE (fun K hK=>?_));go_wp2_with fail;refine⟨by kernel_rfl,?_⟩;obtain⟨W7,d0⟩:=Ab ((W6.alloc (Obj.cells #[Value.string ⟨ys.toArray⟩,Value.slice yA yn yc] 157)).drew);have H:Ext wr W7:=by rw[d0];exact(I.out.alloc _).drew
      have U:=H.owns g4.out;have x2:Cells W7 (some ⟨W6.heap.size,0,none⟩) (tcell (ys,yA,yn,yc)):=by rw[d0];exact AN W6 [Value.string ⟨ys.toArray⟩,Value.slice yA yn yc] _
      have o3:b5<=W7.heap.size:=Nat.le_trans j7 H.size;replace H:=Aa H;replace U:=Aa U;replace x2:=Aa x2;replace d0:=Aa d0;gi_wp2_with (gi_at_builtin;rw[<-d0.out];refine DA Lx U.out x2.out (.tmp 78) (.tmp 80) rfl rfl rfl rfl rfl rfl (by simp[tcell,Value.oneCell']) (by omega) o3 (fun A1 c1 w8 o1 d l0=>?_);replace o1:=Aa o1;replace d:=Aa d;replace l0:=Aa l0);have j2:∀g cs,g<b5->Row wr g 157 cs->Row w8 g 157 cs:=fun g cs n0 hr=>(hr.ext H.out).grown d.out fun h=>by obtain⟨_,_,hl⟩:=Ae U.out h.symm;omega
      refine⟨⟨i+1,_,c1,A1,P ++ [((ys,yA,yn,yc),(ys,[yz]))],by first | rfl | (congr 1;omega),rfl,by omega,by omega,Aa (by rw[List.length_append,<-k4.out];rfl),Aa ?_,Aa ?_,Aa ?_,Aa (CX U.out d.out (m0.out.trans H.out) o2),Aa (fun g cs n0 hr=>j2 g cs n0 (l4.out g cs n0 hr)),Aa (k5.out.trans (H.out.others.trans (FH U.out d.out))),Nat.le_trans o3 d.out.size⟩,by simp only[intOf];omega⟩
      ·rw[List.map_append,List.map_singleton,DX];exact o1.out
      ·rw[a1.out,j4.out,List.map_append,List.map_singleton]
      ·rw[List.append_assoc,<-hR.out];exact e1.out.keep fun A n c xs hb=>Ci U.out d.out (hb.ext H.out) (by decide)
     ·rw[List.concat_eq_append]at p0;have a7:m=P0.length+1:=by rw[k4.out,p0,List.length_append];rfl
      obtain⟨k,hk⟩:=Ab P0.length;rw[<-hk]at a7;subst a7;obtain⟨⟨xs',xA,xn,xc⟩,xk,xl⟩:=x;obtain⟨go,cur,m8,b8,f2,v0,v1⟩:=Qe g4.out (i:=k) (x:=(xs',xA,xn,xc)) (by rw[p0,List.map_append,List.getElem?_append_right (by rw[List.length_map];omega),List.length_map,hk,Nat.sub_self];rfl);subst m8;simp only at v0 v1;have d8:=f2.lt;have p9:xs'=xk:=(e1.out.each ((xs',xA,xn,xc),xk,xl) (by rw[p0];simp)).1;have i1:joinS (P.map Prod.snd) (ys,yz)=if xk=ys then P0.map Prod.snd ++ [(xk,xl ++ [yz])] else P.map Prod.snd ++ [(ys,[yz])]:=by
       rw[p0,List.map_append,List.map_singleton,GU]
      subst p9;replace f2:=Aa f2;replace hk:=Aa hk;replace p0:=Aa p0;gi_wp2_with fail;obtain⟨W6,c0⟩:=Ab (wr.alloc (Obj.cells #[Value.string ⟨ys.toArray⟩,Value.slice yA yn yc] 157));rw[<-c0];obtain⟨g6,J⟩:=Ab wr.heap.size;have r6:Row W6 g6 157 #[Value.string ⟨ys.toArray⟩,Value.slice yA yn yc]:=by rw[c0,J];exact Row.new wr _ _
      rw[<-J];have I:Ext wr W6:=by rw[c0];exact(Ext.refl wr).alloc _
      have t0:=r6.cell 0 rfl;have t1:=r6.cell 1 rfl;replace r6:=Aa r6;replace I:=Aa I;replace c0:=Aa c0;replace J:=Aa J;have u0:=I.out.cell v0;have u1:=I.out.cell v1;by_cases j5:xs'=ys
      ·subst j5;rw[if_pos rfl]at i1;replace i1:=Aa i1;refine wpIn_wide.2 (AE (fun K hK=>?_));go_wp2_with fail;refine⟨by kernel_rfl,?_⟩;gi_wp2_with fail;have y2:=e1.out;rw[p0.out,List.append_assoc,List.singleton_append]at y2;have p6:=(y2.each ((xs',xA,xn,xc),xs',xl) (by simp)).2;have k6:=(y2.each ((xs',yA,yn,yc),xs',[yz]) (by simp)).2;simp only at p6 k6;have k9:xl.length=xn:=by have:=p6.1;rwa [List.length_map]at this
       have ka:xn<=i:=by
        have:=d3.out (xs',xl) (by rw[p0.out];simp);rw[<-k9];exact this
       have j9:1=yn:=by have:=k6.1;simpa using this
       subst j9;have j1:Hid (Buf W6.drew.drew w.heap.size 3 xA xn xc (xl.map IV)):=Aa (p6.ext I.out.drew.drew);have v7:Hid (Cells W6.drew.drew yA ([yz].map IV)):=Aa (k6.ext I.out.drew.drew).cells;have y5:Hid (Row W6.drew.drew go 157 cur):=Aa (f2.out.ext I.out.drew.drew);have l7:w.heap.size<=W6.drew.drew.heap.size:=(m0.out.trans I.out.drew.drew).size;have d7:Hid (W6.drew.drew.ownsRow b5 157 2 (.slice (some ⟨go,0,none⟩) (k+1) c) (k+1) (tcs (P.map Prod.fst))):=Aa (I.out.drew.drew.owns g4.out);have u19:=Aa (I.out.drew.drew.cell v1);refine wpIn_wide.2 (AE (fun K hK=>?_));go_wp2_with (at_builtin;refine Al FY j1.out v7.out (.tmp 72) (.tmp 74) rfl rfl rfl rfl rfl rfl (by simp[IV,Value.oneCell']) (by omega) l7 (fun A1 c1 w8 d4 d m6 l0=>?_);have r18:=Cu j1.out d y5.out (by decide);have v2:=r18.free (k*2+1);have v3:=(r18.get (k*2+1)).trans ((y5.out.get (k*2+1)).symm.trans u19.out);replace r18:=Aa r18;replace d4:=Aa d4;replace d:=Aa d;replace m6:=Aa m6;replace l0:=Aa l0);refine⟨by kernel_rfl,?_⟩;gi_wp2_with fail;have p3:=I.out.drew.drew;have i8:∀z∈P0++R,TmP.far z ((xs',xA,xn,xc),xs',xl)->TmP.ok wr w.heap.size z->TmP.ok (w8.setCell ⟨go,k*2+1,none⟩ (.slice A1 (xn+1) c1)) w.heap.size z:=fun z hz hf ho=>by
        have q:=Rs d.out (ho.2.ext p3) (fun p q hp hq=>hf p q hp hq);exact⟨ho.1,q.setCell (q.unlike r18.out (by decide)) _⟩
       have h6:Buf (w8.setCell ⟨go,k*2+1,none⟩ (.slice A1 (xn+1) c1)) w.heap.size 3 A1 (xn+1) c1 ((xl ++ [yz]).map IV):=by
        rw[List.map_append];exact d4.out.setCell (d4.out.unlike r18.out (by decide)) _
       have h7:=y2.join ((xs',A1,xn+1,c1),xs',xl ++ [yz]) i8 ⟨rfl,h6⟩ (by
        rcases l0.out with h | h
        ·exact .inl h
        ·exact .inr ⟨_,h,p3.size⟩)
       have m4:=M7 (Gr j1.out d.out d7.out (by decide)) (k*2+1) (.slice A1 (xn+1) c1);have i7:=Qf (P0.map Prod.fst) (xs',xA,xn,xc) (A1,xn+1,c1);rw[List.length_map,<-hk.out]at i7;have t8:P.map Prod.fst=P0.map Prod.fst ++ [(xs',xA,xn,xc)]:=by rw[p0.out,List.map_append];rfl
       rw[t8,i7]at m4;refine⟨⟨i+1,k+1,c,some ⟨go,0,none⟩,P0 ++ [((xs',A1,xn+1,c1),xs',xl ++ [yz])],by first | rfl | (congr 1;omega),rfl,by omega,by omega,Aa (by rw[List.length_append,<-hk.out];rfl),Aa ?_,Aa ?_,Aa ?_,Aa ?_,Aa (fun g cs n0 hr=>?_),Aa (k5.out.trans (p3.others.trans ((BL j1.out d.out).trans (KeepsOthers.setCell _ _ _)))),?_⟩,by simp only[intOf];omega⟩
       ·rw[List.map_append];exact m4
       ·rw[a1.out,i1.out,List.map_append];rfl
       ·rw[List.append_assoc,<-hR.out];exact h7
       ·exact(m6.out w (m0.out.trans p3) (Nat.le_refl _)).setCell (p:=⟨go,k*2+1,none⟩) (Nat.le_trans o2 b8) _
       ·exact(Cu j1.out d.out ((l4.out g cs n0 hr).ext p3) (by decide)).away (by show g≠go;omega) _
       ·have h1:=d.out.size;have h2:=p3.size;show b5<=(w8.setCell _ _).heap.size;simp only[World.setCell,Array.size_modify];omega
      ·rw[if_neg j5]at i1;have j4:Hid (joinS (P.map Prod.snd) (ys,yz)=P.map Prod.snd ++ [(ys,[yz])]):=Aa i1;have t9:¬ (ByteArray.mk xs'.toArray=ByteArray.mk ys.toArray):=fun h=>j5 (by injection h with h;simpa using h);clear i1;have m9:(xs'==ys)=false:=beq_eq_false_iff_ne.2 j5;refine wpIn_wide.2 (AE (fun K hK=>?_));go_wp2_with fail;refine⟨by kernel_rfl,?_⟩;obtain⟨W7,d0⟩:=Ab ((W6.alloc (Obj.cells #[Value.string ⟨ys.toArray⟩,Value.slice yA yn yc] 157)).drew);have H:Ext wr W7:=by rw[d0];exact(I.out.alloc _).drew
       have U:=H.owns g4.out;have x2:Cells W7 (some ⟨W6.heap.size,0,none⟩) (tcell (ys,yA,yn,yc)):=by rw[d0];exact AN W6 [Value.string ⟨ys.toArray⟩,Value.slice yA yn yc] _
       have o3:b5<=W7.heap.size:=Nat.le_trans j7 H.size;replace H:=Aa H;replace U:=Aa U;replace x2:=Aa x2;replace d0:=Aa d0;gi_wp2_with (gi_at_builtin;rw[<-d0.out];refine DA Lx U.out x2.out (.tmp 78) (.tmp 80) rfl rfl rfl rfl rfl rfl (by simp[tcell,Value.oneCell']) (by omega) o3 (fun A1 c1 w8 o1 d l0=>?_);replace o1:=Aa o1;replace d:=Aa d;replace l0:=Aa l0);have j2:∀g cs,g<b5->Row wr g 157 cs->Row w8 g 157 cs:=fun g cs n0 hr=>(hr.ext H.out).grown d.out fun h=>by obtain⟨_,_,hl⟩:=Ae U.out h.symm;omega
       refine⟨⟨i+1,_,c1,A1,P ++ [((ys,yA,yn,yc),(ys,[yz]))],by first | rfl | (congr 1;omega),rfl,by omega,by omega,Aa (by rw[List.length_append,<-k4.out];rfl),Aa ?_,Aa ?_,Aa ?_,Aa (CX U.out d.out (m0.out.trans H.out) o2),Aa (fun g cs n0 hr=>j2 g cs n0 (l4.out g cs n0 hr)),Aa (k5.out.trans (H.out.others.trans (FH U.out d.out))),Nat.le_trans o3 d.out.size⟩,by simp only[intOf];omega⟩
       ·rw[List.map_append,List.map_singleton,DX];exact o1.out
       ·rw[a1.out,j4.out,List.map_append,List.map_singleton]
       ·rw[List.append_assoc,<-hR.out];exact e1.out.keep fun A n c xs hb=>Ci U.out d.out (hb.ext H.out) (by decide)
    ·have f5:P.map Prod.snd=T:=by
      rw[b4.out,List.take_of_length_le (by rw[b3.out];omega)];exact q4.out
     replace f5:=Aa f5;gi_wp2_with fail;have f8:=k5.out.same _ _ e8.out rfl;refine BR (B:=w4.heap.size) rfl f8 hD fun W ha=>⟨_,results_tmp rfl _ _ _,?_⟩
     have t5:=e1.out;rw[List.drop_eq_nil_of_le (by rw[List.length_map,k3.out];omega),List.append_nil]at t5;have b7:m=(P.map Prod.fst).length:=by rw[List.length_map];exact k4.out
     rw[<-f5.out];refine⟨O,c,P.map Prod.fst,?_,?_,(t5.keep fun _ _ _ _ hb=>ha.buf hb).tms,ha.ext m0.out e0⟩
     ·rw[<-b7];rfl
     ·rw[<-b7];exact ha.owns (AD g4.out o2)
 ·have hT:=m2.out;rw[if_neg y6]at hT;replace hT:=Aa hT;gi_wp2_with fail;rw[hT.out];exact F3 rfl (results_tmp rfl _ _ _) ⟨none,0,[],rfl,World.ownsRow_nil _ _ _ _,TmsOk.nil _ _,q3.out⟩
end
section
open Go.RowKit
theorem Qb {K:Act->World->Prop} {E0:Prop} {t e size bytes:Nat} (E:Elem P t e size bytes) (J:o.guard=none) (H:w.ownsRow base e size v n xs) (I:Cells w A news) (s x:Operand)
 (G:o.op = .call { callee:= .builtin .append,args:=#[s,x],argTypes:=#[t,t] })
 (hs:a.eval s=v) (hx:a.eval x = .slice A m c) (Z:news.length=m*size) (h1:∀u∈news,u.oneCell'=true) (U:n+m<=4294967296) (d:base<=w.heap.size)
 (h:∀A1 c1 w',w'.ownsRow base e size (.slice A1 (n+m) c1) (n+m) (xs++news)->w.grownBy w' v.ownBlock->K (a.put o.dst (.slice A1 (n+m) c1)) w') :
 if Region.wanted o (yielded ops a.tmps)=true then Oper.wp P o a w K Q else E0:=by
 rw[if_pos (by simp[Region.wanted,J])];obtain⟨A1,c1,w',Y,h2,O,h4⟩:=Ds (P:=P) E w o.type H (c:=c) I Z h1 U d;unfold Oper.wp execOp;simp only[G,resolve,invoke,builtin,Sem.run_bind,Sem.run_pure,Result.andThen_ok,List.map_toArray,List.map_cons,List.map_nil,hs,hx,Y];exact h A1 c1 w' h2 O
theorem OH {K:Act->World->Prop} {E0:Prop} {t e size bytes m k:Nat} (E:Elem P t e size bytes) (J:o.guard=none) (H:w0.ownsRow base e size v n xs) (hk:k=w0.heap.size) (s x:Operand)
 (G:o.op = .call { callee:= .builtin .append,args:=#[s,x],argTypes:=#[t,t] })
 (hs:a.eval s=v) (hx:a.eval x = .slice (some ⟨k,0,none⟩) m m) (Z:us.length=m*size) (h1:∀u∈us,u.oneCell'=true) (O:n+m<=4294967296) (Y:base<=w0.heap.size)
 (h:∀A1 c1 w',w'.ownsRow base e size (.slice A1 (n+m) c1) (n+m) (xs++us)->w0.grownBy w' v.ownBlock->K (a.put o.dst (.slice A1 (n+m) c1)) w') :
 if Region.wanted o (yielded ops a.tmps)=true then Oper.wp P o a (w0.alloc (.cells us.toArray T)) K Q else E0:=by
 subst hk;refine Qb E J (((Ext.refl w0).alloc _).owns H) (A:=some ⟨w0.heap.size,0,none⟩) (news:=us) (.inr ⟨w0.heap.size,0,rfl,fun i u I=>?_⟩) s x G hs hx Z h1 O (by simp;omega) fun A1 c1 w' h2 d=>?_
 ·rw[Nat.zero_add,cell_of_row _ _ _ _ _ _ (heap_alloc_new w0 _)];simpa using I
 ·exact h A1 c1 w' h2 ⟨d.os,d.tape,d.output,Nat.le_trans (by simp) d.size,fun k hk U=>(d.block k (by simp;omega) U).trans (Below.heap_alloc w0 _ k hk)⟩
end
section
open Go.RowKit Go.Maps Go.Sort
def sortK (ns:List (List UInt8)):List (List UInt8):=ns.mergeSort fun x y=>decide (x<=y)
theorem Hv (ns:List (List UInt8)):(sortK ns).Perm ns:=List.mergeSort_perm _ _
theorem Qa (ns:List (List UInt8)):(sortK ns).Pairwise (fun a b=>a<=b):=by
 have:=List.pairwise_mergeSort (le:=fun(x y:List UInt8)=>decide (x<=y)) (fun a b c h k=>decide_eq_true (List.le_trans (of_decide_eq_true h) (of_decide_eq_true k))) (fun a b=>by rcases List.le_total a b with h | h <;> simp[h]) ns;exact this.imp fun h=>of_decide_eq_true h
theorem P9 (h:ns.Perm ks) (hk:ks.Pairwise fun a b=>a<b):sortK ns=ks :=
 List.Perm.eq_of_pairwise (le:=fun(x y:List UInt8)=>x<=y) (fun x y _ _ h k=>List.le_antisymm h k) (Qa ns) (hk.imp fun h=>List.le_of_lt h) ((Hv ns).trans h)
theorem Mz (base:Nat) (A:Option Addr) (n c:Nat) (ns:List (List UInt8)) (w:World) (hn:n=ns.length) (hb:Buf w base 9 A n c (ns.map strV)) (k0:n<=1073741824) :
 Calls prog 134 #[.slice A n c] w fun e w'=>e = .returned (.tuple #[])/\Buf w' base 9 A n c ((sortK ns).map strV)/\Chg (fun k=>∃x,A=some x/\x.block=k) w w':=by
 subst hn;obtain⟨h1,h2,h3⟩:=hb;unfold sortK;rcases h3 with ⟨rfl,rfl⟩ | ⟨g,cur,rfl,J,d,hs,ht⟩
 ·have I:ns = []:=List.eq_nil_of_length_eq_zero (by omega);subst I;refine(Tryz.slices_Sort_string_none none 0 w).mono ?_;rintro e w' ⟨rfl,rfl⟩;exact⟨rfl,by simpa using Buf.nil _ _ _,Chg.refl _ _⟩
 ·have hH:Holds encStr w g 0 ns.toArray:=by
   intro j h;simp at h;refine⟨?_,d.free _⟩;rw[Nat.zero_add,cell_of_row w g j cur 9 (0,0) d];have:(cur.toList.take ns.length)[j]? = (ns.map strV)[j]? :=by rw[ht]
   rw[List.getElem?_take,if_pos h]at this;simp[h]at this;simpa [h,encStr,strV]using this
  refine(Tryz.slices_Sort_string g 0 c ns w hH d.lt (by omega)).mono ?_;rintro e w' ⟨rfl,k,os,rfl⟩;obtain⟨so,Y⟩:=Ab ((ns.mergeSort fun x y=>decide (x<=y)));have G:so.length=ns.length:=by rw[Y];exact List.length_mergeSort _
  rw[<-Y];have H:Row (grow (putRow encStr (Sort.ahead w k) g 0 so.toArray) os) g 9 (putCells encStr 0 so.toArray cur):=by
   show ((w.heap.modify g (onCells (putCells encStr 0 so.toArray)))++os)[g]? = _;rw[Array.getElem?_append_left (by simpa using d.lt),Array.getElem?_modify,if_pos rfl];have:w.heap[g]? = some (.cells cur 9 (0,0)):=d;rw[this];rfl
  refine⟨rfl,⟨by simp[G],h2,.inr ⟨g,_,rfl,J,H,?_,?_⟩⟩,⟨rfl,rfl,rfl,?_,?_⟩⟩
  ·simp[putCells];exact hs
  ·apply List.ext_getElem?;intro i;rw[List.getElem?_take];split
   ·rename_i hi;have U:i<cur.size:=by
     rw[List.length_map]at h1;omega
    have O:i<so.length:=by omega
    rw[Array.getElem?_toList];unfold putCells;rw[Array.getElem?_mapIdx,Array.getElem?_eq_getElem U];simp[O,encStr,strV]
   ·rename_i hi;rw[List.getElem?_eq_none (by rw[List.length_map];omega)]
  ·show w.heap.size<=((w.heap.modify g (onCells (putCells encStr 0 so.toArray)))++os).size;simp
  ·intro j h Z;show ((w.heap.modify g (onCells (putCells encStr 0 so.toArray)))++os)[j]? = _;rw[Array.getElem?_append_left (by simpa using h),Array.getElem?_modify,if_neg (fun e=>Z ⟨_,rfl,e⟩)]
theorem OE (base:Nat) (A:Option Addr) (n c:Nat) (ns:List (List UInt8)) (w:World) (hn:n=ns.length) (hb:Buf w base 9 A n c (ns.map strV)) (d:n<=1073741824) :
 Calls prog 82 #[.slice A n c] w fun e w'=>e = .returned (.tuple #[])/\Buf w' base 9 A n c ((sortK ns).map strV)/\Chg (fun k=>∃x,A=some x/\x.block=k) w w':=by
 have h:=Aa (Mz base A n c ns w hn hb d);clear hb hn
 go_in
 go_wp2_with fail;refine h.out.mono ?_;rintro e w1 ⟨rfl,h1,h2⟩;go_wp2_with fail
 go_end0
 exact⟨rfl,h1,h2⟩
end
section
open Go.RowKit Go.Maps
open Go
structure RangeL (P:Program) (k:TypeId) (w:World) (m r:Nat) (L:List (Value×Value)) (done:List Value):Prop where
  ex:∃es clock since seen c0,w.heap[m]? = some (.map es clock)/\es.toList.map (fun e=>(e.key,e.val))=L/\es.toList.Pairwise (fun a b=>a.born≠b.born)/\(∀e∈es.toList,e.born<clock) /\
    w.heap[r]? = some (.mapIter (some m) since seen c0)/\(∀e∈es.toList,e.born<since)/\since<=c0/\since<=clock/\∀e∈es.toList,(seen.contains e.born=true↔e.key∈done)
  keys:∀p∈L,∃l,keyOf P k p.1=some l
  nodup:(L.map Prod.fst).Nodup
  dn:done.Nodup
  sub:∀x∈done,x∈L.map Prod.fst
section
variable {P:Program} {k:TypeId} {w w1:World} {m r:Nat} {L:List (Value×Value)} {done:List Value}
theorem RangeL.map (h:RangeL P k w m r L done):MapL P k w m L:=by
 obtain⟨es,cl,since,seen,c0,h1,h2,d,H,_⟩:=h.ex;exact⟨⟨es,cl,h1,h2,d,H⟩,h.keys,h.nodup⟩
theorem RangeL.keep (h:RangeL P k w m r L done) (U:w1.heap[m]? = w.heap[m]?) (O:w1.heap[r]? = w.heap[r]?):RangeL P k w1 m r L done:=by
 obtain⟨⟨es,cl,since,seen,c0,h1,h2,d,H,Y,J⟩,hk,hn,hd,hs⟩:=h;exact⟨⟨es,cl,since,seen,c0,U.trans h1,h2,d,H,O.trans Y,J⟩,hk,hn,hd,hs⟩
theorem RangeL.lt (h:RangeL P k w m r L done):r<w.heap.size:=by
 obtain⟨es,cl,since,seen,c0,_,_,_,_,d,_⟩:=h.ex;exact(Array.getElem?_eq_some_iff.1 d).1
theorem RangeL.ne (h:RangeL P k w m r L done):r≠m:=by
 obtain⟨es,cl,since,seen,c0,h1,_,_,_,d,_⟩:=h.ex;rintro rfl;rw[h1]at d;cases d
theorem RangeL.grown {row:Option Nat} (h:RangeL P k w m r L done) (d:w.grownBy w1 row) (h1:row≠some m) (h2:row≠some r):RangeL P k w1 m r L done :=
 h.keep (d.block m h.map.lt (fun e=>h1 e.symm)) (d.block r h.lt (fun e=>h2 e.symm))
theorem RangeL.drew (h:RangeL P k w m r L done):RangeL P k w.drew m r L done:=h.keep rfl rfl
theorem RangeL.alloc (h:RangeL P k w m r L done) (o:Obj):RangeL P k (w.alloc o) m r L done:=h.keep (Below.heap_alloc w o m h.map.lt) (Below.heap_alloc w o r h.lt)
theorem MapL.range (h:MapL P k w m L) (ht:P.underlying t=some (.map k E)) :
 ∃o,(Instr.range t (.map (some m))).run P w = .ok (.pointer (some ⟨w.heap.size,0,none⟩)) (w.alloc o)/\RangeL P k (w.alloc o) m w.heap.size L []:=by
 obtain⟨⟨es,cl,h1,h2,H,d⟩,hk,hn⟩:=h;refine⟨_,run_range_map w t k E m es cl ht h1,⟨⟨es,cl,cl,#[],cl,?_,h2,H,d,heap_alloc_new w _,d,Nat.le_refl _,Nat.le_refl _,fun e _=>by simp⟩,hk,hn,List.nodup_nil,by simp⟩⟩;exact(Below.heap_alloc w _ m (Array.getElem?_eq_some_iff.1 h1).1).trans h1
theorem Hq (w : World) (r : Nat) (o : Obj) : w.grownBy (ChangeMaps.setBlock w r o) (some r) :=
  ⟨rfl, rfl, rfl, by simp [ChangeMaps.setBlock], fun k _ h => by
    show (w.heap.setIfInBounds r o)[k]? = _
    rw [Array.getElem?_setIfInBounds_ne (fun e => h (by rw [e]))]⟩
theorem LS {es:Array MapEntry} {seen:Array Nat} {e:MapEntry} (d:e∈(leftOf es seen).toList):(leftOf es (seen.push e.born)).size<(leftOf es seen).size:=by
 have h1:leftOf es (seen.push e.born)=(leftOf es seen).filter (fun x=> !(x.born==e.born)):=by
  unfold leftOf;rw[Array.filter_filter];congr 1;funext x;rw[Array.contains_push];cases seen.contains x.born <;> cases (x.born==e.born) <;> rfl
 have h2:(leftOf es (seen.push e.born)).toList=(leftOf es seen).toList.filter (fun x=> !(x.born==e.born)):=by rw[h1,Array.toList_filter]
 have h:((leftOf es seen).toList.filter (fun x=> !(x.born==e.born))).length<(leftOf es seen).toList.length:=List.length_filter_lt_length_iff_exists.2 ⟨e,d,by simp⟩;rw[<-h2]at h;exact h
theorem RangeL.next (h:RangeL P k w m r L done) (ty:TypeId) :
 ((Instr.next (.pointer (some ⟨r,0,none⟩)) false ty).run P w = .ok (.tuple #[.bool false]) w/\∀p∈L,p.1∈done) \/
 ∃x v w1,(x,v)∈L/\x∉done/\(Instr.next (.pointer (some ⟨r,0,none⟩)) false ty).run P w = .ok (.tuple #[.bool true,x,v]) w1/\RangeL P k w1 m r L (done ++ [x])/\w.grownBy w1 (some r)/\w1.heap.size=w.heap.size /\
  (Instr.entry (.pointer (some ⟨r,0,none⟩))).run P w1 = .ok (.tuple #[x,v]) w1/\w1.rangeLeft m r<w.rangeLeft m r:=by
 have x0:=h.lt;have b0:=h.ne;obtain⟨⟨es,cl,since,seen,c0,h1,h2,h3,h4,h5,h6,h7,p0,h8⟩,hk,hn,hd,hs⟩:=h;rcases run_next_at (P:=P) w ty r m since c0 seen es cl h5 h1 h6 h7 with ⟨h0,Y⟩ | ⟨e,I,w0,j0,Y⟩
 ·refine .inl ⟨Y,fun p hp=>?_⟩;rw[<-h2]at hp;obtain⟨e,I,rfl⟩:=List.mem_map.1 hp;rw[<-h8 e I];by_cases G:seen.contains e.born=true
  ·exact G
  ·exfalso;have:e∈leftOf es seen:=by
    unfold leftOf;rw[Array.mem_filter];exact⟨by simpa using I,by simpa using G⟩
   have h9:=Array.size_pos_of_mem this;omega
 ·have H:e∈es.toList/\seen.contains e.born=false:=by
   unfold leftOf at I;have d:=Array.mem_toList_iff.1 I;rw[Array.mem_filter]at d;exact⟨by simpa using d.1,by simpa using d.2⟩
  have J:w0.heap=w.heap:=by rcases j0 with rfl | rfl <;> rfl
  have g0:w.grownBy w0 (some r):=by
   rcases j0 with rfl | rfl
   ·exact⟨rfl,rfl,rfl,Nat.le_refl _,fun _ _ _=>rfl⟩
   ·exact⟨rfl,rfl,rfl,Nat.le_refl _,fun _ _ _=>rfl⟩
  have k0:e.key∉done:=fun G=>by
   rw[<-h8 e H.1]at G;rw[H.2]at G;cases G
  have Z:(ChangeMaps.setBlock w0 r (.mapIter (some m) since (seen.push e.born) cl)).heap[r]? = some (.mapIter (some m) since (seen.push e.born) cl):=by
   show (w0.heap.setIfInBounds r _)[r]? = _;rw[Array.getElem?_setIfInBounds,if_pos rfl,if_pos (by rw[J];exact x0)]
  have O:(ChangeMaps.setBlock w0 r (.mapIter (some m) since (seen.push e.born) cl)).heap[m]? = some (.map es cl):=by
   show (w0.heap.setIfInBounds r _)[m]? = _;rw[Array.getElem?_setIfInBounds_ne b0,J,h1]
  have y0:(es.toList.map (fun x=>x.born)).Nodup:=by
   rw[List.Nodup,List.pairwise_map];exact h3
  refine .inr ⟨e.key,e.val,_,by rw[<-h2];exact List.mem_map.2 ⟨e,H.1,rfl⟩,k0,Y,⟨⟨es,cl,since,seen.push e.born,cl,O,h2,h3,h4,Z,h6,p0,p0,?_⟩,hk,hn,?_,?_⟩,g0.trans (Hq w0 r _),by simp[ChangeMaps.setBlock,J],run_entry_at _ r m since seen es cl e Z O H.1 y0,by unfold World.rangeLeft;rw[O,Z,h1,h5];exact LS I⟩
  ·intro e' d;have d0:(es.toList.map (·.key)).Nodup:=by rw[<-h2,List.map_map]at hn;exact hn
   obtain⟨i,hi⟩:=List.getElem?_of_mem H.1;obtain⟨j,U⟩:=List.getElem?_of_mem d;rw[Array.getElem?_toList]at hi U;have v0:e'.born=e.born↔e'.key=e.key:=by
    constructor
    ·intro hb;obtain rfl:=MM h3 U hi hb;rw[hi]at U;cases U;rfl
    ·intro hb;obtain rfl:=Kr d0 U hi hb;rw[hi]at U;cases U;rfl
   rw[Array.contains_push,Bool.or_eq_true,beq_iff_eq,h8 e' d,List.mem_append,List.mem_singleton,<-v0]
  ·rw[List.nodup_append];refine⟨hd,by simp,?_⟩;intro a ha b hb;simp at hb;rintro rfl;subst hb;exact k0 ha
  ·intro x hx;rcases List.mem_append.1 hx with hx | hx
   ·exact hs x hx
   ·simp at hx;subst hx;rw[<-h2,List.map_map];exact List.mem_map.2 ⟨e,H.1,rfl⟩
theorem MapL.len (h:MapL P k w m L) (ht:P.underlying t=some (.map k E)) (ty:TypeId):(Builtin.len_ #[t] ty #[.map (some m)]).run P w = .ok (.int .i64 L.length) w:=by
 obtain⟨⟨es,cl,h1,h2,_⟩,_,_⟩:=h;have d:(getObj m).run P w = .ok (.map es cl) w:=by simp[getObj,Sem.run,h1]
 have H:L.length=es.size:=by rw[<-h2];simp
 simp only[Builtin.len_,List.getElem?_toArray,List.getElem?_cons_zero,Sem.run_bind,run_underlying ht,Result.andThen_ok,d,Sem.run_pure];rw[H];rfl
end
end
section
open Go.RowKit Go.Maps
theorem Pc:Elem prog 47 89 2 32:=⟨underlying47,⟨_,_,rfl,rfl,rfl,rfl,rfl⟩,by omega,by omega⟩
def IdxM (w:World) (M:Nat) (rows:List (List UInt8×List Po)):Prop:=∃L,MapL prog 9 w M L/\∀r∈rows,∃(ps:List PoC) (A:Option Addr) (c:Nat),(strV r.1,Value.slice A ps.length c)∈L/\psP ps=r.2/\PosOk w A ps/\(∀a,A=some a->a.spot=none)/\ps.length<=c
def NewX (w:World) (rows:List (List UInt8×List Po)) (e:Ending) (w':World):Prop:=∃B n c M,e = .returned (.tuple #[.slice B n c,.map (some M)])/\n=rows.length/\Buf w' w.heap.size 9 B n c (rows.map fun r=>strV r.1)/\IdxM w' M rows/\Ext w w'
theorem OG {K:Act->World->Prop} {E0:Prop} {t e size bytes m k:Nat} (E:Elem P t e size bytes) (O:o.guard=none) (Y:w0.ownsRow base e size v n xs) (hk:k=w0.heap.size) (s x:Operand)
 (ho:o.op = .call { callee:= .builtin .append,args:=#[s,x],argTypes:=#[t,t] })
 (hs:a.eval s=v) (hx:a.eval x = .slice (some ⟨k,0,none⟩) m m) (I:us.length=m*size) (h1:∀u∈us,u.oneCell'=true) (G:n+m<=4294967296) (U:base<=w0.heap.size)
 (h:∀A1 c1 w',w'.ownsRow base e size (.slice A1 (n+m) c1) (n+m) (xs++us)->w0.grownBy w' v.ownBlock->((Value.slice A1 (n+m) c1).ownBlock=v.ownBlock\/∃k,(Value.slice A1 (n+m) c1).ownBlock=some k/\w0.heap.size<=k)->K (a.put o.dst (.slice A1 (n+m) c1)) w') :
 if Region.wanted o (yielded ops a.tmps)=true then Oper.wp P o a (w0.alloc (.cells us.toArray T)) K Q else E0:=by
 subst hk;have hr:Cells (w0.alloc (.cells us.toArray T)) (some ⟨w0.heap.size,0,none⟩) us:= .inr ⟨w0.heap.size,0,rfl,fun i u hu=>by
  rw[Nat.zero_add,cell_of_row _ _ _ _ _ _ (heap_alloc_new w0 _)];simpa using hu⟩
 rw[if_pos (by simp[Region.wanted,O])];obtain⟨A1,c1,w',J,h2,d,H⟩:=Ds (P:=P) E _ o.type (((Ext.refl w0).alloc _).owns Y) (c:=m) hr I h1 G (by simp;omega);unfold Oper.wp execOp;simp only[ho,resolve,invoke,builtin,Sem.run_bind,Sem.run_pure,Result.andThen_ok,List.map_toArray,List.map_cons,List.map_nil,hs,hx,J];refine h A1 c1 w' h2 ⟨d.os,d.tape,d.output,Nat.le_trans (by simp) d.size,fun k hk Z=>(d.block k (by simp;omega) Z).trans (Below.heap_alloc w0 _ k hk)⟩ ?_;rcases H with H | H
 ·exact .inl H
 ·exact .inr ⟨_,H,by simp⟩
theorem Sj {D:List TmV} (h:w.ownsRow base 157 2 (.slice A n c) n (tcs D)) (hk:∀g cs,Row w g 157 cs->Row w1 g 157 cs) {x:TmV} (U:D[i]? = some x) :
 ∃g,A=some ⟨g,0,none⟩/\w1.cell? ⟨g,i*2,none⟩=some (.string ⟨x.1.toArray⟩)/\w1.cell? ⟨g,i*2+1,none⟩=some (.slice x.2.1 x.2.2.1 x.2.2.2):=by
 obtain⟨g,cur,J,_,H,Y,h1⟩:=Qe h U;have d:=hk g cur H;refine⟨g,J,?_,?_⟩
 ·rw[d.get,<-H.get];exact Y
 ·rw[d.get,<-H.get];exact h1
theorem O2 (h:Buf w base e A n c xs) (hk:∀g cs,Row w g e cs->Row w1 g e cs):Buf w1 base e A n c xs:=by
 obtain⟨h1,h2,d⟩:=h;refine⟨h1,h2,?_⟩;rcases d with d | ⟨g,cur,H,hb,Y,r⟩
 ·exact .inl d
 ·exact .inr ⟨g,cur,H,hb,hk g cur Y,r⟩
theorem ER:Elem prog 93 9 1 16:=⟨underlying93,⟨_,_,rfl,rfl,rfl,rfl,rfl⟩,by omega,by omega⟩
theorem HY {α β:Type} (f:α->β) {l:List α} (h:(l.map f).Nodup):l.Nodup:=by
 rw[List.nodup_iff_pairwise_ne,List.pairwise_map]at h;rw[List.nodup_iff_pairwise_ne];exact h.imp fun h e=>h (by rw[e])
theorem K2 {α:Type}:∀(D E:List α),D.Nodup->(∀e∈D,e∈E)->D.length<=E.length
 | [],E,_,_=>Nat.zero_le _
 | a::D,E,hn,hs=>by
  rw[List.nodup_cons]at hn;obtain⟨E1,E2,rfl⟩:=List.append_of_mem (hs a (by simp));have:=K2 D (E1++E2) hn.2 fun e d=>by
   have h1:=hs e (List.mem_cons_of_mem _ d);rcases List.mem_append.1 h1 with h2 | h2
   ·exact List.mem_append_left _ h2
   ·rcases List.mem_cons.1 h2 with h | h
    ·exact absurd (h ▸ d) hn.1
    ·exact List.mem_append_right _ h
  simp only[List.length_append,List.length_cons]at *;omega
theorem NW (ds:List DocC) (A:Option Addr) (m c:Nat) (w:World) (hm:m=ds.length) (h:DocsOk w A ds) (m7:m<=65536) (hT:(pairsD 0 (dcs ds)).length<=1000000) :
 Calls prog 43 #[.slice A m c] w fun e w'=>NewX w (rowsD (dcs ds)) e w':=by
 have a2:=Aa (fun(x:DocC) (W:World) (hx:x.e.Ok W x.A)=>OO x.e x.A x.c W hx);replace h:=Aa h;replace hm:=Aa hm;replace hT:=Aa hT;have v7:=@run_makeMap prog
 go_in
 go_wp2_with fail;obtain⟨W1,l0⟩:=Ab (w.alloc (.map #[] 0));rw[<-l0];have e5:Ext w W1:=by rw[l0];exact(Ext.refl w).alloc _
 have b4:IX w.heap.size w.heap.size [] [] W1:=by rw[l0];exact IX.new
 obtain⟨M,hM⟩:=Ab w.heap.size;rw[<-hM];rw[<-hM]at b4;replace l0:=Aa l0;replace hM:=Aa hM
 go_loopw [14] (fun s14 wr=>∃(i:Nat) (E:List IdE),s14 = .int .i64 (i:Int)/\i<=m/\Hid (IX M M (pairsD 0 (dcs (ds.take i))) E wr)/\Hid (Ext w wr)) (fun s14 _=>m - (intOf s14).toNat)
 case atStart=>exact⟨0,[],rfl,by omega,Aa b4,Aa e5⟩
 case round =>
  obtain⟨i,E,rfl,hi,hI,hE⟩:=hrel;by_cases x6:i<m
  ·obtain⟨x,hx⟩:∃x,ds[i]? = some x:=⟨_,List.getElem?_eq_getElem (by rw[<-hm.out];exact x6)⟩
   have r3:=h.out.ext hE.out;obtain⟨g,o,hA,x0,x1,x2⟩:=AR r3.cells hx;subst hA;have g4:=(r3.each x (List.mem_of_getElem? hx)).1;replace g4:=Aa g4;replace hx:=Aa hx;clear r3;have y5:x.e.val x.A x.c = .agg #[.int .i64 x.e.at_,.slice x.A x.e.fs.length x.c]:=rfl;have y1:=a2.out x;rw[y5]at y1;have j1:pairsD 0 (dcs (ds.take (i+1)))=pairsD 0 (dcs (ds.take i))++(termsL x.e).map (fun p=>(p.1,((i:Int),p.2))):=by
    have h1:dcs (ds.take (i+1))=dcs (ds.take i) ++ [x.dc]:=by rw[List.take_add_one,hx.out];unfold dcs;rw[List.map_append];rfl
    have h2:(dcs (ds.take i)).length=i:=by unfold dcs;rw[List.length_map,List.length_take,<-hm.out];omega
    rw[h1,CG,h2,Nat.zero_add];show _++(_ ++ [])=_;rw[List.append_nil];rfl
   replace j1:=Aa j1;replace y1:=Aa y1;clear y5;go_wp2_with fail;obtain⟨W5,a3⟩:=Ab (wr.alloc (Obj.cells #[Value.int IntKind.i64 x.seq,Value.int IntKind.i64 x.e.at_,Value.slice x.A x.e.fs.length x.c] 71));have b0:Ext wr W5:=by rw[a3];exact(Ext.refl wr).alloc _
   rw[<-a3];refine(y1.out W5 (g4.out.ext b0)).mono ?_;rintro e w6 ⟨LT,DT,D,rfl,j2,i0,z4⟩;have h0:=i0.len;obtain⟨T,f0⟩:=Ab (termsL x.e);rw[<-f0]at h0 i0;have z3:∀p∈T,1<=p.1.length/\p.1.length<=65/\p.2.length<=65536:=fun p hp=>by
    rw[f0]at hp;exact⟨(EH hp).1,(EH hp).2,Jd hp⟩
   have k6:T.length<=65536:=by rw[f0];exact MD _
   rw[<-f0]at j1;obtain⟨nd,k2⟩:=Ab D.length;rw[<-k2]at j2 h0 ⊢;have q7:nd<=65536:=by rw[h0];exact k6
   have i5:=Aa ((hI.out.ext b0).ext z4);have y4:=Aa ((hE.out.trans b0).trans z4);have o5:M<=W5.heap.size:=by rw[hM.out];exact(hE.out.trans b0).size
   replace j2:=Aa j2;replace i0:=Aa i0;replace z3:=Aa z3;replace k2:=Aa k2;replace h0:=Aa h0;clear f0 b0 a3 y1;go_wp2_with fail
   go_loopw [23] (fun s23 wr=>∃(j:Nat) (E:List IdE),s23 = .int .i64 (j:Int)/\j<=nd/\Hid (IX M M (pairsD 0 (dcs (ds.take i))++((T.map fun p=>(p.1,((i:Int),p.2))).take j)) E wr)/\Hid (Ext w wr)/\Hid (∀g t cs,t≠89->Row w6 g t cs->Row wr g t cs)) (fun s23 _=>nd - (intOf s23).toNat)
   case atStart=>exact⟨0,E,rfl,by omega,by rw[List.take_zero,List.append_nil];exact i5,y4,Aa (fun _ _ _ _ h=>h)⟩
   case round =>
    obtain⟨j,E',rfl,hj,i1,y0,p3⟩:=hrel;by_cases o4:j<nd
    ·obtain⟨⟨ys,yA,yn,yc⟩,hy⟩:∃y,D[j]? = some y:=⟨_,List.getElem?_eq_getElem (by rw[<-k2.out];exact o4)⟩
     obtain⟨⟨ts,tl⟩,ht⟩:∃p,T[j]? = some p:=⟨_,List.getElem?_eq_getElem (by rw[<-h0.out];exact o4)⟩
     obtain⟨hs,r0⟩:=i0.out.each j _ _ hy ht;simp only at hs r0;subst hs;have e6:=z3.out _ (List.mem_of_getElem? ht);simp only at e6;have l6:tl.length=yn:=by have:=r0.1;rwa [List.length_map]at this
     subst l6;obtain⟨gT,v6,z0,z1⟩:=Sj j2.out (fun g cs hr=>p3.out g _ cs (by decide) hr) hy;subst v6;simp only at z0 z1;have m2:posAt M wr ⟨(i:Int),tl,yA,yc⟩:=⟨(O2 r0 (fun g cs hr=>p3.out g _ cs (by decide) hr)).lower o5,by show tl.length<=_;omega⟩
     obtain⟨xe,j4,a1,d2,p2⟩:=i1.out.get ys (by omega);have m1:pairsD 0 (dcs (ds.take i))++((T.map fun p=>(p.1,((i:Int),p.2))).take (j+1))=(pairsD 0 (dcs (ds.take i))++((T.map fun p=>(p.1,((i:Int),p.2))).take j)) ++ [(ys,((i:Int),tl))]:=by
      rw[List.take_add_one,List.getElem?_map,ht,List.append_assoc];rfl
     replace m1:=Aa m1;replace hy:=Aa hy;replace ht:=Aa ht;replace r0:=Aa r0;replace m2:=Aa m2;replace j4:=Aa j4;replace a1:=Aa a1;replace d2:=Aa d2;replace p2:=Aa p2;go_wp2_with fail;obtain⟨Wt,n0⟩:=Ab (wr.alloc (Obj.cells #[Value.string ⟨ys.toArray⟩,Value.slice yA tl.length yc] 157));rw[<-n0];obtain⟨g8,q2⟩:=Ab wr.heap.size;rw[<-q2];have Y:Ext wr Wt:=by rw[n0];exact(Ext.refl wr).alloc _
     have r8:Row Wt g8 157 #[Value.string ⟨ys.toArray⟩,Value.slice yA tl.length yc]:=by rw[n0,q2];exact Row.new wr _ _
     have z6:=p2.out Wt.drew Y.drew;have r4:=p2.out (Wt.drew.alloc (Obj.cells #[Value.int .i64 (i:Int),Value.slice yA tl.length yc] 89)) (Y.drew.alloc _);have w4:(Instr.lookup 94 (.map (some M)) (strV ys) false).run prog (Wt.alloc (Obj.cells #[Value.int .i64 (i:Int),Value.slice yA tl.length yc] 89)).drew = .ok (.slice xe.A xe.ps.length xe.c) (Wt.alloc (Obj.cells #[Value.int .i64 (i:Int),Value.slice yA tl.length yc] 89)).drew:=r4;unfold strV at z6 w4;clear r4;have x3:Wt.drew.cell? ⟨g8,0,none⟩=some (.string ⟨ys.toArray⟩)/\Wt.drew.cell? ⟨g8,1,none⟩=some (.slice yA tl.length yc):=⟨r8.cell 0 rfl,r8.cell 1 rfl⟩
     have r8b:Row (Wt.drew.alloc (Obj.cells #[Value.int .i64 (i:Int),Value.slice yA tl.length yc] 89)) g8 157 #[Value.string ⟨ys.toArray⟩,Value.slice yA tl.length yc]:=r8.drew.alloc _;have y3:(Wt.drew.alloc (Obj.cells #[Value.int .i64 (i:Int),Value.slice yA tl.length yc] 89)).cell? ⟨g8,0,none⟩=some (.string ⟨ys.toArray⟩)/\(Wt.drew.alloc (Obj.cells #[Value.int .i64 (i:Int),Value.slice yA tl.length yc] 89)).cell? ⟨g8,1,none⟩=some (.slice yA tl.length yc):=⟨r8b.cell 0 rfl,r8b.cell 1 rfl⟩
     have J:=Aa (Y.drew.owns a1.out);have x5:M<=Wt.drew.heap.size:=by rw[hM.out];exact(y0.out.trans Y.drew).size
     replace x3:=Aa x3;replace y3:=Aa y3;replace r8:=Aa r8;replace n0:=Aa n0;replace q2:=Aa q2;replace Y:=Aa Y;clear r8b;have d7:xe.ps.length<=1000000:=by
      have h1:xe.ps.length=(psP xe.ps).length:=by unfold psP;rw[List.length_map]
      rw[h1,d2.out];refine Nat.le_trans (HM _ _) ?_;have h2:pairsD 0 (dcs ds)=pairsD 0 (dcs (ds.take (i+1)))++pairsD (0+(dcs (ds.take (i+1))).length) (dcs (ds.drop (i+1))):=by
       rw[<-CG];congr 1;unfold dcs;rw[<-List.map_append,List.take_append_drop]
      have U:=hT.out;rw[h2,j1.out]at U;simp only[List.length_append,List.length_take]at U ⊢;omega
     have l3:∀w8 A8 c8,Wt.drew.grownBy w8 (Value.slice xe.A xe.ps.length xe.c).ownBlock->w8.ownsRow M 89 2 (.slice A8 (xe.ps.length+1) c8) (xe.ps.length+1) (pcells xe.ps ++ [Value.int .i64 (i:Int),Value.slice yA tl.length yc])->((Value.slice A8 (xe.ps.length+1) c8).ownBlock=(Value.slice xe.A xe.ps.length xe.c).ownBlock\/∃k,(Value.slice A8 (xe.ps.length+1) c8).ownBlock=some k/\Wt.drew.heap.size<=k) ->
      ∃w9,(Instr.mapUpdate 94 (.map (some M)) (.string ⟨ys.toArray⟩) (.slice A8 (xe.ps.length+1) c8)).run prog w8 = .ok () w9/\(w8.cell? ⟨g8,0,none⟩=some (.string ⟨ys.toArray⟩)/\w8.cell? ⟨g8,1,none⟩=some (.slice yA tl.length yc))/\(w9.cell? ⟨g8,0,none⟩=some (.string ⟨ys.toArray⟩)/\w9.cell? ⟨g8,1,none⟩=some (.slice yA tl.length yc))/\(∃E9,IX M M (pairsD 0 (dcs (ds.take i))++((T.map fun p=>(p.1,((i:Int),p.2))).take (j+1))) E9 w9)/\Ext w w9/\(∀g t cs,t≠89->Row w6 g t cs->Row w9 g t cs):=fun w8 A8 c8 hg ho hl=>by
      have d4:=i1.out.ext Y.out.drew;obtain⟨L,hL,hm⟩:=d4.map;have k3:=hL.grown hg (DK hL J.out);obtain⟨w9,L',I,r5,k5,f3,a7⟩:=k3.update Kk underlying94 (DJ (s:=ys) (by omega)) (.slice A8 (xe.ps.length+1) c8);have g5:∀g t cs,t≠89->Row Wt.drew g t cs->Row w9 g t cs:=fun g t cs ht hr=>by
       have q:=Jn J.out hg hr ht;exact q.grown f3 fun e=>DL k3 q (by injection e)
      have r8d:=r8.out.drew;have q8:=Jn J.out hg r8d (by decide);have q9:=g5 _ _ _ (by decide) r8d;have c4:=d4.put (w9:=w9) (y:=⟨(i:Int),tl,yA,yc⟩) j4.out J.out d2.out hg ho hl ⟨m2.out.1.ext Y.out.drew,m2.out.2⟩ (fun L1 n5 t7=>by
       obtain rfl:=k3.same n5;exact⟨L',r5,k5,f3⟩)
      have f2:=c4;show ∃_,_;rw[show (PoC.po ⟨(i:Int),tl,yA,yc⟩)=((i:Int),tl)from rfl,<-m1.out]at f2;refine⟨w9,I,⟨q8.cell 0 rfl,q8.cell 1 rfl⟩,⟨q9.cell 0 rfl,q9.cell 1 rfl⟩,⟨_,f2⟩,?_,fun g t cs ht hr=>g5 g t cs ht ((p3.out g t cs ht hr).ext Y.out.drew)⟩
      ·exact(CX J.out hg (y0.out.trans Y.out.drew) (by rw[hM.out];exact Nat.le_refl _)).grown f3 fun k hk=>by
        injection hk with hk;rw[<-hk,hM.out];exact Nat.le_refl _
     replace l3:=Aa l3
     go_region_held3 (fun x=>x.cell? ⟨g8,0,none⟩=some (.string ⟨ys.toArray⟩)/\x.cell? ⟨g8,1,none⟩=some (.slice yA tl.length yc)) (first | exact x3.out | exact y3.out | exact q6 | exact p6) (first | (refine OG (us:= [.int .i64 (i:Int),.slice yA tl.length yc]) (m:=1) Pc rfl J.out rfl (.tmp 33) (.tmp 38) rfl rfl rfl rfl (by simp[Value.oneCell']) (by omega) x5 (fun A9 c9 w8 c6 n4 a6=>?_);obtain⟨w9,b7,q6,p6,c0,f5,l5⟩:=l3.out w8 A9 c9 n4 c6 a6))
     all_goals (go_wp2_with fail)
     all_goals (obtain⟨E9,c0⟩:=c0;exact⟨⟨j+1,E9,by first | rfl | (congr 1;omega),by omega,Aa c0,Aa f5,Aa l5⟩,by simp only[intOf];omega⟩)
    ·have j6:(T.map fun p=>(p.1,((i:Int),p.2))).take j=T.map fun p=>(p.1,((i:Int),p.2)):=List.take_of_length_le (by rw[List.length_map,<-h0.out];omega);rw[j6,<-j1.out]at i1;go_wp2_with fail;exact⟨⟨i+1,E',by first | rfl | (congr 1;omega),by omega,i1,y0⟩,by simp only[intOf];omega⟩
  ·have o0:ds.take i=ds:=List.take_of_length_le (by rw[<-hm.out];omega);rw[o0]at hI;obtain⟨wo,f6⟩:=Ab wr;subst f6;have d:rowsD (dcs ds)=grp (pairsD 0 (dcs ds)):=rfl;obtain⟨PS,m3⟩:=Ab (pairsD 0 (dcs ds));rw[<-m3]at hI d hT;obtain⟨R,hR⟩:=Ab (rowsD (dcs ds));rw[<-hR]at d;obtain⟨L,hL,Z⟩:=hI.out.map;obtain⟨ob,k0,d0⟩:=hL.range underlying94;have f1:Ext wo (wo.alloc ob):=(Ext.refl wo).alloc ob;obtain⟨rb,G⟩:=Ab wo.heap.size;have q3:rb+1<=(wo.alloc ob).heap.size:=by rw[G];simp
   have r6:M<rb:=by rw[G];exact hL.lt
   rw[<-G]at k0 d0;replace Z:=Aa Z;replace G:=Aa G;replace m3:=Aa m3;replace hR:=Aa hR;replace d:=Aa d;obtain⟨Wq,b3⟩:=Ab (wo.alloc ob);rw[<-b3]at k0 d0 f1 q3;replace d0:=Aa d0;replace f1:=Aa f1;replace b3:=Aa b3;replace hL:=Aa hL;go_wp2_with fail
   go_loopw [9] (fun s9 wr=>∃(D:List IdE) (n:Nat) (A:Option Addr) (c:Nat),s9 = .slice A n c/\Hid (n=D.length)/\Hid (wr.ownsRow (rb+1) 9 1 (.slice A n c) n (D.map fun e=>strV e.s))/\Hid (RangeL prog 9 wr M rb L (D.map fun e=>strV e.s))/\Hid (∀e∈D,e∈E)/\rb+1<=wr.heap.size/\Hid (Ext wo wr)) (fun _ wr=>wr.rangeLeft M rb)
   case atStart=>exact⟨[],0,none,0,rfl,Aa rfl,Aa (World.ownsRow_nil _ _ _ _),d0,Aa (by simp),q3,f1⟩
   case round =>
    obtain⟨D,n,A,c,rfl,p1,hO,e4,hD,d6,a4⟩:=hrel;have j0:(D.map (·.s)).Nodup:=by
     have:=e4.out.dn;have h2:(D.map fun e=>strV e.s)=(D.map (·.s)).map strV:=by rw[List.map_map];rfl
     rw[h2]at this;exact HY strV this
    have q0:D.length<=1000000:=by
     have h1:=K2 (D.map (·.s)) (PS.map (·.1)) j0 fun t ht=>by
      obtain⟨e,he,rfl⟩:=List.mem_map.1 ht;have U:=hI.out.own e (hD.out e he);have h4:valsOf PS e.s ≠ []:=by rw[<-U.2.1];unfold psP;simpa using U.2.2
      obtain⟨q,hq,t0⟩:=Fv h4;exact List.mem_map.2 ⟨q,hq,t0⟩
     rw[List.length_map,List.length_map]at h1;have:=hT.out;omega
    replace q0:=Aa q0;rcases e4.out.next 0 with ⟨I,o0⟩ | ⟨x,v,w2,i6,c7,I,t3,l4,p4,o2,i3⟩
    ·have p0:Buf wr (rb+1) 9 A n c ((D.map (·.s)).map strV):=by
      rw[List.map_map];exact Buf.of_own hO.out
     have x7:n<=1000000:=by rw[p1.out];exact q0.out
     have y2:sortK (D.map (·.s))=R.map (·.1):=by
      have H:=BM PS;rw[<-d.out]at H;refine P9 ?_ (by rw[List.pairwise_map];exact H.up);refine(List.perm_ext_iff_of_nodup j0 ?_).2 fun t=>?_
      ·rw[List.nodup_iff_pairwise_ne,List.pairwise_map];exact H.up.imp fun h e=>by rw[e]at h;exact List.lt_irrefl _ h
      ·constructor
       ·intro ht;obtain⟨e,he,rfl⟩:=List.mem_map.1 ht;have U:=hI.out.own e (hD.out e he);exact List.mem_map.2 ⟨(e.s,psP e.ps),(H.mem _).2 ⟨U.2.1,by unfold psP;simpa using U.2.2⟩,rfl⟩
       ·intro ht;obtain⟨r,hr,rfl⟩:=List.mem_map.1 ht;have U:=(H.mem r).1 hr;have h4:valsOf PS r.1 ≠ []:=by rw[<-U.1];exact U.2
        obtain⟨q,hq,t0⟩:=Fv h4;obtain⟨y,hy,e2⟩:=hI.out.all q hq;have h5:=o0 _ ((Z.out _).2 ⟨y,hy,rfl⟩);obtain⟨e,he,t6⟩:=List.mem_map.1 h5;exact List.mem_map.2 ⟨e,he,by rw[HG t6,e2,t0]⟩
     replace y2:=Aa y2;have hs:=OE (rb+1) A n c (D.map (·.s)) wr (by rw[List.length_map];exact p1.out) p0 (by omega);have o3:n=R.length:=by
      have h1:=congrArg List.length y2.out;rw[List.length_map,(Hv _).length_eq,List.length_map]at h1;rw[p1.out,h1]
     replace o3:=Aa o3;have g6:=p0.base_le;replace hs:=Aa hs;replace p0:=Aa p0;replace j0:=Aa j0;go_wp2_with fail;refine hs.out.mono ?_;rintro e w3 ⟨rfl,d3,i4⟩;have O:Ext wo w3:=a4.out.chg i4 (by
      rintro i hi ⟨a,ha,hk⟩;have:=g6 a ha;have:=G.out;omega)
     replace O:=Aa O;replace d3:=Aa d3;clear i4;go_wp2_with fail;go_ret2;rw[<-hR.out];refine⟨A,n,c,M,rfl,o3.out,?_,⟨L,hL.out.ext O.out,fun r hr=>?_⟩,hE.out.trans O.out⟩
     ·have h1:(R.map fun r=>strV r.1)=(sortK (D.map (·.s))).map strV:=by rw[y2.out,List.map_map];rfl
      rw[h1];exact d3.out.lower (by have:=hM.out;omega)
     ·have H:=BM PS;rw[<-d.out]at H;have U:=(H.mem r).1 hr;have h4:valsOf PS r.1 ≠ []:=by rw[<-U.1];exact U.2
      obtain⟨q,hq,t0⟩:=Fv h4;obtain⟨y,hy,e2⟩:=hI.out.all q hq;have h5:=hI.out.own y hy;have h6:=BN h5.1;refine⟨y.ps,y.A,y.c,(Z.out _).2 ⟨y,hy,by rw[e2,t0];rfl⟩,by rw[h5.2.1,e2,t0,<-U.1],⟨Cells.of_own (O.out.owns h5.1),fun z hz=>?_⟩,h6.2,h6.1⟩;have h7:=hI.out.pos y hy z hz;exact⟨(h7.1.ext O.out).cells,h7.2⟩
    ·obtain⟨e0,m6,y6⟩:=(Z.out _).1 i6;injection y6 with hx1 hv1;subst hx1;subst hv1;have y0:Ext wo w2:=a4.out.grown l4 (fun k hk=>by injection hk with hk;rw[<-hk,G.out];exact Nat.le_refl _);have t5:rb+1<=w2.heap.size:=by rw[p4];exact d6
     have j3:w2.ownsRow (rb+1) 9 1 (.slice A n c) n (D.map fun e=>strV e.s):=by
      refine(Chg.of_grown (S:=fun k=>k=rb) l4 (fun k _ hk=>by injection hk with hk;exact hk.symm)).owns hO.out ?_;rintro g hg j7;obtain⟨cur,_,h9⟩:=Ae hO.out hg;omega
     have y7:n+1<=1000001:=by rw[p1.out];have:=q0.out;omega
     have m0:(Value.slice A n c).ownBlock≠some M/\(Value.slice A n c).ownBlock≠some rb:=by
      constructor
      ·intro hg;obtain⟨cur,_,h9⟩:=Ae hO.out hg;omega
      ·intro hg;obtain⟨cur,_,h9⟩:=Ae hO.out hg;omega
     have H:∀k,(Value.slice A n c).ownBlock=some k->wo.heap.size<=k:=by
      intro k hg;obtain⟨cur,_,h9⟩:=Ae hO.out hg;have:=G.out;omega
     replace m0:=Aa m0;replace H:=Aa H;replace p4:=Aa p4;replace j0:=Aa j0;replace j3:=Aa j3;have m5:strV e0.s = .string ⟨e0.s.toArray⟩:=rfl;have e3:=o2;have q4:=I;rw[m5]at e3 q4;clear o2 I;go_wp2_with (at_builtin;refine La (us:= [.string ⟨e0.s.toArray⟩]) ER j3.out (.tmp 48) (.tmp 50) rfl rfl rfl rfl (by simp[Value.oneCell']) (by simp;omega) (by omega) (fun A3 c3 w3 b6 q1 w4=>?_));have O:Ext wo w3:=y0.grown q1 H.out;have w5:RangeL prog 9 w3 M rb L ((D ++ [e0]).map fun e=>strV e.s):=by
      rw[List.map_append,List.map_cons,List.map_nil];exact t3.grown q1 m0.out.1 m0.out.2
     have p5:w3.ownsRow (rb+1) 9 1 (.slice A3 (n+1) c3) (n+1) ((D ++ [e0]).map fun e=>strV e.s):=by
      rw[List.map_append,List.map_cons,List.map_nil];exact b6
     have v5:rb+1<=w3.heap.size:=Nat.le_trans t5 q1.size;have q5:w3.rangeLeft M rb<wr.rangeLeft M rb:=by
      have h1:w3.heap[M]? = w2.heap[M]? :=q1.block M t3.map.lt (fun e=>m0.out.1 e.symm);have h2:w3.heap[rb]? = w2.heap[rb]? :=q1.block _ t3.lt (fun e=>m0.out.2 e.symm);have U:w3.rangeLeft M rb=w2.rangeLeft M rb:=by unfold World.rangeLeft;rw[h1,h2]
      rw[U];exact i3
     go_roundw
     case rel=>exact⟨D ++ [e0],n+1,A3,c3,rfl,Aa (by rw[List.length_append];simp;exact p1.out),p5,w5,Aa (fun e he=>by
      rcases List.mem_append.1 he with he | he
      ·exact hD.out e he
      ·simp at he;subst he;exact m6),v5,Aa O⟩
     case measure=>exact q5
end
section
open Go.RowKit
attribute [local go_sem] Oper.semAt_some AP
theorem Lo (A:Option Addr) (n c k:Nat) (w:World) (hk:1<=k) (h:k<=1000000) :
 Calls prog 127 #[.slice A n c,.int .i64 (k:Int)] w fun e w'=>∃b1 b2,e = .returned (.func (.func 170) #[] #[.pointer (some ⟨b1,0,none⟩),.pointer (some ⟨b2,0,none⟩)])/\Row w' b1 30 #[.slice A n c]/\Row w' b2 3 #[.int .i64 (k:Int)]/\w.heap.size<=b1/\w.heap.size<=b2/\b1<b2/\Ext w w':=by
 go_in
 go_wp2_with fail;go_ret;have h1:=Row.new w 30 #[.slice A n c];have h2:=Row.new (w.alloc (.cells #[.slice A n c] 30)) 3 #[.int .i64 (k:Int)];rw[World.size_alloc]at h2;exact⟨w.heap.size,w.heap.size+1,rfl,h1.alloc _,h2,Nat.le_refl _,by omega,by omega,((Ext.refl w).alloc _).alloc _⟩
theorem KQ (d:z=(i:Int)) (hi:i<=n):∃A' c',∀W:World,(Instr.sliceAt 30 (.slice A n c) (some (.int .i64 z)) none none).run prog W = .ok (.slice A' (n - i) c') W:=by
 subst d;have ht:=underlying30;have h:prog.elem 30=71:=by unfold Program.elem;rw[ht]
 have hs:∀W:World,(sizeOf 71).run prog W = .ok 3 W:=fun W=>by kernel_rfl
 refine⟨if c=i then A else A.map fun a=>a.add (i*3),c - i,fun W=>?_⟩;rw[run_sliceAt_slice W _ _ _ _ _ (by rw[ht,h]),run_slice_l W _ A n c (by rw[ht,h]) .i64 i (by omega) (by omega),h,hs];simp only[Result.andThen_ok,sliced];rfl
theorem KR (Y:z=(i:Int)) (d:z1=((i+j:Nat):Int)) (H:z2=((i+j:Nat):Int)) (hi:i+j<=c) (J:0<j) (W:World) :
 (Instr.sliceAt 30 (.slice A n c) (some (.int .i64 z)) (some (.int .i64 z1)) (some (.int .i64 z2))).run prog W = .ok (.slice (A.map fun a=>a.add (i*3)) j j) W:=by
 subst Y d H;have ht:=underlying30;have h:prog.elem 30=71:=by unfold Program.elem;rw[ht]
 have hs:(sizeOf 71).run prog W = .ok 3 W:=by kernel_rfl
 rw[run_sliceAt_slice W _ _ _ _ _ (by rw[ht,h]),run_slice_lhm W _ A n c (by rw[ht,h]) .i64 .i64 .i64 i ((i+j:Nat):Int) ((i+j:Nat):Int) (by omega) (by omega) (by omega) (by omega),h,hs];simp only[Result.andThen_ok];congr 1;unfold sliced;rw[if_neg (by omega),show ((i+j:Nat):Int).toNat - (i:Int).toNat=j by omega];rfl
def chunkVB (A:Option Addr) (n k i:Nat):Value:= .slice (A.map fun a=>a.add (i*k*3)) (min k (n - i*k)) (min k (n - i*k))
def ChIterB (A:Option Addr) (n k b1 b2:Nat) (w:World):Prop :=
 Iter prog 170 #[.pointer (some ⟨b1,0,none⟩),.pointer (some ⟨b2,0,none⟩)] (fun i:Nat=>#[chunkVB A n k i]) Ext (fun pre i _=>i=pre.length/\i*k<n) (KeepB b1 b2) (fun xs W W'=>n<=xs.length*k/\xs=List.range xs.length/\(∀i∈xs,i*k<n)/\Ext W W') w
theorem JU (A:Option Addr) (n c k b1 b2:Nat) (w:World) (H:Row w b1 30 #[.slice A n c]) (Y:Row w b2 3 #[.int .i64 (k:Int)]) (hk:1<=k) (n0:k<=1000000) (hn:n<=1000000000) (hc:n<=c):ChIterB A n k b1 b2 w:=by
 intro l J W hE U hY h0;replace H:=H.ext hE;replace Y:=Y.ext hE;clear hE;replace H:=Aa H;replace Y:=Aa Y;replace hY:=Aa hY;replace U:=Aa U;replace h0:=Aa h0;refine(callsIn_wide (n:=0)).1 ?_;refine callsIn_of_wp func170 rfl trivial ?_;simp only[ntmps170,List.size_toArray,List.length_cons,List.length_nil,Nat.reduceAdd,Nat.reduceSub,Array.replicate_succ,Array.replicate_zero,List.push_toArray,List.append_toArray,List.nil_append,List.cons_append];gi_wp2_with fail
 gi_loopw [4] (fun s4 wr=>∃(i q:Nat) (pre:List Nat),s4 = .int .i64 (q:Int)/\Hid (q=i*k)/\q<=n+k/\Hid (pre.length=i)/\Hid (pre=List.range i)/\Hid (∀j∈pre,j*k<n)/\Hid (J pre wr)/\Hid (Row wr b1 30 #[.slice A n c])/\Hid (Row wr b2 3 #[.int .i64 (k:Int)])) (fun s4 _=>n - (intOf s4).toNat)
 case atStart=>exact⟨0,0,[],rfl,Aa (by simp),by omega,Aa rfl,Aa rfl,Aa nofun,h0,H,Y⟩
 case round =>
  obtain⟨i,q,pre,rfl,hq,h1,d,p0,I,hJ,r1,r2⟩:=hrel;have k1:=r1.out.cell 0 rfl;have k2:=r2.out.cell 0 rfl;by_cases G:q<n
  ·obtain⟨m,hm⟩:∃m:Nat,(m:Int)=min (k:Int) ((n - q:Nat):Int):=⟨min k (n - q),by omega⟩
   have b0:0<m:=by omega
   have o0:m<=k:=by omega
   have r0:m<=n - q:=by omega
   have c0:m=k\/m=n - q:=by omega
   have f0:=fun(W:World)=>AQ (P:=prog) #[3,3] 3 hm W;have p1:=fun(W:World)=>KR (A:=A) (n:=n) (c:=c) (i:=q) (j:=m) (z:=(q:Int)) (z1:=(q:Int)+(m:Int)) (z2:=(q:Int)+(m:Int)) rfl (by omega) (by omega) (by omega) b0 W;obtain⟨A',c',q1⟩:=KQ (A:=A) (n:=n) (c:=c) (i:=q) (z:=(q:Int)) rfl (by omega);replace hm:=Aa hm;have g0:=hY.out pre pre.length wr.drew (U.out _ _ _ hJ.out (Ext.refl wr).drew) ⟨rfl,by rw[d.out,<-hq.out];exact G⟩;have O:chunkVB A n k pre.length = .slice (A.map fun a=>a.add (q*3)) m m:=by
    unfold chunkVB;rw[d.out,<-hq.out,show min k (n - q)=m by omega]
   rw[O]at g0;obtain⟨fn,tmps,assign,body,hy,hR⟩:=g0;have q0:Hid (∀j∈pre ++ [pre.length],j*k<n):=Aa fun j hj=>by
    rcases List.mem_append.1 hj with h | h
    ·exact I.out j h
    ·rw[List.mem_singleton.1 h,d.out,<-hq.out];exact G
   have k0:Hid (pre ++ [pre.length]=List.range (i+1)):=Aa (by rw[List.range_succ,d.out,p0.out]);have d0:Hid (q+k=(i+1)*k):=Aa (by rw[Nat.succ_mul,hq.out]);clear O c0 hY U;gi_wp2_with fail;refine wpIn_wide.2 (AE (fun K hK=>?_));go_wp2_with fail;refine⟨by kernel_rfl,?_⟩;gi_wp2_with fail;refine hR.mono ?_;rintro e W3 ⟨rfl,x0,Z⟩;have r13:=Aa (show Row W3 b1 30 #[.slice A n c] from Z.1 _ r1.out);have r23:=Aa (show Row W3 b2 3 #[.int .i64 (k:Int)] from Z.2 _ r2.out);have k23:=r23.out.cell 0 rfl;gi_wp2_with fail;exact⟨⟨i+1,q+k,pre ++ [pre.length],by congr 1,d0,by omega,Aa (by rw[List.length_append,d.out];rfl),k0,q0,Aa x0,r13,r23⟩,by simp only[intOf];omega⟩
  ·gi_wp2_with fail
   go_end0
   exact⟨⟨_,rfl⟩,pre,_,hJ.out,by rw[d.out,<-hq.out];omega,by rw[d.out];exact p0.out,I.out,Ext.refl _⟩
end
section
open Go.RowKit
def OnlyN (Q:Exit->Act->World->Prop):Exit->Act->World->Prop
 | .normal,a,w=>Q .normal a w
 | _,_,_=>False
theorem OnlyN.imp (e:Exit) (a:Act) (w:World) (h:OnlyN Q e a w):Q e a w:=by
 cases e <;> first | exact h | exact h.elim
def calmOps (ops:Array Oper):Bool:=ops.all fun o=>match o.op with | .defer _=>false | _=>true
theorem O3 (h:calmOps ops=true) (Y:ops[i]? = some o):∀c,o.op ≠ .defer c:=by
 intro c d;unfold calmOps at h;rw[Array.all_eq_true]at h;obtain⟨hi,H⟩:=Array.getElem?_eq_some_iff.1 Y;have:=h i hi;rw[H,d]at this;cases this
theorem Q4 {row:String} {args:Array Value} {R:Value->World->Prop} (h:Rows P row args w R):RowsIn Fence.wide n P row args w R :=
 fun c cs _=>let ⟨v,w',r,s⟩:=h c cs;⟨v,w',r,stepsIn_wide.2 s⟩
theorem AL {l:Nat} (Y:calmOps ops=true) :
 ∀(fuel:Nat) (listed:Array Bool) (a:Act) (w:World),wpAny P md ops (OnlyN Q) fuel listed a w->wpAnyIn (Fence.wide.inRound l) 0 P md ops (OnlyN Q) fuel listed a w
 | 0,listed,a,w,h=>h
 | fuel+1,listed,a,w,h=>⟨h.1,fun i hi=>by
  have H:=h.2 i hi;unfold wpOp at H;unfold wpOpIn;cases O:ops[i]? with
  | none=>rw[O]at H;exact AL Y fuel _ a w H
  | some o =>
   rw[O]at H;simp only at H ⊢;split
   ·rename_i J;rw[if_pos J]at H;rcases H with H | ⟨_,G⟩
    ·refine⟨fun _ _=>trivial,?_⟩;rw[Oper.semAt_plain _ _ _ (O3 Y O)];unfold Oper.wp at H;generalize (execOp a.eval o).run P w=r at H ⊢;cases r with
     | ok nx w' =>
      cases nx with
      | value v=>exact AL Y fuel _ _ _ H
      | skip=>exact AL Y fuel _ _ _ H
      | defer d=>exact AL Y fuel _ _ _ H
      | enter f args =>
       refine⟨fun h=>by simp[Fence.wide]at h,CallsIn.inRound l (callsIn_wide.2 (Calls.mono H ?_))⟩;intro e w'' U;cases e with
       | returned v=>exact AL Y fuel _ _ _ U
       | panicked ch=>exact U
       | outgrown=>exact U
      | row row args =>
       exact⟨fun h=>by simp[Fence.wide]at h,Q4 (Rows.mono H fun v w'' U=>AL Y fuel _ _ _ U)⟩
      | _=>exact H.elim
     | halt x w' =>
      cases x with
      | panic v=>exact H
      | _=>exact H
    ·obtain⟨a1,w1,Z⟩:=G;exact Z.elim
   ·rename_i J;rw[if_neg J]at H;exact⟨fun _ _=>trivial,AL Y fuel _ _ _ H⟩⟩
theorem HV {id:Nat} {l:Nat} (S:World->Prop) (H:P.follows .mixedOrders=true) (d:calmOps ops=true)
 (h:wpAnyH P .any ops (OnlyN Q) S ops.size (Array.replicate ops.size false) a w.drew):(Code.region id ops true).wpIn (Fence.wide.inRound l) 0 P Q a w :=
 wpIn_mono (wpIn_region_any H (AL d _ _ _ _ (wpAny_of_held _ _ _ _ h))) OnlyN.imp
end
end Go.Proofs.YtfifdilapbeiiaaGreat
