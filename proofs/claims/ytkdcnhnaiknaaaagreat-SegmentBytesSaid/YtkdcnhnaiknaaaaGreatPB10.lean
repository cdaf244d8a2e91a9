/- Texts of one proof, joined. -/
import Derived.Test.YtkdcnhnaiknaaaaGreatPB09
import Derived.Test.YtkdcnhnaiknaaaaGreatPB04
import Derived.Shelf.RegionOpen
import Derived.Test.YtkdcnhnaiknaaaaGreatPB05
import Derived.Test.YtkdcnhnaiknaaaaGreatPB03
import Derived.Test.YtkdcnhnaiknaaaaGreatPB07
import Derived.Test.YtkdcnhnaiknaaaaGreatPB08
import Derived.BigQuiet
import Derived.Deep.RegionLaw
import Derived.RegionTactic
import Derived.BigRegion
set_option linter.unusedSimpArgs false
set_option linter.unusedVariables false
set_option maxRecDepth 100000
set_option maxHeartbeats 16000000
namespace Go.Proofs.YtkdcnhnaiknaaaaGreat
section
open Go.RowKit
attribute [local go_sem] Oper.semAt_some Za ZAw
theorem ZAK {z:Int} (h1 : -9223372036854775808<=z) (h2:z<9223372036854775808):IntKind.i64.wrap z=z:=by
 simp[IntKind.wrap,IntKind.bits,IntKind.signed];omega
structure Blk where
  last:Int
  b:List UInt8
  A:Option Addr
  c:Nat
def Blk.args (x:Blk):Array Value:=#[.int .i64 x.last,.slice x.A x.b.length x.c]
def StB (W A B:World):Prop:=Chg (fun k=>W.heap.size<=k/\∀t cs,Row A k t cs->t=3) A B
theorem StB.ext {W A B:World} (h:Ext A B):StB W A B:=Chg.of_ext h _
theorem StB.alike {W A B:World} {X:Nat} (h:Alike X A B) (hX:W.heap.size<=X):StB W A B :=
 ⟨h.os,h.tape,h.output,h.size,fun k hk hn=>h.block k hk fun hc=>hn ⟨by have:=hc.1;omega,fun t cs hr=>(NC.not_row hr hc).elim⟩⟩
theorem StB.num {W A B : World} {g : Nat} {cs : Array Value} (h : Chg (fun k => k = g) A B) (hg : W.heap.size ≤ g) (hr : Row A g 3 cs) : StB W A B :=
  ⟨h.os, h.tape, h.output, h.size, fun k hk hn => h.block k hk fun hc => hn ⟨by omega, fun t cs' h0 => by
    rw [hc] at h0
    unfold Row at hr h0
    rw [hr] at h0
    injection h0 with e
    injection e with _ e
    exact e.symm⟩⟩
theorem StB.old {W A B:World} (h:StB W A B) (k:Nat) (o:Obj) (hk:k<W.heap.size) (ho:A.heap[k]? = some o) (_:o.isCells=false):B.heap[k]? = some o :=
 (h.block k (Array.getElem?_eq_some_iff.1 ho).1 fun hn=>by have:=hn.1;omega).trans ho
def KpB (B:Nat) (W W':World):Prop:=(∀w0:World,w0.heap.size<=B->Ext w0 W->Ext w0 W')/\∀g t cs,t≠25->t≠5->Row W g t cs->Row W' g t cs
theorem KpB.trans (B:Nat) (A C D:World) (h:KpB B A C) (k:KpB B C D):KpB B A D:=⟨fun w0 h0 he=>k.1 w0 h0 (h.1 w0 h0 he),fun g t cs h1 h2 hr=>k.2 g t cs h1 h2 (h.2 g t cs h1 h2 hr)⟩
theorem KpB.alike {B X:Nat} (hX:B<=X) (A C:World) (h:Alike X A C):KpB B A C:=⟨fun _ hs he=>h.ext he (by omega),fun _ _ _ _ _ hr=>h.row hr⟩
theorem KpB.ext {B:Nat} {A C:World} (h:Ext A C):KpB B A C:=⟨fun _ _ he=>he.trans h,fun _ _ _ _ _ hr=>hr.ext h⟩
def NxB (P:List Dc) (pre:List Blk) (x:Blk) (W:World):Prop:=pre.length*16<P.length/\x.last=lastD (lastD 0 (P.take (pre.length*16))) ((P.drop (pre.length*16)).take 16)/\x.b=blockD (lastD 0 (P.take (pre.length*16))) ((P.drop (pre.length*16)).take 16)/\∃base,Buf W base 5 x.A x.b.length x.c (x.b.map B8)
def BlkIter (P:List Dc) (B b0:Nat) (w:World):Prop :=
 IterS Tryz.prog 131 #[.pointer (some ⟨b0,0,none⟩)] Blk.args StB (NxB P) (KpB B) (fun xs A B=>P.length<=xs.length*16/\B=A) w
def BkI (b0 b1 b2 gy gl l:Nat) (V:Value) (P:List Dc) (J:List Blk->World->Prop) (W w0:World) (r:Nat) (X:World):Prop :=
 (∃xs:List Blk,xs.length=r/\J xs X)/\Row X b0 22 #[V]/\Row X b1 22 #[V]/\Row X b2 3 #[.int .i64 16]/\Row X gy 204 #[.func (.yield l) #[] #[]]/\Row X gl 3 #[.int .i64 (lastD 0 (P.take (r*16)))]/\Ext w0 X/\W.heap.size<=X.heap.size
theorem ZJd (A:Option Addr) (n c:Nat) (w:World) :
 Calls Tryz.prog 79 #[.slice A n c] w fun e w'=>∃b0,e = .returned (.func (.func 131) #[] #[.pointer (some ⟨b0,0,none⟩)])/\Row w' b0 22 #[.slice A n c]/\w.heap.size<=b0/\Ext w w':=by
 go_enter Tryz.func79,Tryz.ntmps79;go_wp2_with fail;go_ret;exact⟨w.heap.size,rfl,Row.new w _ _,Nat.le_refl _,(Ext.refl w).alloc _⟩
theorem ZHY (ds:List DocC) (A:Option Addr) (m c b0 B:Nat) (w0 w:World) (hm:m=ds.length) (h:DocsOk w0 A ds) (hA:∀a,A=some a->a.spot=none) (b5:m<=c) (c2:okDs (dcs ds)=true) (d2:(blockD 0 (dcs ds)).length<=50000000)
 (hB:w0.heap.size<=B) (hw:Ext w0 w) (j2:Row w b0 22 #[.slice A m c]):BlkIter (dcs ds) B b0 w:=by
 intro l J W hE m2 hY h0;have w1:(dcs ds).length=m:=by unfold dcs;rw[List.length_map,hm]
 have q6:m<=65536:=by
  have:=c2;unfold okDs at this;rw[Bool.and_eq_true]at this;have:=of_decide_eq_true this.1;omega
 obtain⟨P,hP⟩:∃P,P=dcs ds:=⟨_,rfl⟩
 rw[<-hP]at w1 c2 d2 hY ⊢;replace j2:=ZA (j2.ext hE);replace hw:=ZA (hw.trans hE);clear hE;replace hm:=ZA hm;replace h:=ZA h;replace hA:=ZA hA;replace hP:=ZA hP;replace c2:=ZA c2;replace d2:=ZA d2;replace w1:=ZA w1;replace hY:=ZA hY;replace m2:=ZA m2;replace h0:=ZA h0;refine(callsIn_wide (n:=0)).1 ?_;refine callsIn_of_wp_marks Tryz.func131 rfl trivial ?_;simp only[Tryz.ntmps131,List.size_toArray,List.length_cons,List.length_nil,Nat.reduceAdd,Nat.reduceSub,Array.replicate_succ,Array.replicate_zero,List.push_toArray,List.append_toArray,List.nil_append,List.cons_append];have k0:=j2.out.cell 0 rfl;have k0l:=j2.out.lt;gi_wp2_with fail;obtain⟨W3,y1⟩:∃W3,W3=(W.alloc (Obj.cells #[Value.func (.yield l) #[] #[]] 204)).alloc (Obj.cells #[Value.int IntKind.i64 0] 3):=⟨_,rfl⟩
 rw[<-y1];obtain⟨gy,e1⟩:∃gy,gy=W.heap.size:=⟨_,rfl⟩
 rw[<-e1];have qy:Row W3 gy 204 #[Value.func (.yield l) #[] #[]]:=by rw[y1,e1];exact(Row.new W _ _).alloc _
 have ql:Row W3 (gy+1) 3 #[.int .i64 0]:=by
  have:=Row.new (W.alloc (Obj.cells #[Value.func (.yield l) #[] #[]] 204)) 3 #[.int .i64 0];rw[World.size_alloc,<-e1]at this;rw[y1];exact this
 have t1:Ext W W3:=by rw[y1];exact((Ext.refl W).alloc _).alloc _
 have e2:W3.heap.size=gy+2:=by rw[y1,e1];simp
 refine(callsIn_wide.2 (ZIi A m c 16 W3 (by omega) (by omega))).mono ?_;rintro e w4 ⟨b1,b2,rfl,rb1,rb2,p5,j5,k5,y0⟩;have w2:BkI b0 b1 b2 gy (gy+1) l (.slice A m c) P J W w0 0 w4:=⟨⟨[],rfl,m2.out _ _ _ h0.out (StB.ext (t1.trans y0))⟩,(j2.out.ext t1).ext y0,rb1,rb2,qy.ext y0,by rw[Nat.zero_mul,List.take_zero];exact ql.ext y0,hw.out.trans (t1.trans y0),(t1.trans y0).size⟩
 have t3:=ZHP A m c 16 b1 b2 w4 rb1 rb2 (by omega) (by omega) (by omega) b5;rw[e2]at p5 j5;have m4:W.heap.size<=w4.heap.size:=(t1.trans y0).size;have n3:=rb2.lt;have i5:B<=w4.heap.size\/w4.heap.size<B:=by omega
 have g4:w0.heap.size<=w4.heap.size:=(hw.out.trans (t1.trans y0)).size;have j0:∀r A2 B2,BkI b0 b1 b2 gy (gy+1) l (.slice A m c) P J W w0 r A2->Alike w4.heap.size A2 B2->BkI b0 b1 b2 gy (gy+1) l (.slice A m c) P J W w0 r B2:=by
  rintro r A2 B2 ⟨⟨xs,hx,hj⟩,r1,r2,r3,r4,r5,he,hs⟩ ha;exact⟨⟨xs,hx,m2.out _ _ _ hj (StB.alike ha m4)⟩,ha.row r1,ha.row r2,ha.row r3,ha.row r4,ha.row r5,ha.ext he g4,Nat.le_trans hs ha.size⟩
 have q1:∀r A2 B2,BkI b0 b1 b2 gy (gy+1) l (.slice A m c) P J W w0 r A2->Ext A2 B2->BkI b0 b1 b2 gy (gy+1) l (.slice A m c) P J W w0 r B2:=by
  rintro r A2 B2 ⟨⟨xs,hx,hj⟩,r1,r2,r3,r4,r5,he,hs⟩ ha;exact⟨⟨xs,hx,m2.out _ _ _ hj (StB.ext ha)⟩,r1.ext ha,r2.ext ha,r3.ext ha,r4.ext ha,r5.ext ha,he.trans ha,Nat.le_trans hs ha.size⟩
 replace w2:=ZA w2;replace t3:=ZA t3;replace y1:=ZA y1;replace e1:=ZA e1;replace j0:=ZA j0;replace q1:=ZA q1;clear qy ql t1 y0 rb1 rb2 e2 k0 k0l j2;gi_wp2_with fail;unfold ChIterB at t3;refine ZBC (gf:=173) (lb:=#[.pointer (some ⟨b1,0,none⟩),.pointer (some ⟨b2,0,none⟩)]) rfl (enters_of Tryz.func173 (by kernel_rfl) rfl) t3.out (fun _=>rfl) (fun _ _ h=>h.others) (fun _ _ _ h=>h.2.2.2.others) (KeepB.trans b1 b2) ?kb
  (fun pre X=>BkI b0 b1 b2 gy (gy+1) l (.slice A m c) P J W w0 pre.length X) (fun pre A B h ha=>j0.out _ _ _ h ha) (fun pre A B h hE=>q1.out _ _ _ h hE) ?h0 ?hround ?hdone
 case kb =>
  have l3:=(w2.out.2.2.1).lt;exact KeepB.alike l3 n3
 case h0=>exact fun X ha=>j0.out _ _ _ w2.out ha
 case hround =>
  rintro l2 pre i X hI ⟨hi,c4⟩;subst hi;have hR:=ZFX c2.out d2.out (r:=pre.length) (by rw[w1.out];exact c4);obtain⟨j,hj⟩:∃j,j=min 16 (m - pre.length*16):=⟨_,rfl⟩
  obtain⟨cb,y2⟩:∃cb,cb=(ds.drop (pre.length*16)).take 16:=⟨_,rfl⟩
  have d0:cb.length=j:=by rw[y2,hj,List.length_take,List.length_drop,hm.out]
  obtain⟨A',o2⟩:∃A':Option Addr,A'=A.map fun a=>a.add (pre.length*16*3):=⟨_,rfl⟩
  have n0:DocsOk w0 A' cb:=by rw[o2,y2];exact h.out.part hA.out _ _
  have f2:chunkVB A m 16 pre.length = .slice A' j j:=by unfold chunkVB;rw[o2,hj]
  obtain⟨bP,g2⟩:∃bP,bP=(P.drop (pre.length*16)).take 16:=⟨_,rfl⟩
  have c0:bP=cb.map DocC.dc:=by rw[g2,y2,hP.out,dcs,<-List.map_drop,<-List.map_take]
  obtain⟨lst,t0⟩:∃lst,lst=lastD 0 (P.take (pre.length*16)):=⟨_,rfl⟩
  rw[<-g2,<-t0]at hR;have x5:j<=16:=by omega
  have l1:pre.length*16<P.length:=by rw[w1.out];exact c4
  replace hI:=ZA hI;replace hR:=ZA hR;rw[f2];clear f2;replace n0:=ZA n0;replace o2:=ZA o2;replace y2:=ZA y2;replace hj:=ZA hj;replace g2:=ZA g2;replace t0:=ZA t0;replace d0:=ZA d0;replace c0:=ZA c0;replace l1:=ZA l1;gi_wp2_with fail;refine⟨KeepsOthers.refl _,KeepB.refl _ _ _,fun X2 v4=>?_⟩;have l4:=j0.out _ _ _ hI.out v4;clear v4 hI;obtain⟨⟨xs,t4,d3⟩,rr0,rr1,rr2,rry,rrl,m1,k6⟩:=l4;rw[<-t0.out]at rrl;obtain⟨Y,u2⟩:∃Y,Y=blockD lst bP:=⟨_,rfl⟩
  obtain⟨lz,a2⟩:∃lz,lz=lastD lst bP:=⟨_,rfl⟩
  have a5:=hR.out.lo;have v5:=hR.out.hi;have q5:Y.length<=50000000:=by have:=hR.out.len;have:=d2.out;rw[u2];omega
  have t5:W.heap.size<=gy:=Nat.le_of_eq e1.out.symm;have e5:=hw.out.size;have j4:=ZA (fun A n c x l W h1 h2 h3 h4 h5=>ZA3 A n c x l W h1 h2 h3 h4 h5);have w3:=ZA (fun A n c l e B d W h1 h2 h3 h4 h5 h6 h7=>ZJr A n c l e B d W h1 h2 h3 h4 h5 h6 h7);replace t4:=ZA t4;replace d3:=ZA d3;replace rr0:=ZA rr0;replace rr1:=ZA rr1;replace rr2:=ZA rr2;replace rry:=ZA rry;replace rrl:=ZA rrl;replace m1:=ZA m1;replace u2:=ZA u2;replace a2:=ZA a2;gi_wp2_with fail
  gi_loopw [5,13] (fun s5 s13 wr=>∃(i n5 c5:Nat) (A5:Option Addr) (Xb:List UInt8) (la:Int),s5 = .slice A5 n5 c5/\s13 = .int .i64 (i:Int)/\i<=j/\n5<=50000000/\0<=la/\la<1099511627777/\Hid (Y=Xb++blockD la (bP.drop i))/\Hid (risB 1099511627777 la ((bP.drop i).map (·.1))=true)/\Hid (lastD la (bP.drop i)=lz)/\Hid (Own8 wr 0 A5 n5 c5 Xb)/\Hid (Row wr (gy+1) 3 #[.int .i64 la])/\Hid (Chg (fun k=>k=gy+1) X2 wr)) (fun _ s13 _=>j - (intOf s13).toNat)
  case atStart=>exact⟨0,0,0,none,[],lst,rfl,rfl,by omega,by omega,a5,v5,ZA (by rw[u2.out];rfl),ZA hR.out.ris,ZA (by rw[a2.out];rfl),ZA ⟨rfl,Buf.nil _ _ _⟩,rrl,ZA (Chg.refl _ _)⟩
  case round =>
   obtain⟨i,n5,c5,A5,Xb,la,rfl,rfl,w5,p6,y5,z5,z4,d5,b4,u0,n1,e0⟩:=hrel;have u1:Hid (Ext w0 wr):=ZA (m1.out.chg e0.out fun k hk e=>by omega);by_cases u5:i<j
   ·obtain⟨x,i2⟩:∃x,cb[i]? = some x:=⟨_,List.getElem?_eq_getElem (by rw[d0.out];exact u5)⟩
    obtain⟨g,o,f4,x0,x1,x2⟩:=ZU (n0.out.cells.ext u1.out) i2;subst f4;have n2:=n0.out.each x (List.mem_of_getElem? i2);have p3:bP[i]? = some x.dc:=by rw[c0.out,List.getElem?_map,i2];rfl
    have y3:=hR.out.pos x.dc (List.mem_of_getElem? p3);have c1:=z4.out;have o0:=d5.out;have f1:=b4.out;rw[Zo p3]at c1 o0 f1;rw[List.map_cons]at o0;obtain⟨k3,j3,r0⟩:=ZAS o0;obtain⟨W5,a1⟩:∃W5,W5=wr.alloc (Obj.cells #[Value.int IntKind.i64 x.seq,Value.int IntKind.i64 x.e.at_,Value.slice x.A x.e.fs.length x.c] 39):=⟨_,rfl⟩
    have o1:Ext wr W5:=by rw[a1];exact(Ext.refl wr).alloc _
    have rp:Row W5 wr.heap.size 39 #[Value.int IntKind.i64 x.seq,Value.int IntKind.i64 x.e.at_,Value.slice x.A x.e.fs.length x.c]:=by rw[a1];exact Row.new wr _ _
    obtain⟨q,hq⟩:∃q:Nat,(q:Int)=x.seq - la - 1:=⟨(x.seq - la - 1).toNat,by have:la<x.seq:=k3;omega⟩
    obtain⟨X1,q3⟩:∃X1,X1=Xb++vb q:=⟨_,rfl⟩
    obtain⟨X3,k2⟩:∃X3,X3=X1++putE x.e:=⟨_,rfl⟩
    have v0:Y=X3++blockD x.seq (bP.drop (i+1)):=by
     rw[c1,k2,q3];show Xb++((vb (x.seq - la - 1).toNat++putE x.e)++_)=_;rw[show (x.seq - la - 1).toNat=q by omega];simp[DocC.dc]
    have f3:X3.length<=50000000:=by rw[v0,List.length_append]at q5;omega
    have v2:X1.length<=X3.length:=by rw[k2,List.length_append];omega
    have v3:checkE x.e.fs=0:=by unfold okD at y3;exact of_decide_eq_true y3
    have k3:la<x.seq:=k3;have j3:x.seq<1099511627777:=j3;have u3:=n1.out.ext o1;have i0:lastD x.seq (bP.drop (i+1))=lz:=f1;obtain⟨seq,⟨at_,fs⟩,Bx,cB⟩:=x;simp only at x0 x1 x2 a1 rp hq k2 v0 v3 k3 j3 r0 i0 n2;obtain⟨fl,g3⟩:∃fl,fl=fs.length:=⟨_,rfl⟩
    rw[<-g3]at x2 a1 rp;obtain⟨gd,m3⟩:∃gd,gd=wr.heap.size:=⟨_,rfl⟩
    rw[<-m3]at rp;have p0:=rp.cell 0 rfl;have p1:=rp.cell 1 rfl;have p2:=rp.cell 2 rfl;have pl:=u3.cell 0 rfl;replace g3:=ZA g3;replace m3:=ZA m3;replace a1:=ZA a1;replace rp:=ZA rp;replace u3:=ZA u3;replace o1:=ZA o1;replace q3:=ZA q3;replace k2:=ZA k2;replace v0:=ZA v0;replace hq:=ZA hq;replace v3:=ZA v3;replace n2:=ZA n2;replace r0:=ZA r0;replace i0:=ZA i0;replace p3:=ZA p3;replace y3:=ZA y3;replace i2:=ZA i2;clear c1 o0 f1;gi_wp2_with fail;rw[<-a1.out,<-m3.out];have q4:Tryz.prog.follows .mixedOrders=true:=by kernel_rfl
    have j6:IntKind.i64.wrap (seq - la)=seq - la:=ZAK (by omega) (by omega);have g6:IntKind.i64.wrap (seq - la - 1)=(q:Int):=by rw[ZAK (by omega) (by omega)];exact hq.out.symm
    have m6:=ZX (m:=q) (by have:=hq.out;omega);have g0:=ZA (j4.out A5 n5 c5 q Xb W5.drew u0.out.1 (u0.out.2.ext (o1.out.trans (Ext.refl W5).drew)).cells u0.out.nil_ (by omega) (by have:=hq.out;omega));rw[<-q3.out]at g0;obtain⟨n6,x3⟩:∃n6,n6=X1.length:=⟨_,rfl⟩
    have d1:Hid (∀A6 c6 W6,Buf W6 W5.drew.heap.size 5 A6 n6 c6 (X1.map B8)->Ext w0 W6->Calls Tryz.prog 133 #[.slice A6 n6 c6,.agg #[.int .i64 at_,.slice Bx fl cB]] W6 (fun e w'=>OkB' W6 X3 e w')):=ZA fun A6 c6 W6 hb he=>by
     have:=w3.out A6 n6 c6 X1 ⟨at_,fs⟩ Bx cB W6 x3 hb.cells hb.none_cap (by omega) (n2.out.1.ext he) v3.out n2.out.2.1;unfold Ev.val at this;rw[<-k2.out]at this;simp only at this;rw[<-g3.out]at this;exact this
    obtain⟨n8,p4⟩:∃n8,n8=X3.length:=⟨_,rfl⟩
    have b3:Hid (Ext w0 W5.drew):=ZA (u1.out.trans (o1.out.trans (Ext.refl W5).drew));have rpd:Hid (Row W5.drew gd 39 #[Value.int IntKind.i64 seq,Value.int IntKind.i64 at_,Value.slice Bx fl cB]):=ZA rp.out.drew;have i1:=ZA u3.out.drew;unfold NewB at g0;unfold OkB' at d1;rw[<-x3]at g0 v2;rw[<-p4]at d1 f3 v2;replace x3:=ZA x3;replace p4:=ZA p4;have a0:W5.drew.cell? ⟨gd,0,none⟩=some (.int .i64 seq)/\W5.drew.cell? ⟨gd,1,none⟩=some (.int .i64 at_)/\W5.drew.cell? ⟨gd,2,none⟩=some (.slice Bx fl cB)/\W5.drew.cell? ⟨gy+1,0,none⟩=some (.int .i64 la):=⟨p0,p1,p2,pl⟩
    refine ZFc (fun X=>X.cell? ⟨gd,0,none⟩=some (.int .i64 seq)/\X.cell? ⟨gd,1,none⟩=some (.int .i64 at_)/\X.cell? ⟨gd,2,none⟩=some (.slice Bx fl cB)/\X.cell? ⟨gy+1,0,none⟩=some (.int .i64 la)) q4 (by kernel_rfl) ?_;refine wpAnyH_take (i:=0) (v:=?_) rfl (by kernel_rfl) (by kernel_rfl) (by kernel_rfl) (fun _ _ _ h=>h) (Or.inl ⟨by rfl,?_⟩) a0 ?_;rotate_left
    ·intro wx q0;obtain⟨s0,s1,s2,s3⟩:=q0;go_simp
     try with_reducible rfl
    try simp only[Act.put,List.setIfInBounds_toArray,List.set_cons_zero,List.set_cons_succ]
    refine wpAnyH_take (i:=1) (v:=?_) rfl (by kernel_rfl) (by kernel_rfl) (by kernel_rfl) (fun _ _ _ h=>h) (Or.inl ⟨by rfl,?_⟩) a0 ?_;rotate_left
    ·intro wx q0;obtain⟨s0,s1,s2,s3⟩:=q0;go_simp
     try with_reducible rfl
    try simp only[Act.put,List.setIfInBounds_toArray,List.set_cons_zero,List.set_cons_succ]
    refine wpAnyH_take (i:=2) (v:=?_) rfl (by kernel_rfl) (by kernel_rfl) (by kernel_rfl) (fun _ _ _ h=>h) (Or.inl ⟨by rfl,?_⟩) a0 ?_;rotate_left
    ·intro wx q0;obtain⟨s0,s1,s2,s3⟩:=q0;go_simp
     try with_reducible rfl
    try simp only[Act.put,List.setIfInBounds_toArray,List.set_cons_zero,List.set_cons_succ]
    refine wpAnyH_take (i:=3) (v:=?_) rfl (by kernel_rfl) (by kernel_rfl) (by kernel_rfl) (fun _ _ _ h=>h) (Or.inl ⟨by rfl,?_⟩) a0 ?_;rotate_left
    ·intro wx q0;obtain⟨s0,s1,s2,s3⟩:=q0;go_simp
     try with_reducible rfl
    try simp only[Act.put,List.setIfInBounds_toArray,List.set_cons_zero,List.set_cons_succ]
    refine wpAnyH_take (i:=4) (v:=?_) rfl (by kernel_rfl) (by kernel_rfl) (by kernel_rfl) (fun _ _ _ h=>h) (Or.inl ⟨by rfl,?_⟩) a0 ?_;rotate_left
    ·intro wx q0;obtain⟨s0,s1,s2,s3⟩:=q0;go_simp
     try with_reducible rfl
    try simp only[Act.put,List.setIfInBounds_toArray,List.set_cons_zero,List.set_cons_succ]
    refine wpAnyH_take (i:=5) (v:=?_) rfl (by kernel_rfl) (by kernel_rfl) (by kernel_rfl) (fun _ _ _ h=>h) (Or.inl ⟨by rfl,?_⟩) a0 ?_;rotate_left
    ·intro wx q0;obtain⟨s0,s1,s2,s3⟩:=q0;go_simp
     try with_reducible rfl
    try simp only[Act.put,List.setIfInBounds_toArray,List.set_cons_zero,List.set_cons_succ]
    refine wpAnyH_take (i:=6) (v:=?_) rfl (by kernel_rfl) (by kernel_rfl) (by kernel_rfl) (fun _ _ _ h=>h) (Or.inl ⟨by rfl,?_⟩) a0 ?_;rotate_left
    ·intro wx q0;obtain⟨s0,s1,s2,s3⟩:=q0;go_simp
     try with_reducible rfl
    try simp only[Act.put,List.setIfInBounds_toArray,List.set_cons_zero,List.set_cons_succ]
    refine wpAnyH_take (i:=8) (v:=?_) rfl (by kernel_rfl) (by kernel_rfl) (by kernel_rfl) (fun _ _ _ h=>h) (Or.inl ⟨by rfl,?_⟩) a0 ?_;rotate_left
    ·intro wx q0;obtain⟨s0,s1,s2,s3⟩:=q0;go_simp
     try with_reducible rfl
    try simp only[Act.put,List.setIfInBounds_toArray,List.set_cons_zero,List.set_cons_succ]
    refine wpAnyH_take (i:=9) (v:=?_) rfl (by kernel_rfl) (by kernel_rfl) (by kernel_rfl) (fun _ _ _ h=>h) (Or.inl ⟨by rfl,?_⟩) a0 ?_;rotate_left
    ·intro wx q0;obtain⟨s0,s1,s2,s3⟩:=q0;go_simp
     try with_reducible rfl
    try simp only[Act.put,List.setIfInBounds_toArray,List.set_cons_zero,List.set_cons_succ]
    refine wpAnyH_ready (rs:= [7]) (by kernel_rfl) (by simp) ?_;refine AllReadyH.cons rfl (fun K hK=>?_) AllReadyH.nil;go_simp;refine g0.out.mono ?_;rintro e w6 ⟨A6,c6,rfl,a3,m0⟩;have m5:=ZA (d1.out A6 c6 w6 a3 (b3.out.trans m0));have s4:w6.cell? ⟨gd,0,none⟩=some (.int .i64 seq)/\w6.cell? ⟨gd,1,none⟩=some (.int .i64 at_)/\w6.cell? ⟨gd,2,none⟩=some (.slice Bx fl cB)/\w6.cell? ⟨gy+1,0,none⟩=some (.int .i64 la):=⟨(rpd.out.ext m0).cell 0 rfl,(rpd.out.ext m0).cell 1 rfl,(rpd.out.ext m0).cell 2 rfl,(i1.out.ext m0).cell 0 rfl⟩
    replace a3:=ZA a3;replace m0:=ZA m0;refine hK.out _ _ s4 (fun _=>?_);clear hK K
    try simp only[Act.put,List.setIfInBounds_toArray,List.set_cons_zero,List.set_cons_succ]
    refine wpAnyH_ready (rs:= [10]) (by kernel_rfl) (by simp) ?_;refine AllReadyH.cons rfl (fun K hK=>?_) AllReadyH.nil;go_simp;refine m5.out.mono ?_;rintro e w8 ⟨A8,c8,rfl,t2,j1⟩;have q2:w8.cell? ⟨gd,0,none⟩=some (.int .i64 seq)/\w8.cell? ⟨gd,1,none⟩=some (.int .i64 at_)/\w8.cell? ⟨gd,2,none⟩=some (.slice Bx fl cB)/\w8.cell? ⟨gy+1,0,none⟩=some (.int .i64 la):=⟨((rpd.out.ext m0.out).ext j1).cell 0 rfl,((rpd.out.ext m0.out).ext j1).cell 1 rfl,((rpd.out.ext m0.out).ext j1).cell 2 rfl,((i1.out.ext m0.out).ext j1).cell 0 rfl⟩
    have r8:=ZA ((i1.out.ext m0.out).ext j1);have v1:=r8.out.free 0;have c3:=ZA (o1.out.trans ((Ext.refl W5).drew.trans (m0.out.trans j1)));replace t2:=ZA t2;replace j1:=ZA j1;refine hK.out _ _ q2 (fun _=>?_);clear hK K
    try simp only[Act.put,List.setIfInBounds_toArray,List.set_cons_zero,List.set_cons_succ]
    refine wpAnyH_take (i:=11) (v:=?_) rfl (by kernel_rfl) (by kernel_rfl) (by kernel_rfl) (fun _ _ _ h=>h) (Or.inl ⟨by rfl,?_⟩) q2 ?_;rotate_left
    ·intro wx q0;obtain⟨s0,s1,s2,s3⟩:=q0;go_simp
     try with_reducible rfl
    try simp only[Act.put,List.setIfInBounds_toArray,List.set_cons_zero,List.set_cons_succ]
    refine wpAnyH_take (i:=12) (v:=?_) rfl (by kernel_rfl) (by kernel_rfl) (by kernel_rfl) (fun _ _ _ h=>h) (Or.inl ⟨by rfl,?_⟩) q2 ?_;rotate_left
    ·intro wx q0;obtain⟨s0,s1,s2,s3⟩:=q0;go_simp
     try with_reducible rfl
    try simp only[Act.put,List.setIfInBounds_toArray,List.set_cons_zero,List.set_cons_succ]
    refine wpAnyH_take (i:=13) (v:=?_) rfl (by kernel_rfl) (by kernel_rfl) (by kernel_rfl) (fun _ _ _ h=>h) (Or.inl ⟨by rfl,?_⟩) q2 ?_;rotate_left
    ·intro wx q0;obtain⟨s0,s1,s2,s3⟩:=q0;go_simp
     try with_reducible rfl
    try simp only[Act.put,List.setIfInBounds_toArray,List.set_cons_zero,List.set_cons_succ]
    refine wpAnyH_take (i:=14) (v:=?_) rfl (by kernel_rfl) (by kernel_rfl) (by kernel_rfl) (fun _ _ _ h=>h) (Or.inl ⟨by rfl,?_⟩) q2 ?_;rotate_left
    ·intro wx q0;obtain⟨s0,s1,s2,s3⟩:=q0;go_simp
     try with_reducible rfl
    try simp only[Act.put,List.setIfInBounds_toArray,List.set_cons_zero,List.set_cons_succ]
    refine wpAnyH_done (by kernel_rfl) ?_ _;dsimp only[OnlyN];obtain⟨z0,z1,z2,z3⟩:=q2;gi_wp2_with fail;have k4:Own8 (w8.setCell ⟨gy+1,0,none⟩ (.int .i64 seq)) 0 A8 n8 c8 X3:=⟨t2.out.1,(t2.out.2.lower (Nat.zero_le _)).setCell (t2.out.2.unlike r8.out (by decide)) _⟩
    have o3:Chg (fun k=>k=gy+1) X2 (w8.setCell ⟨gy+1,0,none⟩ (.int .i64 seq)):=(e0.out.trans (Chg.of_ext c3.out _) fun _ _ h=>h).trans (Chg.of_set (S:=fun k=>k=gy+1) w8 _ rfl) fun _ _ h=>h;exact⟨⟨i+1,n8,c8,A8,X3,seq,rfl,rfl,by omega,by omega,by omega,j3,v0,r0,i0,ZA k4,ZA (r8.out.put 0 _),ZA o3⟩,by simp only[intOf];omega⟩
   ·obtain rfl:i=j:=by omega
    have a4:bP.drop i = []:=List.drop_eq_nil_of_le (by rw[c0.out,List.length_map,d0.out];exact Nat.le_refl _);have i3:Y=Xb:=by have:=z4.out;rw[a4]at this;simpa [blockD]using this
    have f0:la=lz:=by have:=b4.out;rw[a4]at this;exact this
    have e3:=m2.out _ _ _ d3.out (StB.num (W:=W) e0.out (by omega) rrl.out);have ryr:=e0.out.row rry.out (by omega);have r0r:=e0.out.row rr0.out (fun e=>Row.unlike rr0.out rrl.out (by decide) e);have r1r:=e0.out.row rr1.out (fun e=>Row.unlike rr1.out rrl.out (by decide) e);have r2r:=e0.out.row rr2.out (by omega);have ky:=ryr.cell 0 rfl;have kl:=n1.out.cell 0 rfl;have k1:=t4.out;have l0:=u0.out.1;have f5:=hY.out xs ⟨la,Xb,A5,c5⟩ wr e3 ⟨by rw[k1];exact l1.out,by rw[k1,<-g2.out,<-t0.out,f0,a2.out],by rw[k1,<-g2.out,<-t0.out,<-i3,u2.out],0,by have:=u0.out.2;rw[l0]at this;exact this⟩;obtain⟨fn,tmps,assign,body,hy,y4⟩:=f5;simp only[Blk.args]at hy y4;rw[<-l0]at hy;replace l0:=ZA l0;replace e3:=ZA e3;replace ryr:=ZA ryr;replace r0r:=ZA r0r;replace r1r:=ZA r1r;replace r2r:=ZA r2r;replace i3:=ZA i3;replace f0:=ZA f0;clear hY;gi_wp2_with fail;refine RoundIn.mono (F:=Fence.wide.inRound l2) y4 ?_;rintro e W9 ⟨rfl,o4,g1,e4⟩;gi_wp2_with fail;have d4:(pre ++ [pre.length]).length=pre.length+1:=by rw[List.length_append];rfl
    refine⟨(e0.out.others fun k hk=>⟨3,#[.int .i64 lst],by rw[hk];exact rrl.out⟩).trans e4,KeepB.of rr1.out (g1.2 _ _ _ (by decide) (by decide) r1r.out) rr2.out (g1.2 _ _ _ (by decide) (by decide) r2r.out),⟨_,?_,o4⟩,g1.2 _ _ _ (by decide) (by decide) r0r.out,g1.2 _ _ _ (by decide) (by decide) r1r.out,g1.2 _ _ _ (by decide) (by decide) r2r.out,g1.2 _ _ _ (by decide) (by decide) ryr.out,?_,g1.1 w0 hB u1.out,?_⟩
    ·rw[List.length_append,k1,d4];rfl
    ·rw[d4,hR.out.last2,<-a2.out,<-f0.out];exact g1.2 _ _ _ (by decide) (by decide) n1.out
    ·have:=e0.out.size;have:=e4.size;omega
 case hdone =>
  rintro D xs X2 X3 X4 hD hI ⟨i4,l5,o5,x4⟩ u4 hk;have n4:=ZA (j0.out _ _ _ (q1.out _ _ _ hI x4) u4);replace hk:=ZA hk;clear hI u4 x4;gi_wp2_with fail;refine ZAO (B:=w4.heap.size) rfl hk.out hD fun Wz ha=>⟨_,results_none rfl _ _ _,?_⟩
  obtain⟨⟨bl,g5,hj⟩,_⟩:=j0.out _ _ _ n4.out ha;exact⟨⟨_,rfl⟩,bl,Wz,hj,by rw[g5,w1.out];exact i4,rfl⟩
end
section
open Go.RowKit Go.Shelf
attribute [local go_sem] Oper.semAt_some Za ZAw
theorem HB.stb {base h1 h2:Nat} {Hd Bd:List UInt8} {W A B:World} (h:HB base h1 h2 Hd Bd A) (hs:StB W A B):HB base h1 h2 Hd Bd B:=by
 obtain⟨A1,A2,c1,c2,r1,r2,o1,o2,q0⟩:=h;have hb:∀ {X:Option Addr} {n c:Nat} {xs:List Value},Buf A base 5 X n c xs->Buf B base 5 X n c xs:=fun hb=>hb.chg hs fun a ha hn=>by
  rcases hb.2.2 with ⟨h0,_⟩ | ⟨g,cur,hA,_,hr,_⟩
  ·rw[h0]at ha;cases ha
  ·rw[hA]at ha;cases ha;exact absurd (hn.2 _ _ hr) (by decide)
 exact⟨A1,A2,c1,c2,hs.row r1 fun hn=>absurd (hn.2 _ _ r1) (by decide),hs.row r2 fun hn=>absurd (hn.2 _ _ r2) (by decide),⟨o1.1,hb o1.2⟩,⟨o2.1,hb o2.2⟩,q0⟩
def SEnc (base h1 h2:Nat) (Hd Bd:List UInt8) (w W:World):Prop:=HB base h1 h2 Hd Bd W/\Ext w W
theorem ZC7 (ds:List DocC) (A:Option Addr) (m c:Nat) (w:World) (hm:m=ds.length) (h:DocsOk w A ds) (p0:m<=1000000000) (k0:okDs (dcs ds)=false) :
 Calls Tryz.prog 38 #[.slice A m c] w fun e w'=>e = .returned (.tuple #[.slice none 0 0,.int .i64 120])/\Ext w w':=by
 have h0:=ZDF ds A m c w hm h p0;rw[k0,if_neg (by decide)]at h0;replace h0:=ZA h0;replace hm:=ZA hm;replace h:=ZA h;refine(callsIn_wide (n:=0)).1 ?_;refine callsIn_of_wp_marks Tryz.func38 rfl trivial ?_;simp only[Tryz.ntmps38,List.size_toArray,List.length_cons,List.length_nil,Nat.reduceAdd,Nat.reduceSub,Array.replicate_succ,Array.replicate_zero,List.push_toArray,List.append_toArray,List.nil_append,List.cons_append];gi_wp2_with fail;refine(callsIn_wide.2 h0.out).mono ?_;rintro e w1 ⟨rfl,q0⟩;gi_wp2_with fail;exact ZDJ rfl (results_tmp2 rfl _ _ _) ⟨rfl,q0⟩
theorem ZBD (ds:List DocC) (A:Option Addr) (m c:Nat) (w:World) (hm:m=ds.length) (h:DocsOk w A ds) (hA:∀a,A=some a->a.spot=none) (c4:m<=c) (c0:okDs (dcs ds)=true) (a0:(blockD 0 (dcs ds)).length<=50000000) :
 Calls Tryz.prog 38 #[.slice A m c] w fun e w'=>OkB w (encDs (dcs ds)) e w':=by
 have n4:m<=65536:=by
  have:=c0;unfold okDs at this;rw[Bool.and_eq_true]at this;have:=of_decide_eq_true this.1;unfold dcs at this;rw[List.length_map]at this;omega
 have b2:=ZDF ds A m c w hm h (by omega);rw[c0,if_pos rfl]at b2;have a2:=fun B b0 W hB hw hb=>ZHY ds A m c b0 B w W hm h hA c4 c0 a0 hB hw hb;obtain⟨P,hP⟩:∃P,P=dcs ds:=⟨_,rfl⟩
 have i1:P.length=m:=by rw[hP,hm];exact List.length_map ..
 rw[<-hP]at c0 a0 a2 ⊢;have l0:=ZA (fun A n c x l W h1 h2 h3 h4 h5=>ZA3 A n c x l W h1 h2 h3 h4 h5);have s4:=ZX (m:=m) (by omega);replace b2:=ZA b2;replace a2:=ZA a2;replace i1:=ZA i1;replace hm:=ZA hm;replace h:=ZA h;replace hP:=ZA hP;replace c0:=ZA c0;replace a0:=ZA a0;replace hA:=ZA hA;refine(callsIn_wide (n:=0)).1 ?_;refine callsIn_of_wp_marks Tryz.func38 rfl trivial ?_;simp only[Tryz.ntmps38,List.size_toArray,List.length_cons,List.length_nil,Nat.reduceAdd,Nat.reduceSub,Array.replicate_succ,Array.replicate_zero,List.push_toArray,List.append_toArray,List.nil_append,List.cons_append];gi_wp2_with fail;refine(callsIn_wide.2 b2.out).mono ?_;rintro e w1 ⟨rfl,w3⟩;gi_wp2_with fail;refine(callsIn_wide.2 (l0.out none 0 0 m [] w1 rfl (.inl rfl) (fun _=>rfl) (by omega) (by omega))).mono ?_;rintro e w2 e1;obtain⟨A2,c2,rfl,o0,x1⟩:=e1;rw[List.nil_append]at o0 ⊢;obtain⟨k2,m1⟩:∃k,k=(vb m).length:=⟨_,rfl⟩
 rw[<-m1]at o0 ⊢;replace o0:=ZA o0;replace m1:=ZA m1;replace x1:=ZA (w3.trans x1);gi_wp2_with fail;obtain⟨W3,k1⟩:∃W3,W3=(w2.alloc (Obj.cells #[Value.slice A2 k2 c2] 25)).alloc (Obj.cells #[Value.slice none 0 0] 25):=⟨_,rfl⟩
 rw[<-k1];obtain⟨h1,j1⟩:∃h1,h1=w2.heap.size:=⟨_,rfl⟩
 have q1:Row W3 h1 25 #[.slice A2 k2 c2]:=by rw[k1,j1];exact(Row.new w2 _ _).alloc _
 have q2:Row W3 (h1+1) 25 #[.slice none 0 0]:=by
  have:=Row.new (w2.alloc (Obj.cells #[Value.slice A2 k2 c2] 25)) 25 #[.slice none 0 0];rw[World.size_alloc,<-j1]at this;rw[k1];exact this
 have m0:Ext w2 W3:=by rw[k1];exact((Ext.refl w2).alloc _).alloc _
 have z3:w.heap.size<=h1:=by rw[j1];exact x1.out.size
 have x2:HB w.heap.size h1 (h1+1) (vb m) [] W3:=⟨A2,none,c2,0,by rw[<-m1.out];exact q1,q2,⟨rfl,by rw[<-m1.out];exact(o0.out.lower w3.size).ext m0⟩,⟨rfl,Buf.nil _ _ _⟩,fun _ _ _ e=>by cases e⟩
 replace m0:=ZA (x1.out.trans m0);rw[<-j1];refine(callsIn_wide.2 (ZJd A m c W3)).mono ?_;rintro e w4 ⟨b0,rfl,rb0,l4,v2⟩;have y2:SEnc w.heap.size h1 (h1+1) (vb m) [] w w4:=⟨x2.ext v2,m0.out.trans v2⟩
 have e2:=a2.out w.heap.size b0 w4 (Nat.le_refl _) (m0.out.trans v2) rb0;have n0:=y2.2.size;replace y2:=ZA y2;replace e2:=ZA e2;replace k1:=ZA k1;replace j1:=ZA j1;clear q1 q2 x2 v2 rb0 o0 m0 x1 m1;gi_wp2_with fail;unfold BlkIter at e2;have p1:∀Hd Bd X Y2,SEnc w.heap.size h1 (h1+1) Hd Bd w X->Alike w4.heap.size X Y2->SEnc w.heap.size h1 (h1+1) Hd Bd w Y2:=fun Hd Bd X Y2 hi ha=>⟨hi.1.alike ha,ha.ext hi.2 n0⟩
 have t3:∀Hd Bd W0 X Y2,Ext w4 W0->SEnc w.heap.size h1 (h1+1) Hd Bd w X->StB W0 X Y2->SEnc w.heap.size h1 (h1+1) Hd Bd w Y2:=fun Hd Bd W0 X Y2 h0 hi hs=>⟨hi.1.stb hs,hi.2.chg hs fun i hi hn=>by have:=hn.1;have:=h0.size;omega⟩
 replace p1:=ZA p1;replace t3:=ZA t3;refine ZIt (gf:=131) (lb:=#[.pointer (some ⟨b0,0,none⟩)]) rfl (enters_of Tryz.func131 (by kernel_rfl) rfl) e2.out (fun _=>rfl) (fun W A B h k o hk ho hc=>h.old k o hk ho hc) (fun _ _ _ h=>by rw[h.2];exact KeepsOthers.refl _) (KpB.trans w.heap.size) (KpB.alike n0)
  (fun xs X=>SEnc w.heap.size h1 (h1+1) (vb m++headD 0 ((chunkL 16 P).take xs.length)) (blockD 0 (P.take (xs.length*16))) w X) (fun xs A B h ha=>p1.out _ _ _ _ h ha) (fun W0 xs A B h0 h hs=>t3.out _ _ _ _ _ h0 h hs) ?h0 ?hround ?hdone
 case h0 =>
  intro X ha;have:=p1.out _ _ _ _ y2.out ha;simpa [headD,blockD]using this
 case hround =>
  rintro l xs ⟨la,Xb,A9,c9⟩ X hI ⟨b4,a3,v3,base0,r0⟩;simp only at a3 v3 r0;unfold Blk.args;simp only;have hR:=ZFX c0.out a0.out (r:=xs.length) b4;have d4:=hR.ne;have p0:=hR.head;have k0:=hR.body;have hlen:=hR.len;have l1:=hR.hlen;have f0:=hR.hi2;rw[<-a3]at d4 p0 f0;rw[<-v3]at p0 k0 hlen;clear hR a3 v3;obtain⟨Hd,t0⟩:∃Hd,Hd=vb m++headD 0 ((chunkL 16 P).take xs.length):=⟨_,rfl⟩
  obtain⟨Bd,v0⟩:∃Bd,Bd=blockD 0 (P.take (xs.length*16)):=⟨_,rfl⟩
  rw[<-t0,<-v0]at hI;rw[<-v0]at k0 hlen;have d3:(xs ++ [(⟨la,Xb,A9,c9⟩:Blk)]).length=xs.length+1:=by rw[List.length_append];rfl
  obtain⟨lN,z4⟩:∃lN:Nat,la=(lN:Int):=⟨la.toNat,by omega⟩
  subst z4;rw[Int.toNat_natCast]at p0;have a4:lN<1099511627777:=by have:=f0.2;omega
  obtain⟨n9,n1⟩:∃n9,n9=Xb.length:=⟨_,rfl⟩
  rw[<-n1]at p0 hlen r0 ⊢;have i4:n9<=50000000:=by have:=a0.out;omega
  have t4:Bd.length<=50000000:=by have:=a0.out;omega
  have r4:=ZX (m:=lN) (by omega);have o4:=ZX (m:=n9) (by omega);have j3:Hd.length<=2000000:=by
   have h2:=ZD (n:=m) (by omega);have h6:=i1.out;rw[t0,List.length_append];omega
  obtain⟨H1,z1⟩:∃H1,H1=Hd++vb lN:=⟨_,rfl⟩
  obtain⟨H2,a1⟩:∃H2,H2=H1++vb n9:=⟨_,rfl⟩
  have x4:=ZD (n:=lN) (by omega);have y4:=ZD (n:=n9) (by omega);have q3:H1.length<=2000010:=by rw[z1,List.length_append];omega
  have p3:H2.length<=2000020:=by rw[a1,List.length_append];omega
  replace hI:=ZA hI;replace r0:=ZA r0;replace t0:=ZA t0;replace v0:=ZA v0;replace z1:=ZA z1;replace a1:=ZA a1;replace n1:=ZA n1;replace p0:=ZA p0;replace k0:=ZA k0;replace d3:=ZA d3;clear x4 y4 hlen l1 f0;gi_wp2_with fail;refine⟨KeepsOthers.refl _,KpB.ext (Ext.refl _),fun W2 n2=>?_⟩;have v4:=p1.out _ _ _ _ hI.out n2;have v1:=ZA (n2.buf r0.out);clear n2 hI r0;obtain⟨g0,x0⟩:=v4;have k3:=g0;obtain⟨A1,B1,c1,d1,r1,r2,o1,o2,d2⟩:=k3;have f1:=r1.cell 0 rfl;obtain⟨nh,c3⟩:∃nh,nh=Hd.length:=⟨_,rfl⟩
  rw[<-c3]at f1 j3 o1;have l3:=x0.size;replace c3:=ZA c3;replace g0:=ZA g0;replace x0:=ZA x0;replace r1:=ZA r1;replace r2:=ZA r2;replace o1:=ZA o1;replace o2:=ZA o2;replace d2:=ZA d2;gi_wp2_with fail;refine(Zt (l0.out A1 nh c1 lN Hd W2 o1.out.1 o1.out.2.cells o1.out.nil_ (by omega) (by omega))).mono ?_;rintro e w7 e1;obtain⟨A7,c7,rfl,j2,y1⟩:=e1;rw[<-z1.out]at j2 ⊢;obtain⟨n7,i2⟩:∃n7,n7=H1.length:=⟨_,rfl⟩
  rw[<-i2]at j2 q3 ⊢;have e3:Hid (Own8 w7 w.heap.size A7 n7 c7 H1):=ZA ⟨i2,j2.lower l3⟩;replace i2:=ZA i2;replace y1:=ZA y1;clear j2;gi_wp2_with fail;refine(Zt (l0.out A7 n7 c7 n9 H1 w7 e3.out.1 e3.out.2.cells e3.out.nil_ (by omega) (by omega))).mono ?_;rintro e w8 e1;obtain⟨A8,c8,rfl,m2,q4⟩:=e1;rw[<-a1.out]at m2 ⊢;obtain⟨n8,l2⟩:∃n8,n8=H2.length:=⟨_,rfl⟩
  rw[<-l2]at m2 p3 ⊢;have q0:Hid (Ext W2 w8):=ZA (y1.out.trans q4);have r18:=r1.out.ext q0.out;have s0:=r18.cell 0 rfl;have s1:=r18.free 0;have b1:=ZA (g0.out.head (W6:=w8) (B1:=w7.heap.size) (by omega) q0.out l2 m2 y1.out.size (by have:=y1.out.size;omega));replace r18:=ZA r18;replace l2:=ZA l2;clear m2 q4;have y0:Ext w (w8.setCell ⟨h1,0,none⟩ (.slice A8 n8 c8)):=(x0.out.trans q0.out).setCell (by simpa using z3) _;have r28:Row (w8.setCell ⟨h1,0,none⟩ (.slice A8 n8 c8)) (h1+1) 25 #[.slice B1 Bd.length d1]:=(r2.out.ext q0.out).away (by simp) _;have s2:=(r2.out.ext q0.out).cell 0 rfl;have x3:Buf (w8.setCell ⟨h1,0,none⟩ (.slice A8 n8 c8)) w.heap.size 5 B1 Bd.length d1 (Bd.map B8):=(o2.out.2.ext q0.out).setCell ((o2.out.2.ext q0.out).unlike r18.out (by decide)) _;have r3:Cells (w8.setCell ⟨h1,0,none⟩ (.slice A8 n8 c8)) A9 (Xb.map B8):=((v1.out.ext q0.out).setCell ((v1.out.ext q0.out).unlike r18.out (by decide)) _).cells;have d0:(Xb.map B8).length=n9:=by rw[List.length_map];exact n1.out.symm
  have i3:=y0.size;replace y0:=ZA y0;replace r28:=ZA r28;replace x3:=ZA x3;replace r3:=ZA r3;replace d0:=ZA d0;gi_wp2_with (gi_at_builtin;refine Z3 ZV x3.out r3.out (.tmp 30) (.tmp 31) rfl rfl rfl rfl rfl d0.out (ZF _) (by omega) i3 (fun A10 c10 w10 e0 z0 p2 i0=>?_);have r210:=HB.rows b1.out r28.out z0 r28.out (by decide);have u0:=r210.cell 0 rfl;have u1:=r210.free 0;replace r210:=ZA r210;replace e0:=ZA e0;replace z0:=ZA z0;replace p2:=ZA p2;replace i0:=ZA i0);obtain⟨g1,g2,g3,g4⟩:=HB.body (x:=Xb) b1.out (by omega) r28.out z0.out (by rw[List.length_append,<-n1.out]) (by rw[List.map_append];exact e0.out) i0.out;refine⟨(q0.out.others.trans (KeepsOthers.setCell _ _ _)).trans g2,⟨fun w0 h0 he=>g4 w0 ((he.trans q0.out).setCell (p:=⟨h1,0,none⟩) (by show w0.heap.size<=h1;omega) _) (by omega) (by omega),fun g t cs t1 t2 hr=>?_⟩,?_,g4 _ y0.out (Nat.le_refl _) (by omega)⟩
  ·have j4:=hr.ext q0.out;have m4:=j4.away (p:=⟨h1,0,none⟩) (fun e=>Row.unlike j4 r18.out t1 e) (.slice A8 n8 c8);exact g3 _ _ _ m4 t2 (fun e=>Row.unlike m4 r28.out t1 e)
  ·rw[d3.out,p0.out,k0.out,<-List.append_assoc,<-List.append_assoc,<-t0.out,<-z1.out,<-a1.out];exact g1
 case hdone =>
  rintro D xs W2 W3 W5 hD hI ⟨p4,rfl⟩ s3 hk;have j0:=ZFr P xs.length p4;rw[i1.out]at j0;have m3:=p1.out _ _ _ _ hI s3;have x2:=m3.1;have u2:=m3.2;obtain⟨A1,B1,c1,d1,r1,r2,o1,o2,d2⟩:=x2;obtain⟨Hd,t0⟩:∃Hd,Hd=vb m++headD 0 ((chunkL 16 P).take xs.length):=⟨_,rfl⟩
  obtain⟨Bd,v0⟩:∃Bd,Bd=blockD 0 (P.take (xs.length*16)):=⟨_,rfl⟩
  rw[<-t0]at r1 o1 j0;rw[<-v0]at r2 o2 j0;have f1:=r1.cell 0 rfl;have f2:=r2.cell 0 rfl;have f4:Hd.length<=50000000:=by
   have h2:=ZD (n:=m) (by omega);have h1:=ZFM c0.out a0.out (chunkL 16 P).length;rw[List.take_length]at h1;have h3:(headD 0 ((chunkL 16 P).take xs.length)).length<=(headD 0 (chunkL 16 P)).length:=by
    have h4:=ZDz ((chunkL 16 P).take xs.length) ((chunkL 16 P).drop xs.length) 0;rw[List.take_append_drop]at h4;rw[h4,List.length_append];omega
   have h5:=ZZ (k:=16) (by omega) P;have h6:=i1.out;rw[t0,List.length_append];omega
  have e4:Bd.length<=50000000:=by have:=ZAX P (xs.length*16);have:=a0.out;rw[v0];omega
  have f3:=u2.size;have n3:=o2.2.cells;have z2:=o1.2;have b3:(Bd.map B8).length=Bd.length:=List.length_map ..;replace j0:=ZA j0;replace t0:=ZA t0;replace v0:=ZA v0;replace r1:=ZA r1;replace r2:=ZA r2;replace n3:=ZA n3;replace z2:=ZA z2;replace b3:=ZA b3;replace u2:=ZA u2;replace hk:=ZA hk;clear hI m3 p4 s3 o1 o2 d2;gi_wp2_with (gi_at_builtin;refine Z3 ZV z2.out n3.out (.tmp 33) (.tmp 34) rfl rfl rfl rfl rfl b3.out (ZF _) (by omega) f3 (fun A6 c6 w6 u3 y3 o3 k4=>?_);replace u3:=ZA u3;replace y3:=ZA y3;replace o3:=ZA o3;replace k4:=ZA k4);have u4:w6.heap[D]? = some (.deferred (some [])):=(ZAF z2.out y3.out).same _ _ hk.out rfl;refine ZAO (B:=w4.heap.size) rfl u4 hD fun W ha=>⟨_,results_tmp2 rfl _ _ _,?_⟩
  refine⟨A6,c6,?_,⟨rfl,?_⟩,ha.ext (o3.out w u2.out (Nat.le_refl _)) n0⟩
  ·rw[j0.out,List.length_append];rfl
  ·rw[j0.out,List.length_append,List.map_append];exact ha.buf u3.out
end
section
theorem ZBe:∀(l:List UInt8) (i n:Nat) (r:List UInt8),getV i l = .ok (n,r)->l=vb n++r/\(0<i->0<n)
 | [],i,n,r,h=>by unfold getV at h;cases h
 | x::l,i,n,r,h=>by
  have hx:=x.toNat_lt;unfold getV at h;split at h
  ·cases h
  ·split at h
   ·cases h
   ·rename_i h2;split at h
    ·rename_i h3;injection h with h;injection h with e1 e2;subst e1 e2;refine⟨?_,fun hi=>?_⟩
     ·rw[ZF4 h3];simp
     ·rcases Nat.eq_zero_or_pos x.toNat with h0 | h0
      ·exact absurd (.inr ⟨hi,h0⟩) h2
      ·exact h0
    ·rename_i h3;split at h
     ·rename_i m r1 hg;injection h with h;injection h with e1 e2;subst e1 e2;obtain⟨hl,hp⟩:=ZBe l (i+1) m r1 hg;have hm:=hp (by omega);refine⟨?_,fun _=>by omega⟩;rw[ZJg (n:=x.toNat - 128+128*m) (by omega),show (x.toNat - 128+128*m) / 128=m by omega,show (x.toNat - 128+128*m)%128+128=x.toNat by omega,List.cons_append,<-hl];simp
     ·cases h
theorem ZHt {most:Nat} {l s r:List UInt8} (h:getT most l = .ok (s,r)):l=txL s++r:=by
 unfold getT at h;split at h
 ·cases h
 ·rename_i n r0 hg;split at h
  ·cases h
  ·split at h
   ·cases h
   ·injection h with h;injection h with h1 h2;have hl:=(ZBe l 0 n r0 hg).1;have hn:s.length=n:=by rw[<-h1,List.length_take];omega
    unfold txL;rw[hn,hl,<-h1,<-h2,List.append_assoc,List.take_append_drop]
theorem ZFt:∀(k:Nat) (l:List UInt8) (fs:List Fd) (r:List UInt8),getFs k l=some (fs,r)->l=putFs fs++r/\fs.length=k
 | 0,l,fs,r,h=>by
  unfold getFs at h;injection h with h;injection h with h1 h2;subst h1 h2;exact⟨rfl,rfl⟩
 | k+1,l,fs,r,h=>by
  unfold getFs at h;split at h
  ·cases h
  ·rename_i nm r1 h1;split at h
   ·cases h
   ·rename_i tx r2 h2;split at h
    ·cases h
    ·rename_i fs2 r3 h3;injection h with h;injection h with e1 e2;subst e1 e2;obtain⟨hl,hk⟩:=ZFt k r2 fs2 r3 h3;refine⟨?_,by rw[List.length_cons,hk]⟩;rw[ZHt h1,ZHt h2,hl];unfold putFs;rw[List.flatMap_cons];unfold putF;simp
theorem ZKt {u:Nat}:zig (unzig u)=u:=by
 unfold zig unzig;split <;> split <;> omega
theorem ZIg {l:List UInt8} {e:Ev} {r:List UInt8} (h:getE l=some (e,r)):l=putE e++r/\I64ok' e.at_/\checkE e.fs=0:=by
 unfold getE at h;split at h
 ·cases h
 ·rename_i u r1 h1;split at h
  ·cases h
  ·rename_i n r2 h2;split at h
   ·cases h
   ·split at h
    ·cases h
    ·rename_i fs r3 h3;split at h
     ·rename_i hc;injection h with h;injection h with e1 e2;subst e1 e2;obtain⟨hl,hk⟩:=ZFt n r2 fs r3 h3;refine⟨?_,ZFH (Zp h1),hc⟩;unfold putE;simp only;rw[ZKt,hk,(ZBe l 0 u r1 h1).1,(ZBe r1 0 n r2 h2).1,hl];simp
     ·cases h
def skipV:Nat->List UInt8->Option (List UInt8)
 | 0,l=>some l
 | k+1,l=>match getV 0 l with
  | .error _=>none
  | .ok (_,r)=>skipV k r
def readD:Nat->Int->List UInt8->Option (List Dc)
 | 0,_,_=>some []
 | k+1,last,l=>match getV 0 l with
  | .error _=>none
  | .ok (s,r)=>if 1099511627776<s then none else match getE r with
   | none=>none
   | some (e,r2)=>if 1099511627776<last+1+s then none else match readD k (last+1+s) r2 with
    | none=>none
    | some ds=>some ((last+1+s,e)::ds)
def decDs (b:List UInt8):Option (List Dc):=match getV 0 b with
 | .error _=>none
 | .ok (n,r)=>if 65536<n then none else match skipV (2*((n+15) / 16)) r with
  | none=>none
  | some r2=>match readD n 0 r2 with
   | none=>none
   | some ds=>if okDs ds=true/\encDs ds=b then some ds else none
theorem ZAV {b:List UInt8} {ds:List Dc} (h:decDs b=some ds):okDs ds=true/\encDs ds=b:=by
 unfold decDs at h;split at h
 ·cases h
 ·split at h
  ·cases h
  ·split at h
   ·cases h
   ·split at h
    ·cases h
    ·split at h
     ·rename_i hh;injection h with h;subst h;exact hh
     ·cases h
theorem ZB5:∀(k:Nat) (last:Int) (l:List UInt8) (ds:List Dc),readD k last l=some ds->(blockD last ds).length<=l.length/\ds.length=k/\∀d∈ds,I64ok' d.2.at_/\checkE d.2.fs=0
 | 0,last,l,ds,h=>by
  unfold readD at h;injection h with h;subst h;exact⟨Nat.zero_le _,rfl,nofun⟩
 | k+1,last,l,ds,h=>by
  unfold readD at h;split at h
  ·cases h
  ·rename_i s r h1;split at h
   ·cases h
   ·split at h
    ·cases h
    ·rename_i e r2 h2;split at h
     ·cases h
     ·split at h
      ·cases h
      ·rename_i ds2 h3;injection h with h;subst h;obtain⟨i1,i2,i3⟩:=ZB5 k _ r2 ds2 h3;obtain⟨j1,j2,j3⟩:=ZIg h2;have hl:=(ZBe l 0 s r h1).1;refine⟨?_,by rw[List.length_cons,i2],fun d hd=>?_⟩
       ·show (oneD last (last+1+s,e)++blockD (last+1+s) ds2).length<=_;unfold oneD;simp only;rw[show (last+1+(s:Int) - last - 1).toNat=s by omega,hl,j1];simp only[List.length_append];omega
       ·rcases List.mem_cons.1 hd with rfl | hd
        ·exact⟨j2,j3⟩
        ·exact i3 d hd
theorem ZEn:∀(bs:List (List Dc)) (lo:Int) (r:List UInt8),(∀k:Nat,lastD lo ((bs.take k).flatMap id)<9223372036854775808/\(blockD lo ((bs.take k).flatMap id)).length<9223372036854775808)->skipV (2*bs.length) (headD lo bs++r)=some r
 | [],lo,r,_=>rfl
 | b::bs,lo,r,h=>by
  have h1:=h 1;rw[List.take_succ_cons,List.take_zero,List.flatMap_cons,List.flatMap_nil,List.append_nil]at h1;simp only[id]at h1;have ih:=ZEn bs (lastD lo b) r fun k=>by
   have:=h (k+1);rw[List.take_succ_cons,List.flatMap_cons,ZAh,Zs,List.length_append]at this;simp only[id]at this;exact⟨this.1,by omega⟩
  show skipV (2*(bs.length+1)) ((vb (lastD lo b).toNat++vb (blockD lo b).length++headD (lastD lo b) bs)++r)=_;rw[show 2*(bs.length+1)=2*bs.length+1+1 by omega,List.append_assoc,List.append_assoc];unfold skipV;rw[Zm (by omega)];simp only;unfold skipV;rw[Zm (by omega)];exact ih
theorem ZC9:∀(P:List Dc) (lo:Int),risB 1099511627777 lo (P.map (·.1))=true->0<=lo->(∀d∈P,I64ok' d.2.at_/\checkE d.2.fs=0)->readD P.length lo (blockD lo P)=some P
 | [],lo,_,_,_=>rfl
 | d::P,lo,h,p0,ha=>by
  rw[List.map_cons,risB,Bool.and_eq_true,Bool.and_eq_true]at h;have h1:=of_decide_eq_true h.1.1;have h2:=of_decide_eq_true h.1.2;obtain⟨h0,q0⟩:=ha d (List.mem_cons_self ..);have ih:=ZC9 P d.1 h.2 (by omega) fun x hx=>ha x (List.mem_cons_of_mem _ hx);show readD (P.length+1) lo (oneD lo d++blockD d.1 P)=_;unfold readD oneD;rw[List.append_assoc,Zm (by omega)];simp only;rw[if_neg (by omega),ZHw h0 q0];simp only;rw[show lo+1+(((d.1 - lo - 1).toNat:Nat):Int)=d.1 by omega,if_neg (by omega),ih]
theorem ZIL {P:List Dc} (h0:okDs P=true) (ha:∀d∈P,I64ok' d.2.at_) (g0:(blockD 0 P).length<=50000000):decDs (encDs P)=some P:=by
 have q0:=h0;unfold okDs at h0;rw[Bool.and_eq_true,Bool.and_eq_true]at h0;obtain⟨hl,hr,hc⟩:=h0;have hl:=of_decide_eq_true hl;have k0:(chunkL 16 P).length=(P.length+15) / 16:=ZZ (by omega) P;have hk:∀k:Nat,lastD 0 (((chunkL 16 P).take k).flatMap id)<9223372036854775808/\(blockD 0 (((chunkL 16 P).take k).flatMap id)).length<9223372036854775808:=fun k=>by
  rw[Zx (by omega)];have h1:=(ZAu (l:=P.take (k*16)) (lo:=0) (n:=1099511627777) (by rw[List.map_take];exact Zv _ hr) (by omega)).2;have h2:=ZAX P (k*16);omega
 have p0:=ZEn (chunkL 16 P) 0 (blockD 0 P) hk;have j0:=ZC9 P 0 hr (by omega) fun d hd=>⟨ha d hd,of_decide_eq_true (List.all_eq_true.1 hc d hd)⟩
 rw[k0]at p0;have he:encDs P=vb P.length++(headD 0 (chunkL 16 P)++blockD 0 P):=by unfold encDs;rw[List.append_assoc]
 unfold decDs;rw[he,Zm (by omega)];simp only;rw[if_neg (by omega),p0];simp only;rw[j0];simp only;rw[if_pos ⟨q0,by rw[he]⟩]
end
section
open Go.RowKit
structure DocsOwn (w:World) (base:Nat) (A:Option Addr) (c:Nat) (l:List DocC):Prop where
  own:w.ownsRow base 39 3 (.slice A l.length c) l.length (dcells l)
  each:∀x∈l,x.e.Own w base x.A x.c
  ints:∀x∈l,I64ok' x.e.at_/\I64ok' x.seq
theorem DocsOwn.ok {w:World} {base c:Nat} {A:Option Addr} {l:List DocC} (h:DocsOwn w base A c l):DocsOk w A l:=⟨Cells.of_own h.own,fun x hx=>⟨(h.each x hx).ok,h.ints x hx⟩⟩
theorem DocsOwn.nil (w:World) (base:Nat):DocsOwn w base none 0 []:=⟨⟨rfl,.inl ⟨rfl,rfl⟩⟩,nofun,nofun⟩
theorem DocsOwn.chg {w w':World} {base c:Nat} {A:Option Addr} {l:List DocC} {S:Nat->Prop} (h:DocsOwn w base A c l) (hc:Chg S w w') (hS:∀g t cs,Row w g t cs->t=105\/t=39->base<=g->¬ S g):DocsOwn w' base A c l :=
 ⟨hc.owns h.own fun g hg=>by obtain⟨cs,hr,hb⟩:=ZC h.own hg;exact hS g _ cs hr (.inr rfl) hb,fun x hx=>⟨hc.owns (h.each x hx).1 fun g hg=>by obtain⟨cs,hr,hb⟩:=ZC (h.each x hx).1 hg;exact hS g _ cs hr (.inl rfl) hb,(h.each x hx).2⟩,h.ints⟩
theorem DocsOwn.ext {w w':World} {base c:Nat} {A:Option Addr} {l:List DocC} (h:DocsOwn w base A c l) (hE:Ext w w'):DocsOwn w' base A c l:=⟨hE.owns h.own,fun x hx=>⟨hE.owns (h.each x hx).1,(h.each x hx).2⟩,h.ints⟩
theorem DocsOwn.lower {w:World} {base b c:Nat} {A:Option Addr} {l:List DocC} (h:DocsOwn w base A c l) (hb:b<=base):DocsOwn w b A c l:=⟨ZN h.own hb,fun x hx=>⟨ZN (h.each x hx).1 hb,(h.each x hx).2⟩,h.ints⟩
theorem DocsOwn.cap {w:World} {base c:Nat} {A:Option Addr} {l:List DocC} (h:DocsOwn w base A c l):l.length<=c/\∀a,A=some a->a.spot=none:=ZAL h.own
theorem ZFO:Elem Tryz.prog 22 39 3 40:=⟨Tryz.underlying22,⟨_,_,rfl,rfl,rfl,rfl,rfl⟩,by omega,by omega⟩
theorem ZBs (l:List DocC) (x:DocC):dcells (l ++ [x])=dcells l++x.cells:=by
 unfold dcells;rw[List.flatMap_append];simp
theorem Z6 (l:List DocC) (x:DocC):dcs (l ++ [x])=dcs l ++ [x.dc]:=by unfold dcs;rw[List.map_append];rfl
def SdecP (w:World) (res:Option (List Dc)) (e:Ending) (w':World):Prop:=Ext w w'/\match res with
 | some P=>∃(l:List DocC) (A:Option Addr) (c:Nat),dcs l=P/\e = .returned (.tuple #[.slice A l.length c,.int .i64 0])/\DocsOwn w' w.heap.size A c l
 | none=>e = .returned (.tuple #[.slice none 0 0,.int .i64 120])
theorem SdecP.no {w w':World} {res:Option (List Dc)} (hE:Ext w w') (h:res=none):SdecP w res (.returned (.tuple #[.slice none 0 0,.int .i64 120])) w':=by
 subst h;exact⟨hE,rfl⟩
def aheadD (read:List Dc):Option (List Dc)->Option (List Dc)
 | none=>none
 | some l=>some (read++l)
theorem ZI0 (x:Option (List Dc)):aheadD [] x=x:=by cases x <;> rfl
theorem ZI7 {k i:Nat} {L r r1:List UInt8} {n:Nat} (h:skipV k L=skipV (k - i) r) (hi:i<k) (h1:getV 0 r = .ok (n,r1)):skipV k L=skipV (k - (i+1)) r1:=by
 obtain⟨j,hj⟩:∃j,k - i=j+1:=⟨k - i - 1,by omega⟩
 rw[h,hj,show k - (i+1)=j by omega]
 conv=>lhs;unfold skipV
 rw[h1]
theorem ZLw {k i:Nat} {L r:List UInt8} {e:Nat} (h:skipV k L=skipV (k - i) r) (hi:i<k) (h1:getV 0 r = .error e):skipV k L=none:=by
 obtain⟨j,hj⟩:∃j,k - i=j+1:=⟨k - i - 1,by omega⟩
 rw[h,hj];unfold skipV;rw[h1]
theorem ZKq {k i:Nat} {L r:List UInt8} (h:skipV k L=skipV (k - i) r) (hi:k<=i):skipV k L=some r:=by
 rw[h,show k - i=0 by omega];rfl
section
variable {k i:Nat} {la0 la:Int} {read:List Dc} {L r:List UInt8} (h:readD k la0 L=aheadD read (readD (k - i) la r)) (hi:i<k)
include h hi
theorem ZKK {e:Nat} (h1:getV 0 r = .error e):readD k la0 L=none:=by
 obtain⟨j,hj⟩:∃j,k - i=j+1:=⟨k - i - 1,by omega⟩
 rw[h,hj];unfold readD;rw[h1];rfl
theorem ZLL {s:Nat} {r1:List UInt8} (h1:getV 0 r = .ok (s,r1)) (h2:1099511627776<s):readD k la0 L=none:=by
 obtain⟨j,hj⟩:∃j,k - i=j+1:=⟨k - i - 1,by omega⟩
 rw[h,hj];unfold readD;rw[h1];simp only;rw[if_pos h2];rfl
theorem ZLV {s:Nat} {r1:List UInt8} (h1:getV 0 r = .ok (s,r1)) (h2:getE r1=none):readD k la0 L=none:=by
 obtain⟨j,hj⟩:∃j,k - i=j+1:=⟨k - i - 1,by omega⟩
 rw[h,hj];unfold readD;rw[h1];simp only;rw[h2];split <;> rfl
theorem ZJz {s:Nat} {r1 r2:List UInt8} {e:Ev} (h1:getV 0 r = .ok (s,r1)) (h2:getE r1=some (e,r2)) (h3:1099511627776<la+1+s):readD k la0 L=none:=by
 obtain⟨j,hj⟩:∃j,k - i=j+1:=⟨k - i - 1,by omega⟩
 rw[h,hj];unfold readD;rw[h1];simp only;rw[h2];simp only;rw[if_pos h3];split <;> rfl
theorem ZIs {s:Nat} {r1 r2:List UInt8} {e:Ev} (h1:getV 0 r = .ok (s,r1)) (h0:¬ 1099511627776<s) (h2:getE r1=some (e,r2)) (h3:¬ 1099511627776<la+1+s):readD k la0 L=aheadD (read ++ [(la+1+s,e)]) (readD (k - (i+1)) (la+1+s) r2):=by
 obtain⟨j,hj⟩:∃j,k - i=j+1:=⟨k - i - 1,by omega⟩
 rw[h,hj,show k - (i+1)=j by omega]
 conv=>lhs;unfold readD
 rw[h1];simp only;rw[if_neg h0,h2];simp only;rw[if_neg h3];cases readD j (la+1+s) r2 with
 | none=>rfl
 | some p=>simp[aheadD]
end
theorem ZKR {k i:Nat} {la0 la:Int} {read:List Dc} {L r:List UInt8} (h:readD k la0 L=aheadD read (readD (k - i) la r)) (hi:k<=i):readD k la0 L=some read:=by
 rw[h,show k - i=0 by omega];simp[readD,aheadD]
end
section
open Go.RowKit Go.Maps
def kRy13 (b0:Nat) (B BT:Option Addr) (n c k i j m yc gt ot gp:Nat) (At yA:Option Addr) (nt ct:Nat) (s:List UInt8) (pre post:List Value):OwnK:=ownK [(kO b0 129 2 0 [],some 4),(kV (.slice B n c),none),(kV (.int .i64 (k:Int)),none),(kV (.slice B k c),none),(kO b0 129 2 k pre,some 14),(kV (.slice At nt ct),none),(kV (.int .i64 (j:Int)),none),(kV (.pointer (some ⟨gt,ot+j*2,none⟩)),none),(kV (.pointer (some ⟨gt,ot+j*2,none⟩)),none),(kV (.string ⟨s.toArray⟩),none),(kV (.agg #[.int .i64 (i:Int),.slice yA m yc]),none),(kO b0 107 2 1 [.int .i64 (i:Int),.slice yA m yc],some 12),(kR1 b0 s [.int .i64 (i:Int),.slice yA m yc],some 13),(kR2 b0 s [.int .i64 (i:Int),.slice yA m yc],some 14),(kR3 b0 (k+1) s [.int .i64 (i:Int),.slice yA m yc] pre [],some 18),(kV (.slice B n c),none),(kV (.int .i64 (k:Int)),none),(kV (.slice BT (n - k) (c - k)),none),(kR3 b0 (n+1) s [.int .i64 (i:Int),.slice yA m yc] pre post,some 19),(kR3 b0 (n+1) s [.int .i64 (i:Int),.slice yA m yc] pre post,none)] (fun w=>True) (fun _=>False) 99
theorem ZKv {P:Program} {ops:Array Oper} {o:Oper} {a:Act} {w:World} {K:Act->World->Prop} {Q:Exit->Act->World->Prop} {E0:Prop} {t e size bytes:Nat} (E:Elem P t e size bytes) (k0:o.guard=none)
 {base:Nat} {v:Value} {n:Nat} {xs:List Value} {A:Option Addr} {m c:Nat} {news:List Value} (q0:w.ownsRow base e size v n xs) (hr:Cells w A news) (s x:Operand)
 (ho:o.op = .call { callee:= .builtin .append,args:=#[s,x],argTypes:=#[t,t] })
 (hs:a.eval s=v) (hx:a.eval x = .slice A m c) (hl:news.length=m*size) (h1:∀u∈news,u.oneCell'=true) (j0:n+m<=4294967296) (h0:base<=w.heap.size)
 (h:∀A1 c1 w',w'.ownsRow base e size (.slice A1 (n+m) c1) (n+m) (xs++news)->w.grownBy w' v.ownBlock->((Value.slice A1 (n+m) c1).ownBlock=v.ownBlock\/∃q,(Value.slice A1 (n+m) c1).ownBlock=some q/\w.heap.size<=q)->K (a.put o.dst (.slice A1 (n+m) c1)) w') :
 if Region.wanted o (yielded ops a.tmps)=true then Oper.wp P o a w K Q else E0:=by
 rw[if_pos (by simp[Region.wanted,k0])];obtain⟨A1,c1,w',p0,h2,h3,h4⟩:=ZBo (P:=P) E w o.type q0 (c:=c) hr hl h1 j0 h0;unfold Oper.wp execOp;simp only[ho,resolve,invoke,builtin,Sem.run_bind,Sem.run_pure,Result.andThen_ok,List.map_toArray,List.map_cons,List.map_nil,hs,hx,p0];refine h A1 c1 w' h2 h3 ?_;rcases h4 with h4 | h4
 ·exact .inl h4
 ·exact .inr ⟨_,h4,Nat.le_refl _⟩
theorem ZHX {β:Type} {ps:List (List UInt8×β)} {r:List UInt8×List β} (h:r∈grp ps):r.2.length<=ps.length:=by
 have h1:=ZC4 (fun _=>1) ps;rw[ZFV,ZHT]at h1;have h2:=ZBR (f:=fun x:List UInt8×List β=>x.2.length) h;omega
theorem RowsO.few {base:Nat} {W:World} {B:Option Addr} {n c:Nat} {E:List IdE} {done:List (List UInt8×Po)} (h:RowsO base W B n c E done):n<=done.length/\∀x∈E,x.ps.length<=done.length:=by
 refine⟨?_,fun x hx=>?_⟩
 ·have:=ZDH done;rw[<-h.rows,ZDe,<-h.len]at this;exact this
 ·have hm:x.rw'∈grp done:=by rw[<-h.rows];exact List.mem_map.2 ⟨x,hx,rfl⟩
  have:=ZHX hm;have h2:x.rw'.2.length=x.ps.length:=List.length_map ..;omega
theorem RowsO.start {base:Nat} {W:World} {B:Option Addr} {n c:Nat} {E:List IdE} {done:List (List UInt8×Po)} (h:RowsO base W B n c E done) (hn:0<n):∃g,B=some ⟨g,0,none⟩:=by
 obtain⟨_,h2⟩:=h.own;rcases h2 with ⟨_,h0⟩ | ⟨g,cap,cur,hv,_⟩
 ·exact absurd h0 (by omega)
 ·cases hv;exact⟨g,rfl⟩
theorem RowsO.cap {base:Nat} {W:World} {B:Option Addr} {n c:Nat} {E:List IdE} {done:List (List UInt8×Po)} (h:RowsO base W B n c E done):n<=c/\∀a,B=some a->a.spot=none:=ZAL h.own
theorem ZLd (ds:List DocC) (A:Option Addr) (nd c0:Nat) (w:World) (hm:nd=ds.length) (h:DocsOk w A ds) (j5:nd<=1000000) (f2:(pairsD 0 (dcs ds)).length<=1000000) :
 Calls Tryz.prog 22 #[.slice A nd c0] w fun e w'=>∃(E:List IdE) (B:Option Addr) (n c:Nat),e = .returned (.slice B n c)/\RowsO w.heap.size w' B n c E (pairsD 0 (dcs ds))/\Ext w w':=by
 have z3:=ZA (fun e A c W (h:Ev.Ok e W A)=>ZI3 e A c W h);have x3:=ZA (fun E B n c s W (hn:n=List.length E) (h:Cells W B (idcells E)) (m0:n<=1000000000)=>ZGX E B n c s W hn h m0);have x1:∀i,(pairsD 0 (dcs (ds.take i))).length<=1000000:=fun i=>by
  have e:dcs ds=dcs (ds.take i)++dcs (ds.drop i):=by unfold dcs;rw[<-List.map_append,List.take_append_drop]
  rw[e,ZAd,List.length_append]at f2;omega
 replace x1:=ZA x1;replace h:=ZA h;replace hm:=ZA hm;clear f2;go_enter Tryz.func22,Tryz.ntmps22;go_wp2_with fail
 go_loopw [3,4] (fun s3 s4 wr=>∃(i n c:Nat) (B:Option Addr) (E:List IdE),s4 = .int .i64 (i:Int)/\s3 = .slice B n c/\i<=nd/\Hid (RowsO w.heap.size wr B n c E (pairsD 0 (dcs (ds.take i))))/\Hid (Ext w wr)) (fun _ s4 _=>nd - (intOf s4).toNat)
 case atStart=>exact⟨0,0,0,none,[],rfl,rfl,by omega,ZA (RowsO.nil _ _),ZA (Ext.refl _)⟩
 case round =>
  obtain⟨i,n0,cc0,B0,E0,rfl,rfl,hi,g0,hE⟩:=hrel;obtain⟨wo,rfl⟩:∃wo,wo=wr:=⟨_,rfl⟩
  by_cases c4:i<nd
  ·obtain⟨x,hx⟩:∃x,ds[i]? = some x:=⟨_,List.getElem?_eq_getElem (by rw[<-hm.out];exact c4)⟩
   obtain⟨r0,w4,h5⟩:=h.out.each x (List.mem_of_getElem? hx);obtain⟨g,o,hA,l0,l1,l2⟩:=ZU (h.out.cells.ext hE.out) hx;have w3:dcs (ds.take (i+1))=dcs (ds.take i) ++ [x.dc]:=by
    rw[List.take_add_one,hx];exact Z6 _ _
   have b1:pairsD 0 (dcs (ds.take (i+1)))=pairsD 0 (dcs (ds.take i))++(termsL x.e).map (fun p=>(p.1,((i:Int),p.2))):=by
    rw[w3,ZAd];have hl:(dcs (ds.take i)).length=i:=by unfold dcs;rw[List.length_map,List.length_take,<-hm.out];omega
    rw[hl,Nat.zero_add];show _++(_ ++ [])=_;rw[List.append_nil];rfl
   have e2:=x1.out (i+1);rw[b1]at e2;have k1:=z3.out x.e x.A x.c wo (r0.ext hE.out);have e0:=fun p (hp:p∈termsL x.e)=>ZGA hp;obtain⟨T,hT⟩:∃T,T=termsL x.e:=⟨_,rfl⟩
   obtain⟨P0,i3⟩:∃P0,P0=pairsD 0 (dcs (ds.take i)):=⟨_,rfl⟩
   rw[<-hT]at b1 e2 k1 e0;rw[<-i3]at b1 e2 g0;unfold Ev.val at k1;obtain⟨sq,⟨at_,fs⟩,xA,xc⟩:=x;simp only at k1 l1 l2;obtain⟨fl,m3⟩:∃fl,fl=fs.length:=⟨_,rfl⟩
   rw[<-m3]at k1 l2;subst hA;replace k1:=ZA k1;replace b1:=ZA b1;replace e0:=ZA e0;replace m3:=ZA m3;clear hx w3 r0 w4 h5 hT i3;go_wp2_with fail;refine k1.out.mono ?_;rintro e w1 ⟨D,At,nt,ct,rfl,y2,x0,s2⟩;have c2:T.length=nt:=by rw[<-y2,x0.len];exact List.length_map ..
   have i1:=ZA (hE.out.trans s2);have u2:=ZA (g0.out.ext s2);rw[List.length_append,List.length_map,c2]at e2;have u4:=ZA x0.len;replace x0:=ZA x0;replace y2:=ZA y2;replace c2:=ZA c2;clear s2 g0 hE k1;go_wp2_with fail
   go_loopw [3,6] (fun s3 s6 wr=>∃(j n c:Nat) (B:Option Addr) (E:List IdE),s6 = .int .i64 (j:Int)/\s3 = .slice B n c/\j<=nt/\Hid (RowsO w.heap.size wr B n c E (P0++(T.take j).map (fun p=>(p.1,((i:Int),p.2)))))/\Hid (TmsR wr At nt ct D)/\Hid (Ext w wr)) (fun _ s6 _=>nt - (intOf s6).toNat)
   case atStart=>exact⟨0,n0,cc0,B0,E0,rfl,rfl,by omega,ZA (by rw[List.take_zero,List.map_nil,List.append_nil];exact u2.out),x0,i1⟩
   case round =>
    clear u2 x0 i1;obtain⟨j,n,c,B,E,rfl,rfl,hj,g0,x0,hE⟩:=hrel;by_cases p4:j<nt
    ·obtain⟨y,hy⟩:∃y,D[j]? = some y:=⟨_,List.getElem?_eq_getElem (by rw[<-u4.out];exact p4)⟩
     have c3:T[j]? = some y.tm:=by rw[<-y2.out];unfold tmR;rw[List.getElem?_map,hy];rfl
     have e3:=e0.out _ (List.mem_of_getElem? c3);obtain⟨f1,q5⟩:=x0.out.each y (List.mem_of_getElem? hy);obtain⟨gt,ot,t4,p1⟩:=ZEK x0.out.cells hy;obtain⟨l0,l1⟩:=p1 wr (Ext.refl _);have e1:P0++(T.take (j+1)).map (fun p=>(p.1,((i:Int),p.2)))=(P0++(T.take j).map (fun p=>(p.1,((i:Int),p.2)))) ++ [(y.s,((i:Int),y.pos))]:=by
      rw[List.take_add_one,c3,List.map_append,List.append_assoc];rfl
     have t3:=g0.out.few;have r3:(P0++(T.take j).map (fun p=>(p.1,((i:Int),p.2)))).length<=1000000:=by
      rw[List.length_append,List.length_map,List.length_take];omega
     obtain⟨done,z0⟩:∃done,done=P0++(T.take j).map (fun p=>(p.1,((i:Int),p.2))):=⟨_,rfl⟩
     rw[<-z0]at e1 g0 t3 r3;obtain⟨s,pos,yA,yc⟩:=y;unfold TmC.tm at e3;simp only at e3 f1 q5 p1 l0 l1 e1;have s0:=f1;obtain⟨m,a1⟩:∃m,m=pos.length:=⟨_,rfl⟩
     rw[<-a1]at p1 l1 f1 e3;subst t4;have m0:n<=1000000:=by omega
     have u1:∀x∈E,x.ps.length<=1000000:=fun x hx=>Nat.le_trans (t3.2 x hx) r3;have t1:=g0.out.cap;have g1:=ZA g0.out.len;have f2:=ZA (x3.out E B n c s wr g1.out (Cells.of_own g0.out.own) (by omega));replace p1:=ZA p1;replace e1:=ZA e1;replace f1:=ZA f1;replace s0:=ZA s0;replace a1:=ZA a1;replace u1:=ZA u1;replace z0:=ZA z0;clear hy c3 t3;go_wp2_with fail;refine f2.out.mono ?_;rintro e w2 ⟨k,rfl,hP,b0⟩;have k5:k<=n:=by have:=hP.le;rw[ZDe,<-g1.out]at this;exact this
     obtain⟨l0,l1⟩:=p1.out w2 b0;have q0:=g0.out.ext b0;obtain⟨gp,a2⟩:∃gp,gp=w2.heap.size:=⟨_,rfl⟩
     obtain⟨W3,r1⟩:∃W3,W3=w2.alloc (.cells #[.int .i64 (i:Int),.slice yA m yc] 107):=⟨_,rfl⟩
     have t0:Ext w2 W3:=by rw[r1];exact(Ext.refl w2).alloc _
     have rp:Row W3 gp 107 #[.int .i64 (i:Int),.slice yA m yc]:=by rw[r1,a2];exact Row.new w2 _ _
     have j0:=ZA (q0.ext t0);have b3:=ZA (fun x (hx:x∈E)=>q0.each x hx);have u0:=ZA ((hE.out.trans b0).trans t0);have o1:=ZA (x0.out.ext (b0.trans t0));have m1:=ZA (fun W (hW:Ext W3 W)=>p1.out W ((b0.trans t0).trans hW));have d3:=ZA (s0.out.ext (b0.trans t0));replace r1:=ZA r1;replace a2:=ZA a2;replace rp:=ZA rp;replace hP:=ZA hP;have i2:=ZA (show posAt 0 W3 ⟨(i:Int),pos,yA,yc⟩from⟨d3.out,by show pos.length<=_;rw[<-a1.out];omega⟩);clear q0 b0 t0 p1 f1 s0 g0 hE x0;go_wp2_with fail;rw[<-r1.out,<-a2.out];by_cases f0:∃x,E[k]? = some x/\x.s=s
     ·obtain⟨x,hx,g2⟩:=f0;have m2:k<n:=by rw[g1.out];exact(List.getElem?_eq_some_iff.1 hx).1
      obtain⟨g,v3⟩:=j0.out.start (by omega);subst v3;obtain⟨g',o',o2,a0⟩:=ZBT (Cells.of_own j0.out.own) hx;cases o2;have t2:=u1.out x (List.mem_of_getElem? hx);have o3:decide ((k:Int)<n)=true:=decide_eq_true (by omega);obtain⟨y0,y1⟩:=a0 W3 (Ext.refl _);obtain⟨l0,l1⟩:=m1.out W3 (Ext.refl _);obtain⟨xs,ps,xA,xc⟩:=x;simp only at a0 y0 y1 t2 g2;rw[Nat.zero_add]at a0 y0 y1;obtain⟨np,d0⟩:∃np,np=ps.length:=⟨_,rfl⟩
      rw[<-d0]at a0 y1 t2;have a3:=ZA (b3.out _ (List.mem_of_getElem? hx));unfold IdE.own at a3;simp only at a3;rw[<-d0]at a3;replace a0:=ZA a0;replace d0:=ZA d0;replace hx:=ZA hx;have hq:(xs==s)=true:=beq_iff_eq.2 g2;replace g2:=ZA g2;go_quiet (fail);obtain⟨W4,z2⟩:∃W4,W4=W3.drewN nq:=⟨_,rfl⟩
      rw[<-z2];have k0:Ext W3 W4:=by rw[z2];exact(Ext.refl W3).drewN _
      replace z2:=ZA z2;obtain⟨W6,z1⟩:∃W6,W6=(W4.alloc (.cells #[.int .i64 (i:Int),.slice yA m yc] 107)).drew:=⟨_,rfl⟩
      have p0:Ext W3 W6:=by rw[z1];exact(k0.alloc _).drew
      have i0:=j0.out.ext p0;have r0:W6.ownsRow w.heap.size 107 2 (.slice xA np xc) np (pcells ps):=by
       have:=i0.each _ (List.mem_of_getElem? hx.out);unfold IdE.own at this;simp only at this;rw[<-d0.out]at this;exact this
      have u3:Cells W6 (some ⟨W4.heap.size,0,none⟩) [.int .i64 (i:Int),.slice yA m yc]:=by rw[z1];exact(Zg W4 [.int .i64 (i:Int),.slice yA m yc] _).ext (Ext.refl _).drew
      obtain⟨csg,d1,b4⟩:=ZC i0.own (g:=g) rfl;have m4:=(a0.out W6 p0).2;have q4:∀q,(Value.slice xA np xc).ownBlock=some q->q≠g:=fun q hq e=>ZJ r0 d1 (by decide) (by rw[hq,e]);have o0:=fun w8 (v0:W6.grownBy w8 (Value.slice xA np xc).ownBlock)=>Row.grown (w:=W6) d1 v0 (fun e=>q4 _ e.symm rfl);have f4:=ZA (fun w8 (v0:W6.grownBy w8 (Value.slice xA np xc).ownBlock)=>show w8.cell? ⟨g,k*2+1,none⟩=some (.slice xA np xc)by rw[<-m4,(o0 w8 v0).get,d1.get]);have g5:=(a0.out W4.drew k0.drew).2;have r4:=rp.out.ext k0.drew;have r40:=r4.cell 0 rfl;have r41:=r4.cell 1 rfl;have r60:=(rp.out.ext p0).cell 0 rfl;have r61:=(rp.out.ext p0).cell 1 rfl;rw[z1]at m4 r60 r61;have x2:=u0.out.size;have j1:=p0.size;have o4:w.heap.size<=W6.heap.size:=Nat.le_trans x2 j1;have v1:=ZA (fun A1 c1 w8 v0 d2 b2=>i0.put (w1:=w8) (A1:=A1) (c1:=c1) (y:=⟨(i:Int),pos,yA,yc⟩) hP.out hx.out g2.out v0 d2 b2 ⟨i2.out.1.ext p0,i2.out.2⟩);have q3:=ZA (o1.out.ext p0);have r2:=ZA (u0.out.trans p0);replace r0:=ZA r0;replace u3:=ZA u3;replace o0:=ZA o0;replace v1:=ZA v1;replace d1:=ZA d1;replace z1:=ZA z1;clear q4 r4 i0 k0 p0 x2 j1;go_wp2_with fail
      go_region_law (rw[<-z1.out];refine ZKv (n:=np) (m:=1) ZM3 rfl r0.out u3.out (.tmp 64) (.tmp 66) rfl rfl rfl rfl (ZS rfl) (by omega) o4 (fun A1 c1 w8 d2 v0 b2=>?_);have i4:=f4.out w8 v0;have z4:=(o0.out w8 v0).free (k*2+1))
      all_goals
       have j4:w8.ownsRow w.heap.size 107 2 (.slice A1 (ps.length+1) c1) (ps.length+1) (pcells ps ++ [.int .i64 (i:Int),.slice yA pos.length yc]):=by rw[<-d0.out,<-a1.out];exact d2
       have a4:W6.grownBy w8 (Value.slice xA ps.length xc).ownBlock:=by rw[<-d0.out];exact v0
       have d4:(Value.slice A1 (ps.length+1) c1).ownBlock=(Value.slice xA ps.length xc).ownBlock\/∃q,(Value.slice A1 (ps.length+1) c1).ownBlock=some q/\W6.heap.size<=q:=by rw[<-d0.out];exact b2
       have m0:=v1.out A1 c1 w8 a4 j4 d4
       try simp only at m0
       rw[<-d0.out]at m0;have f3:Chg (fun q=>(Value.slice xA np xc).ownBlock=some q\/q=g) W6 (w8.setCell ⟨g,k*2+1,none⟩ (.slice A1 (np+1) c1)):=(Chg.of_grown (S:=fun q=>(Value.slice xA np xc).ownBlock=some q\/q=g) v0 (fun _ _ e=> .inl e)).trans (Chg.of_set (S:=fun q=>(Value.slice xA np xc).ownBlock=some q\/q=g) w8 _ (.inr rfl)) (fun _ _ e=>e);have n1:=q3.out.chg f3 (fun q hq=>by
        rcases hq with hq | rfl
        ·obtain⟨cs,l4,_⟩:=ZC r0.out hq;exact⟨_,cs,l4,by decide,by decide⟩
        ·exact⟨_,csg,d1.out,by decide,by decide⟩)
       have q1:=(r2.out.grown v0 (fun q hq=>by obtain⟨_,_,hb⟩:=ZC r0.out hq;exact hb)).setCell (p:=⟨g,k*2+1,none⟩) b4 (.slice A1 (np+1) c1);rw[show (⟨(i:Int),pos,yA,yc⟩:PoC).po=((i:Int),pos)from rfl,<-e1.out]at m0;replace m0:=ZA m0;replace n1:=ZA n1;replace q1:=ZA q1;clear f3 j4 d2 v0 b2 i4 z4;go_wp2_with fail;go_roundw
       case rel=>exact⟨j+1,n,c,_,_,by go_num,rfl,by omega,m0,n1,q1⟩
       case measure=>simp only[intOf];omega
     ·have k4:=ZA (fun x' (h':E[k]? = some x')=>show ¬ x'.s=s from fun e=>f0 ⟨x',h',e⟩);replace f0:=ZA f0
      go_cut [57] from 41 to 57 (fun s57 wy=>s57 = .bool false/\Hid (Ext W3 wy))
      case first =>
       by_cases m2:k<n
       ·obtain⟨x,hx⟩:∃x,E[k]? = some x:=⟨_,List.getElem?_eq_getElem (by rw[<-g1.out];exact m2)⟩
        obtain⟨g,v3⟩:=j0.out.start (by omega);subst v3;obtain⟨g',o',o2,a0⟩:=ZBT (Cells.of_own j0.out.own) hx;cases o2;have o3:decide ((k:Int)<n)=true:=decide_eq_true (by omega);obtain⟨y0,y1⟩:=a0 W3 (Ext.refl _);obtain⟨l0,l1⟩:=m1.out W3 (Ext.refl _);have hq:(x.s==s)=false:=beq_eq_false_iff_ne.2 (k4.out x hx);rw[Nat.zero_add]at y0 y1;go_quiet (fail);go_wp2_with fail
        go_meet
        case rel=>exact⟨rfl,ZA ((Ext.refl W3).drewN _)⟩
       ·have o3:decide ((k:Int)<n)=false:=decide_eq_false (by omega);go_quiet (fail);go_wp2_with fail
        go_meet
        case rel=>exact⟨rfl,ZA ((Ext.refl W3).drewN _)⟩
      case rest =>
       obtain⟨rfl,k0⟩:=hcut;have n4:=ZA (fun(W:World)=>ZFo Tryz.underlying58 (fun W:World=>(by kernel_rfl:(sizeOf 129).run Tryz.prog W = .ok 2 W)) (n:=n) (c:=c) (k:=k) (A:=B) (by omega) t1.2 (z:=(k:Int)) rfl W);obtain⟨BT,y3,k3,_⟩:=ZGu Tryz.underlying58 (fun W:World=>(by kernel_rfl:(sizeOf 129).run Tryz.prog W = .ok 2 W)) (n:=n) (c:=c) (k:=k) (A:=B) (by omega) t1.1 t1.2 (z:=(k:Int)) rfl;have k3:=ZA (show Cells W3 BT (idcells (E.drop k))by rw[ZGB];exact k3 W3 _ (by rw[Zy,<-g1.out]) (Cells.of_own j0.out.own));have y4:=ZA (show Cells W3 B (idcells (E.take k))by rw[ZF8];exact ZA0 (Cells.of_own j0.out.own) _);have j3:=ZA (show (idcells (E.take k)).length=k*2 by rw[Zy,List.length_take,<-g1.out];omega);have g3:=ZA (show (idcells (E.drop k)).length=(n - k)*2 by rw[Zy,List.length_drop,<-g1.out]);replace y3:=ZA y3;replace k0:=ZA k0.out.drew;go_wp2_with fail;refine wp_region_held_drew (S:=fun _=>True) (by kernel_rfl) trivial (fun _=>?_);refine ZCe (base:=Array.replicate 20 false) (w0:=W3) ⟨by kernel_rfl,of_decide_eq_true (by kernel_rfl),by kernel_rfl,by kernel_rfl⟩ (kRy13 (W3.heap.size) B BT n c k i j m yc gt ot gp (some ⟨gt,ot,none⟩) yA nt ct s (idcells (E.take k)) (idcells (E.drop k))) (ZDA ?mono) ?mono0 (fun _=>trivial) ?hstep ?fin _ _ (fun _ _=>False) _ _ (by kernel_rfl) (Nat.le_of_eq (by kernel_rfl)) (fun _ h=>h) ⟨rfl,rfl,fun _ _=>rfl,k0.out,fun j h1 h2=>absurd (h1.symm.trans h2) (by simp)⟩ (OwnI.start (fun _ h=>h) ⟨trivial,fun _ h=>h.elim⟩)
       case mono =>
        intro p hp;simp only[List.mem_cons,List.not_mem_nil,or_false]at hp;rcases hp with rfl | rfl | rfl | rfl | rfl | rfl | rfl | rfl | rfl | rfl | rfl | rfl | rfl | rfl | rfl | rfl | rfl | rfl | rfl | rfl <;> first | exact ZOo _ _ _ | exact ZOq _ _ _ _ | exact ZOs _ _ _ _ _ _ _ | exact ZOf _ _ _ _ _ | exact ZOx _ _ _ _ _ | exact ZOt _ _ _ _ _ _ _ _
       case mono0=>exact fun _ _ _ _ _ _ _=>trivial
       case hstep =>
        apply OSteps.all (K:=(kRy13 (W3.heap.size) B BT n c k i j m yc gt ot gp (some ⟨gt,ot,none⟩) yA nt ct s (idcells (E.take k)) (idcells (E.drop k)))) (l:= [0,1,2,3,4,5,6,7,8,9,10,11,12,13,14,15,16,17,18,19]);rotate_left
        ·kernel_rfl
        refine OSteps.cons rfl (fun F a wq ha hd=>?_) ?_
        ·exact ZLa (ZCE (vs:=#[]) rfl (by simp) (ZNN wq)) rfl (S:=fun q=>q=wq.heap.size) ⟨some ⟨wq.heap.size,0,none⟩,0,rfl,ZN (ZAo wq 129) ha.ext.size,fun q=>⟨fun e=>by rw[e];rfl,fun e=>by cases e;rfl⟩⟩ ((Ext.refl wq).alloc _) (fun q e=>⟨by rw[e];simp,by rw[e];exact Nat.le_refl _⟩)
        refine OSteps.cons rfl (fun F a wq ha hd=>?_) ?_
        ·exact ZH (ZP (v:= .slice B n c) (.inl rfl) (ZI (ha.same 3 (by kernel_rfl)))) rfl ⟨rfl,fun _ h=>h⟩
        refine OSteps.cons rfl (fun F a wq ha hd=>?_) ?_
        ·exact ZH (ZP (v:= .int .i64 (k:Int)) (.inl rfl) (ZI (ha.same 7 (by kernel_rfl)))) rfl ⟨rfl,fun _ h=>h⟩
        refine OSteps.cons rfl (fun F a wq ha hd=>?_) ?_
        ·exact ZH (ZFl (q:= .slice B n c) (v:= .slice B k c) (l:=none) (h:=some (.int .i64 (k:Int))) (m:=none) rfl (ZE (hd.one 1 71 (by kernel_rfl) (by kernel_rfl) (by kernel_rfl) (by kernel_rfl)).1.1) rfl (congrArg some (ZE (hd.one 2 72 (by kernel_rfl) (by kernel_rfl) (by kernel_rfl) (by kernel_rfl)).1.1)) rfl (n4.out wq)) rfl ⟨rfl,fun _ h=>h⟩
        refine OSteps.cons rfl (fun F a wq ha hd=>?_) ?_
        ·obtain⟨⟨As,cs,qs,hb,hS⟩,l3⟩:(kO W3.heap.size 129 2 0 []) (a.tmps.getD 70 undef) (F 0) wq/\_:=hd.one 0 70 (by kernel_rfl) (by kernel_rfl) (by kernel_rfl) (by kernel_rfl);have qx:a.eval (.tmp 73) = .slice B k c:=(ZE (hd.one 3 73 (by kernel_rfl) (by kernel_rfl) (by kernel_rfl) (by kernel_rfl)).1.1)
         rw[qs]at hb;refine ZN2 ZLe rfl hb ((y4.out.ext ha.ext)) (.tmp 70) (.tmp 73) rfl qs qx j3.out (ZDN _) (by omega) ha.ext.size (fun q hq=>ZHD (j:=0) (d:=70) rfl (by kernel_rfl) (by kernel_rfl) (by kernel_rfl) (by kernel_rfl) ((hS q).2 (by rw[qs];exact hq))) (fun u S w' hu=>?_);rw[Nat.zero_add,List.nil_append]at hu;exact hu
        refine OSteps.cons rfl (fun F a wq ha hd=>?_) ?_
        ·exact ZH (ZP (v:= .slice (some ⟨gt,ot,none⟩) nt ct) (.inl rfl) (ZI (ha.same 5 (by kernel_rfl)))) rfl ⟨rfl,fun _ h=>h⟩
        refine OSteps.cons rfl (fun F a wq ha hd=>?_) ?_
        ·exact ZH (ZP (v:= .int .i64 (j:Int)) (.inl rfl) (ZI (ha.same 6 (by kernel_rfl)))) rfl ⟨rfl,fun _ h=>h⟩
        refine OSteps.cons rfl (fun F a wq ha hd=>?_) ?_
        ·exact ZH (ZCF (q:= .slice (some ⟨gt,ot,none⟩) nt ct) (z:= .int .i64 (j:Int)) (v:= .pointer (some ⟨gt,ot+j*2,none⟩)) rfl (ZE (hd.one 5 75 (by kernel_rfl) (by kernel_rfl) (by kernel_rfl) (by kernel_rfl)).1.1) (ZE (hd.one 6 76 (by kernel_rfl) (by kernel_rfl) (by kernel_rfl) (by kernel_rfl)).1.1) (ZOy wq gt ot nt ct j p4)) rfl ⟨rfl,fun _ h=>h⟩
        refine OSteps.cons rfl (fun F a wq ha hd=>?_) ?_
        ·exact ZH (ZL (q:= .pointer (some ⟨gt,ot+j*2,none⟩)) (v:= .pointer (some ⟨gt,ot+j*2,none⟩)) rfl (ZE (hd.one 7 77 (by kernel_rfl) (by kernel_rfl) (by kernel_rfl) (by kernel_rfl)).1.1) (ZOh wq gt (ot+j*2))) rfl ⟨rfl,fun _ h=>h⟩
        refine OSteps.cons rfl (fun F a wq ha hd=>?_) ?_
        ·exact ZH (Zi (q:= .pointer (some ⟨gt,ot+j*2,none⟩)) (v:= .string ⟨s.toArray⟩) rfl (ZE (hd.one 8 78 (by kernel_rfl) (by kernel_rfl) (by kernel_rfl) (by kernel_rfl)).1.1) (ZNK (m1.out wq ha.ext).1)) rfl ⟨rfl,fun _ h=>h⟩
        refine OSteps.cons rfl (fun F a wq ha hd=>?_) ?_
        ·exact ZH (Zi (q:= .pointer (some ⟨gp,0,none⟩)) (v:= .agg #[.int .i64 (i:Int),.slice yA m yc]) rfl (ZI (ha.same 8 (by kernel_rfl))) (ZNp ((rp.out.ext ha.ext).cell 0 rfl) ((rp.out.ext ha.ext).cell 1 rfl))) rfl ⟨rfl,fun _ h=>h⟩
        refine OSteps.cons rfl (fun F a wq ha hd=>?_) ?_
        ·have q80:a.tmps.getD 80 undef = .agg #[.int .i64 (i:Int),.slice yA m yc]:=(hd.one 10 80 (by kernel_rfl) (by kernel_rfl) (by kernel_rfl) (by kernel_rfl)).1.1;exact ZLa (ZCE rfl (by simp only[List.map_toArray,List.map_cons,List.map_nil];exact congrArg (fun v=>#[(0,v)]) q80) (ZMb wq (i:Int) yA m yc)) rfl (S:=fun q=>q=wq.heap.size) ⟨some ⟨wq.heap.size,0,none⟩,1,rfl,ZN (ZL1 wq (i:Int) yA m yc) ha.ext.size,fun q=>⟨fun e=>by rw[e];rfl,fun e=>by cases e;rfl⟩⟩ ((Ext.refl wq).alloc _) (fun q e=>⟨by rw[e];simp,by rw[e];exact Nat.le_refl _⟩)
        refine OSteps.cons rfl (fun F a wq ha hd=>?_) ?_
        ·have q79:a.tmps.getD 79 undef = .string ⟨s.toArray⟩:=(hd.one 9 79 (by kernel_rfl) (by kernel_rfl) (by kernel_rfl) (by kernel_rfl)).1.1;obtain⟨⟨As,cs,qs,hb,hS⟩,s1⟩:(kO W3.heap.size 107 2 1 [.int .i64 (i:Int),.slice yA m yc]) (a.tmps.getD 81 undef) (F 11) wq/\_:=hd.one 11 81 (by kernel_rfl) (by kernel_rfl) (by kernel_rfl) (by kernel_rfl);rw[qs]at hb hS;refine ZDZ (S:=F 11) (ZOX rfl (by simp only[List.map_toArray,List.map_cons,List.map_nil];exact congrArg (fun v=>#[v.1,v.2]) (Prod.ext (congrArg (fun v=>(0,v)) q79) (congrArg (fun v=>(1,v)) qs):((0,a.eval (.tmp 79)),(1,a.eval (.tmp 81)))=((0,Value.string ⟨s.toArray⟩),(1,Value.slice As 1 cs)))) (ZNJ wq ⟨s.toArray⟩ As 1 cs)) rfl ⟨As,cs,rfl,hb,hS⟩ (Ext.refl _) (fun q hq=> .inr ⟨(s1 q hq).2,ZHD (j:=11) (d:=81) rfl (by kernel_rfl) (by kernel_rfl) (by kernel_rfl) (by kernel_rfl) hq⟩)
        refine OSteps.cons rfl (fun F a wq ha hd=>?_) ?_
        ·obtain⟨⟨Ax,cx,qs,hb,hS⟩,q2⟩:(kR1 W3.heap.size s [.int .i64 (i:Int),.slice yA m yc]) (a.tmps.getD 82 undef) (F 12) wq/\_:=hd.one 12 82 (by kernel_rfl) (by kernel_rfl) (by kernel_rfl) (by kernel_rfl);refine ZDZ (S:=fun q=>q=wq.heap.size\/(Value.slice Ax 1 cx).ownBlock=some q) (ZCE rfl (by simp only[List.map_toArray,List.map_cons,List.map_nil];exact congrArg (fun v=>#[(0,v)]) qs) (ZNF wq ⟨s.toArray⟩ Ax 1 cx)) rfl ⟨wq.heap.size,Ax,cx,rfl,Zg wq [.string ⟨s.toArray⟩,.slice Ax 1 cx] _,((Ext.refl wq).alloc _).owns hb,fun q=>Iff.rfl⟩ ((Ext.refl wq).alloc _) (fun q hq=>?_);rcases hq with hq | hq
         ·exact .inl ⟨by rw[hq];simp,by rw[hq];exact Nat.le_refl _⟩
         ·exact .inr ⟨(q2 q ((hS q).2 hq)).2,ZHD (j:=12) (d:=82) rfl (by kernel_rfl) (by kernel_rfl) (by kernel_rfl) (by kernel_rfl) ((hS q).2 hq)⟩
        refine OSteps.cons rfl (fun F a wq ha hd=>?_) ?_
        ·obtain⟨⟨As,cs,qs,hb,hS⟩,n3⟩:(kO W3.heap.size 129 2 k (idcells (E.take k))) (a.tmps.getD 74 undef) (F 4) wq/\_:=hd.one 4 74 (by kernel_rfl) (by kernel_rfl) (by kernel_rfl) (by kernel_rfl);obtain⟨⟨gx,Ax,cx,qx,hc,hx,v4⟩,p2⟩:(kR2 W3.heap.size s [.int .i64 (i:Int),.slice yA m yc]) (a.tmps.getD 83 undef) (F 13) wq/\_:=hd.one 13 83 (by kernel_rfl) (by kernel_rfl) (by kernel_rfl) (by kernel_rfl);rw[qs]at hb hS;refine ZKy ZLe rfl hb hc (.tmp 74) (.tmp 83) rfl qs qx rfl (ZS rfl) (by omega) ha.ext.size (fun q hq=>ZHD (j:=4) (d:=74) rfl (by kernel_rfl) (by kernel_rfl) (by kernel_rfl) (by kernel_rfl) ((hS q).2 hq)) (fun A1 c1 w' ho hg h4=>?_);refine⟨fun q=>(Value.slice A1 (k+1) c1).ownBlock=some q\/(Value.slice Ax 1 cx).ownBlock=some q,⟨A1,c1,Ax,cx,rfl,by rw[List.append_nil];exact ho,(Chg.of_grown (S:=fun q=>(Value.slice As k cs).ownBlock=some q) hg (fun _ _ e=>e)).owns hx (fun q hq e=>?_),fun q=>Iff.rfl⟩,fun q hq=>?_⟩
         ·obtain⟨cu,hr,_⟩:=ZC hb e;exact ZJ hx hr (by decide) hq
         ·rcases hq with hq | hq
          ·refine⟨by obtain⟨cu,hr,_⟩:=ZC ho hq;exact hr.lt,?_⟩;rcases h4 with h4 | h4
           ·exact .inr (ZHD (j:=4) (d:=74) rfl (by kernel_rfl) (by kernel_rfl) (by kernel_rfl) (by kernel_rfl) ((hS q).2 (by rw[<-h4];exact hq)))
           ·rw[h4]at hq;cases hq;exact .inl (Nat.le_refl _)
          ·have v2:=(v4 q).2 (.inr hq);exact⟨Nat.lt_of_lt_of_le (p2 q v2).2 hg.size,.inr (ZHD (j:=13) (d:=83) rfl (by kernel_rfl) (by kernel_rfl) (by kernel_rfl) (by kernel_rfl) v2)⟩
        refine OSteps.cons rfl (fun F a wq ha hd=>?_) ?_
        ·exact ZH (ZP (v:= .slice B n c) (.inl rfl) (ZI (ha.same 3 (by kernel_rfl)))) rfl ⟨rfl,fun _ h=>h⟩
        refine OSteps.cons rfl (fun F a wq ha hd=>?_) ?_
        ·exact ZH (ZP (v:= .int .i64 (k:Int)) (.inl rfl) (ZI (ha.same 7 (by kernel_rfl)))) rfl ⟨rfl,fun _ h=>h⟩
        refine OSteps.cons rfl (fun F a wq ha hd=>?_) ?_
        ·exact ZH (ZFl (q:= .slice B n c) (v:= .slice BT (n - k) (c - k)) (l:=some (.int .i64 (k:Int))) (h:=none) (m:=none) rfl (ZE (hd.one 15 85 (by kernel_rfl) (by kernel_rfl) (by kernel_rfl) (by kernel_rfl)).1.1) (congrArg some (ZE (hd.one 16 86 (by kernel_rfl) (by kernel_rfl) (by kernel_rfl) (by kernel_rfl)).1.1)) rfl rfl (y3.out wq)) rfl ⟨rfl,fun _ h=>h⟩
        refine OSteps.cons rfl (fun F a wq ha hd=>?_) ?_
        ·obtain⟨⟨As,cs,Ax,cx,qs,hb,hx,hS⟩,k2⟩:(kR3 W3.heap.size (k+1) s [.int .i64 (i:Int),.slice yA m yc] (idcells (E.take k)) []) (a.tmps.getD 84 undef) (F 14) wq/\_:=hd.one 14 84 (by kernel_rfl) (by kernel_rfl) (by kernel_rfl) (by kernel_rfl);have qx:a.eval (.tmp 87) = .slice BT (n - k) (c - k):=(ZE (hd.one 17 87 (by kernel_rfl) (by kernel_rfl) (by kernel_rfl) (by kernel_rfl)).1.1)
         refine ZKy ZLe rfl hb (k3.out.ext ha.ext) (.tmp 84) (.tmp 87) rfl qs qx g3.out (ZDN _) (by omega) ha.ext.size (fun q hq=>ZHD (j:=14) (d:=84) rfl (by kernel_rfl) (by kernel_rfl) (by kernel_rfl) (by kernel_rfl) ((hS q).2 (.inl hq))) (fun A1 c1 w' ho hg h4=>?_);have e4:k+1+(n - k)=n+1:=by omega
         rw[e4]at ho h4 ⊢;rw[List.append_nil]at ho;refine⟨fun q=>(Value.slice A1 (n+1) c1).ownBlock=some q\/(Value.slice Ax 1 cx).ownBlock=some q,⟨A1,c1,Ax,cx,rfl,ho,(Chg.of_grown (S:=fun q=>(Value.slice As (k+1) cs).ownBlock=some q) hg (fun _ _ e=>e)).owns hx (fun q hq e=>?_),fun q=>Iff.rfl⟩,fun q hq=>?_⟩
         ·obtain⟨cu,hr,_⟩:=ZC hb e;exact ZJ hx hr (by decide) hq
         ·rcases hq with hq | hq
          ·refine⟨by obtain⟨cu,hr,_⟩:=ZC ho hq;exact hr.lt,?_⟩;rcases h4 with h4 | h4
           ·exact .inr (ZHD (j:=14) (d:=84) rfl (by kernel_rfl) (by kernel_rfl) (by kernel_rfl) (by kernel_rfl) ((hS q).2 (.inl (by rw[<-h4];exact hq))))
           ·rw[h4]at hq;cases hq;exact .inl (Nat.le_refl _)
          ·have v2:=(hS q).2 (.inr hq);exact⟨Nat.lt_of_lt_of_le (k2 q v2).2 hg.size,.inr (ZHD (j:=14) (d:=84) rfl (by kernel_rfl) (by kernel_rfl) (by kernel_rfl) (by kernel_rfl) v2)⟩
        refine OSteps.cons rfl (fun F a wq ha hd=>?_) ?_
        ·obtain⟨⟨As,cs,Ax,cx,qs,hb,hx,hS⟩,j2⟩:(kR3 W3.heap.size (n+1) s [.int .i64 (i:Int),.slice yA m yc] (idcells (E.take k)) (idcells (E.drop k))) (a.tmps.getD 88 undef) (F 18) wq/\_:=hd.one 18 88 (by kernel_rfl) (by kernel_rfl) (by kernel_rfl) (by kernel_rfl);exact ZDZ (S:=F 18) (ZP (.inr rfl) qs) rfl ⟨As,cs,Ax,cx,rfl,hb,hx,hS⟩ (Ext.refl _) (fun q hq=> .inr ⟨(j2 q hq).2,ZHD (j:=18) (d:=88) rfl (by kernel_rfl) (by kernel_rfl) (by kernel_rfl) (by kernel_rfl) hq⟩)
        exact OSteps.nil
       case fin =>
        intro F a w9 ha hh;obtain⟨⟨A9,c9,Ax,cx,q9,p3,n2,p5⟩,x4⟩:(kR3 W3.heap.size (n+1) s [.int .i64 (i:Int),.slice yA m yc] (idcells (E.take k)) (idcells (E.drop k))) (a.tmps.getD 3 undef) (F 19) w9/\_:=hh 19 3 (by kernel_rfl) (by kernel_rfl) (by kernel_rfl);have h0:=ha.act [70,71,72,73,74,75,76,77,78,79,80,81,82,83,84,85,86,87,88,3] (by kernel_rfl);have q1:=ZA ha.ext;simp only[List.foldl_cons,List.foldl_nil]at h0;rw[q9]at h0;replace p3:=ZA p3;replace n2:=ZA n2;clear ha hh q9;generalize a.tmps.getD 70 undef=v70 at h0;generalize a.tmps.getD 71 undef=v71 at h0;generalize a.tmps.getD 72 undef=v72 at h0;generalize a.tmps.getD 73 undef=v73 at h0;generalize a.tmps.getD 74 undef=v74 at h0;generalize a.tmps.getD 75 undef=v75 at h0;generalize a.tmps.getD 76 undef=v76 at h0;generalize a.tmps.getD 77 undef=v77 at h0;generalize a.tmps.getD 78 undef=v78 at h0;generalize a.tmps.getD 79 undef=v79 at h0;generalize a.tmps.getD 80 undef=v80 at h0;generalize a.tmps.getD 81 undef=v81 at h0;generalize a.tmps.getD 82 undef=v82 at h0;generalize a.tmps.getD 83 undef=v83 at h0;generalize a.tmps.getD 84 undef=v84 at h0;generalize a.tmps.getD 85 undef=v85 at h0;generalize a.tmps.getD 86 undef=v86 at h0;generalize a.tmps.getD 87 undef=v87 at h0;generalize a.tmps.getD 88 undef=v88 at h0;subst h0;simp only[List.setIfInBounds_toArray,List.set_cons_zero,List.set_cons_succ];have m0:=j0.out.ins (w1:=w9) (s:=s) (k:=k) hP.out k4.out (y:=⟨(i:Int),pos,yA,yc⟩) (A1:=A9) (c1:=c9) (Ax:=Ax) (cx:=cx) q1.out (ZN p3.out u0.out.size) (by show w9.ownsRow _ _ _ _ _ [.int .i64 (i:Int),.slice yA pos.length yc];rw[<-a1.out];exact ZN n2.out u0.out.size) (fun a ha=>by obtain⟨_,_,hb⟩:=ZC n2.out (g:=a.block) (by rw[ha];rfl);exact hb) ⟨i2.out.1.ext q1.out,i2.out.2⟩;rw[show (⟨(i:Int),pos,yA,yc⟩:PoC).po=((i:Int),pos)from rfl,<-e1.out]at m0;replace m0:=ZA m0;have n1:=ZA (o1.out.ext q1.out);have h3:=ZA (u0.out.trans q1.out);go_wp2_with fail;go_roundw
        case rel=>exact⟨j+1,_,c9,A9,_,by go_num,rfl,by omega,m0,n1,h3⟩
        case measure=>simp only[intOf];omega
    ·obtain rfl:j=nt:=by omega
     have g4:T.take j=T:=List.take_of_length_le (by rw[c2.out];exact Nat.le_refl _);have q0:=g0.out;rw[g4,<-b1.out]at q0;have b0:=ZA hE.out;replace q0:=ZA q0;clear g4 g0 hE;go_wp2_with fail;go_roundw
     case rel=>exact⟨i+1,n,c,B,E,by go_num,rfl,by omega,q0,b0⟩
     case measure=>simp only[intOf];omega
  ·obtain rfl:i=nd:=by omega
   have q0:=g0.out;rw[List.take_of_length_le (by rw[<-hm.out];exact Nat.le_refl _)]at q0;replace q0:=ZA q0;clear g0;go_wp2_with fail;go_ret;exact⟨E0,B0,n0,cc0,rfl,q0.out,hE.out⟩
end
section
open Go.RowKit
theorem ZLH {w:World} {base n c:Nat} {e:TypeId} {A:Option Addr} {xs:List Value} (h:Buf w base e A n c xs):A=none->c=0:=fun hA=>by
 rcases h.2.2 with ⟨_,h⟩ | ⟨g,_,h,_⟩
 ·exact h
 ·rw[h]at hA;cases hA
theorem ZJq (ds:List DocC) (A:Option Addr) (m c:Nat) (w:World) (hm:m=ds.length) (h:DocsOk w A ds) (l0:m<=1000000) :
 Calls Tryz.prog 44 #[.slice A m c] w fun e w'=>NewB w (timesD 0 (dcs ds)) e w':=by
 have i0:=ZA (fun A n c x l W h1 h2 h3 h4 h5 h6=>ZCM A n c x l W h1 h2 h3 h4 h5 h6);have b0:∀i,(timesD 0 (dcs (ds.take i))).length<=10*i:=fun i=>by
  have:=ZBb (dcs (ds.take i)) 0;have h2:(dcs (ds.take i)).length<=i:=by unfold dcs;rw[List.length_map,List.length_take];omega
  omega
 replace b0:=ZA b0;replace h:=ZA h;replace hm:=ZA hm;go_enter Tryz.func44,Tryz.ntmps44;go_wp2_with fail
 go_loopw [3,4,9] (fun s3 s4 s9 wr=>∃(i n:Nat) (B:Option Addr) (k:Nat) (a:Int),s9 = .int .i64 (i:Int)/\s3 = .slice B n k/\s4 = .int .i64 a/\i<=m/\n<=10*i/\Hid (a=lastAt 0 (dcs (ds.take i)))/\Hid (n=(timesD 0 (dcs (ds.take i))).length)/\Hid (Buf wr w.heap.size 5 B n k ((timesD 0 (dcs (ds.take i))).map B8))/\Hid (Ext w wr)) (fun _ _ s9 _=>m - (intOf s9).toNat)
 case atStart=>exact⟨0,0,none,0,0,rfl,rfl,rfl,by omega,by omega,ZA rfl,ZA rfl,ZA (Buf.nil _ _ _),ZA (Ext.refl w)⟩
 case round =>
  obtain⟨i,n,B,k,a,rfl,rfl,rfl,hi,hn,ha,j0,hB,hE⟩:=hrel;by_cases f0:i<m
  ·obtain⟨x,hx⟩:∃x,ds[i]? = some x:=⟨_,List.getElem?_eq_getElem (by rw[<-hm.out];exact f0)⟩
   have e0:=h.out.ext hE.out;obtain⟨g,o,hA,x0,x1,x2⟩:=ZU e0.cells hx;subst hA;have g0:dcs (ds.take (i+1))=dcs (ds.take i) ++ [x.dc]:=by rw[List.take_add_one,hx];unfold dcs;rw[List.map_append];rfl
   have z0:lastAt 0 (dcs (ds.take (i+1)))=x.e.at_:=by rw[g0,ZCL];rfl
   have m0:timesD 0 (dcs (ds.take (i+1)))=timesD 0 (dcs (ds.take i))++vb (zig (wrap64 (x.e.at_ - a))):=by
    rw[g0,ZCQ,<-ha.out];show _++(_ ++ [])=_;rw[List.append_nil];rfl
   obtain⟨d,hd⟩:∃d,d=wrap64 (x.e.at_ - a):=⟨_,rfl⟩
   have u0:=ZC1 (x.e.at_ - a);rw[<-hd]at m0 u0;have d0:=b0.out (i+1);replace g0:=ZA g0;replace z0:=ZA z0;replace m0:=ZA m0;replace hx:=ZA hx;clear e0;go_wp2_with fail;obtain⟨W5,p0⟩:∃W5,W5=wr.alloc (Obj.cells #[Value.int IntKind.i64 x.seq,Value.int IntKind.i64 x.e.at_,Value.slice x.A x.e.fs.length x.c] 39):=⟨_,rfl⟩
   have t0:Ext wr W5:=by rw[p0];exact(Ext.refl wr).alloc _
   have r5:Row W5 wr.heap.size 39 #[Value.int IntKind.i64 x.seq,Value.int IntKind.i64 x.e.at_,Value.slice x.A x.e.fs.length x.c]:=by rw[p0];exact Row.new wr _ _
   obtain⟨g5,y0⟩:∃g5,g5=wr.heap.size:=⟨_,rfl⟩
   rw[<-p0,<-y0,<-hd];rw[<-y0]at r5;have c0:=hB.out.ext t0;refine(i0.out B n k d _ W5 j0.out c0.cells (ZLH c0) (by omega) u0.1 u0.2).mono ?_;rintro e w6 ⟨A6,c6,rfl,h0,q0⟩;rw[<-m0.out]at h0 ⊢;have r6:=r5.ext q0;have y1:=r6.cell 1 rfl;have a0:w.heap.size<=W5.heap.size:=(hE.out.trans t0).size;obtain⟨n6,k0⟩:∃n6,n6=(timesD 0 (dcs (ds.take (i+1)))).length:=⟨_,rfl⟩
   rw[<-k0]at h0 d0 ⊢;replace k0:=ZA k0;replace h0:=ZA (h0.lower a0);replace q0:=ZA (t0.trans q0);clear p0 y0 hd r5 r6;go_wp2_with fail;go_roundw
   case rel=>exact⟨i+1,n6,A6,c6,_,rfl,rfl,rfl,by omega,d0,ZA z0.out.symm,k0,h0,ZA (hE.out.trans q0.out)⟩
   case measure=>simp only[intOf];omega
  ·have n0:m=i:=by omega
   have v0:ds.take i=ds:=List.take_of_length_le (by rw[<-hm.out];omega);rw[v0]at hB j0;go_wp2_with fail;go_ret;exact⟨B,k,by rw[j0.out];rfl,by rw[<-j0.out];exact hB.out,hE.out⟩
def prtA:List Int->Array Value
 | [a,b,c,d,e]=>#[.int .i64 0,.int .i64 0,.int .i64 a,.int .i64 b,.int .i64 c,.int .i64 d,.int .i64 e]
 | _=>#[]
theorem ZCr:∀(l:List Dc) (m:Int),I64ok' m->(∀d∈l,I64ok' d.2.at_)->I64ok' (lowD m l)
 | [],m,hm,_=>hm
 | d::t,m,hm,h=>by
  have h1:=h d (List.mem_cons_self ..);refine ZCr t _ ?_ fun x hx=>h x (List.mem_cons_of_mem _ hx);unfold I64ok' at *;omega
theorem ZCB:∀(l:List Dc) (m:Int),I64ok' m->(∀d∈l,I64ok' d.2.at_)->I64ok' (highD m l)
 | [],m,hm,_=>hm
 | d::t,m,hm,h=>by
  have h1:=h d (List.mem_cons_self ..);refine ZCB t _ ?_ fun x hx=>h x (List.mem_cons_of_mem _ hx);unfold I64ok' at *;omega
theorem ZGM:∀(l:List Dc) (d:Dc),lastD d.1 l=((d::l)[l.length]?.map (·.1)).getD 0
 | [],d=>rfl
 | p::t,d=>by
  show lastD p.1 t=_;rw[ZGM t p];rfl
theorem ZBa {ds:List DocC} {x0 xl:DocC} {m:Nat} (hm:m=ds.length) (h0:ds[0]? = some x0) (hl:ds[m - 1]? = some xl):partD (dcs ds) = [lowD x0.e.at_ (dcs ds),highD x0.e.at_ (dcs ds),x0.seq,xl.seq,(m:Int)]:=by
 cases ds with
 | nil=>simp at h0
 | cons y t =>
  obtain rfl:y=x0:=by simpa using h0
  have h1:=ZGM (dcs t) y.dc;have hk:(dcs t).length=t.length:=by unfold dcs;rw[List.length_map]
  have h2:(y.dc::dcs t)[t.length]? = some xl.dc:=by
   show (dcs (y::t))[t.length]? = _;unfold dcs;rw[List.getElem?_map];rw[hm,List.length_cons,Nat.add_sub_cancel]at hl;rw[hl];rfl
  rw[hk,h2]at h1;show [lowD y.e.at_ (dcs (y::t)),highD y.e.at_ (dcs (y::t)),y.seq,lastD y.dc.1 (dcs t),((dcs (y::t)).length:Int)]=_;rw[h1];have h3:(dcs (y::t)).length=m:=by rw[hm];unfold dcs;rw[List.length_map]
  rw[h3];rfl
theorem ZCf {fn:Func} {p:Tmp} {ty:TypeId} {P:Program} (h:fn.results=#[.cell p ty]) (tmps:Array Value) (w:World) (g:Nat) (cs:Array Value)
 (hp:tmps.getD p undef = .pointer (some ⟨g,0,none⟩)) (hl:(loadVar ty ⟨g,0,none⟩).run P w = .ok (.agg cs) w) :
 (results fn tmps).run P w = .ok (.agg cs) w:=by
 rw[Array.getD_eq_getD_getElem?]at hp;simp only[results,h];simp[Sem.run_bind,Result.andThen,hp,asAddr,hl]
theorem ZIK (ds:List DocC) (A:Option Addr) (m c:Nat) (w:World) (hm:m=ds.length) (h:DocsOk w A ds) (o1:m<=1000000) (h0:0<m) :
 Calls Tryz.prog 42 #[.slice A m c] w fun e w'=>e = .returned (.agg (prtA (partD (dcs ds))))/\Ext w w':=by
 obtain⟨x0,n0⟩:∃x,ds[0]? = some x:=⟨_,List.getElem?_eq_getElem (by omega)⟩
 obtain⟨xl,o0⟩:∃x,ds[m - 1]? = some x:=⟨_,List.getElem?_eq_getElem (by omega)⟩
 obtain⟨g,o,hA,a0,a1,a2⟩:=ZU h.cells n0;obtain⟨g',o',k0,b0,b1,b2⟩:=ZU h.cells o0;rw[hA]at k0;injection k0 with k0;injection k0 with hg ho;subst hg;subst ho;rw[Nat.zero_mul,Nat.add_zero]at a0 a1 a2;have p0:partD (dcs ds) = [lowD x0.e.at_ (dcs ds),highD x0.e.at_ (dcs ds),x0.seq,xl.seq,(m:Int)]:=ZBa hm n0 o0;subst hA;replace h:=ZA h;replace hm:=ZA hm;replace n0:=ZA n0;replace o0:=ZA o0;obtain⟨k,hk⟩:∃k,m=k+1:=⟨m - 1,by omega⟩
 subst hk;rw[show k+1 - 1=k by omega]at b0 b1 b2;have e0:∀d∈dcs ds,I64ok' d.2.at_:=fun d hd=>by
  unfold dcs at hd;obtain⟨x,hx,rfl⟩:=List.mem_map.1 hd;exact(h.out.each x hx).2.1
 replace e0:=ZA e0;replace p0:=ZA p0;go_enter Tryz.func42,Tryz.ntmps42;go_wp2_with fail;obtain⟨W1,g0⟩:∃W1,W1=w.alloc (Obj.cells #[Value.int IntKind.i64 0,Value.int IntKind.i64 0,Value.int IntKind.i64 0,Value.int IntKind.i64 0,Value.int IntKind.i64 0,Value.int IntKind.i64 0,Value.int IntKind.i64 0] 74):=⟨_,rfl⟩
 rw[<-g0];have j0:Ext w W1:=by rw[g0];exact(Ext.refl w).alloc _
 have r1:Row W1 w.heap.size 74 #[Value.int IntKind.i64 0,Value.int IntKind.i64 0,Value.int IntKind.i64 0,Value.int IntKind.i64 0,Value.int IntKind.i64 0,Value.int IntKind.i64 0,Value.int IntKind.i64 0]:=by rw[g0];exact Row.new w _ _
 have c1:=j0.cell a1;have c0:=j0.cell a0;have d0:=j0.cell b0;replace g0:=ZA g0;refine ZB follows (by kernel_rfl) (by kernel_rfl) (fun K hK=>?_);go_wp2_with fail;refine⟨by kernel_rfl,?_⟩;go_wp2_with fail;obtain⟨W2,m0⟩:∃W2,W2=(W1.alloc (Obj.cells #[Value.int IntKind.i64 0,Value.int IntKind.i64 0,Value.int IntKind.i64 x0.e.at_,Value.int IntKind.i64 x0.e.at_,Value.int IntKind.i64 x0.seq,Value.int IntKind.i64 xl.seq,Value.int IntKind.i64 ((k:Int)+1)] 74)).drew:=⟨_,rfl⟩
 rw[<-m0];obtain⟨b1,y0⟩:∃b1,b1=w.heap.size:=⟨_,rfl⟩
 obtain⟨b2,z0⟩:∃b2,b2=W1.heap.size:=⟨_,rfl⟩
 have x1:Ext W1 W2:=by rw[m0];exact((Ext.refl W1).alloc _).drew
 have r2:Row W2 b2 74 #[Value.int IntKind.i64 0,Value.int IntKind.i64 0,Value.int IntKind.i64 x0.e.at_,Value.int IntKind.i64 x0.e.at_,Value.int IntKind.i64 x0.seq,Value.int IntKind.i64 xl.seq,Value.int IntKind.i64 ((k:Int)+1)]:=by rw[m0,z0];exact Row.new W1 _ _
 have r12:=r1.ext x1;rw[<-y0]at r12;have d1:b1<b2:=by have:=r1.lt;omega
 rw[<-y0,<-z0];have hE:=ZA (j0.trans x1);replace r2:=ZA r2;replace r12:=ZA r12;replace m0:=ZA m0;replace y0:=ZA y0;replace z0:=ZA z0;clear r1 c0 c1 d0
 go_loopw [32] (fun s32 wr=>∃(i:Nat) (lo hi:Int),s32 = .int .i64 (i:Int)/\i<=k+1/\Hid (lo=lowD x0.e.at_ (dcs (ds.take i)))/\Hid (hi=highD x0.e.at_ (dcs (ds.take i)))/\Hid (Row wr b2 74 #[Value.int IntKind.i64 0,Value.int IntKind.i64 0,Value.int IntKind.i64 lo,Value.int IntKind.i64 hi,Value.int IntKind.i64 x0.seq,Value.int IntKind.i64 xl.seq,Value.int IntKind.i64 ((k:Int)+1)])/\Hid (Row wr b1 74 #[Value.int IntKind.i64 0,Value.int IntKind.i64 0,Value.int IntKind.i64 0,Value.int IntKind.i64 0,Value.int IntKind.i64 0,Value.int IntKind.i64 0,Value.int IntKind.i64 0])/\Hid (Ext w wr)) (fun s32 _=>k+1 - (intOf s32).toNat)
 case atStart=>exact⟨0,x0.e.at_,x0.e.at_,rfl,by omega,ZA rfl,ZA rfl,r2,r12,hE⟩
 case round =>
  obtain⟨i,lo,hi,rfl,n1,k1,h1,q2,q1,hE⟩:=hrel;by_cases i1:i<k+1
  ·obtain⟨x,hx⟩:∃x,ds[i]? = some x:=⟨_,List.getElem?_eq_getElem (by rw[<-hm.out];exact i1)⟩
   obtain⟨g',o',k0,x0',x1',x2'⟩:=ZU (h.out.ext hE.out).cells hx;injection k0 with k0;injection k0 with hg ho;subst hg;subst ho;have l0:dcs (ds.take (i+1))=dcs (ds.take i) ++ [x.dc]:=by rw[List.take_add_one,hx];unfold dcs;rw[List.map_append];rfl
   have j1:Hid (min lo x.e.at_=lowD x0.e.at_ (dcs (ds.take (i+1)))):=ZA (by rw[l0,ZE2,<-k1.out];rfl);have p1:Hid (max hi x.e.at_=highD x0.e.at_ (dcs (ds.take (i+1)))):=ZA (by rw[l0,ZD4,<-h1.out];rfl);replace l0:=ZA l0;replace hx:=ZA hx;have m1:=q2.out.lt;have g1:=q1.out.lt;go_wp2_with fail;obtain⟨W5,u0⟩:∃W5,W5=wr.alloc (Obj.cells #[Value.int IntKind.i64 x.seq,Value.int IntKind.i64 x.e.at_,Value.slice x.A x.e.fs.length x.c] 39):=⟨_,rfl⟩
   have r0:Ext wr W5:=by rw[u0];exact(Ext.refl wr).alloc _
   have r5:Row W5 wr.heap.size 39 #[Value.int IntKind.i64 x.seq,Value.int IntKind.i64 x.e.at_,Value.slice x.A x.e.fs.length x.c]:=by rw[u0];exact Row.new wr _ _
   obtain⟨g5,i0⟩:∃g5,g5=wr.heap.size:=⟨_,rfl⟩
   rw[<-u0,<-i0];rw[<-i0]at r5;have p2:=q2.out.ext r0;have v2:=p2.cell 2 rfl;have v3:=p2.cell 3 rfl;have f2:=p2.free 2;have f3:=p2.free 3;have u1:=r5.cell 1 rfl;have s1:g5≠b2:=by omega
   replace p2:=ZA p2;replace r5:=ZA r5;replace u0:=ZA u0;replace i0:=ZA i0;clear x0' x1' x2' g1 m1;go_region;have e1:∀g t cs,g≠b2->Row W5 g t cs->Row (((W5.setCell ⟨b2,2,none⟩ (.int .i64 (min lo x.e.at_))).setCell ⟨b2,3,none⟩ (.int .i64 (max hi x.e.at_))).drew) g t cs:=fun g t cs hg hr=>(hr.away (p:=⟨b2,2,none⟩) hg _).away (p:=⟨b2,3,none⟩) hg _;have y1:w.heap.size<=b2:=by rw[z0.out];exact j0.size
   have w0:Ext w (((W5.setCell ⟨b2,2,none⟩ (.int .i64 (min lo x.e.at_))).setCell ⟨b2,3,none⟩ (.int .i64 (max hi x.e.at_))).drew):=(((hE.out.trans r0).setCell (p:=⟨b2,2,none⟩) y1 _).setCell (p:=⟨b2,3,none⟩) y1 _).drew;have p9:Row (((W5.setCell ⟨b2,2,none⟩ (.int .i64 (min lo x.e.at_))).setCell ⟨b2,3,none⟩ (.int .i64 (max hi x.e.at_))).drew) b2 74 #[Value.int IntKind.i64 0,Value.int IntKind.i64 0,Value.int IntKind.i64 (min lo x.e.at_),Value.int IntKind.i64 (max hi x.e.at_),Value.int IntKind.i64 x0.seq,Value.int IntKind.i64 xl.seq,Value.int IntKind.i64 ((k:Int)+1)]:=(p2.out.put 2 _).put 3 _;have q19:=e1 b1 _ _ (by omega) (q1.out.ext r0);replace w0:=ZA w0;replace p9:=ZA p9;replace q19:=ZA q19;go_wp2_with fail;go_roundw
   case rel=>exact⟨i+1,_,_,rfl,by omega,j1,p1,p9,q19,w0⟩
   case measure=>simp only[intOf];omega
  ·have s0:ds.take i=ds:=List.take_of_length_le (by rw[<-hm.out];omega);rw[s0]at k1 h1;have v0:=q2.out.cell 0 rfl;have v1:=q2.out.cell 1 rfl;have v2:=q2.out.cell 2 rfl;have v3:=q2.out.cell 3 rfl;have v4:=q2.out.cell 4 rfl;have v5:=q2.out.cell 5 rfl;have v6:=q2.out.cell 6 rfl;have f0:=q1.out.free 0;have f1:=q1.out.free 1;have f2:=q1.out.free 2;have f3:=q1.out.free 3;have f4:=q1.out.free 4;have f5:=q1.out.free 5;have f6:=q1.out.free 6;have t0:=q1.out.cell 0 rfl;have t1:=q1.out.cell 1 rfl;have t2:=q1.out.cell 2 rfl;have t3:=q1.out.cell 3 rfl;have t4:=q1.out.cell 4 rfl;have t5:=q1.out.cell 5 rfl;have t6:=q1.out.cell 6 rfl;go_wp2_with fail;have q0:w.heap.size<=b1:=by rw[y0.out];exact Nat.le_refl _
   have l1:=((((((q1.out.put 0 (.int .i64 0)).put 1 (.int .i64 0)).put 2 (.int .i64 lo)).put 3 (.int .i64 hi)).put 4 (.int .i64 x0.seq)).put 5 (.int .i64 xl.seq)).put 6 (.int .i64 ((k:Int)+1));have z1:=((((((hE.out.setCell (p:=⟨b1,0,none⟩) q0 (.int .i64 0)).setCell (p:=⟨b1,1,none⟩) q0 (.int .i64 0)).setCell (p:=⟨b1,2,none⟩) q0 (.int .i64 lo)).setCell (p:=⟨b1,3,none⟩) q0 (.int .i64 hi)).setCell (p:=⟨b1,4,none⟩) q0 (.int .i64 x0.seq)).setCell (p:=⟨b1,5,none⟩) q0 (.int .i64 xl.seq)).setCell (p:=⟨b1,6,none⟩) q0 (.int .i64 ((k:Int)+1));refine bodyPost_ret (ZCf rfl _ _ b1 #[.int .i64 0,.int .i64 0,.int .i64 lo,.int .i64 hi,.int .i64 x0.seq,.int .i64 xl.seq,.int .i64 ((k:Int)+1)] rfl (run_loadVar_row _ b1 74 74 _ (0,0) _ l1 Tryz.underlying74 rfl (by kernel_rfl))) rfl ⟨?_,z1⟩;rw[p0.out,<-k1.out,<-h1.out];rfl
end
end Go.Proofs.YtkdcnhnaiknaaaaGreat
