/- Texts of one proof, joined. -/
import Derived.Test.YtpnlihgcboepeaaGreatPN07
import Derived.Shelf.RegionOpen
import Derived.Laws.OwnMore
set_option linter.unusedSimpArgs false
set_option linter.unusedVariables false
set_option maxRecDepth 100000
set_option maxHeartbeats 16000000
namespace Go.Proofs.YtpnlihgcboepeaaGreat
open _root_.Go.Proofs.Tryz
variable {cs:Array Value} {z z1 z2:Int} {L f r s:List UInt8} {B X base c g i j k m n:Nat} {A:Option Addr} {V:Value} {W W1 w w0 w1:World}
section
open Go.RowKit
attribute [local go_sem] Oper.semAt_some AP Cp
theorem BP (h1 : -9223372036854775808<=z) (h2:z<9223372036854775808):IntKind.i64.wrap z=z:=by
 simp[IntKind.wrap,IntKind.bits,IntKind.signed];omega
structure Blk where
  last:Int
  b:List UInt8
  A:Option Addr
  c:Nat
def Blk.args (x:Blk):Array Value:=#[.int .i64 x.last,.slice x.A x.b.length x.c]
def StB (W A B:World):Prop:=Chg (fun k=>W.heap.size<=k/\∀t cs,Row A k t cs->t=3) A B
theorem StB.ext {W A B:World} (h:Ext A B):StB W A B:=Chg.of_ext h _
theorem StB.alike {W A B:World} (h:Alike X A B) (J:W.heap.size<=X):StB W A B :=
 ⟨h.os,h.tape,h.output,h.size,fun k hk H=>h.block k hk fun d=>H ⟨by have:=d.1;omega,fun t cs Y=>(NC.not_row Y d).elim⟩⟩
theorem StB.num {W A B : World} (h : Chg (fun k => k = g) A B) (U : W.heap.size ≤ g) (H : Row A g 3 cs) : StB W A B :=
  ⟨h.os, h.tape, h.output, h.size, fun k hk J => h.block k hk fun Y => J ⟨by omega, fun t cs' d => by
    rw [Y] at d
    unfold Row at H d
    rw [H] at d
    injection d with e
    injection e with _ e
    exact e.symm⟩⟩
theorem StB.old {W A B:World} (h:StB W A B) (k:Nat) (o:Obj) (hk:k<W.heap.size) (d:A.heap[k]? = some o) (_:o.isCells=false):B.heap[k]? = some o :=
 (h.block k (Array.getElem?_eq_some_iff.1 d).1 fun H=>by have:=H.1;omega).trans d
def KpB (B:Nat) (W W':World):Prop:=(∀w0:World,w0.heap.size<=B->Ext w0 W->Ext w0 W')/\∀g t cs,t≠25->t≠5->Row W g t cs->Row W' g t cs
theorem KpB.trans (B:Nat) (A C D:World) (h:KpB B A C) (k:KpB B C D):KpB B A D:=⟨fun w0 d H=>k.1 w0 d (h.1 w0 d H),fun g t cs h1 h2 Y=>k.2 g t cs h1 h2 (h.2 g t cs h1 h2 Y)⟩
theorem KpB.alike (Y:B<=X) (A C:World) (h:Alike X A C):KpB B A C:=⟨fun _ hs d=>h.ext d (by omega),fun _ _ _ _ _ H=>h.row H⟩
theorem KpB.ext {A C:World} (h:Ext A C):KpB B A C:=⟨fun _ _ d=>d.trans h,fun _ _ _ _ _ H=>H.ext h⟩
def NxB (P:List Dc) (pre:List Blk) (x:Blk) (W:World):Prop:=pre.length*16<P.length/\x.last=lastD (lastD 0 (P.take (pre.length*16))) ((P.drop (pre.length*16)).take 16)/\x.b=blockD (lastD 0 (P.take (pre.length*16))) ((P.drop (pre.length*16)).take 16)/\∃base,Buf W base 5 x.A x.b.length x.c (x.b.map B8)
def BlkIter (P:List Dc) (B b0:Nat) (w:World):Prop :=
 IterS prog 213 #[.pointer (some ⟨b0,0,none⟩)] Blk.args StB (NxB P) (KpB B) (fun xs A B=>P.length<=xs.length*16/\B=A) w
def BkI (b0 b1 b2 gy gl l:Nat) (V:Value) (P:List Dc) (J:List Blk->World->Prop) (W w0:World) (r:Nat) (X:World):Prop :=
 (∃xs:List Blk,xs.length=r/\J xs X)/\Row X b0 31 #[V]/\Row X b1 31 #[V]/\Row X b2 3 #[.int .i64 16]/\Row X gy 282 #[.func (.yield l) #[] #[]]/\Row X gl 3 #[.int .i64 (lastD 0 (P.take (r*16)))]/\Ext w0 X/\W.heap.size<=X.heap.size
theorem Li (A:Option Addr) (n c:Nat) (w:World) :
 Calls prog 158 #[.slice A n c] w fun e w'=>∃b0,e = .returned (.func (.func 213) #[] #[.pointer (some ⟨b0,0,none⟩)])/\Row w' b0 31 #[.slice A n c]/\w.heap.size<=b0/\Ext w w':=by
 go_in
 go_wp2_with fail;go_ret;exact⟨w.heap.size,rfl,Row.new w _ _,Nat.le_refl _,(Ext.refl w).alloc _⟩
theorem JR (ds:List DocC) (A:Option Addr) (m c b0 B:Nat) (w0 w:World) (hm:m=ds.length) (h:DocsOk w0 A ds) (hA:∀a,A=some a->a.spot=none) (m7:m<=c) (o2:okDs (dcs ds)=true) (k3:(blockD 0 (dcs ds)).length<=50000000)
 (hB:w0.heap.size<=B) (hw:Ext w0 w) (l1:Row w b0 31 #[.slice A m c]):BlkIter (dcs ds) B b0 w:=by
 intro l J W hE o1 hY h0;have e1:(dcs ds).length=m:=by unfold dcs;rw[List.length_map,hm]
 have q8:m<=65536:=by
  have:=o2;unfold okDs at this;rw[Bool.and_eq_true]at this;have:=of_decide_eq_true this.1;omega
 obtain⟨P,hP⟩:=Ab (dcs ds);rw[<-hP]at e1 o2 k3 hY ⊢;replace l1:=Aa (l1.ext hE);replace hw:=Aa (hw.trans hE);clear hE;replace hm:=Aa hm;replace h:=Aa h;replace hA:=Aa hA;replace hP:=Aa hP;replace o2:=Aa o2;replace k3:=Aa k3;replace e1:=Aa e1;replace hY:=Aa hY;replace o1:=Aa o1;replace h0:=Aa h0;refine(callsIn_wide (n:=0)).1 ?_;refine callsIn_of_wp_marks func213 rfl trivial ?_;simp only[ntmps213,List.size_toArray,List.length_cons,List.length_nil,Nat.reduceAdd,Nat.reduceSub,Array.replicate_succ,Array.replicate_zero,List.push_toArray,List.append_toArray,List.nil_append,List.cons_append];have k0:=l1.out.cell 0 rfl;have k0l:=l1.out.lt;gi_wp2_with fail;obtain⟨W3,d0⟩:=Ab ((W.alloc (Obj.cells #[Value.func (.yield l) #[] #[]] 282)).alloc (Obj.cells #[Value.int IntKind.i64 0] 3));rw[<-d0];obtain⟨gy,f0⟩:=Ab W.heap.size;rw[<-f0];have qy:Row W3 gy 282 #[Value.func (.yield l) #[] #[]]:=by rw[d0,f0];exact(Row.new W _ _).alloc _
 have ql:Row W3 (gy+1) 3 #[.int .i64 0]:=by
  have:=Row.new (W.alloc (Obj.cells #[Value.func (.yield l) #[] #[]] 282)) 3 #[.int .i64 0];rw[World.size_alloc,<-f0]at this;rw[d0];exact this
 have c0:Ext W W3:=by rw[d0];exact((Ext.refl W).alloc _).alloc _
 have m4:W3.heap.size=gy+2:=by rw[d0,f0];simp
 refine(callsIn_wide.2 (Lo A m c 16 W3 (by omega) (by omega))).mono ?_;rintro e w4 ⟨b1,b2,rfl,rb1,rb2,l6,o6,y7,I⟩;have y3:BkI b0 b1 b2 gy (gy+1) l (.slice A m c) P J W w0 0 w4:=⟨⟨[],rfl,o1.out _ _ _ h0.out (StB.ext (c0.trans I))⟩,(l1.out.ext c0).ext I,rb1,rb2,qy.ext I,by rw[Nat.zero_mul,List.take_zero];exact ql.ext I,hw.out.trans (c0.trans I),(c0.trans I).size⟩
 have o3:=JU A m c 16 b1 b2 w4 rb1 rb2 (by omega) (by omega) (by omega) m7;rw[m4]at l6 o6;have j6:W.heap.size<=w4.heap.size:=(c0.trans I).size;have x5:=rb2.lt;have n7:B<=w4.heap.size\/w4.heap.size<B:=by omega
 have p6:w0.heap.size<=w4.heap.size:=(hw.out.trans (c0.trans I)).size;have Z:∀r A2 B2,BkI b0 b1 b2 gy (gy+1) l (.slice A m c) P J W w0 r A2->Alike w4.heap.size A2 B2->BkI b0 b1 b2 gy (gy+1) l (.slice A m c) P J W w0 r B2:=by
  rintro r A2 B2 ⟨⟨xs,hx,hj⟩,r1,r2,r3,r4,r5,he,hs⟩ O;exact⟨⟨xs,hx,o1.out _ _ _ hj (StB.alike O j6)⟩,O.row r1,O.row r2,O.row r3,O.row r4,O.row r5,O.ext he p6,Nat.le_trans hs O.size⟩
 have y1:∀r A2 B2,BkI b0 b1 b2 gy (gy+1) l (.slice A m c) P J W w0 r A2->Ext A2 B2->BkI b0 b1 b2 gy (gy+1) l (.slice A m c) P J W w0 r B2:=by
  rintro r A2 B2 ⟨⟨xs,hx,hj⟩,r1,r2,r3,r4,r5,he,hs⟩ O;exact⟨⟨xs,hx,o1.out _ _ _ hj (StB.ext O)⟩,r1.ext O,r2.ext O,r3.ext O,r4.ext O,r5.ext O,he.trans O,Nat.le_trans hs O.size⟩
 replace y3:=Aa y3;replace o3:=Aa o3;replace d0:=Aa d0;replace f0:=Aa f0;replace Z:=Aa Z;replace y1:=Aa y1;clear qy ql c0 I rb1 rb2 m4 k0 k0l l1;gi_wp2_with fail;unfold ChIterB at o3;refine C8 (gf:=258) (lb:=#[.pointer (some ⟨b1,0,none⟩),.pointer (some ⟨b2,0,none⟩)]) rfl (enters_of func258 (by kernel_rfl) rfl) o3.out (fun _=>rfl) (fun _ _ h=>h.others) (fun _ _ _ h=>h.2.2.2.others) (KeepB.trans b1 b2) ?kb
  (fun pre X=>BkI b0 b1 b2 gy (gy+1) l (.slice A m c) P J W w0 pre.length X) (fun pre A B h O=>Z.out _ _ _ h O) (fun pre A B h hE=>y1.out _ _ _ h hE) ?h0 ?hround ?hdone
 case kb =>
  have v5:=(y3.out.2.2.1).lt;exact KeepB.alike v5 x5
 case h0=>exact fun X O=>Z.out _ _ _ y3.out O
 case hround =>
  rintro l2 pre i X hI ⟨hi,e5⟩;subst hi;have hR:=Ho o2.out k3.out (r:=pre.length) (by rw[e1.out];exact e5);obtain⟨j,hj⟩:=Ab (min 16 (m - pre.length*16));obtain⟨cb,a2⟩:=Ab ((ds.drop (pre.length*16)).take 16);have l0:cb.length=j:=by rw[a2,hj,List.length_take,List.length_drop,hm.out]
  obtain⟨A',x3⟩:=Ab (A.map fun a=>a.add (pre.length*16*3):Option Addr);have q1:DocsOk w0 A' cb:=by rw[x3,a2];exact h.out.part hA.out _ _
  have t4:chunkVB A m 16 pre.length = .slice A' j j:=by unfold chunkVB;rw[x3,hj]
  obtain⟨bP,n1⟩:=Ab ((P.drop (pre.length*16)).take 16);have i0:bP=cb.map DocC.dc:=by rw[n1,a2,hP.out,dcs,<-List.map_drop,<-List.map_take]
  obtain⟨lst,G⟩:=Ab (lastD 0 (P.take (pre.length*16)));rw[<-n1,<-G]at hR;have a7:j<=16:=by omega
  have q3:pre.length*16<P.length:=by rw[e1.out];exact e5
  replace hI:=Aa hI;replace hR:=Aa hR;rw[t4];clear t4;replace q1:=Aa q1;replace x3:=Aa x3;replace a2:=Aa a2;replace hj:=Aa hj;replace n1:=Aa n1;replace G:=Aa G;replace l0:=Aa l0;replace i0:=Aa i0;replace q3:=Aa q3;gi_wp2_with fail;refine⟨KeepsOthers.refl _,KeepB.refl _ _ _,fun X2 f4=>?_⟩;have b6:=Z.out _ _ _ hI.out f4;clear f4 hI;obtain⟨⟨xs,c4,y4⟩,rr0,rr1,rr2,rry,rrl,k2,k8⟩:=b6;rw[<-G.out]at rrl;obtain⟨Y,m2⟩:=Ab (blockD lst bP);obtain⟨lz,i2⟩:=Ab (lastD lst bP);have g7:=hR.out.lo;have p7:=hR.out.hi;have i6:Y.length<=50000000:=by have:=hR.out.len;have:=k3.out;rw[m2];omega
  have z7:W.heap.size<=gy:=Nat.le_of_eq f0.out.symm;have d7:=hw.out.size;have w5:=Aa (fun A n c x l W h1 h2 h3 h4 h5=>Cm A n c x l W h1 h2 h3 h4 h5);have b5:=Aa (fun A n c l e B d W h1 h2 h3 h4 h5 h6 h7=>ND A n c l e B d W h1 h2 h3 h4 h5 h6 h7);replace c4:=Aa c4;replace y4:=Aa y4;replace rr0:=Aa rr0;replace rr1:=Aa rr1;replace rr2:=Aa rr2;replace rry:=Aa rry;replace rrl:=Aa rrl;replace k2:=Aa k2;replace m2:=Aa m2;replace i2:=Aa i2;gi_wp2_with fail
  gi_loopw [5,13] (fun s5 s13 wr=>∃(i n5 c5:Nat) (A5:Option Addr) (Xb:List UInt8) (la:Int),s5 = .slice A5 n5 c5/\s13 = .int .i64 (i:Int)/\i<=j/\n5<=50000000/\0<=la/\la<1099511627777/\Hid (Y=Xb++blockD la (bP.drop i))/\Hid (risB 1099511627777 la ((bP.drop i).map (·.1))=true)/\Hid (lastD la (bP.drop i)=lz)/\Hid (Own8 wr 0 A5 n5 c5 Xb)/\Hid (Row wr (gy+1) 3 #[.int .i64 la])/\Hid (Chg (fun k=>k=gy+1) X2 wr)) (fun _ s13 _=>j - (intOf s13).toNat)
  case atStart=>exact⟨0,0,0,none,[],lst,rfl,rfl,by omega,by omega,g7,p7,Aa (by rw[m2.out];rfl),Aa hR.out.ris,Aa (by rw[i2.out];rfl),Aa ⟨rfl,Buf.nil _ _ _⟩,rrl,Aa (Chg.refl _ _)⟩
  case round =>
   obtain⟨i,n5,c5,A5,Xb,la,rfl,rfl,h8,p8,b7,c7,t5,t7,d5,y0,p3,j0⟩:=hrel;have j2:Hid (Ext w0 wr):=Aa (k2.out.chg j0.out fun k hk e=>by omega);by_cases j7:i<j
   ·obtain⟨x,j3⟩:∃x,cb[i]? = some x:=⟨_,List.getElem?_eq_getElem (by rw[l0.out];exact j7)⟩
    obtain⟨g,o,z6,x0,x1,x2⟩:=AR (q1.out.cells.ext j2.out) j3;subst z6;have m3:=q1.out.each x (List.mem_of_getElem? j3);have d3:bP[i]? = some x.dc:=by rw[i0.out,List.getElem?_map,j3];rfl
    have j4:=hR.out.pos x.dc (List.mem_of_getElem? d3);have y2:=t5.out;have j1:=t7.out;have e2:=d5.out;rw[AY d3]at y2 j1 e2;rw[List.map_cons]at j1;obtain⟨e3,f3,m1⟩:=BW j1;obtain⟨W5,e0⟩:=Ab (wr.alloc (Obj.cells #[Value.int IntKind.i64 x.seq,Value.int IntKind.i64 x.e.at_,Value.slice x.A x.e.fs.length x.c] 109));have d1:Ext wr W5:=by rw[e0];exact(Ext.refl wr).alloc _
    have rp:Row W5 wr.heap.size 109 #[Value.int IntKind.i64 x.seq,Value.int IntKind.i64 x.e.at_,Value.slice x.A x.e.fs.length x.c]:=by rw[e0];exact Row.new wr _ _
    obtain⟨q,hq⟩:∃q:Nat,(q:Int)=x.seq - la - 1:=⟨(x.seq - la - 1).toNat,by have:la<x.seq:=e3;omega⟩
    obtain⟨X1,b3⟩:=Ab (Xb++vb q);obtain⟨X3,i1⟩:=Ab (X1++putE x.e);have t0:Y=X3++blockD x.seq (bP.drop (i+1)):=by
     rw[y2,i1,b3];show Xb++((vb (x.seq - la - 1).toNat++putE x.e)++_)=_;rw[show (x.seq - la - 1).toNat=q by omega];simp[DocC.dc]
    have g5:X3.length<=50000000:=by rw[t0,List.length_append]at i6;omega
    have g4:X1.length<=X3.length:=by rw[i1,List.length_append];omega
    have w3:checkE x.e.fs=0:=by unfold okD at j4;exact of_decide_eq_true j4
    have e3:la<x.seq:=e3;have f3:x.seq<1099511627777:=f3;have q4:=p3.out.ext d1;have o0:lastD x.seq (bP.drop (i+1))=lz:=e2;obtain⟨seq,⟨at_,fs⟩,Bx,cB⟩:=x;simp only at x0 x1 x2 e0 rp hq i1 t0 w3 e3 f3 m1 o0 m3;obtain⟨fl,i3⟩:=Ab fs.length;rw[<-i3]at x2 e0 rp;obtain⟨gd,l3⟩:=Ab wr.heap.size;rw[<-l3]at rp;have p0:=rp.cell 0 rfl;have p1:=rp.cell 1 rfl;have p2:=rp.cell 2 rfl;have pl:=q4.cell 0 rfl;replace i3:=Aa i3;replace l3:=Aa l3;replace e0:=Aa e0;replace rp:=Aa rp;replace q4:=Aa q4;replace d1:=Aa d1;replace b3:=Aa b3;replace i1:=Aa i1;replace t0:=Aa t0;replace hq:=Aa hq;replace w3:=Aa w3;replace m3:=Aa m3;replace m1:=Aa m1;replace o0:=Aa o0;replace d3:=Aa d3;replace j4:=Aa j4;replace j3:=Aa j3;clear y2 j1 e2;gi_wp2_with fail;rw[<-e0.out,<-l3.out];have i5:prog.follows .mixedOrders=true:=by kernel_rfl
    have j8:IntKind.i64.wrap (seq - la)=seq - la:=BP (by omega) (by omega);have g8:IntKind.i64.wrap (seq - la - 1)=(q:Int):=by rw[BP (by omega) (by omega)];exact hq.out.symm
    have m8:=AH (m:=q) (by have:=hq.out;omega);have g0:=Aa (w5.out A5 n5 c5 q Xb W5.drew y0.out.1 (y0.out.2.ext (d1.out.trans (Ext.refl W5).drew)).cells y0.out.nil_ (by omega) (by have:=hq.out;omega));rw[<-b3.out]at g0;obtain⟨n6,p4⟩:=Ab X1.length;have d2:Hid (∀A6 c6 W6,Buf W6 W5.drew.heap.size 5 A6 n6 c6 (X1.map B8)->Ext w0 W6->Calls prog 215 #[.slice A6 n6 c6,.agg #[.int .i64 at_,.slice Bx fl cB]] W6 (fun e w'=>OkB' W6 X3 e w')):=Aa fun A6 c6 W6 hb he=>by
     have:=b5.out A6 n6 c6 X1 ⟨at_,fs⟩ Bx cB W6 p4 hb.cells hb.none_cap (by omega) (m3.out.1.ext he) w3.out m3.out.2.1;unfold Ev.val at this;rw[<-i1.out]at this;simp only at this;rw[<-i3.out]at this;exact this
    obtain⟨n8,b4⟩:=Ab X3.length;have n4:Hid (Ext w0 W5.drew):=Aa (j2.out.trans (d1.out.trans (Ext.refl W5).drew));have rpd:Hid (Row W5.drew gd 109 #[Value.int IntKind.i64 seq,Value.int IntKind.i64 at_,Value.slice Bx fl cB]):=Aa rp.out.drew;have f2:=Aa q4.out.drew;unfold NewB at g0;unfold OkB' at d2;rw[<-p4]at g0 g4;rw[<-b4]at d2 g5 g4;replace p4:=Aa p4;replace b4:=Aa b4;have q0:W5.drew.cell? ⟨gd,0,none⟩=some (.int .i64 seq)/\W5.drew.cell? ⟨gd,1,none⟩=some (.int .i64 at_)/\W5.drew.cell? ⟨gd,2,none⟩=some (.slice Bx fl cB)/\W5.drew.cell? ⟨gy+1,0,none⟩=some (.int .i64 la):=⟨p0,p1,p2,pl⟩
    refine HV (fun X=>X.cell? ⟨gd,0,none⟩=some (.int .i64 seq)/\X.cell? ⟨gd,1,none⟩=some (.int .i64 at_)/\X.cell? ⟨gd,2,none⟩=some (.slice Bx fl cB)/\X.cell? ⟨gy+1,0,none⟩=some (.int .i64 la)) i5 (by kernel_rfl) ?_;refine wpAnyH_take (i:=0) (v:=?_) rfl (by kernel_rfl) (by kernel_rfl) (by kernel_rfl) (fun _ _ _ h=>h) (Or.inl ⟨by rfl,?_⟩) q0 ?_;rotate_left
    ·intro wx H;obtain⟨s0,s1,s2,s3⟩:=H;go_simp
     try with_reducible rfl
    try simp only[Act.put,Bv,Bw,By]
    refine wpAnyH_take (i:=1) (v:=?_) rfl (by kernel_rfl) (by kernel_rfl) (by kernel_rfl) (fun _ _ _ h=>h) (Or.inl ⟨by rfl,?_⟩) q0 ?_;rotate_left
    ·intro wx H;obtain⟨s0,s1,s2,s3⟩:=H;go_simp
     try with_reducible rfl
    try simp only[Act.put,Bv,Bw,By]
    refine wpAnyH_take (i:=2) (v:=?_) rfl (by kernel_rfl) (by kernel_rfl) (by kernel_rfl) (fun _ _ _ h=>h) (Or.inl ⟨by rfl,?_⟩) q0 ?_;rotate_left
    ·intro wx H;obtain⟨s0,s1,s2,s3⟩:=H;go_simp
     try with_reducible rfl
    try simp only[Act.put,Bv,Bw,By]
    refine wpAnyH_take (i:=3) (v:=?_) rfl (by kernel_rfl) (by kernel_rfl) (by kernel_rfl) (fun _ _ _ h=>h) (Or.inl ⟨by rfl,?_⟩) q0 ?_;rotate_left
    ·intro wx H;obtain⟨s0,s1,s2,s3⟩:=H;go_simp
     try with_reducible rfl
    try simp only[Act.put,Bv,Bw,By]
    refine wpAnyH_take (i:=4) (v:=?_) rfl (by kernel_rfl) (by kernel_rfl) (by kernel_rfl) (fun _ _ _ h=>h) (Or.inl ⟨by rfl,?_⟩) q0 ?_;rotate_left
    ·intro wx H;obtain⟨s0,s1,s2,s3⟩:=H;go_simp
     try with_reducible rfl
    try simp only[Act.put,Bv,Bw,By]
    refine wpAnyH_take (i:=5) (v:=?_) rfl (by kernel_rfl) (by kernel_rfl) (by kernel_rfl) (fun _ _ _ h=>h) (Or.inl ⟨by rfl,?_⟩) q0 ?_;rotate_left
    ·intro wx H;obtain⟨s0,s1,s2,s3⟩:=H;go_simp
     try with_reducible rfl
    try simp only[Act.put,Bv,Bw,By]
    refine wpAnyH_take (i:=6) (v:=?_) rfl (by kernel_rfl) (by kernel_rfl) (by kernel_rfl) (fun _ _ _ h=>h) (Or.inl ⟨by rfl,?_⟩) q0 ?_;rotate_left
    ·intro wx H;obtain⟨s0,s1,s2,s3⟩:=H;go_simp
     try with_reducible rfl
    try simp only[Act.put,Bv,Bw,By]
    refine wpAnyH_take (i:=8) (v:=?_) rfl (by kernel_rfl) (by kernel_rfl) (by kernel_rfl) (fun _ _ _ h=>h) (Or.inl ⟨by rfl,?_⟩) q0 ?_;rotate_left
    ·intro wx H;obtain⟨s0,s1,s2,s3⟩:=H;go_simp
     try with_reducible rfl
    try simp only[Act.put,Bv,Bw,By]
    refine wpAnyH_take (i:=9) (v:=?_) rfl (by kernel_rfl) (by kernel_rfl) (by kernel_rfl) (fun _ _ _ h=>h) (Or.inl ⟨by rfl,?_⟩) q0 ?_;rotate_left
    ·intro wx H;obtain⟨s0,s1,s2,s3⟩:=H;go_simp
     try with_reducible rfl
    try simp only[Act.put,Bv,Bw,By]
    refine wpAnyH_ready (rs:= [7]) (by kernel_rfl) (by simp) ?_;refine AllReadyH.cons rfl (fun K hK=>?_) AllReadyH.nil;go_simp;refine g0.out.mono ?_;rintro e w6 ⟨A6,c6,rfl,v4,U⟩;have q7:=Aa (d2.out A6 c6 w6 v4 (n4.out.trans U));have f6:w6.cell? ⟨gd,0,none⟩=some (.int .i64 seq)/\w6.cell? ⟨gd,1,none⟩=some (.int .i64 at_)/\w6.cell? ⟨gd,2,none⟩=some (.slice Bx fl cB)/\w6.cell? ⟨gy+1,0,none⟩=some (.int .i64 la):=⟨(rpd.out.ext U).cell 0 rfl,(rpd.out.ext U).cell 1 rfl,(rpd.out.ext U).cell 2 rfl,(f2.out.ext U).cell 0 rfl⟩
    replace v4:=Aa v4;replace U:=Aa U;refine hK.out _ _ f6 (fun _=>?_);clear hK K
    try simp only[Act.put,Bv,Bw,By]
    refine wpAnyH_ready (rs:= [10]) (by kernel_rfl) (by simp) ?_;refine AllReadyH.cons rfl (fun K hK=>?_) AllReadyH.nil;go_simp;refine q7.out.mono ?_;rintro e w8 ⟨A8,c8,rfl,q2,m0⟩;have f1:w8.cell? ⟨gd,0,none⟩=some (.int .i64 seq)/\w8.cell? ⟨gd,1,none⟩=some (.int .i64 at_)/\w8.cell? ⟨gd,2,none⟩=some (.slice Bx fl cB)/\w8.cell? ⟨gy+1,0,none⟩=some (.int .i64 la):=⟨((rpd.out.ext U.out).ext m0).cell 0 rfl,((rpd.out.ext U.out).ext m0).cell 1 rfl,((rpd.out.ext U.out).ext m0).cell 2 rfl,((f2.out.ext U.out).ext m0).cell 0 rfl⟩
    have r8:=Aa ((f2.out.ext U.out).ext m0);have v1:=r8.out.free 0;have o4:=Aa (d1.out.trans ((Ext.refl W5).drew.trans (U.out.trans m0)));replace q2:=Aa q2;replace m0:=Aa m0;refine hK.out _ _ f1 (fun _=>?_);clear hK K
    try simp only[Act.put,Bv,Bw,By]
    refine wpAnyH_take (i:=11) (v:=?_) rfl (by kernel_rfl) (by kernel_rfl) (by kernel_rfl) (fun _ _ _ h=>h) (Or.inl ⟨by rfl,?_⟩) f1 ?_;rotate_left
    ·intro wx H;obtain⟨s0,s1,s2,s3⟩:=H;go_simp
     try with_reducible rfl
    try simp only[Act.put,Bv,Bw,By]
    refine wpAnyH_take (i:=12) (v:=?_) rfl (by kernel_rfl) (by kernel_rfl) (by kernel_rfl) (fun _ _ _ h=>h) (Or.inl ⟨by rfl,?_⟩) f1 ?_;rotate_left
    ·intro wx H;obtain⟨s0,s1,s2,s3⟩:=H;go_simp
     try with_reducible rfl
    try simp only[Act.put,Bv,Bw,By]
    refine wpAnyH_take (i:=13) (v:=?_) rfl (by kernel_rfl) (by kernel_rfl) (by kernel_rfl) (fun _ _ _ h=>h) (Or.inl ⟨by rfl,?_⟩) f1 ?_;rotate_left
    ·intro wx H;obtain⟨s0,s1,s2,s3⟩:=H;go_simp
     try with_reducible rfl
    try simp only[Act.put,Bv,Bw,By]
    refine wpAnyH_take (i:=14) (v:=?_) rfl (by kernel_rfl) (by kernel_rfl) (by kernel_rfl) (fun _ _ _ h=>h) (Or.inl ⟨by rfl,?_⟩) f1 ?_;rotate_left
    ·intro wx H;obtain⟨s0,s1,s2,s3⟩:=H;go_simp
     try with_reducible rfl
    try simp only[Act.put,Bv,Bw,By]
    refine wpAnyH_done (by kernel_rfl) ?_ _;dsimp only[OnlyN];obtain⟨z0,z1,z2,z3⟩:=f1;gi_wp2_with fail;have o5:Own8 (w8.setCell ⟨gy+1,0,none⟩ (.int .i64 seq)) 0 A8 n8 c8 X3:=⟨q2.out.1,(q2.out.2.lower (Nat.zero_le _)).setCell (q2.out.2.unlike r8.out (by decide)) _⟩
    have y5:Chg (fun k=>k=gy+1) X2 (w8.setCell ⟨gy+1,0,none⟩ (.int .i64 seq)):=(j0.out.trans (Chg.of_ext o4.out _) fun _ _ h=>h).trans (Chg.of_set (S:=fun k=>k=gy+1) w8 _ rfl) fun _ _ h=>h;exact⟨⟨i+1,n8,c8,A8,X3,seq,rfl,rfl,by omega,by omega,by omega,f3,t0,m1,o0,Aa o5,Aa (r8.out.put 0 _),Aa y5⟩,by simp only[intOf];omega⟩
   ·obtain rfl:i=j:=by omega
    have z5:bP.drop i = []:=List.drop_eq_nil_of_le (by rw[i0.out,List.length_map,l0.out];exact Nat.le_refl _);have a4:Y=Xb:=by have:=t5.out;rw[z5]at this;simpa [blockD]using this
    have n0:la=lz:=by have:=d5.out;rw[z5]at this;exact this
    have z4:=o1.out _ _ _ y4.out (StB.num (W:=W) j0.out (by omega) rrl.out);have ryr:=j0.out.row rry.out (by omega);have r0r:=j0.out.row rr0.out (fun e=>Row.unlike rr0.out rrl.out (by decide) e);have r1r:=j0.out.row rr1.out (fun e=>Row.unlike rr1.out rrl.out (by decide) e);have r2r:=j0.out.row rr2.out (by omega);have ky:=ryr.cell 0 rfl;have kl:=p3.out.cell 0 rfl;have a1:=c4.out;have r0:=y0.out.1;have x7:=hY.out xs ⟨la,Xb,A5,c5⟩ wr z4 ⟨by rw[a1];exact q3.out,by rw[a1,<-n1.out,<-G.out,n0,i2.out],by rw[a1,<-n1.out,<-G.out,<-a4,m2.out],0,by have:=y0.out.2;rw[r0]at this;exact this⟩;obtain⟨fn,tmps,assign,body,hy,j5⟩:=x7;simp only[Blk.args]at hy j5;rw[<-r0]at hy;replace r0:=Aa r0;replace z4:=Aa z4;replace ryr:=Aa ryr;replace r0r:=Aa r0r;replace r1r:=Aa r1r;replace r2r:=Aa r2r;replace a4:=Aa a4;replace n0:=Aa n0;clear hY;gi_wp2_with fail;refine RoundIn.mono (F:=Fence.wide.inRound l2) j5 ?_;rintro e W9 ⟨rfl,e6,v0,l5⟩;gi_wp2_with fail;have f5:(pre ++ [pre.length]).length=pre.length+1:=by rw[List.length_append];rfl
    refine⟨(j0.out.others fun k hk=>⟨3,#[.int .i64 lst],by rw[hk];exact rrl.out⟩).trans l5,KeepB.of rr1.out (v0.2 _ _ _ (by decide) (by decide) r1r.out) rr2.out (v0.2 _ _ _ (by decide) (by decide) r2r.out),⟨_,?_,e6⟩,v0.2 _ _ _ (by decide) (by decide) r0r.out,v0.2 _ _ _ (by decide) (by decide) r1r.out,v0.2 _ _ _ (by decide) (by decide) r2r.out,v0.2 _ _ _ (by decide) (by decide) ryr.out,?_,v0.1 w0 hB j2.out,?_⟩
    ·rw[List.length_append,a1,f5];rfl
    ·rw[f5,hR.out.last2,<-i2.out,<-n0.out];exact v0.2 _ _ _ (by decide) (by decide) p3.out
    ·have:=j0.out.size;have:=l5.size;omega
 case hdone =>
  rintro D xs X2 X3 X4 hD hI ⟨a6,r7,w7,q5⟩ i4 hk;have d6:=Aa (Z.out _ _ _ (y1.out _ _ _ hI q5) i4);replace hk:=Aa hk;clear hI i4 q5;gi_wp2_with fail;refine BR (B:=w4.heap.size) rfl hk.out hD fun Wz O=>⟨_,results_none rfl _ _ _,?_⟩
  obtain⟨⟨bl,r6,hj⟩,_⟩:=Z.out _ _ _ d6.out O;exact⟨⟨_,rfl⟩,bl,Wz,hj,by rw[r6,e1.out];exact a6,rfl⟩
end
section
open Go.RowKit Go.Shelf
attribute [local go_sem] Oper.semAt_some AP Cp
theorem HB.stb {base h1 h2:Nat} {Hd Bd:List UInt8} {W A B:World} (h:HB base h1 h2 Hd Bd A) (hs:StB W A B):HB base h1 h2 Hd Bd B:=by
 obtain⟨A1,A2,c1,c2,r1,r2,o1,o2,Y⟩:=h;have hb:∀ {X:Option Addr} {n c:Nat} {xs:List Value},Buf A base 5 X n c xs->Buf B base 5 X n c xs:=fun hb=>hb.chg hs fun a H d=>by
  rcases hb.2.2 with ⟨J,_⟩ | ⟨g,cur,U,_,O,_⟩
  ·rw[J]at H;cases H
  ·rw[U]at H;cases H;exact absurd (d.2 _ _ O) (by decide)
 exact⟨A1,A2,c1,c2,hs.row r1 fun d=>absurd (d.2 _ _ r1) (by decide),hs.row r2 fun d=>absurd (d.2 _ _ r2) (by decide),⟨o1.1,hb o1.2⟩,⟨o2.1,hb o2.2⟩,Y⟩
def SEnc (base h1 h2:Nat) (Hd Bd:List UInt8) (w W:World):Prop:=HB base h1 h2 Hd Bd W/\Ext w W
theorem Gh (ds:List DocC) (A:Option Addr) (m c:Nat) (w:World) (Y:m=ds.length) (h:DocsOk w A ds) (J:m<=1000000000) (U:okDs (dcs ds)=false) :
 Calls prog 103 #[.slice A m c] w fun e w'=>e = .returned (.tuple #[.slice none 0 0,.int .i64 120])/\Ext w w':=by
 have d:=Gg ds A m c w Y h J;rw[U,if_neg (by decide)]at d;replace d:=Aa d;replace Y:=Aa Y;replace h:=Aa h;refine(callsIn_wide (n:=0)).1 ?_;refine callsIn_of_wp_marks func103 rfl trivial ?_;simp only[ntmps103,List.size_toArray,List.length_cons,List.length_nil,Nat.reduceAdd,Nat.reduceSub,Array.replicate_succ,Array.replicate_zero,List.push_toArray,List.append_toArray,List.nil_append,List.cons_append];gi_wp2_with fail;refine(callsIn_wide.2 d.out).mono ?_;rintro e w1 ⟨rfl,H⟩;gi_wp2_with fail;exact F3 rfl (results_tmp2 rfl _ _ _) ⟨rfl,H⟩
theorem Du (ds:List DocC) (A:Option Addr) (m c:Nat) (w:World) (hm:m=ds.length) (h:DocsOk w A ds) (hA:∀a,A=some a->a.spot=none) (v5:m<=c) (q0:okDs (dcs ds)=true) (I:(blockD 0 (dcs ds)).length<=50000000) :
 Calls prog 103 #[.slice A m c] w fun e w'=>OkB w (encDs (dcs ds)) e w':=by
 have w5:m<=65536:=by
  have:=q0;unfold okDs at this;rw[Bool.and_eq_true]at this;have:=of_decide_eq_true this.1;unfold dcs at this;rw[List.length_map]at this;omega
 have x2:=Gg ds A m c w hm h (by omega);rw[q0,if_pos rfl]at x2;have m2:=fun B b0 W hB hw hb=>JR ds A m c b0 B w W hm h hA v5 q0 I hB hw hb;obtain⟨P,hP⟩:=Ab (dcs ds);have l0:P.length=m:=by rw[hP,hm];exact List.length_map ..
 rw[<-hP]at q0 I m2 ⊢;have m1:=Aa (fun A n c x l W h1 h2 h3 h4 h5=>Cm A n c x l W h1 h2 h3 h4 h5);have v6:=AH (m:=m) (by omega);replace x2:=Aa x2;replace m2:=Aa m2;replace l0:=Aa l0;replace hm:=Aa hm;replace h:=Aa h;replace hP:=Aa hP;replace q0:=Aa q0;replace I:=Aa I;replace hA:=Aa hA;refine(callsIn_wide (n:=0)).1 ?_;refine callsIn_of_wp_marks func103 rfl trivial ?_;simp only[ntmps103,List.size_toArray,List.length_cons,List.length_nil,Nat.reduceAdd,Nat.reduceSub,Array.replicate_succ,Array.replicate_zero,List.push_toArray,List.append_toArray,List.nil_append,List.cons_append];gi_wp2_with fail;refine(callsIn_wide.2 x2.out).mono ?_;rintro e w1 ⟨rfl,j4⟩;gi_wp2_with fail;refine(callsIn_wide.2 (m1.out none 0 0 m [] w1 rfl (.inl rfl) (fun _=>rfl) (by omega) (by omega))).mono ?_;rintro e w2 i0;obtain⟨A2,c2,rfl,g0,c0⟩:=i0;rw[List.nil_append]at g0 ⊢;obtain⟨k2,y0⟩:∃k,k=(vb m).length:=⟨_,rfl⟩
 rw[<-y0]at g0 ⊢;replace g0:=Aa g0;replace y0:=Aa y0;replace c0:=Aa (j4.trans c0);gi_wp2_with fail;obtain⟨W3,v0⟩:=Ab ((w2.alloc (Obj.cells #[Value.slice A2 k2 c2] 25)).alloc (Obj.cells #[Value.slice none 0 0] 25));rw[<-v0];obtain⟨h1,x0⟩:=Ab w2.heap.size;have q1:Row W3 h1 25 #[.slice A2 k2 c2]:=by rw[v0,x0];exact(Row.new w2 _ _).alloc _
 have q2:Row W3 (h1+1) 25 #[.slice none 0 0]:=by
  have:=Row.new (w2.alloc (Obj.cells #[Value.slice A2 k2 c2] 25)) 25 #[.slice none 0 0];rw[World.size_alloc,<-x0]at this;rw[v0];exact this
 have O:Ext w2 W3:=by rw[v0];exact((Ext.refl w2).alloc _).alloc _
 have a4:w.heap.size<=h1:=by rw[x0];exact c0.out.size
 have l1:HB w.heap.size h1 (h1+1) (vb m) [] W3:=⟨A2,none,c2,0,by rw[<-y0.out];exact q1,q2,⟨rfl,by rw[<-y0.out];exact(g0.out.lower j4.size).ext O⟩,⟨rfl,Buf.nil _ _ _⟩,fun _ _ _ e=>by cases e⟩
 replace O:=Aa (c0.out.trans O);rw[<-x0];refine(callsIn_wide.2 (Li A m c W3)).mono ?_;rintro e w4 ⟨b0,rfl,rb0,n5,e1⟩;have n1:SEnc w.heap.size h1 (h1+1) (vb m) [] w w4:=⟨l1.ext e1,O.out.trans e1⟩
 have a2:=m2.out w.heap.size b0 w4 (Nat.le_refl _) (O.out.trans e1) rb0;have x1:=n1.2.size;replace n1:=Aa n1;replace a2:=Aa a2;replace v0:=Aa v0;replace x0:=Aa x0;clear q1 q2 l1 e1 rb0 g0 O c0 y0;gi_wp2_with fail;unfold BlkIter at a2;have t0:∀Hd Bd X Y2,SEnc w.heap.size h1 (h1+1) Hd Bd w X->Alike w4.heap.size X Y2->SEnc w.heap.size h1 (h1+1) Hd Bd w Y2:=fun Hd Bd X Y2 hi ha=>⟨hi.1.alike ha,ha.ext hi.2 x1⟩
 have m3:∀Hd Bd W0 X Y2,Ext w4 W0->SEnc w.heap.size h1 (h1+1) Hd Bd w X->StB W0 X Y2->SEnc w.heap.size h1 (h1+1) Hd Bd w Y2:=fun Hd Bd W0 X Y2 h0 hi hs=>⟨hi.1.stb hs,hi.2.chg hs fun i hi hn=>by have:=hn.1;have:=h0.size;omega⟩
 replace t0:=Aa t0;replace m3:=Aa m3;refine Md (gf:=213) (lb:=#[.pointer (some ⟨b0,0,none⟩)]) rfl (enters_of func213 (by kernel_rfl) rfl) a2.out (fun _=>rfl) (fun W A B h k o hk ho hc=>h.old k o hk ho hc) (fun _ _ _ h=>by rw[h.2];exact KeepsOthers.refl _) (KpB.trans w.heap.size) (KpB.alike x1)
  (fun xs X=>SEnc w.heap.size h1 (h1+1) (vb m++headD 0 ((chunkL 16 P).take xs.length)) (blockD 0 (P.take (xs.length*16))) w X) (fun xs A B h ha=>t0.out _ _ _ _ h ha) (fun W0 xs A B h0 h hs=>m3.out _ _ _ _ _ h0 h hs) ?h0 ?hround ?hdone
 case h0 =>
  intro X ha;have:=t0.out _ _ _ _ n1.out ha;simpa [headD,blockD]using this
 case hround =>
  rintro l xs ⟨la,Xb,A9,c9⟩ X hI ⟨t5,d3,x3,base0,m0⟩;simp only at d3 x3 m0;unfold Blk.args;simp only;have hR:=Ho q0.out I.out (r:=xs.length) t5;have x5:=hR.ne;have H:=hR.head;have Y:=hR.body;have hlen:=hR.len;have b3:=hR.hlen;have r0:=hR.hi2;rw[<-d3]at x5 H r0;rw[<-x3]at H Y hlen;clear hR d3 x3;obtain⟨Hd,U⟩:=Ab (vb m++headD 0 ((chunkL 16 P).take xs.length));obtain⟨Bd,Z⟩:=Ab (blockD 0 (P.take (xs.length*16)));rw[<-U,<-Z]at hI;rw[<-Z]at Y hlen;have i3:(xs ++ [(⟨la,Xb,A9,c9⟩:Blk)]).length=xs.length+1:=by rw[List.length_append];rfl
  obtain⟨lN,m5⟩:∃lN:Nat,la=(lN:Int):=⟨la.toNat,by omega⟩
  subst m5;rw[Int.toNat_natCast]at H;have b5:lN<1099511627777:=by have:=r0.2;omega
  obtain⟨n9,j1⟩:=Ab Xb.length;rw[<-j1]at H hlen m0 ⊢;have l5:n9<=50000000:=by have:=I.out;omega
  have a5:Bd.length<=50000000:=by have:=I.out;omega
  have t6:=AH (m:=lN) (by omega);have m6:=AH (m:=n9) (by omega);have z4:Hd.length<=2000000:=by
   have h2:=Ag (n:=m) (by omega);have h6:=l0.out;rw[U,List.length_append];omega
  obtain⟨H1,e0⟩:=Ab (Hd++vb lN);obtain⟨H2,f0⟩:=Ab (H1++vb n9);have j5:=Ag (n:=lN) (by omega);have g5:=Ag (n:=n9) (by omega);have v4:H1.length<=2000010:=by rw[e0,List.length_append];omega
  have x4:H2.length<=2000020:=by rw[f0,List.length_append];omega
  replace hI:=Aa hI;replace m0:=Aa m0;replace U:=Aa U;replace Z:=Aa Z;replace e0:=Aa e0;replace f0:=Aa f0;replace j1:=Aa j1;replace H:=Aa H;replace Y:=Aa Y;replace i3:=Aa i3;clear j5 g5 hlen b3 r0;gi_wp2_with fail;refine⟨KeepsOthers.refl _,KpB.ext (Ext.refl _),fun W2 k3=>?_⟩;have q5:=t0.out _ _ _ _ hI.out k3;have i2:=Aa (k3.buf m0.out);clear k3 hI m0;obtain⟨G,p0⟩:=q5;have y4:=G;obtain⟨A1,B1,c1,d1,r1,r2,o1,o2,y2⟩:=y4;have f1:=r1.cell 0 rfl;obtain⟨nh,f3⟩:=Ab Hd.length;rw[<-f3]at f1 z4 o1;have l4:=p0.size;replace f3:=Aa f3;replace G:=Aa G;replace p0:=Aa p0;replace r1:=Aa r1;replace r2:=Aa r2;replace o1:=Aa o1;replace o2:=Aa o2;replace y2:=Aa y2;gi_wp2_with fail;refine(Bb (m1.out A1 nh c1 lN Hd W2 o1.out.1 o1.out.2.cells o1.out.nil_ (by omega) (by omega))).mono ?_;rintro e w7 i0;obtain⟨A7,c7,rfl,y1,d0⟩:=i0;rw[<-e0.out]at y1 ⊢;obtain⟨n7,d2⟩:=Ab H1.length;rw[<-d2]at y1 v4 ⊢;have l3:Hid (Own8 w7 w.heap.size A7 n7 c7 H1):=Aa ⟨d2,y1.lower l4⟩;replace d2:=Aa d2;replace d0:=Aa d0;clear y1;gi_wp2_with fail;refine(Bb (m1.out A7 n7 c7 n9 H1 w7 l3.out.1 l3.out.2.cells l3.out.nil_ (by omega) (by omega))).mono ?_;rintro e w8 i0;obtain⟨A8,c8,rfl,a1,m4⟩:=i0;rw[<-f0.out]at a1 ⊢;obtain⟨n8,e2⟩:=Ab H2.length;rw[<-e2]at a1 x4 ⊢;have d:Hid (Ext W2 w8):=Aa (d0.out.trans m4);have r18:=r1.out.ext d.out;have s0:=r18.cell 0 rfl;have s1:=r18.free 0;have l2:=Aa (G.out.head (W6:=w8) (B1:=w7.heap.size) (by omega) d.out e2 a1 d0.out.size (by have:=d0.out.size;omega));replace r18:=Aa r18;replace e2:=Aa e2;clear a1 m4;have k0:Ext w (w8.setCell ⟨h1,0,none⟩ (.slice A8 n8 c8)):=(p0.out.trans d.out).setCell (by simpa using a4) _;have r28:Row (w8.setCell ⟨h1,0,none⟩ (.slice A8 n8 c8)) (h1+1) 25 #[.slice B1 Bd.length d1]:=(r2.out.ext d.out).away (by simp) _;have s2:=(r2.out.ext d.out).cell 0 rfl;have z3:Buf (w8.setCell ⟨h1,0,none⟩ (.slice A8 n8 c8)) w.heap.size 5 B1 Bd.length d1 (Bd.map B8):=(o2.out.2.ext d.out).setCell ((o2.out.2.ext d.out).unlike r18.out (by decide)) _;have w3:Cells (w8.setCell ⟨h1,0,none⟩ (.slice A8 n8 c8)) A9 (Xb.map B8):=((i2.out.ext d.out).setCell ((i2.out.ext d.out).unlike r18.out (by decide)) _).cells;have n0:(Xb.map B8).length=n9:=by rw[List.length_map];exact j1.out.symm
  have i4:=k0.size;replace k0:=Aa k0;replace r28:=Aa r28;replace z3:=Aa z3;replace w3:=Aa w3;replace n0:=Aa n0;gi_wp2_with (gi_at_builtin;refine Bu Aw z3.out w3.out (.tmp 30) (.tmp 31) rfl rfl rfl rfl rfl n0.out (Ai _) (by omega) i4 (fun A10 c10 w10 o0 j0 p3 p1=>?_);have r210:=HB.rows l2.out r28.out j0 r28.out (by decide);have u0:=r210.cell 0 rfl;have u1:=r210.free 0;replace r210:=Aa r210;replace o0:=Aa o0;replace j0:=Aa j0;replace p3:=Aa p3;replace p1:=Aa p1);obtain⟨g1,g2,g3,g4⟩:=HB.body (x:=Xb) l2.out (by omega) r28.out j0.out (by rw[List.length_append,<-j1.out]) (by rw[List.map_append];exact o0.out) p1.out;refine⟨(d.out.others.trans (KeepsOthers.setCell _ _ _)).trans g2,⟨fun w0 h0 he=>g4 w0 ((he.trans d.out).setCell (p:=⟨h1,0,none⟩) (by show w0.heap.size<=h1;omega) _) (by omega) (by omega),fun g t cs t1 t2 hr=>?_⟩,?_,g4 _ k0.out (Nat.le_refl _) (by omega)⟩
  ·have d4:=hr.ext d.out;have e4:=d4.away (p:=⟨h1,0,none⟩) (fun e=>Row.unlike d4 r18.out t1 e) (.slice A8 n8 c8);exact g3 _ _ _ e4 t2 (fun e=>Row.unlike e4 r28.out t1 e)
  ·rw[i3.out,H.out,Y.out,<-List.append_assoc,<-List.append_assoc,<-U.out,<-e0.out,<-f0.out];exact g1
 case hdone =>
  rintro D xs W2 W3 W5 hD hI ⟨t4,rfl⟩ p4 hk;have J:=Ir P xs.length t4;rw[l0.out]at J;have j3:=t0.out _ _ _ _ hI p4;have l1:=j3.1;have i1:=j3.2;obtain⟨A1,B1,c1,d1,r1,r2,o1,o2,y2⟩:=l1;obtain⟨Hd,U⟩:=Ab (vb m++headD 0 ((chunkL 16 P).take xs.length));obtain⟨Bd,Z⟩:=Ab (blockD 0 (P.take (xs.length*16)));rw[<-U]at r1 o1 J;rw[<-Z]at r2 o2 J;have f1:=r1.cell 0 rfl;have f2:=r2.cell 0 rfl;have i5:Hd.length<=50000000:=by
   have h2:=Ag (n:=m) (by omega);have h1:=Gy q0.out I.out (chunkL 16 P).length;rw[List.take_length]at h1;have h3:(headD 0 ((chunkL 16 P).take xs.length)).length<=(headD 0 (chunkL 16 P)).length:=by
    have h4:=FD ((chunkL 16 P).take xs.length) ((chunkL 16 P).drop xs.length) 0;rw[List.take_append_drop]at h4;rw[h4,List.length_append];omega
   have h5:=AO (k:=16) (by omega) P;have h6:=l0.out;rw[U,List.length_append];omega
  have e5:Bd.length<=50000000:=by have:=CV P (xs.length*16);have:=I.out;rw[Z];omega
  have f4:=i1.size;have o3:=o2.2.cells;have j2:=o1.2;have e3:(Bd.map B8).length=Bd.length:=List.length_map ..;replace J:=Aa J;replace U:=Aa U;replace Z:=Aa Z;replace r1:=Aa r1;replace r2:=Aa r2;replace o3:=Aa o3;replace j2:=Aa j2;replace e3:=Aa e3;replace i1:=Aa i1;replace hk:=Aa hk;clear hI j3 t4 p4 o1 o2 y2;gi_wp2_with (gi_at_builtin;refine Bu Aw j2.out o3.out (.tmp 33) (.tmp 34) rfl rfl rfl rfl rfl e3.out (Ai _) (by omega) f4 (fun A6 c6 w6 y3 a3 r3 b4=>?_);replace y3:=Aa y3;replace a3:=Aa a3;replace r3:=Aa r3;replace b4:=Aa b4);have p5:w6.heap[D]? = some (.deferred (some [])):=(BL j2.out a3.out).same _ _ hk.out rfl;refine BR (B:=w4.heap.size) rfl p5 hD fun W ha=>⟨_,results_tmp2 rfl _ _ _,?_⟩
  refine⟨A6,c6,?_,⟨rfl,?_⟩,ha.ext (r3.out w i1.out (Nat.le_refl _)) x1⟩
  ·rw[J.out,List.length_append];rfl
  ·rw[J.out,List.length_append,List.map_append];exact ha.buf y3.out
end
section
open Go.RowKit
theorem Ms (a b:List UInt8) (w:World) (ha:a.length<=1000000000) (hb:b.length<=1000000000) :
 Calls prog 182 #[.string ⟨a.toArray⟩,.string ⟨b.toArray⟩] w fun e w'=>e = .returned (.int .i64 (cpl a b:Int))/\Ext w w':=by
 obtain⟨Z,hZ⟩:=Ab (cpl a b);rw[<-hZ];obtain⟨n,hn⟩:=Ab a.length;obtain⟨m,I⟩:=Ab b.length;have y0:(⟨a.toArray⟩:ByteArray).size=n:=by rw[hn];exact ByteArray.size_mk_toArray a
 have b0:(⟨b.toArray⟩:ByteArray).size=m:=by rw[I];exact ByteArray.size_mk_toArray b
 rw[<-hn]at ha;rw[<-I]at hb;have m0:Z<=n/\Z<=m:=by have:=DC a b;omega
 replace hZ:=Aa hZ;replace hn:=Aa hn;replace I:=Aa I
 go_in
 go_wp2_with fail
 go_loopw [5] (fun s5 wr=>∃i:Nat,s5 = .int .i64 (i:Int)/\i<=n/\i<=m/\Hid (a.take i=b.take i)/\Hid (Ext w wr)) (fun s5 _=>n - (intOf s5).toNat)
 case atStart=>exact⟨0,rfl,by omega,by omega,Aa (by simp),Aa (Ext.refl w)⟩
 case round =>
  obtain⟨i,rfl,j0,him,ht,hE⟩:=hrel;have Y:=GD i a b ht.out (by rw[<-hn.out];exact j0) (by rw[<-I.out];exact him);rw[<-hZ.out]at Y;replace Y:=Aa Y;by_cases h1:i<n
  ·by_cases h2:i<m
   ·obtain⟨x,O⟩:∃x,a[i]? = some x:=⟨_,List.getElem?_eq_getElem (by rw[<-hn.out];exact h1)⟩
    obtain⟨y,G⟩:∃y,b[i]? = some y:=⟨_,List.getElem?_eq_getElem (by rw[<-I.out];exact h2)⟩
    have v0:=fun W=>AB O (z:=(i:Int)) rfl W;have x0:=fun W=>AB G (z:=(i:Int)) rfl W;have J:a.drop i=x::a.drop (i+1):=by
     rw[List.drop_eq_getElem_cons (List.getElem?_eq_some_iff.1 O).1,(List.getElem?_eq_some_iff.1 O).2]
    have U:b.drop i=y::b.drop (i+1):=by
     rw[List.drop_eq_getElem_cons (List.getElem?_eq_some_iff.1 G).1,(List.getElem?_eq_some_iff.1 G).2]
    by_cases H:x=y
    ·have q1:((x.toNat:Int)==(y.toNat:Int))=true:=by rw[H];exact beq_self_eq_true _
     have g0:Hid (a.take (i+1)=b.take (i+1)):=Aa (by rw[List.take_add_one,List.take_add_one,O,G,ht.out,H]);replace O:=Aa O;replace G:=Aa G;replace J:=Aa J;replace U:=Aa U;replace H:=Aa H;go_wp2_with fail;refine AE (fun K hK=>?_);go_wp2_with fail;refine⟨by kernel_rfl,?_⟩;go_wp2_with fail;exact⟨⟨i+1,by congr 1,by omega,by omega,g0,Aa hE.out.drew⟩,by simp only[intOf];omega⟩
    ·have q1:((x.toNat:Int)==(y.toNat:Int))=false:=beq_eq_false_iff_ne.2 fun h=>H (UInt8.toNat_inj.1 (by omega));have d:Z=i:=by rw[Y.out,J,U,cpl,if_neg H];rfl
     replace O:=Aa O;replace G:=Aa G;replace J:=Aa J;replace U:=Aa U;replace H:=Aa H;replace d:=Aa d;go_wp2_with fail;refine AE (fun K hK=>?_);go_wp2_with fail;refine⟨by kernel_rfl,?_⟩;go_wp2_with fail;go_ret;exact⟨by rw[d.out];rfl,hE.out.drew⟩
   ·have d:Z=i:=by have:=Y.out;omega
    replace d:=Aa d;go_wp2_with fail;refine AE (fun K hK=>?_);go_wp2_with fail;refine⟨by kernel_rfl,?_⟩;go_wp2_with fail;go_ret;exact⟨by rw[d.out];rfl,hE.out.drew⟩
  ·have d:Z=i:=by have:=Y.out;omega
   replace d:=Aa d;go_wp2_with fail;refine AE (fun K hK=>?_);go_wp2_with fail;refine⟨by kernel_rfl,?_⟩;go_wp2_with fail;go_ret;exact⟨by rw[d.out];rfl,hE.out.drew⟩
def En.cells (e:En):List Value:= [.string ⟨e.t.toArray⟩,.int .i64 (e.off:Int),.int .i64 (e.len:Int),.int .i64 (e.n:Int)]
def encells (l:List En):List Value:=l.flatMap En.cells
theorem FZ (l:List En):(encells l).length=l.length*4:=AU (cellsA:=En.cells) (k:=4) (fun _=>rfl) l
theorem CR {l:List En} {x:En} (h:l[i]? = some x) (d:j<4):(encells l)[i*4+j]? = x.cells[j]? :=AW (cellsA:=En.cells) (k:=4) (fun _=>rfl) l i x j h d
theorem AX {l:List En} (h:Cells w A (encells l)) {x:En} (d:l[i]? = some x):∃g o,A=some ⟨g,o,none⟩/\w.cell? ⟨g,o+i*4,none⟩=some (.string ⟨x.t.toArray⟩)/\w.cell? ⟨g,o+i*4+1,none⟩=some (.int .i64 (x.off:Int))/\w.cell? ⟨g,o+i*4+2,none⟩=some (.int .i64 (x.len:Int))/\w.cell? ⟨g,o+i*4+3,none⟩=some (.int .i64 (x.n:Int)):=by
 obtain⟨g,o,Y,H⟩:=h.at_ (by rw[FZ];have:=(List.getElem?_eq_some_iff.1 d).1;omega);exact⟨g,o,Y,H (i*4+0) _ (by rw[CR d (by omega)];rfl),H (i*4+1) _ (by rw[CR d (by omega)];rfl),H (i*4+2) _ (by rw[CR d (by omega)];rfl),H (i*4+3) _ (by rw[CR d (by omega)];rfl)⟩
theorem Bm:∀(a b:List UInt8),Op.bytesLess a b=decide (a<b)
 | [],[]=>by simp[Op.bytesLess]
 | _::_,[]=>by simp[Op.bytesLess]
 | [],_::_=>by simp[Op.bytesLess]
 | x::a,y::b=>by
  rw[Op.bytesLess,Bm a b,Bool.eq_iff_iff,decide_eq_true_iff,List.cons_lt_cons_iff];simp
theorem Sk {l:List En} (h:OkEs l) {x y:En} (d:l[i]? = some x) (H:l[i+1]? = some y):x.t<y.t:=by
 obtain⟨h1,rfl⟩:=List.getElem?_eq_some_iff.1 d;obtain⟨h2,rfl⟩:=List.getElem?_eq_some_iff.1 H;exact List.pairwise_iff_getElem.1 h.up i (i+1) h1 h2 (by omega)
theorem RL {a:List UInt8} (h:a ≠ []) : []<a:=by
 cases a with
 | nil=>exact absurd rfl h
 | cons x t=>exact List.nil_lt_cons x t
def lastT (l:List En) (i:Nat):List UInt8:=match (l.take i).getLast? with
 | some e=>e.t
 | none=> []
theorem Dp {l:List En} {x:En} (h:l[i]? = some x):lastT l (i+1)=x.t:=by
 unfold lastT;rw[List.take_add_one,h];simp
theorem Px {l:List En} (h:OkEs l) {x:En} (d:l[i]? = some x):lastT l i<x.t:=by
 cases i with
 | zero=>exact RL (h.each x (List.mem_of_getElem? d)).2
 | succ i =>
  obtain⟨y,H⟩:∃y,l[i]? = some y:=⟨_,List.getElem?_eq_getElem (by have:=(List.getElem?_eq_some_iff.1 d).1;omega)⟩
  rw[Dp H];exact Sk h H d
def thr (a b c:Int) (i:Nat):Int:=if i=0 then a else if i=1 then b else c
theorem I2 {a b c:Int} (hi:i<3) (W:World):(Instr.index 290 (.agg #[.int .i64 a,.int .i64 b,.int .i64 c]) (.int .i64 (i:Int))).run prog W = .ok (.int .i64 (thr a b c i)) W:=by
 rcases (show i=0\/i=1\/i=2 by omega)with rfl | rfl | rfl
 ·show _=_
  kernel_rfl
 ·show _=_
  kernel_rfl
 ·show _=_
  kernel_rfl
theorem Qg {a b c:Int} (i:Nat) (h:0<=a/\a<=67108864) (hb:0<=b/\b<=67108864) (d:0<=c/\c<=67108864):0<=thr a b c i/\thr a b c i<=67108864:=by
 unfold thr;split
 ·exact h
 ·split
  ·exact hb
  ·exact d
theorem J3 (l:List En) (A:Option Addr) (m c:Nat) (w:World) (hm:m=l.length) (h:Cells w A (encells l)) (U:OkEs l) :
 Calls prog 130 #[.slice A m c] w fun e w'=>e = .returned (.bool true)/\Ext w w':=by
 have f0:m<=262144:=by rw[hm];exact U.few
 replace hm:=Aa hm;replace h:=Aa h;replace U:=Aa U
 go_in
 go_wp2_with fail
 go_loopw [3,11] (fun s3 s11 wr=>∃(i:Nat) (la:List UInt8),s3 = .string ⟨la.toArray⟩/\s11 = .int .i64 (i:Int)/\i<=m/\Hid (la=lastT l i)/\Hid (Ext w wr)) (fun _ s11 _=>m - (intOf s11).toNat)
 case atStart=>exact⟨0,[],rfl,rfl,by omega,Aa rfl,Aa (Ext.refl w)⟩
 case round =>
  obtain⟨i,la,rfl,rfl,hi,m0,hE⟩:=hrel;by_cases j0:i<m
  ·obtain⟨x,Y⟩:∃x,l[i]? = some x:=⟨_,List.getElem?_eq_getElem (by rw[<-hm.out];exact j0)⟩
   obtain⟨g,o,hA,x0,x1,x2,x3⟩:=AX (h.out.ext hE.out) Y;subst hA;have d:=Px U.out Y;rw[<-m0.out]at d;obtain⟨⟨b1,b2,b3,b4⟩,t0⟩:=U.out.each x (List.mem_of_getElem? Y);have q0:Hid (x.t=lastT l (i+1)):=Aa (Dp Y).symm;obtain⟨t,off,len,n⟩:=x;simp only at x0 x1 x2 x3 d b1 b2 b3 b4 q0;have v0:(⟨t.toArray⟩:ByteArray).size=t.length:=ByteArray.size_mk_toArray t;obtain⟨tl,G⟩:=Ab t.length;rw[<-G]at v0 b1;have q1:Op.bytesLess t la=false:=by rw[Bm];exact decide_eq_false fun h2=>List.lt_asymm d h2
   have q2:(t==la)=false:=beq_eq_false_iff_ne.2 fun e=>by rw[e]at d;exact List.lt_irrefl _ d
   obtain⟨W5,J⟩:=Ab (wr.alloc (.cells #[.string ⟨t.toArray⟩,.int .i64 (off:Int),.int .i64 (len:Int),.int .i64 (n:Int)] 195));obtain⟨g5,O⟩:=Ab wr.heap.size;have H:Row W5 g5 195 #[.string ⟨t.toArray⟩,.int .i64 (off:Int),.int .i64 (len:Int),.int .i64 (n:Int)]:=by rw[J,O];exact Row.new wr _ _
   have Z:Ext w W5:=by rw[J];exact hE.out.alloc _
   have y0:=H.cell 0 rfl;have y1:=H.cell 1 rfl;have y2:=H.cell 2 rfl;have y3:=H.cell 3 rfl;replace Y:=Aa Y;replace d:=Aa d;replace G:=Aa G;replace H:=Aa H;replace Z:=Aa Z;replace J:=Aa J;replace O:=Aa O;clear t0;go_upto_region 5 with (fail)
   rw[<-J.out,<-O.out];go_wp2_with fail
   go_loopw [6,32] (fun s6 s32 wv=>∃j:Nat,s6 = .bool true/\s32 = .int .i64 (j:Int)/\j<=3/\wv=W5) (fun _ s32 _=>3 - (intOf s32).toNat)
   case atStart=>exact⟨0,rfl,rfl,by omega,rfl⟩
   case round =>
    obtain⟨j,rfl,rfl,hj,rfl⟩:=hrel;by_cases g0:j<3
    ·have hx:=fun W=>I2 (a:=(off:Int)) (b:=(len:Int)) (c:=(n:Int)) g0 W;have I:=Qg (a:=(off:Int)) (b:=(len:Int)) (c:=(n:Int)) j (by omega) (by omega) (by omega);obtain⟨v,hv⟩:=Ab (thr (off:Int) (len:Int) (n:Int) j);rw[<-hv]at hx I;obtain⟨d0,e0⟩:=I;have h0:(j:Int)<3:=by omega
     replace hv:=Aa hv;go_wp2_with fail;exact⟨⟨j+1,rfl,by congr 1,by omega,trivial⟩,by simp only[intOf];omega⟩
    ·have h0:¬ (j:Int)<3:=by omega
     go_wp2_with fail;exact⟨⟨i+1,t,rfl,rfl,by omega,q0,Z⟩,by simp only[intOf];omega⟩
  ·obtain rfl:i=m:=by omega
   go_wp2_with fail;go_ret;exact⟨Bf (decide_eq_true (by omega)),hE.out⟩
end
section
open Go.RowKit
attribute [local go_sem] Oper.semAt_some AP
theorem Lp (A:Option Addr) (n c k:Nat) (w:World) (hk:1<=k) (h:k<=1000000) :
 Calls prog 181 #[.slice A n c,.int .i64 (k:Int)] w fun e w'=>∃b1 b2,e = .returned (.func (.func 232) #[] #[.pointer (some ⟨b1,0,none⟩),.pointer (some ⟨b2,0,none⟩)])/\Row w' b1 192 #[.slice A n c]/\Row w' b2 3 #[.int .i64 (k:Int)]/\w.heap.size<=b1/\w.heap.size<=b2/\b1<b2/\Ext w w':=by
 go_in
 go_wp2_with fail;go_ret;have h1:=Row.new w 192 #[.slice A n c];have h2:=Row.new (w.alloc (.cells #[.slice A n c] 192)) 3 #[.int .i64 (k:Int)];rw[World.size_alloc]at h2;exact⟨w.heap.size,w.heap.size+1,rfl,h1.alloc _,h2,Nat.le_refl _,by omega,by omega,((Ext.refl w).alloc _).alloc _⟩
theorem KS (d:z=(i:Int)) (hi:i<=n):∃A' c',∀W:World,(Instr.sliceAt 192 (.slice A n c) (some (.int .i64 z)) none none).run prog W = .ok (.slice A' (n - i) c') W:=by
 subst d;have ht:=underlying192;have h:prog.elem 192=195:=by unfold Program.elem;rw[ht]
 have hs:∀W:World,(sizeOf 195).run prog W = .ok 4 W:=fun W=>by kernel_rfl
 refine⟨if c=i then A else A.map fun a=>a.add (i*4),c - i,fun W=>?_⟩;rw[run_sliceAt_slice W _ _ _ _ _ (by rw[ht,h]),run_slice_l W _ A n c (by rw[ht,h]) .i64 i (by omega) (by omega),h,hs];simp only[Result.andThen_ok,sliced];rfl
theorem KT (Y:z=(i:Int)) (d:z1=((i+j:Nat):Int)) (H:z2=((i+j:Nat):Int)) (hi:i+j<=c) (J:0<j) (W:World) :
 (Instr.sliceAt 192 (.slice A n c) (some (.int .i64 z)) (some (.int .i64 z1)) (some (.int .i64 z2))).run prog W = .ok (.slice (A.map fun a=>a.add (i*4)) j j) W:=by
 subst Y d H;have ht:=underlying192;have h:prog.elem 192=195:=by unfold Program.elem;rw[ht]
 have hs:(sizeOf 195).run prog W = .ok 4 W:=by kernel_rfl
 rw[run_sliceAt_slice W _ _ _ _ _ (by rw[ht,h]),run_slice_lhm W _ A n c (by rw[ht,h]) .i64 .i64 .i64 i ((i+j:Nat):Int) ((i+j:Nat):Int) (by omega) (by omega) (by omega) (by omega),h,hs];simp only[Result.andThen_ok];congr 1;unfold sliced;rw[if_neg (by omega),show ((i+j:Nat):Int).toNat - (i:Int).toNat=j by omega];rfl
def chunkVC (A:Option Addr) (n k i:Nat):Value:= .slice (A.map fun a=>a.add (i*k*4)) (min k (n - i*k)) (min k (n - i*k))
def ChIterC (A:Option Addr) (n k b1 b2:Nat) (w:World):Prop :=
 Iter prog 232 #[.pointer (some ⟨b1,0,none⟩),.pointer (some ⟨b2,0,none⟩)] (fun i:Nat=>#[chunkVC A n k i]) Ext (fun pre i _=>i=pre.length/\i*k<n) (KeepB b1 b2) (fun xs W W'=>n<=xs.length*k/\xs=List.range xs.length/\(∀i∈xs,i*k<n)/\Ext W W') w
theorem JV (A:Option Addr) (n c k b1 b2:Nat) (w:World) (H:Row w b1 192 #[.slice A n c]) (Y:Row w b2 3 #[.int .i64 (k:Int)]) (hk:1<=k) (n0:k<=1000000) (hn:n<=1000000000) (hc:n<=c):ChIterC A n k b1 b2 w:=by
 intro l J W hE U hY h0;replace H:=H.ext hE;replace Y:=Y.ext hE;clear hE;replace H:=Aa H;replace Y:=Aa Y;replace hY:=Aa hY;replace U:=Aa U;replace h0:=Aa h0;refine(callsIn_wide (n:=0)).1 ?_;refine callsIn_of_wp func232 rfl trivial ?_;simp only[ntmps232,List.size_toArray,List.length_cons,List.length_nil,Nat.reduceAdd,Nat.reduceSub,Array.replicate_succ,Array.replicate_zero,List.push_toArray,List.append_toArray,List.nil_append,List.cons_append];gi_wp2_with fail
 gi_loopw [4] (fun s4 wr=>∃(i q:Nat) (pre:List Nat),s4 = .int .i64 (q:Int)/\Hid (q=i*k)/\q<=n+k/\Hid (pre.length=i)/\Hid (pre=List.range i)/\Hid (∀j∈pre,j*k<n)/\Hid (J pre wr)/\Hid (Row wr b1 192 #[.slice A n c])/\Hid (Row wr b2 3 #[.int .i64 (k:Int)])) (fun s4 _=>n - (intOf s4).toNat)
 case atStart=>exact⟨0,0,[],rfl,Aa (by simp),by omega,Aa rfl,Aa rfl,Aa nofun,h0,H,Y⟩
 case round =>
  obtain⟨i,q,pre,rfl,hq,h1,d,p0,I,hJ,r1,r2⟩:=hrel;have k1:=r1.out.cell 0 rfl;have k2:=r2.out.cell 0 rfl;by_cases G:q<n
  ·obtain⟨m,hm⟩:∃m:Nat,(m:Int)=min (k:Int) ((n - q:Nat):Int):=⟨min k (n - q),by omega⟩
   have b0:0<m:=by omega
   have o0:m<=k:=by omega
   have r0:m<=n - q:=by omega
   have c0:m=k\/m=n - q:=by omega
   have f0:=fun(W:World)=>AQ (P:=prog) #[3,3] 3 hm W;have p1:=fun(W:World)=>KT (A:=A) (n:=n) (c:=c) (i:=q) (j:=m) (z:=(q:Int)) (z1:=(q:Int)+(m:Int)) (z2:=(q:Int)+(m:Int)) rfl (by omega) (by omega) (by omega) b0 W;obtain⟨A',c',q1⟩:=KS (A:=A) (n:=n) (c:=c) (i:=q) (z:=(q:Int)) rfl (by omega);replace hm:=Aa hm;have g0:=hY.out pre pre.length wr.drew (U.out _ _ _ hJ.out (Ext.refl wr).drew) ⟨rfl,by rw[d.out,<-hq.out];exact G⟩;have O:chunkVC A n k pre.length = .slice (A.map fun a=>a.add (q*4)) m m:=by
    unfold chunkVC;rw[d.out,<-hq.out,show min k (n - q)=m by omega]
   rw[O]at g0;obtain⟨fn,tmps,assign,body,hy,hR⟩:=g0;have q0:Hid (∀j∈pre ++ [pre.length],j*k<n):=Aa fun j hj=>by
    rcases List.mem_append.1 hj with h | h
    ·exact I.out j h
    ·rw[List.mem_singleton.1 h,d.out,<-hq.out];exact G
   have k0:Hid (pre ++ [pre.length]=List.range (i+1)):=Aa (by rw[List.range_succ,d.out,p0.out]);have d0:Hid (q+k=(i+1)*k):=Aa (by rw[Nat.succ_mul,hq.out]);clear O c0 hY U;gi_wp2_with fail;refine wpIn_wide.2 (AE (fun K hK=>?_));go_wp2_with fail;refine⟨by kernel_rfl,?_⟩;gi_wp2_with fail;refine hR.mono ?_;rintro e W3 ⟨rfl,x0,Z⟩;have r13:=Aa (show Row W3 b1 192 #[.slice A n c] from Z.1 _ r1.out);have r23:=Aa (show Row W3 b2 3 #[.int .i64 (k:Int)] from Z.2 _ r2.out);have k23:=r23.out.cell 0 rfl;gi_wp2_with fail;exact⟨⟨i+1,q+k,pre ++ [pre.length],by congr 1,d0,by omega,Aa (by rw[List.length_append,d.out];rfl),k0,q0,Aa x0,r13,r23⟩,by simp only[intOf];omega⟩
  ·gi_wp2_with fail
   go_end0
   exact⟨⟨_,rfl⟩,pre,_,hJ.out,by rw[d.out,<-hq.out];omega,by rw[d.out];exact p0.out,I.out,Ext.refl _⟩
end
section
open Go.RowKit Go.Shelf
attribute [local go_sem] Oper.semAt_some AP Cp
theorem Ji {l:List En} (h:Cells w A (encells l)) (d:∀a,A=some a->a.spot=none) (i m:Nat):Cells w (A.map fun a=>a.add (i*4)) (encells ((l.drop i).take m)):=by
 unfold encells;rw[Bh (f:=En.cells) (k:=4) (fun _=>rfl),Bo (f:=En.cells) (k:=4) (fun _=>rfl)];exact h.part d _ _
def DEnc (base h1 b1 b2:Nat) (V:Value) (L:List UInt8) (w W:World):Prop :=
 (∃A c,Row W h1 25 #[.slice A L.length c]/\Own8 W base A L.length c L)/\Row W b1 192 #[V]/\Row W b2 3 #[.int .i64 16]/\Ext w W
theorem DEnc.alike {base h1 b1 b2 B:Nat} (h:DEnc base h1 b1 b2 V L w W) (d:Alike B W W1) (H:w.heap.size<=B):DEnc base h1 b1 b2 V L w W1:=by
 obtain⟨⟨A,c,r,o⟩,r1,r2,Y⟩:=h;exact⟨⟨A,c,d.row r,o.1,d.buf o.2⟩,d.row r1,d.row r2,d.ext Y H⟩
theorem DEnc.ext {base h1 b1 b2:Nat} (h:DEnc base h1 b1 b2 V L w W) (d:Ext W W1):DEnc base h1 b1 b2 V L w W1:=by
 obtain⟨⟨A,c,r,o⟩,r1,r2,H⟩:=h;exact⟨⟨A,c,r.ext d,o.ext d⟩,r1.ext d,r2.ext d,H.trans d⟩
def thrB (a b c:Nat) (j:Nat):List UInt8:=if j=0 then [] else if j=1 then vb a else if j=2 then vb a++vb b else vb a++vb b++vb c
theorem OP {a b c j:Nat} (d:j<3) {v:Nat} (h:(v:Int)=thr (a:Int) (b:Int) (c:Int) j):thrB a b c (j+1)=thrB a b c j++vb v:=by
 rcases (show j=0\/j=1\/j=2 by omega)with rfl | rfl | rfl
 ·have:v=a:=by unfold thr at h;simp at h;omega
  subst this;simp[thrB]
 ·have:v=b:=by unfold thr at h;simp at h;omega
  subst this;simp[thrB]
 ·have:v=c:=by unfold thr at h;simp at h;omega
  subst this;simp[thrB]
theorem GF (l:List En) (A:Option Addr) (m c:Nat) (w:World) (hm:m=l.length) (h:Cells w A (encells l)) (hA:∀a,A=some a->a.spot=none) (l6:m<=c) (d1:OkEs l) :
 Calls prog 131 #[.slice A m c] w fun e w'=>OwnB w w.heap.size (encEs l) e w':=by
 have a7:m<=262144:=by rw[hm];exact d1.few
 have n0:=Aa (fun A n c x l W h1 h2 h3 h4 h5=>Cm A n c x l W h1 h2 h3 h4 h5);have i5:=Aa (fun A n c l s W h1 h2 h3 h4 h5=>DR A n c l s W h1 h2 h3 h4 h5);have o6:=Aa (fun a b W h1 h2=>Ms a b W h1 h2);have o7:=AH (m:=m) (by omega);replace hm:=Aa hm;replace h:=Aa h;replace d1:=Aa d1;replace hA:=Aa hA;refine(callsIn_wide (n:=0)).1 ?_;refine callsIn_of_wp_marks func131 rfl trivial ?_;simp only[ntmps131,List.size_toArray,List.length_cons,List.length_nil,Nat.reduceAdd,Nat.reduceSub,Array.replicate_succ,Array.replicate_zero,List.push_toArray,List.append_toArray,List.nil_append,List.cons_append];gi_wp2_with fail;refine(callsIn_wide.2 (n0.out none 0 0 m [] w rfl (.inl rfl) (fun _=>rfl) (by omega) (by omega))).mono ?_;rintro e w2 G;obtain⟨A2,c2,rfl,o0,i1⟩:=G;rw[List.nil_append]at o0 ⊢;obtain⟨k2,v0⟩:∃k,k=(vb m).length:=⟨_,rfl⟩
 rw[<-v0]at o0 ⊢;replace o0:=Aa o0;replace v0:=Aa v0;replace i1:=Aa i1;gi_wp2_with fail;obtain⟨W3,p1⟩:=Ab (w2.alloc (Obj.cells #[Value.slice A2 k2 c2] 25));rw[<-p1];obtain⟨h1,m1⟩:=Ab w2.heap.size;have q1:Row W3 h1 25 #[.slice A2 k2 c2]:=by rw[p1,m1];exact Row.new w2 _ _
 have l1:Ext w2 W3:=by rw[p1];exact(Ext.refl w2).alloc _
 have p4:W3.heap.size=h1+1:=by rw[p1,m1];simp
 have d5:w.heap.size<=h1:=by rw[m1];exact i1.out.size
 have e5:Own8 W3 w.heap.size A2 k2 c2 (vb m):=⟨v0.out,o0.out.ext l1⟩
 rw[<-m1];refine(callsIn_wide.2 (Lp A m c 16 W3 (by omega) (by omega))).mono ?_;rintro e w4 ⟨b1,b2,rfl,rb1,rb2,c6,d6,w3,t3⟩;have r0:DEnc w.heap.size h1 b1 b2 (.slice A m c) (vb m) w w4:=⟨⟨A2,c2,by rw[<-v0.out];exact q1.ext t3,by rw[<-v0.out];exact e5.ext t3⟩,rb1,rb2,(i1.out.trans l1).trans t3⟩
 have f3:=JV A m c 16 b1 b2 w4 rb1 rb2 (by omega) (by omega) (by omega) l6;rw[p4]at c6 d6;have g0:=r0.2.2.2.size;replace r0:=Aa r0;replace f3:=Aa f3;replace p1:=Aa p1;replace m1:=Aa m1;clear q1 t3 rb1 rb2 o0 l1 i1 v0 p4 e5;gi_wp2_with fail;unfold ChIterC at f3;refine C8 (gf:=232) (lb:=#[.pointer (some ⟨b1,0,none⟩),.pointer (some ⟨b2,0,none⟩)]) rfl (enters_of func232 (by kernel_rfl) rfl) f3.out (fun _=>rfl) (fun _ _ h=>h.others) (fun _ _ _ h=>h.2.2.2.others) (KeepB.trans b1 b2) ?kb
  (fun pre W=>DEnc w.heap.size h1 b1 b2 (.slice A m c) (vb m++partsE ((chunkL 16 l).take pre.length)) w W) (fun pre A B h ha=>h.alike ha g0) (fun pre A B h hE=>h.ext hE) ?h0 ?hround ?hdone
 case kb =>
  have z5:=(r0.out.2.1).lt;have a5:=(r0.out.2.2.1).lt;exact KeepB.alike z5 a5
 case h0 =>
  intro W ha;have:=r0.out.alike ha g0;simpa [partsE]using this
 case hround =>
  rintro rl pre i W hI ⟨hi,i6⟩;subst hi;have e2:=F7 (l:=l) (r:=pre.length) (by rw[<-hm.out];exact i6);obtain⟨j,hj⟩:=Ab (min 16 (m - pre.length*16));obtain⟨cb,j1⟩:=Ab ((l.drop (pre.length*16)).take 16);have e0:cb.length=j:=by rw[j1,hj,List.length_take,List.length_drop,hm.out]
  obtain⟨A',m3⟩:=Ab (A.map fun a=>a.add (pre.length*16*4):Option Addr);have f2:Cells w A' (encells cb):=by rw[m3,j1];exact Ji h.out hA.out _ _
  have j4:chunkVC A m 16 pre.length = .slice A' j j:=by unfold chunkVC;rw[m3,hj]
  have f0:∀x∈cb,okEn x:=fun x hx=>by rw[j1]at hx;exact(d1.out.each x (List.mem_of_mem_drop (List.mem_of_mem_take hx))).1
  rw[<-j1]at e2;obtain⟨L,hL⟩:=Ab (vb m++partsE ((chunkL 16 l).take pre.length));rw[<-hL]at hI;have a6:L.length<=60000010:=by
   have h1:=F8 (fun e he=>(d1.out.each e he).1) d1.out.few pre.length;have h2:=Ag (n:=m) (by omega);rw[hL,List.length_append];omega
  have j7:j<=16:=by omega
  obtain⟨Y,hY⟩:=Ab (blockE [] cb);have b6:Y.length<=3200:=by have:=Di (l:=cb) (last:= []) f0;rw[hY];omega
  rw[<-hY]at e2;rw[j4];clear j4;replace hI:=Aa hI;replace f2:=Aa f2;replace m3:=Aa m3;replace j1:=Aa j1;replace hj:=Aa hj;replace hL:=Aa hL;replace e0:=Aa e0;replace e2:=Aa e2;replace f0:=Aa f0;replace hY:=Aa hY;gi_wp2_with fail;refine⟨KeepsOthers.refl _,KeepB.refl _ _ _,fun W2 o4=>?_⟩;have a3:=Aa (hI.out.alike o4 g0);clear o4 hI;have q5:=Aa a3.out.2.2.2;gi_wp2_with fail
  gi_loopw [5,6,21] (fun s5 s6 s21 wr=>∃(i n5 c5:Nat) (A5:Option Addr) (X la:List UInt8),s5 = .slice A5 n5 c5/\s6 = .string ⟨la.toArray⟩/\s21 = .int .i64 (i:Int)/\i<=j/\n5<=3200/\la.length<=65/\Hid (Y=X++blockE la (cb.drop i))/\Hid (Own8 wr w.heap.size A5 n5 c5 X)/\Hid (Ext W2 wr)) (fun _ _ s21 _=>j - (intOf s21).toNat)
  case atStart=>exact⟨0,0,0,none,[],[],rfl,rfl,rfl,by omega,by omega,by simp,Aa (by rw[hY.out];rfl),Aa ⟨rfl,Buf.nil _ _ _⟩,Aa (Ext.refl _)⟩
  case round =>
   obtain⟨i,n5,c5,A5,X,la,rfl,rfl,rfl,z7,b7,m7,y5,i2,hE⟩:=hrel;have U:Hid (Ext w wr):=Aa (q5.out.trans hE.out);by_cases e6:i<j
   ·obtain⟨x,j3⟩:∃x,cb[i]? = some x:=⟨_,List.getElem?_eq_getElem (by rw[e0.out];exact e6)⟩
    obtain⟨g,o,x6,x0,x1,x2,x3⟩:=AX (f2.out.ext U.out) j3;subst x6;have q7:=f0.out x (List.mem_of_getElem? j3);have a2:=y5.out;rw[AY j3]at a2;obtain⟨t,off,len,n⟩:=x;obtain⟨b0,b1',b2',b3'⟩:=q7;simp only at x0 x1 x2 x3 b0 b1' b2' b3';obtain⟨k,hk⟩:=Ab (cpl la t);have f6:k<=t.length:=by rw[hk];exact(DC la t).2
    obtain⟨X1,b3⟩:=Ab (X++vb k);obtain⟨X2,j2⟩:=Ab (X1++txL (t.drop k));obtain⟨X3,m2⟩:=Ab (X2++thrB off len n 3);have c0:Y=X3++blockE t (cb.drop (i+1)):=by
     rw[a2,m2,j2,b3,hk];show X++(enB la _++blockE t _)=_;unfold enB thrB;simp
    have p7:X3.length<=3200:=by rw[c0,List.length_append]at b6;omega
    have v5:X2.length<=X3.length:=by rw[m2,List.length_append];omega
    have t5:X1.length<=X2.length:=by rw[j2,List.length_append];omega
    have r6:=fun W=>Ge t k f6 (z:=(k:Int)) rfl W;have g7:k<=65:=by omega
    have l7:=AH (m:=k) (by omega);have r5:=Aa (fun W=>o6.out la t W (by omega) (by omega));rw[<-hk]at r5;obtain⟨W5,p2⟩:=Ab (wr.alloc (.cells #[.string ⟨t.toArray⟩,.int .i64 (off:Int),.int .i64 (len:Int),.int .i64 (n:Int)] 195));obtain⟨g8,e3⟩:=Ab wr.heap.size;have e4:Row W5 g8 195 #[.string ⟨t.toArray⟩,.int .i64 (off:Int),.int .i64 (len:Int),.int .i64 (n:Int)]:=by rw[p2,e3];exact Row.new wr _ _
    have t0:Ext wr W5:=by rw[p2];exact(Ext.refl wr).alloc _
    have h6:(⟨t.toArray⟩:ByteArray).size=t.length:=ByteArray.size_mk_toArray t;replace b3:=Aa b3;replace j2:=Aa j2;replace m2:=Aa m2;replace c0:=Aa c0;replace hk:=Aa hk;replace j3:=Aa j3;replace e4:=Aa e4;replace t0:=Aa t0;replace p2:=Aa p2;replace e3:=Aa e3;replace h6:=Aa h6;clear a2;gi_wp2_with fail;rw[<-p2.out,<-e3.out];refine(Bb (r5.out W5)).mono ?_;rintro e w6 ⟨rfl,t4⟩;have l5:=Aa (e4.out.ext t4);have n1:=Aa (t0.out.trans t4);have y0:=l5.out.cell 0 rfl;have H:=i2.out.ext n1.out;have w5:w.heap.size<=w6.heap.size:=(U.out.trans n1.out).size;replace H:=Aa H;clear t4;gi_wp2_with fail;refine(Bb (n0.out A5 n5 c5 k X w6 H.out.1 H.out.2.cells H.out.nil_ (by omega) (by omega))).mono ?_;rintro e w7 G;obtain⟨A7,c7,rfl,Z,J⟩:=G;rw[<-b3.out]at Z ⊢;have o5:=Aa (l5.out.ext J);have y0:=o5.out.cell 0 rfl;have l3:=Aa (n1.out.trans J);have i3:Hid (Own8 w7 w.heap.size A7 X1.length c7 X1):=Aa ⟨rfl,Z.lower w5⟩;obtain⟨n7,I⟩:=Ab X1.length;rw[<-I]at i3 t5 ⊢;replace I:=Aa I;have p3:w.heap.size<=w7.heap.size:=(U.out.trans l3.out).size;clear Z J;gi_wp2_with fail;refine(Bb (i5.out A7 n7 c7 X1 (t.drop k) w7 i3.out.1 i3.out.2.cells i3.out.nil_ (by omega) (by rw[List.length_drop];omega))).mono ?_;rintro e w8 G;obtain⟨A8,c8,rfl,m4,v4⟩:=G;rw[<-j2.out]at m4 ⊢;have q3:=Aa (o5.out.ext v4);have y0:=q3.out.cell 0 rfl;have y1:=q3.out.cell 1 rfl;have y2:=q3.out.cell 2 rfl;have y3:=q3.out.cell 3 rfl;have o3:=Aa (l3.out.trans v4);have f5:Hid (Own8 w8 w.heap.size A8 X2.length c8 X2):=Aa ⟨rfl,m4.lower p3⟩;obtain⟨n8,c4⟩:=Ab X2.length;rw[<-c4]at f5 v5 ⊢;replace c4:=Aa c4;clear m4 v4;gi_wp2_with fail
    gi_loopw [5,46] (fun s5 s46 wv=>∃(q n9 c9:Nat) (A9:Option Addr),s5 = .slice A9 n9 c9/\s46 = .int .i64 (q:Int)/\q<=3/\n9<=3300+20*q/\Hid (Own8 wv w.heap.size A9 n9 c9 (X2++thrB off len n q))/\Hid (Ext w8 wv)) (fun _ s46 _=>3 - (intOf s46).toNat)
    case atStart=>exact⟨0,n8,c8,A8,rfl,rfl,by omega,by omega,Aa (by rw[show thrB off len n 0 = [] from rfl,List.append_nil];exact f5.out),Aa (Ext.refl _)⟩
    case round =>
     obtain⟨q,n9,c9,A9,rfl,rfl,e7,d7,a1,z3⟩:=hrel;by_cases hq:q<3
     ·have hx:=fun W=>I2 (a:=(off:Int)) (b:=(len:Int)) (c:=(n:Int)) hq W;have b5:=Qg (a:=(off:Int)) (b:=(len:Int)) (c:=(n:Int)) q (by omega) (by omega) (by omega);obtain⟨v,hv⟩:∃v:Nat,(v:Int)=thr (off:Int) (len:Int) (n:Int) q:=⟨(thr (off:Int) (len:Int) (n:Int) q).toNat,by omega⟩
      rw[<-hv]at hx b5;have f7:v<=67108864:=by omega
      have n6:(q:Int)<3:=by omega
      have r7:=AH (m:=v) (by omega);have d4:=OP hq hv;have k0:=Ag (n:=v) (by omega);obtain⟨X9,d3⟩:=Ab (X2++thrB off len n q);obtain⟨X10,p0⟩:=Ab (X9++vb v);rw[<-d3]at a1;have y4:X10=X2++thrB off len n (q+1):=by rw[p0,d3,d4,List.append_assoc]
      have x4:X10.length<=3300+20*(q+1):=by have:=a1.out.1;rw[p0,List.length_append];omega
      have k3:w.heap.size<=wr.heap.size:=((U.out.trans o3.out).trans z3.out).size;clear b5 k0;replace hv:=Aa hv;replace d4:=Aa d4;replace d3:=Aa d3;replace p0:=Aa p0;replace y4:=Aa y4;gi_wp2_with fail;refine(Bb (n0.out A9 n9 c9 v X9 wr a1.out.1 a1.out.2.cells a1.out.nil_ (by omega) (by omega))).mono ?_;rintro e w10 G;obtain⟨A10,c10,rfl,e1,d⟩:=G;rw[<-p0.out]at e1 ⊢;have j0:Hid (Own8 w10 w.heap.size A10 X10.length c10 (X2++thrB off len n (q+1))):=Aa (by rw[<-y4.out];exact⟨rfl,e1.lower k3⟩);obtain⟨n10,d2⟩:=Ab X10.length;rw[<-d2]at j0 x4 ⊢;replace d2:=Aa d2;have m0:=Aa (z3.out.trans d);clear e1 d;gi_wp2_with fail;exact⟨⟨q+1,n10,c10,A10,rfl,by congr 1,by omega,by omega,j0,m0⟩,by simp only[intOf];omega⟩
     ·have n6:¬ (q:Int)<3:=by omega
      have l2:q=3:=by omega
      have j0:Hid (Own8 wr w.heap.size A9 n9 c9 X3):=Aa (by rw[m2.out];have:=a1.out;rw[l2]at this;exact this);have t7:n9<=3200:=by have:=j0.out.1;omega
      have o2:=q3.out.ext z3.out;have y0:=o2.cell 0 rfl;have m0:Hid (Ext W2 wr):=Aa ((hE.out.trans o3.out).trans z3.out);have f4:t.length<=65:=b0;replace o2:=Aa o2;replace l2:=Aa l2;clear y1 y2 y3;gi_wp2_with fail;exact⟨⟨i+1,n9,c9,A9,X3,t,rfl,rfl,by congr 1,by omega,by omega,f4,c0,j0,m0⟩,by simp only[intOf];omega⟩
   ·have a4:Y=X:=by rw[y5.out,List.drop_eq_nil_of_le (by rw[e0.out];omega),blockE,List.append_nil]
    obtain⟨⟨A1,c1,r1,o1⟩,rb1,rb2,_⟩:=a3.out.ext hE.out;have f1:=r1.cell 0 rfl;have O:=i2.out.1;obtain⟨nl,q0⟩:=Ab L.length;rw[<-q0]at f1 o1 a6 r1;obtain⟨L1,q2⟩:=Ab (L++vb n5);have k0:=Ag (n:=n5) (by omega);have m5:L1.length<=60000020:=by rw[q2,List.length_append];omega
    have i7:=AH (m:=n5) (by omega);have k3:=U.out.size;have l0:L1++X=vb m++partsE ((chunkL 16 l).take (pre.length+1)):=by
     rw[e2.out,q2,hL.out,a4,<-O];simp
    have i4:=i2.out.2.cells;have z4:(X.map B8).length=n5:=by rw[List.length_map];exact O.symm
    replace q0:=Aa q0;replace q2:=Aa q2;replace a4:=Aa a4;replace r1:=Aa r1;replace o1:=Aa o1;replace rb1:=Aa rb1;replace rb2:=Aa rb2;replace O:=Aa O;replace l0:=Aa l0;replace i4:=Aa i4;replace z4:=Aa z4;clear k0;gi_wp2_with fail;refine(Bb (n0.out A1 nl c1 n5 L wr o1.out.1 o1.out.2.cells o1.out.nil_ (by omega) (by omega))).mono ?_;rintro e w7 G;obtain⟨A7,c7,rfl,Z,J⟩:=G;rw[<-q2.out]at Z ⊢;obtain⟨n7,I⟩:=Ab L1.length;rw[<-I]at Z m5 ⊢;have p3:=J.size;have h7:=Aa (Cells.ext i4.out J);replace I:=Aa I;replace Z:=Aa Z;replace J:=Aa J;have r17:=Aa (r1.out.ext J.out);gi_wp2_with (gi_at_builtin;refine Bu Aw Z.out h7.out (.tmp 61) (.tmp 62) rfl rfl rfl rfl rfl z4.out (Ai _) (by omega) p3 (fun A10 c10 w10 d0 q4 g4 k0=>?_);have d:=g4 wr J.out (Nat.le_refl _);have r210:=r1.out.ext d;have u0:=r210.cell 0 rfl;have u1:=r210.free 0;replace r210:=Aa r210;replace d0:=Aa d0;replace q4:=Aa q4;replace d:=Aa d;clear g4 k0);have w3:Buf (w10.setCell ⟨h1,0,none⟩ (.slice A10 (n7+n5) c10)) w.heap.size 5 A10 (n7+n5) c10 ((L1++X).map B8):=by
     rw[List.map_append];exact(d0.out.setCell (d0.out.unlike r210.out (by decide)) _).lower k3
    refine⟨((hE.out.others).trans d.out.others).trans (KeepsOthers.setCell _ _ _),KeepB.of a3.out.2.1 ((rb1.out.ext d.out).away (by simp;omega) _) a3.out.2.2.1 ((rb2.out.ext d.out).away (by simp;omega) _),⟨A10,c10,?_,?_⟩,(rb1.out.ext d.out).away (by simp;omega) _,(rb2.out.ext d.out).away (by simp;omega) _,(U.out.trans d.out).setCell (by simpa using d5) _⟩
    ·rw[show (pre ++ [pre.length]).length=pre.length+1 by simp,<-l0.out,List.length_append,<-I.out,<-O.out];exact r210.out.put 0 _
    ·rw[show (pre ++ [pre.length]).length=pre.length+1 by simp,<-l0.out];refine⟨rfl,?_⟩;rw[List.length_append,<-I.out,<-O.out];exact w3
 case hdone =>
  rintro D xs W2 W3 W5 hD hI ⟨p5,y6,z6,j5⟩ r4 hk;have i0:=It l xs.length (by rw[<-hm.out];exact p5);rw[<-hm.out]at i0;obtain⟨⟨A1,c1,r1,o1⟩,rb1,rb2,t0⟩:=(hI.ext j5).alike r4 g0;rw[<-i0]at r1 o1;have f1:=r1.cell 0 rfl;obtain⟨nl,q0⟩:=Ab ((encEs l).length);rw[<-q0]at f1 o1;replace q0:=Aa q0;replace r1:=Aa r1;replace o1:=Aa o1;replace rb1:=Aa rb1;replace rb2:=Aa rb2;replace t0:=Aa t0;replace i0:=Aa i0;replace hk:=Aa hk;clear hI p5 y6 z6 j5 r4;gi_wp2_with fail;refine BR (B:=w4.heap.size) rfl hk.out hD fun W ha=>⟨_,results_tmp rfl _ _ _,?_⟩
  exact⟨A1,c1,by rw[<-q0.out];rfl,by rw[<-q0.out];exact⟨o1.out.1,ha.buf o1.out.2⟩,ha.ext t0.out g0⟩
end
section
open Go.RowKit
theorem J0 (l:List En) (A:Option Addr) (m c:Nat) (w:World) (Y:m=l.length) (h:Cells w A (encells l)) (J:∀a,A=some a->a.spot=none) (O:m<=c) (d:OkEs l) :
 Calls prog 106 #[.slice A m c] w fun e w'=>OkB w (encEs l) e w':=by
 have h1:=Aa (J3 l A m c w Y h d);have h2:=Aa (fun W (G:Ext w W)=>GF l A m c W Y (h.ext G) J O d);replace Y:=Aa Y;replace d:=Aa d;replace J:=Aa J;replace h:=Aa h
 go_in
 go_wp2_with fail;refine h1.out.mono ?_;rintro e w1 ⟨rfl,H⟩;go_wp2_with fail;refine(h2.out _ H).mono ?_;rintro e w2 ⟨A2,c2,rfl,Z,U⟩;go_wp2_with fail;go_ret2;exact⟨A2,c2,rfl,⟨Z.1,Z.2.lower H.size⟩,H.trans U⟩
def RdD (w0:World) (g:Nat) (r:List UInt8) (W:World):Prop:=∃A c,Row W g 229 #[.slice A r.length c,.bool false]/\In8 w0 A r.length c r/\Ext w0 W
theorem RdD.ext (h:RdD w0 g r W) (d:Ext W W1):RdD w0 g r W1:=by
 obtain⟨A,c,r1,hi,H⟩:=h;exact⟨A,c,r1.ext d,hi,H.trans d⟩
def NumD (w0:World) (g q:Nat) (r:List UInt8) (W:World) (e:Ending) (W':World):Prop:=e = .returned (.int .i64 (q:Int))/\RdD w0 g r W'/\Chg (fun k=>k=g) W W'
theorem DD (w0 W:World) (g q:Nat) (r:List UInt8) (z:Int) (h:RdD w0 g (vb q++r) W) (Z:w0.heap.size<=g) (hz:(q:Int)<=z) (q0:z<=1099511627776) (J:(vb q++r).length<=1000000000) :
 Calls prog 128 #[.pointer (some ⟨g,0,none⟩),.int .i64 z] W fun e W'=>NumD w0 g q r W e W':=by
 obtain⟨A,c,r1,hi,U⟩:=h;have H:=Cl A (vb q++r).length c (vb q++r) w0 W hi U J;rw[BD (by omega)]at H;obtain⟨n,O⟩:=Ab ((vb q++r).length);rw[<-O]at H r1 J;obtain⟨b,hb⟩:∃b:Nat,z=(b:Int):=⟨z.toNat,by omega⟩
 subst hb;have k1:=r1.cell 0 rfl;have I:=AH (m:=b) (by omega);have h0:=wrap_i64 (q:=q) (by omega);have G:¬ (b:Int)<(q:Int):=by omega
 replace H:=Aa H;replace r1:=Aa r1;replace hi:=Aa hi;replace U:=Aa U;replace O:=Aa O
 go_in
 go_wp2_with fail;refine H.out.mono ?_;rintro e w1 ⟨d,A1,c1,rfl,Y⟩;have r11:=r1.out.ext d;have k3:=r11.cell 1 rfl;have k4:=r11.free 0;have k5:=r11.cell 0 rfl;replace r11:=Aa r11;replace d:=Aa d;replace Y:=Aa Y;go_wp2_with fail;go_ret;exact⟨rfl,⟨A1,c1,r11.out.put 0 _,Y.out,(U.out.trans d.out).setCell Z _⟩,(Chg.of_ext d.out _).trans (Chg.of_set (S:=fun k=>k=g) w1 _ rfl) fun _ _ h=>h⟩
def TxtD (w0:World) (g:Nat) (s r:List UInt8) (W:World) (e:Ending) (W':World):Prop:=e = .returned (.string ⟨s.toArray⟩)/\RdD w0 g r W'/\Chg (fun k=>k=g) W W'
theorem Nz (w0 W:World) (g:Nat) (s r:List UInt8) (h:RdD w0 g (txL s++r) W) (Z:w0.heap.size<=g) (hs:s.length<=65) (J:(txL s++r).length<=1000000000) :
 Calls prog 180 #[.pointer (some ⟨g,0,none⟩)] W fun e W'=>TxtD w0 g s r W e W':=by
 obtain⟨A,c,r1,hi,U⟩:=h;have H:=DG A (txL s++r).length c 65 (txL s++r) w0 W hi U J (by omega);rw[GQ hs (by omega)]at H;obtain⟨n,O⟩:=Ab ((txL s++r).length);rw[<-O]at H r1 J;have k1:=r1.cell 0 rfl;replace H:=Aa H;replace r1:=Aa r1;replace hi:=Aa hi;replace U:=Aa U;replace O:=Aa O
 go_in
 go_wp2_with fail;refine H.out.mono ?_;rintro e w1 ⟨d,A1,c1,rfl,Y⟩;have r11:=r1.out.ext d;have k3:=r11.cell 1 rfl;have k4:=r11.free 0;have k5:=r11.cell 0 rfl;replace r11:=Aa r11;replace d:=Aa d;replace Y:=Aa Y;go_wp2_with fail;go_ret;exact⟨rfl,⟨A1,c1,r11.out.put 0 _,Y.out,(U.out.trans d.out).setCell Z _⟩,(Chg.of_ext d.out _).trans (Chg.of_set (S:=fun k=>k=g) w1 _ rfl) fun _ _ h=>h⟩
def FilR (w:World) (g:Nat) (f:List UInt8):Prop:=∃A c,Row w g 239 #[.slice A f.length c]/\In8 w A f.length c f
theorem FilR.ext (h:FilR w g f) (d:Ext w w1):FilR w1 g f:=by
 obtain⟨A,c,H,hi⟩:=h;exact⟨A,c,H.ext d,hi.ext d⟩
theorem C2 (h:i<f.length):f.getD i 0=f[i]:=by rw[List.getD_eq_getElem?_getD,List.getElem?_eq_getElem h];rfl
theorem Pe {y:Nat} (h:y<256):bits .and .u8 (y:Int) 1=((y%2:Nat):Int):=by
 have d:∀k:Fin 256,bits .and .u8 ((k.val:Nat):Int) 1=((k.val%2:Nat):Int):=by decide +kernel
 exact d ⟨y,h⟩
theorem MZ (g k:Nat) (f:List UInt8) (w:World) (h:FilR w g f) (hk:k<8*f.length) (h0:k<1048576) :
 Calls prog 148 #[.pointer (some ⟨g,0,none⟩),.int .u64 (k:Int)] w fun e w'=>e = .returned (.bool (hasB f k))/\Ext w w':=by
 obtain⟨A,c,hr,hi⟩:=h;obtain⟨b,o,rfl,I⟩:=hi.bytes.at_ (by omega);have H:k / 8<f.length:=by omega
 have d:=I (k / 8) H;have Y:=C2 H;have hb:hasB f k=decide ((f[k / 8].toNat / 2^(k%8)%2=1)):=by unfold hasB;rw[Y]
 obtain⟨x,J⟩:=Ab (f[k / 8].toNat);have G:x<256:=by rw[J];exact f[k / 8].toNat_lt
 rw[<-J]at d hb;rw[hb];have r0:=hr.cell 0 rfl;obtain⟨q,Z⟩:=Ab (k / 8);obtain⟨m,U⟩:=Ab (k%8);rw[<-Z]at d H;rw[<-U];have q0:m<8:=by omega
 have k0:(k:Int) / 8=(q:Int):=by omega
 have p0:(k:Int)%8=(m:Int):=by omega
 obtain⟨n,O⟩:=Ab f.length;rw[<-O]at r0 H;replace O:=Aa O;replace Z:=Aa Z;replace U:=Aa U;replace J:=Aa J;clear hb Y I
 go_in
 go_wp2_with fail;go_ret;refine⟨Bf ?_,Ext.refl _⟩;have hy:x / 2^m<256:=Nat.lt_of_le_of_lt (Nat.div_le_self _ _) G;have e:(x:Int) / 2^m=((x / 2^m:Nat):Int):=by simp
 rw[e,Pe hy];rw[Bool.eq_iff_iff,beq_iff_eq,decide_eq_true_iff];omega
theorem KX (hk:k / 8<f.length) (h:hasB f k=true):setB f k=f:=by
 unfold setB;have d:(f.getD (k / 8) 0).toNat ||| 2^(k%8)=(f.getD (k / 8) 0).toNat:=by
  unfold hasB at h;have ht:(f.getD (k / 8) 0).toNat.testBit (k%8)=true:=by rw[Nat.testBit_eq_decide_div_mod_eq];exact h
  apply Nat.eq_of_testBit_eq;intro i;rw[Nat.testBit_or,Nat.testBit_two_pow];by_cases hi:k%8=i
  ·rw[<-hi,ht];rfl
  ·rw[decide_eq_false hi,Bool.or_false]
 rw[d,UInt8.ofNat_toNat];apply List.ext_getElem (by rw[List.length_set]);intro i h1 h2;rw[List.getElem_set];split
 ·rename_i e;subst e;exact C2 hk
 ·rfl
def FilO (w:World) (base g:Nat) (f:List UInt8):Prop:=∃b c cur,Row w g 239 #[.slice (some ⟨b,0,none⟩) f.length c]/\base<=b/\Row w b 5 cur/\f.length<=c/\c<=cur.size/\cur.toList.take f.length=f.map B8
theorem FilO.ext (h:FilO w base g f) (H:Ext w w1):FilO w1 base g f:=by
 obtain⟨b,c,cur,J,hb,d,h1,h2,Y⟩:=h;exact⟨b,c,cur,J.ext H,hb,d.ext H,h1,h2,Y⟩
theorem FilO.buf (h:FilO w base g f):∃A c,Row w g 239 #[.slice A f.length c]/\Buf w base 5 A f.length c (f.map B8):=by
 obtain⟨b,c,cur,Y,hb,d,h1,h2,H⟩:=h;exact⟨_,c,Y,List.length_map ..,h1,.inr ⟨b,cur,rfl,hb,d,h2,H⟩⟩
theorem FilO.fil (h:FilO w base g f):FilR w g f:=by
 obtain⟨A,c,d,hb⟩:=h.buf;exact⟨A,c,d,hb.in8⟩
def SetP (w:World) (base g:Nat) (f:List UInt8) (w':World):Prop:=FilO w' base g f/\∀w0,Ext w0 w->w0.heap.size<=base->Ext w0 w'
theorem Q8 (g k base:Nat) (f:List UInt8) (w:World) (h:FilO w base g f) (hk:k<8*f.length) (v0:k<1048576) :
 Calls prog 224 #[.pointer (some ⟨g,0,none⟩),.int .u64 (k:Int)] w fun e w'=>e = .returned (.bool (!hasB f k))/\SetP w base g (setB f k) w':=by
 have J:=MZ g k f w h.fil hk v0;have d:k / 8<f.length:=by omega
 cases Z:hasB f k with
 | true =>
  rw[Z]at J;have hs:=KX d Z;rw[hs];replace J:=Aa J;replace hs:=Aa hs;replace Z:=Aa Z;replace h:=Aa h
  go_in
  go_wp2_with fail;refine J.out.mono ?_;rintro e w1 ⟨rfl,H⟩;go_wp2_with fail;go_ret;exact⟨rfl,h.out.ext H,fun w0 h0 _=>h0.trans H⟩
 | false =>
  rw[Z]at J;replace Z:=Aa Z;obtain⟨b,c,cur,hr,hb,Y,h1,h2,h3⟩:=h;have U:cur[k / 8]? = some (B8 f[k / 8]):=by
   have:(cur.toList.take f.length)[k / 8]? = some (B8 f[k / 8]):=by rw[h3,List.getElem?_map,List.getElem?_eq_getElem d];rfl
   rw[List.getElem?_take,if_pos d]at this;simpa using this
  have t0:=C2 d;obtain⟨x,I⟩:=Ab (f[k / 8].toNat);have q0:x<256:=by rw[I];exact f[k / 8].toNat_lt
  unfold B8 at U;rw[<-I]at U;obtain⟨q,G⟩:=Ab (k / 8);obtain⟨m,hm⟩:=Ab (k%8);rw[<-G]at d;have O:m<8:=by omega
  have l0:(k:Int) / 8=(q:Int):=by omega
  have f0:(k:Int)%8=(m:Int):=by omega
  obtain⟨n,hn⟩:=Ab f.length;rw[<-hn]at hr d;have m0:g≠b:=Row.unlike hr Y (by decide);replace hn:=Aa hn;replace G:=Aa G;replace hm:=Aa hm;replace I:=Aa I;replace J:=Aa J
  go_in
  go_wp2_with fail;refine J.out.mono ?_;rintro e w1 ⟨rfl,H⟩;have r0:=(hr.ext H).cell 0 rfl;have r1:=(Y.ext H).cell (k / 8) U;rw[<-G.out]at r1;have r2:=(Y.ext H).free q;replace H:=Aa H;go_wp2_with fail;go_ret;have c0:bits BinOp.or IntKind.u8 (x:Int) (2^m%256)=((x ||| 2^m:Nat):Int):=by
   have hp:2^m<256:=Nat.pow_lt_pow_right (n:=8) (by omega) O;have e:(2:Int)^m%256=((2^m:Nat):Int):=by
    have:∀k:Fin 8,(2:Int)^k.val%256=((2^k.val:Nat):Int):=by decide
    exact this ⟨m,O⟩
   rw[e,u8_or_nat _ _ q0 hp]
  rw[c0];have y0:=(Y.ext H.out).put q (.int .u8 ((x ||| 2^m:Nat):Int));have b0:=(hr.ext H.out).away (p:=⟨b,q,none⟩) (by simpa using m0) (.int .u8 ((x ||| 2^m:Nat):Int));have g0:B8 (UInt8.ofNat ((f.getD (k / 8) 0).toNat ||| 2^(k%8))) = .int .u8 ((x ||| 2^m:Nat):Int):=by
   unfold B8;rw[t0,<-I.out,<-hm.out,UInt8.toNat_ofNat',Nat.mod_eq_of_lt (Rg q0 O)]
  refine⟨rfl,⟨b,c,_,by rw[Ce,<-hn.out];exact b0,hb,y0,by rw[Ce];exact h1,by rw[Array.size_setIfInBounds];exact h2,?_⟩,fun w0 h0 e0=>(h0.trans H.out).setCell (by simp only;omega) _⟩;unfold setB;rw[List.length_set,<-G.out,Array.toList_setIfInBounds,List.take_set,h3,List.map_set,G.out,g0]
theorem KZ (g:Nat) (f:List UInt8) (w:World) (h:FilR w g f) (H:f.length<=1000000000):Calls prog 147 #[.pointer (some ⟨g,0,none⟩)] w fun e w'=>e = .returned (.int .i64 ((8*f.length:Nat):Int))/\w'=w:=by
 obtain⟨A,c,Y,hi⟩:=h;have r0:=Y.cell 0 rfl;obtain⟨n,d⟩:=Ab f.length;rw[<-d]at r0 H ⊢;replace d:=Aa d
 go_in
 go_wp2_with fail;go_ret;exact⟨Fb (by omega),rfl⟩
theorem GL (g:Nat) (f:List UInt8) (w:World) (h:FilR w g f) (H:0<f.length):Calls prog 145 #[.pointer (some ⟨g,0,none⟩)] w fun e w'=>e = .returned (.bool false)/\w'=w:=by
 obtain⟨A,c,J,hi⟩:=h;have r0:=J.cell 0 rfl;obtain⟨n,d⟩:=Ab f.length;rw[<-d]at r0 H;have Y:((n:Int)==0)=false:=beq_eq_false_iff_ne.2 (by omega);replace d:=Aa d
 go_in
 go_wp2_with fail;go_ret;exact⟨rfl,rfl⟩
def fplA (s:List UInt8) (m:Nat):Array Value:=#[.int .u64 (fpl s m 0:Int),.int .u64 (fpl s m 1:Int),.int .u64 (fpl s m 2:Int),.int .u64 (fpl s m 3:Int)]
theorem Dd (y:Int):IntKind.u64.wrap y=y%18446744073709551616:=by simp[IntKind.wrap,IntKind.bits,IntKind.signed]
theorem CA (h:m<18446744073709551616):IntKind.u64.wrap (m:Int)=(m:Int):=by rw[Dd];omega
theorem Ha (s:List UInt8) (m:Nat) (w:World) (hs:s.length<=1000000000) (hm:0<m) (w3:m<=1048576) :
 Calls prog 146 #[.string ⟨s.toArray⟩,.int .i64 (m:Int)] w fun e w'=>e = .returned (.agg (fplA s m))/\Ext w w':=by
 obtain⟨W0,O⟩:=Ab (w.alloc (.cells #[.int .u64 0,.int .u64 0,.int .u64 0,.int .u64 0] 250));obtain⟨c,w1,l0,hb,k0,p2⟩:=FM s W0;clear p2;obtain⟨g4,G⟩:=Ab w.heap.size;have y1:Row W0 g4 250 #[.int .u64 0,.int .u64 0,.int .u64 0,.int .u64 0]:=by rw[O,G];exact Row.new w _ _
 have q2:=Aa (y1.ext k0);have n0:Ext w W0:=by rw[O];exact(Ext.refl w).alloc _
 have f0:=Aa (n0.trans k0);obtain⟨b8,r0⟩:=Ab W0.heap.size;rw[<-r0]at l0 hb;obtain⟨n,hn⟩:=Ab s.length;rw[<-hn]at l0 hs;obtain⟨h0,I⟩:=Ab (14695981039346656037:Nat);have i0:h0<18446744073709551616:=by omega
 have j0:h0=fnv []:=I;replace hb:=Aa hb;replace hn:=Aa hn;replace r0:=Aa r0;replace O:=Aa O;replace G:=Aa G;replace n0:=Aa n0;replace k0:=Aa k0;replace y1:=Aa y1;replace I:=Aa I;replace j0:=Aa j0
 go_in
 go_upto_region 2 with (fail)
 rw[<-O.out,<-G.out];go_wp2_with fail
 go_loopw [5,15] (fun s5 s15 wr=>∃(i h:Nat),s5 = .int .u64 (h:Int)/\s15 = .int .i64 (i:Int)/\i<=n/\h<18446744073709551616/\Hid (h=fnv (s.take i))/\wr=w1) (fun _ s15 _=>n - (intOf s15).toNat)
 case atStart=>exact⟨0,h0,by rw[I.out];rfl,rfl,by omega,i0,j0,rfl⟩
 case round =>
  obtain⟨i,h,rfl,rfl,hi,hh,hf,rfl⟩:=hrel;by_cases f1:i<n
  ·obtain⟨x,e0⟩:∃x,s[i]? = some x:=⟨_,List.getElem?_eq_getElem (by rw[<-hn.out];exact f1)⟩
   obtain⟨g,o,hA,d1⟩:=hb.out.at_ (by rw[<-hn.out];omega);obtain⟨rfl,rfl⟩:g=b8/\o=0:=by injection hA with hA;injection hA with h1 h2;exact⟨h1.symm,h2.symm⟩
   have l1:=d1 i (by rw[<-hn.out];exact f1);rw[(List.getElem?_eq_some_iff.1 e0).2,Nat.zero_add]at l1;have U:=hf.out;have t0:fnv (s.take (i+1))=fnvS h x:=by rw[List.take_add_one,e0,U];exact Kb _ x
   obtain⟨y,hy⟩:=Ab x.toNat;rw[<-hy]at l1;have m4:y<256:=by rw[hy];exact x.toNat_lt
   have k2:=u64_xor_nat h y hh (by omega);obtain⟨z,hz⟩:=Ab (h ^^^ y);rw[<-hz]at k2;have o1:IntKind.u64.wrap ((z:Int)*1099511628211)=((fnvS h x:Nat):Int):=by
    rw[Dd];unfold fnvS;rw[<-hy,<-hz];omega
   obtain⟨h2,m0⟩:=Ab (fnvS h x);have n1:h2<18446744073709551616:=by rw[m0];exact Jk h x
   rw[<-m0]at o1 t0;replace t0:=Aa t0.symm;replace m0:=Aa m0;replace hz:=Aa hz;replace hy:=Aa hy;replace e0:=Aa e0;clear U d1 hA;go_wp2_with fail;exact⟨⟨i+1,h2,rfl,rfl,by omega,n1,t0,trivial⟩,by simp only[intOf];omega⟩
  ·obtain rfl:i=n:=by omega
   have U:h=fnv s:=by rw[hf.out,List.take_of_length_le (by rw[<-hn.out];exact Nat.le_refl _)]
   obtain⟨fs,g0⟩:=Ab (h%4294967296);obtain⟨d,hd⟩:=Ab (h / 4294967296);obtain⟨sd,p0⟩:=Ab (d ||| 1);have e1:d<4294967296:=by omega
   have p3:sd<4294967296:=by rw[p0];exact Nat.or_lt_two_pow (n:=32) e1 (by decide)
   have i2:fs<4294967296:=by omega
   have t3:bits .and .u64 (h:Int) 4294967295=(fs:Int):=by
    rw[show (4294967295:Int)=((4294967295:Nat):Int)from rfl,u64_and_nat h 4294967295 hh (by omega),g0];exact congrArg _ (Nat.and_two_pow_sub_one_eq_mod h 32)
   have e3:(h:Int) / 4294967296=(d:Int):=by omega
   have h4:bits .or .u64 (d:Int) 1=(sd:Int):=by rw[p0];exact u64_or_nat d 1 (by omega) (by omega)
   have m1:∀i,fpl s m i=(fs+i*sd)%m:=fun i=>by unfold fpl;rw[<-U,<-g0,<-hd,<-p0]
   have p4:=CA (m:=m) (by omega);replace g0:=Aa g0;replace hd:=Aa hd;replace p0:=Aa p0;replace m1:=Aa m1;replace U:=Aa U;clear I j0 i0;go_wp2_with fail;obtain⟨W2,J⟩:=Ab (wr.alloc (.cells #[.int .u64 0,.int .u64 0,.int .u64 0,.int .u64 0] 250));obtain⟨g10,H⟩:=Ab wr.heap.size;rw[<-J,<-H];have a1:Row W2 g10 250 #[.int .u64 0,.int .u64 0,.int .u64 0,.int .u64 0]:=by rw[J,H];exact Row.new wr _ _
   have o0:Ext w W2:=by rw[J];exact f0.out.alloc _
   have q0:Row W2 g4 250 #[.int .u64 0,.int .u64 0,.int .u64 0,.int .u64 0]:=by rw[J];exact q2.out.alloc _
   have h3:g4≠g10:=by have:=q2.out.lt;omega
   have l2:w.heap.size<=g10:=by rw[H];exact f0.out.size
   have Y:w.heap.size<=g4:=by have:=G.out;omega
   replace a1:=Aa a1;replace o0:=Aa o0;replace q0:=Aa q0;replace J:=Aa J;replace H:=Aa H
   go_loopw [30] (fun s30 wv=>∃(j:Nat) (cs:Array Value),s30 = .int .i64 (j:Int)/\j<=4/\Hid (cs.size=4/\∀k,k<j->cs[k]? = some (.int .u64 (fpl s m k:Int)))/\Hid (Row wv g10 250 cs)/\Hid (Row wv g4 250 #[.int .u64 0,.int .u64 0,.int .u64 0,.int .u64 0])/\Hid (Ext w wv)) (fun s30 _=>4 - (intOf s30).toNat)
   case atStart=>exact⟨0,_,rfl,by omega,Aa ⟨rfl,fun k hk=>by omega⟩,a1,q0,o0⟩
   case round =>
    obtain⟨j,cs,rfl,hj,Z,hr,x0,hE⟩:=hrel;by_cases i1:j<4
    ·obtain⟨p,hp⟩:=Ab (j*sd);have d3:p<17179869184:=by
      have:j*sd<=3*4294967296:=Nat.mul_le_mul (by omega) (by omega);omega
     obtain⟨t,ht⟩:=Ab (fs+p);obtain⟨v,hv⟩:=Ab (t%m);have p1:v=fpl s m j:=by rw[m1.out,hv,ht,hp]
     have q4:=CA (m:=j) (by omega);have o2:IntKind.u64.wrap ((j:Int)*(sd:Int))=(p:Int):=by
      rw[show (j:Int)*(sd:Int)=(p:Int)by rw[hp];simp];exact CA (by omega)
     have m3:(fs:Int)+(p:Int)=(t:Int):=by omega
     have j4:=CA (m:=t) (by omega);have b3:(t:Int)%(m:Int)=(v:Int):=by rw[hv];simp
     have r3:((m:Int)==0)=false:=beq_eq_false_iff_ne.2 (by omega);have f2:∃u,cs[j]? = some u:=⟨_,Array.getElem?_eq_getElem (by rw[Z.out.1];exact i1)⟩
     obtain⟨u,hu⟩:=f2;have l3:=hr.out.cell j hu;have o3:=hr.out.free j;have z3:(j:Int)<4:=by omega
     replace hp:=Aa hp;replace ht:=Aa ht;replace hv:=Aa hv;replace p1:=Aa p1;replace hu:=Aa hu;go_wp2_with fail;refine⟨⟨j+1,cs.setIfInBounds j (.int .u64 (v:Int)),by congr 1,by omega,Aa ⟨by rw[Array.size_setIfInBounds];exact Z.out.1,fun k hk=>?_⟩,Aa (hr.out.put j _),Aa (x0.out.away h3 _),Aa (hE.out.setCell l2 _)⟩,by simp only[intOf];omega⟩;rw[Array.getElem?_setIfInBounds];split
     ·rename_i e;subst e;rw[if_pos (by rw[Z.out.1];exact i1),p1.out]
     ·exact Z.out.2 k (by omega)
    ·have a3:¬ (j:Int)<4:=by omega
     have q1:cs=fplA s m:=by
      obtain⟨h1,h2⟩:=Z.out;apply Array.ext_getElem?;intro k;by_cases hk:k<4
      ·rw[h2 k (by omega)];rcases (show k=0\/k=1\/k=2\/k=3 by omega)with rfl | rfl | rfl | rfl <;> rfl
      ·rw[Array.getElem?_eq_none (by omega),Array.getElem?_eq_none (by show 4<=k;omega)]
     rw[q1]at hr;unfold fplA at hr;obtain⟨v0,y0⟩:=Ab (fpl s m 0);obtain⟨v1,b0⟩:=Ab (fpl s m 1);obtain⟨v2,c0⟩:=Ab (fpl s m 2);obtain⟨v3,d0⟩:=Ab (fpl s m 3);rw[<-y0,<-b0,<-c0,<-d0]at hr;have f3:=x0.out.get;have i3:=x0.out.free;replace y0:=Aa y0;replace b0:=Aa b0;replace c0:=Aa c0;replace d0:=Aa d0;replace q1:=Aa q1;go_wp2_with (refine wpList_load_row rfl 250 (.tmp 10) rfl g10 rfl 250 _ (0,0) _ hr.out underlying250 rfl (by kernel_rfl) ?_);have q3:=(((x0.out.put 0 (.int .u64 (v0:Int))).put 1 (.int .u64 (v1:Int))).put 2 (.int .u64 (v2:Int))).put 3 (.int .u64 (v3:Int));have e2:=(((hE.out.setCell (p:=⟨g4,0,none⟩) Y (.int .u64 (v0:Int))).setCell (p:=⟨g4,1,none⟩) Y (.int .u64 (v1:Int))).setCell (p:=⟨g4,2,none⟩) Y (.int .u64 (v2:Int))).setCell (p:=⟨g4,3,none⟩) Y (.int .u64 (v3:Int));exact bodyPost_ret (results_cell_row rfl _ _ g4 250 #[.int .u64 (v0:Int),.int .u64 (v1:Int),.int .u64 (v2:Int),.int .u64 (v3:Int)] (0,0) _ rfl q3 underlying250 rfl (by kernel_rfl)) rfl ⟨by unfold fplA;rw[<-y0.out,<-b0.out,<-c0.out,<-d0.out],e2⟩
theorem Nd (hi:i<4) (W:World):(Instr.index 250 (.agg (fplA s m)) (.int .i64 (i:Int))).run prog W = .ok (.int .u64 (fpl s m i:Int)) W:=by
 unfold fplA;generalize fpl s m=F;rcases (show i=0\/i=1\/i=2\/i=3 by omega)with rfl | rfl | rfl | rfl
 ·show _=_
  kernel_rfl
 ·show _=_
  kernel_rfl
 ·show _=_
  kernel_rfl
 ·show _=_
  kernel_rfl
def pAdd (f s:List UInt8) (m:Nat):Nat->List UInt8
 | 0=>f
 | j+1=>setB (pAdd f s m j) (fpl s m j)
theorem Kt (f s:List UInt8) (m:Nat):∀j,(pAdd f s m j).length=f.length
 | 0=>rfl
 | j+1=>by rw[pAdd,Ce,Kt f s m j]
theorem PK (f s:List UInt8):pAdd f s (8*f.length) 4=addB f s:=rfl
theorem NM (f:List UInt8):∀l:List (List UInt8),(l.foldl addB f).length=f.length:=by
 intro l
 induction l generalizing f with
 | nil=>rfl
 | cons c l ih=>rw[List.foldl_cons,ih,EL]
theorem LF (f:List UInt8) {l:List (List UInt8)} {x:List UInt8} (h:l[i]? = some x):(l.take (i+1)).foldl addB f=addB ((l.take i).foldl addB f) x:=by
 rw[List.take_add_one,h,List.foldl_append];rfl
def AddP (w0:World) (base g:Nat) (f:List UInt8) (e:Ending) (w':World):Prop:=∃z:Int,e = .returned (.int .i64 z)/\FilO w' base g f/\Ext w0 w'
theorem Qp (g base:Nat) (f:List UInt8) (A:Option Addr) (n c:Nat) (ts:List (List UInt8)) (w0 w:World) (h:FilO w base g f) (hf:0<f.length) (x2:f.length<=131072) (hn:n=ts.length) (v0:Cells w0 A (ts.map strV)) (hE:Ext w0 w) (hb:w0.heap.size<=base) (y2:n<=1000000000) (hlen:∀t∈ts,t.length<=1000000000) :
 Calls prog 166 #[.pointer (some ⟨g,0,none⟩),.slice A n c] w fun e w'=>AddP w0 base g (ts.foldl addB f) e w':=by
 have d1:=Aa (GL g f w h.fil hf);obtain⟨m,hm⟩:=Ab (8*f.length);have m0:0<m:=by omega
 have f0:m<=1048576:=by omega
 have l1:=Aa (fun W (F:List UInt8) (O:FilO W base g F) (hl:F.length=f.length)=>KZ g F W O.fil (by omega));have f1:=Aa (fun s W (hs:s.length<=1000000000)=>Ha s m W hs m0 f0);have x1:=Aa (fun s i (hi:i<4) W=>Nd (s:=s) (m:=m) hi W);have i1:=Aa (fun s j W (F:List UInt8) (O:FilO W base g F) (hl:F.length=f.length)=>Q8 g (fpl s m j) base F W O (by rw[hl,<-hm];exact FC s j m0) (Nat.lt_of_lt_of_le (FC s j m0) f0));obtain⟨Z,hZ⟩:=Ab (ts.foldl addB f);rw[<-hZ];have r0:=h;obtain⟨b,cc,cur,hr,_⟩:=r0;have k0:=hr.cell 0 rfl;clear hr;replace hZ:=Aa hZ;replace hm:=Aa hm;replace h:=Aa h;replace hn:=Aa hn;replace v0:=Aa v0;replace hE:=Aa hE;replace hlen:=Aa hlen
 go_in
 go_wp2_with fail;refine d1.out.mono ?_;rintro e w1 ⟨rfl,hw⟩;obtain rfl:=hw.symm;go_wp2_with fail
 go_loopw [5,14] (fun s5 s14 wr=>∃(i:Nat) (z:Int),s5 = .int .i64 z/\s14 = .int .i64 (i:Int)/\i<=n/\Hid (FilO wr base g ((ts.take i).foldl addB f))/\Hid (Ext w0 wr)) (fun _ s14 _=>n - (intOf s14).toNat)
 case atStart=>exact⟨0,0,rfl,rfl,by omega,h,hE⟩
 case round =>
  obtain⟨i,z,rfl,rfl,hi,O,h0⟩:=hrel;by_cases m1:i<n
  ·obtain⟨x,U⟩:∃x,ts[i]? = some x:=⟨_,List.getElem?_eq_getElem (by rw[<-hn.out];exact m1)⟩
   obtain⟨ga,o,hA,c0⟩:=v0.out.at_ (by rw[List.length_map,<-hn.out];omega);subst hA;have a1:=h0.out.cell (c0 i (strV x) (by rw[List.getElem?_map,U];rfl));unfold strV at a1;have h2:=hlen.out x (List.mem_of_getElem? U);have I:=LF f U;obtain⟨F,G⟩:=Ab ((ts.take i).foldl addB f);rw[<-G]at O I;have J:F.length=f.length:=by rw[G];exact NM _ _
   have b0:=Aa (l1.out wr F O.out J);rw[J,<-hm.out]at b0;have j1:=Aa (fun W=>f1.out x W h2);have t0:=O.out;obtain⟨b2,cc2,cur2,n0,_⟩:=t0;have k2:=n0.cell 0 rfl;clear n0 c0;replace U:=Aa U;replace G:=Aa G;replace I:=Aa I;replace J:=Aa J;go_wp2_with fail;refine b0.out.mono ?_;rintro e w3 ⟨rfl,hw⟩;obtain rfl:=hw.symm;go_wp2_with fail;refine(j1.out _).mono ?_;rintro e w4 ⟨rfl,q0⟩;have p1:=Aa (O.out.ext q0);have x0:=Aa (h0.out.trans q0);clear q0;go_wp2_with fail
   go_loopw [5,24] (fun s5 s24 wv=>∃(j:Nat) (z:Int),s5 = .int .i64 z/\s24 = .int .i64 (j:Int)/\j<=4/\Hid (FilO wv base g (pAdd F x m j))/\Hid (Ext w0 wv)) (fun _ s24 _=>4 - (intOf s24).toNat)
   case atStart=>exact⟨0,_,rfl,rfl,by omega,p1,x0⟩
   case round =>
    obtain⟨j,z2,rfl,rfl,hj,j0,p0⟩:=hrel;by_cases y1:j<4
    ·have hx:=x1.out x j y1;have d0:(j:Int)<4:=by omega
     have Y:=i1.out x j wr (pAdd F x m j) j0.out (by rw[Kt];exact J.out);have l0:setB (pAdd F x m j) (fpl x m j)=pAdd F x m (j+1):=rfl;rw[l0]at Y;obtain⟨p,hp⟩:=Ab (fpl x m j);rw[<-hp]at hx Y;obtain⟨v,hv⟩:=Ab (!hasB (pAdd F x m j) p);rw[<-hv]at Y;have t0:=j0.out;obtain⟨b3,cc3,cur3,o0,_⟩:=t0;have k3:=o0.cell 0 rfl;clear o0 l0;replace Y:=Aa Y;replace hp:=Aa hp;replace hv:=Aa hv;cases v with
     | true =>
      go_wp2_with fail;refine Y.out.mono ?_;rintro e w5 ⟨rfl,H,d⟩;replace H:=Aa H;replace d:=Aa (d w0 p0.out hb);go_wp2_with fail;exact⟨⟨j+1,_,rfl,by congr 1,by omega,H,d⟩,by simp only[intOf];omega⟩
     | false =>
      go_wp2_with fail;refine Y.out.mono ?_;rintro e w5 ⟨rfl,H,d⟩;replace H:=Aa H;replace d:=Aa (d w0 p0.out hb);go_wp2_with fail;exact⟨⟨j+1,_,rfl,by congr 1,by omega,H,d⟩,by simp only[intOf];omega⟩
    ·have d0:¬ (j:Int)<4:=by omega
     have y0:Hid (FilO wr base g ((ts.take (i+1)).foldl addB f)):=Aa (by
      rw[I.out,<-PK,J.out,<-hm.out];have:=j0.out;rw[show j=4 by omega]at this;exact this)
     go_wp2_with fail;exact⟨⟨i+1,_,rfl,rfl,by omega,y0,p0⟩,by simp only[intOf];omega⟩
  ·obtain rfl:i=n:=by omega
   have g0:FilO wr base g Z:=by
    have:=O.out;rw[List.take_of_length_le (by rw[<-hn.out];exact Nat.le_refl _)]at this;rw[hZ.out];exact this
   replace g0:=Aa g0;go_wp2_with fail;go_ret;exact⟨_,rfl,g0.out,h0.out⟩
def NewF (w:World) (f:List UInt8) (e:Ending) (w':World):Prop:=∃g,e = .returned (.tuple #[.pointer (some ⟨g,0,none⟩),.int .i64 0])/\w.heap.size<=g/\FilO w' w.heap.size g f/\Ext w w'
theorem Tm (n:Nat) (w:World) (hn:n<=262144):Calls prog 165 #[.int .i64 (n:Int)] w fun e w'=>NewF w (List.replicate (filL n) 0) e w':=by
 obtain⟨x,O⟩:∃x:Nat,(x:Int)=max ((n*10:Nat):Int) 64:=⟨max (n*10) 64,by omega⟩
 have H:(x:Int)=max (10*(n:Int)) 64:=by omega
 obtain⟨y,Y⟩:∃y:Nat,(y:Int)=min (x:Int) 1048576:=⟨min x 1048576,by omega⟩
 have J:=fun(W:World)=>Eg (P:=prog) #[3,3] 3 H W;have U:=fun(W:World)=>AQ (P:=prog) #[3,3] 3 Y W;obtain⟨k,hk⟩:=Ab ((y+7) / 8);have d:k=filL n:=by unfold filL;omega
 have h0:y<=1048576:=by omega
 have G:((y:Int)+7) / 8=(k:Int):=by omega
 have Z:k<=131072:=by omega
 have I:∀W:World,(Instr.makeSlice 25 (.int .i64 (k:Int)) (.int .i64 (k:Int))).run prog W = .ok (.slice (some ⟨W.heap.size,0,none⟩) k k) (W.alloc (.cells (madeCells #[.int .u8 0] k) 5)):=fun W=>by
  have h:=run_make (P:=prog) W 25 5 _ _ underlying25 rfl rfl .i64 .i64 (k:Int) (k:Int) (by omega) (by omega) (by show (1:Int)*k<=_;omega) (by omega);rw[h];simp only[Int.toNat_natCast];show Result.ok _ (W.alloc (.cells (madeCells #[.int .u8 0] (k*1)) 5))=_;rw[Nat.mul_one]
 replace O:=Aa O;replace H:=Aa H;replace Y:=Aa Y;replace hk:=Aa hk;replace d:=Aa d
 go_in
 go_wp2_with fail;go_ret2;have h1:=Row.new w 5 (madeCells #[.int .u8 0] k);have h2:=Row.new (w.alloc (.cells (madeCells #[.int .u8 0] k) 5)) 239 #[.slice (some ⟨w.heap.size,0,none⟩) k k];rw[World.size_alloc]at h2;refine⟨w.heap.size+1,rfl,by omega,⟨w.heap.size,k,_,by rw[List.length_replicate,<-d.out];exact h2,Nat.le_refl _,h1.alloc _,by rw[List.length_replicate,<-d.out];exact Nat.le_refl _,by rw[size_madeCells];exact Nat.le_refl _,?_⟩,((Ext.refl w).alloc _).alloc _⟩;rw[List.length_replicate,<-d.out,toList_madeCells_one,List.take_of_length_le (by simp),List.map_replicate];rfl
def NewF1 (w:World) (f:List UInt8) (e:Ending) (w':World):Prop:=∃g,e = .returned (.pointer (some ⟨g,0,none⟩))/\w.heap.size<=g/\FilO w' w.heap.size g f/\Ext w w'
theorem QI (A:Option Addr) (n c:Nat) (ts:List (List UInt8)) (w:World) (I:n=ts.length) (U:Cells w A (ts.map strV)) (h0:n<=1000000000) (hlen:∀t∈ts,t.length<=1000000000) :
 Calls prog 109 #[.slice A n c] w fun e w'=>NewF1 w (ofB ts) e w':=by
 obtain⟨x,hx⟩:∃x:Nat,(x:Int)=min (n:Int) 262144:=⟨min n 262144,by omega⟩
 have k0:=fun(W:World)=>AQ (P:=prog) #[3,3] 3 hx W;have O:x=min ts.length 262144:=by omega
 have q0:=Aa (fun W=>Tm x W (by omega));have d:=Aa (fun g W (h:FilO W w.heap.size g (List.replicate (filL x) 0)) (Z:Ext w W)=>Qp g w.heap.size (List.replicate (filL x) 0) A n c ts w W h (by rw[List.length_replicate];have:=EU x;omega) (by rw[List.length_replicate];have:=EU x;omega) I U Z (Nat.le_refl _) h0 hlen);have J:ts.foldl addB (List.replicate (filL x) 0)=ofB ts:=by unfold ofB;rw[O]
 rw[J]at d;replace hx:=Aa hx;replace O:=Aa O;replace I:=Aa I;replace J:=Aa J;replace U:=Aa U;replace hlen:=Aa hlen
 go_in
 go_wp2_with fail;refine(q0.out _).mono ?_;rintro e w1 ⟨g,rfl,hg,G,Z⟩;replace G:=Aa G;replace Z:=Aa Z;go_wp2_with fail;refine(d.out g _ G.out Z.out).mono ?_;rintro e w2 ⟨z,rfl,Y,H⟩;replace Y:=Aa Y;replace H:=Aa H;go_wp2_with fail;go_ret;exact⟨g,rfl,hg,Y.out,H.out⟩
theorem LB (g:Nat) (f:List UInt8) (w:World) (h:FilR w g f) (Z:0<f.length) (G:f.length<=131072) :
 Calls prog 110 #[.pointer (some ⟨g,0,none⟩)] w fun e w'=>NewB w f e w':=by
 have U:=Aa (GL g f w h Z);obtain⟨A,c,O,hi⟩:=h;have k0:=O.cell 0 rfl;have d:=Aa (Cr A f.length c f w rfl hi.bytes hi.nil_ (by omega));obtain⟨n,H⟩:=Ab f.length;rw[<-H]at k0 d;replace H:=Aa H;replace O:=Aa O;replace hi:=Aa hi
 go_in
 go_wp2_with fail;refine U.out.mono ?_;rintro e w1 ⟨rfl,I⟩;obtain rfl:=I.symm;go_wp2_with fail;refine d.out.mono ?_;rintro e w2 ⟨A1,c1,rfl,Y,J⟩;replace Y:=Aa Y;replace J:=Aa J;go_wp2_with fail;go_ret;exact⟨A1,c1,by rw[<-H.out];rfl,by rw[<-H.out];exact Y.out,J.out⟩
theorem NO (A:Option Addr) (n c:Nat) (f:List UInt8) (w:World) (h:In8 w A n c f) (hf:8<=n) (G:n<=131072) :
 Calls prog 77 #[.slice A n c] w fun e w'=>NewF w f e w':=by
 have J:=Aa (Cr A n c f w h.len h.bytes h.nil_ (by omega));have d:=Aa h.len;replace h:=Aa h
 go_in
 go_wp2_with fail;refine J.out.mono ?_;rintro e w1 ⟨A1,c1,rfl,Y,H⟩;replace Y:=Aa Y;replace H:=Aa H;go_wp2_with fail;go_ret2;have h2:=Row.new w1 239 #[.slice A1 n c1];obtain⟨h3,U,O⟩:=Y.out;rcases O with ⟨_,h6⟩ | ⟨b,cur,rfl,hb,I,Z,ht⟩
 ·omega
 ·exact⟨w1.heap.size,rfl,H.out.size,⟨b,c1,cur,by rw[<-d.out];exact h2,hb,I.alloc _,by rw[<-d.out];exact U,Z,by rw[<-d.out];exact ht⟩,H.out.alloc _⟩
end
end Go.Proofs.YtpnlihgcboepeaaGreat
