/- Texts of one proof, joined. -/
import Derived.Test.YtfifdilapbeiiaaGreatPG05
import Derived.RegionTactic
import Derived.ChangeAlike
import Derived.Maps.Keyed
import Derived.Maps.OwnOps
import Derived.StringKeys
set_option linter.unusedSimpArgs false
set_option linter.unusedVariables false
set_option maxRecDepth 100000
set_option maxHeartbeats 16000000
namespace Go.Proofs.YtfifdilapbeiiaaGreat
open _root_.Go.Proofs.Tryz
variable {a a' a0:Act} {listed:Array Bool} {ops:Array Oper} {cs cs' lb vs:Array Value} {Q R:Exit → Act → World → Prop} {fl la la0 z z0 z1 z2:Int} {bs ks ns ps:List (List UInt8)} {L':List (Value × Value)} {ms rs:List Nat} {Hd Hd' L f l l1 l2 nm p pre r r1 r2 s tx:List UInt8} {news us xs ys:List Value} {B B1 M N X acc b b1 b2 base bytes c c' c1 c2 c3 cl fr fuel g g' g1 g2 g3 gd gf i j k lo m m' n n1 n2 n3 off q x:Nat} {S:Nat → Prop} {o y:Oper} {A A' A1 A2 A3 A8:Option Addr} {P:Program} {md:Region.Mode} {E T e t t' t1 t2 tp tq tr ty:TypeId} {V V1 u u0 v v1 v2 v3:Value} {C W W' W1 W6 w w' w0 w1 w2 w8 w9 wx:World}
section
open Go.RowKit Go.Shelf
attribute [local go_sem] Oper.semAt_some AP Cp
def psP (ps:List PoC):List Po:=ps.map PoC.po
def OkB (w:World) (l:List UInt8) (e:Ending) (w':World):Prop:=∃A c,e = .returned (.tuple #[.slice A l.length c,.int .i64 0])/\Own8 w' w.heap.size A l.length c l/\Ext w w'
theorem E6 {l:List Po} (h:okPs l=true):l.length<=65536:=by
 rw[Ed,Bool.and_eq_true]at h;have:=DU h.1 (by omega);rw[List.length_map]at this;omega
theorem PosOk.part {ps:List PoC} (h:PosOk w A ps) (d:∀a,A=some a->a.spot=none) (i m:Nat):PosOk w (A.map fun a=>a.add (i*2)) ((ps.drop i).take m):=by
 refine⟨?_,fun x H=>h.each x (List.mem_of_mem_drop (List.mem_of_mem_take H))⟩;unfold pcells;rw[Bh (f:=PoC.cells) (k:=2) (fun _=>rfl),Bo (f:=PoC.cells) (k:=2) (fun _=>rfl)];exact h.cells.part d _ _
def PEnc (base h1 h2 h3 b1 b2:Nat) (V:Value) (Hd Bd:List UInt8) (last:Int) (w W:World):Prop :=
 HB base h1 h2 Hd Bd W/\Row W h3 3 #[.int .i64 last]/\Row W b1 47 #[V]/\Row W b2 3 #[.int .i64 32]/\Ext w W
theorem PEnc.alike {base h1 h2 H b1 b2 B:Nat} {Hd Bd:List UInt8} {last:Int} (h:PEnc base h1 h2 H b1 b2 V Hd Bd last w W) (d:Alike B W W1) (Y:w.heap.size<=B):PEnc base h1 h2 H b1 b2 V Hd Bd last w W1 :=
 ⟨h.1.alike d,d.row h.2.1,d.row h.2.2.1,d.row h.2.2.2.1,d.ext h.2.2.2.2 Y⟩
theorem PEnc.ext {base h1 h2 H b1 b2:Nat} {Hd Bd:List UInt8} {last:Int} (h:PEnc base h1 h2 H b1 b2 V Hd Bd last w W) (d:Ext W W1):PEnc base h1 h2 H b1 b2 V Hd Bd last w W1 :=
 ⟨h.1.ext d,h.2.1.ext d,h.2.2.1.ext d,h.2.2.2.1.ext d,h.2.2.2.2.trans d⟩
theorem E7 (ps:List PoC) (A:Option Addr) (m c:Nat) (w:World) (hm:m=ps.length) (h:PosOk w A ps) (hA:∀a,A=some a->a.spot=none) (q9:m<=c) (d0:okPs (psP ps)=true) (j0:(blockPo (-1) (psP ps)).length<=50000000) :
 Calls prog 44 #[.slice A m c] w fun e w'=>OkB w (encPs (psP ps)) e w':=by
 have pa:m<=65536:=by have:=E6 d0;unfold psP at this;rw[List.length_map]at this;omega
 have p5:=Ku ps A m c w hm h (by omega);rw[show ps.map PoC.po=psP ps from rfl,d0,if_pos rfl]at p5;obtain⟨P,hP⟩:=Ab (psP ps);rw[<-hP]at d0 j0 ⊢;have x2:=Aa (fun A n c x l W h1 h2 h3 h4 h5=>Cm A n c x l W h1 h2 h3 h4 h5);have ta:=AH (m:=m) (by omega);replace p5:=Aa p5;replace hm:=Aa hm;replace h:=Aa h;replace hP:=Aa hP;replace d0:=Aa d0;replace j0:=Aa j0;replace hA:=Aa hA;refine(callsIn_wide (n:=0)).1 ?_;refine callsIn_of_wp_marks func44 rfl trivial ?_;simp only[ntmps44,List.size_toArray,List.length_cons,List.length_nil,Nat.reduceAdd,Nat.reduceSub,Array.replicate_succ,Array.replicate_zero,List.push_toArray,List.append_toArray,List.nil_append,List.cons_append];gi_wp2_with fail;refine(callsIn_wide.2 p5.out).mono ?_;rintro e w1 ⟨rfl,l6⟩;gi_wp2_with fail;refine(callsIn_wide.2 (x2.out none 0 0 m [] w1 rfl (.inl rfl) (fun _=>rfl) (by omega) (by omega))).mono ?_;rintro e w2 n0;obtain⟨A2,c2,rfl,e2,z3⟩:=n0;rw[List.nil_append]at e2 ⊢;obtain⟨k2,m3⟩:∃k,k=(vb m).length:=⟨_,rfl⟩
 rw[<-m3]at e2 ⊢;replace e2:=Aa e2;replace m3:=Aa m3;replace z3:=Aa (l6.trans z3);gi_wp2_with fail;obtain⟨W3,y0⟩:=Ab (((w2.alloc (Obj.cells #[Value.slice A2 k2 c2] 24)).alloc (Obj.cells #[Value.slice none 0 0] 24)).alloc (Obj.cells #[Value.int IntKind.i64 (-1)] 3));rw[<-y0];obtain⟨h1,b0⟩:=Ab w2.heap.size;have q1:Row W3 h1 24 #[.slice A2 k2 c2]:=by rw[y0,b0];exact((Row.new w2 _ _).alloc _).alloc _
 have q2:Row W3 (h1+1) 24 #[.slice none 0 0]:=by
  have:=Row.new (w2.alloc (Obj.cells #[Value.slice A2 k2 c2] 24)) 24 #[.slice none 0 0];rw[World.size_alloc,<-b0]at this;rw[y0];exact this.alloc _
 have q3:Row W3 (h1+2) 3 #[.int .i64 (-1)]:=by
  have:=Row.new ((w2.alloc (Obj.cells #[Value.slice A2 k2 c2] 24)).alloc (Obj.cells #[Value.slice none 0 0] 24)) 3 #[.int .i64 (-1)];rw[World.size_alloc,World.size_alloc,<-b0]at this;rw[y0];exact this
 have m0:Ext w2 W3:=by rw[y0];exact(((Ext.refl w2).alloc _).alloc _).alloc _
 have b5:W3.heap.size=h1+3:=by rw[y0,b0];simp
 have e7:w.heap.size<=h1:=by rw[b0];exact z3.out.size
 have f4:HB w.heap.size h1 (h1+1) (vb m) [] W3:=⟨A2,none,c2,0,by rw[<-m3.out];exact q1,q2,⟨rfl,by rw[<-m3.out];exact(e2.out.lower l6.size).ext m0⟩,⟨rfl,Buf.nil _ _ _⟩,fun _ _ _ e=>by cases e⟩
 replace m0:=Aa (z3.out.trans m0);rw[<-b0];refine(callsIn_wide.2 (Ln A m c 32 W3 (by omega) (by omega))).mono ?_;rintro e w4 ⟨b1,b2,rfl,rb1,rb2,a8,b8,j9,e4⟩;have p3:PEnc w.heap.size h1 (h1+1) (h1+2) b1 b2 (.slice A m c) (vb m) [] (-1) w w4:=⟨f4.ext e4,q3.ext e4,rb1,rb2,m0.out.trans e4⟩
 have j5:=JT A m c 32 b1 b2 w4 rb1 rb2 (by omega) (by omega) (by omega) q9;rw[b5]at a8 b8;have f0:=p3.2.2.2.2.size;replace p3:=Aa p3;replace j5:=Aa j5;replace y0:=Aa y0;replace b0:=Aa b0;clear q1 q2 q3 f4 e4 rb1 rb2 e2 m0 z3 m3 b5;gi_wp2_with fail;unfold ChIterA at j5;refine C8 (gf:=135) (lb:=#[.pointer (some ⟨b1,0,none⟩),.pointer (some ⟨b2,0,none⟩)]) rfl (enters_of func135 (by kernel_rfl) rfl) j5.out (fun _=>rfl) (fun _ _ h=>h.others) (fun _ _ _ h=>h.2.2.2.others) (KeepB.trans b1 b2) ?kb
  (fun pre W=>PEnc w.heap.size h1 (h1+1) (h1+2) b1 b2 (.slice A m c) (vb m++headPo (-1) ((chunkL 32 P).take pre.length)) (blockPo (-1) (P.take (pre.length*32))) (lastPo (-1) (P.take (pre.length*32))) w W) (fun pre A B h ha=>h.alike ha f0) (fun pre A B h hE=>h.ext hE) ?h0 ?hround ?hdone
 case kb =>
  have y7:=(p3.out.2.2.1).lt;have z7:=(p3.out.2.2.2.1).lt;exact KeepB.alike y7 z7
 case h0 =>
  intro W ha;have:=p3.out.alike ha f0;simpa [headPo,blockPo,lastPo]using this
 case hround =>
  rintro l pre i W hI ⟨hi,r8⟩;subst hi;have k3:P.length=m:=by rw[hP.out,hm.out];exact List.length_map ..
  have hR:=Hb d0.out j0.out (r:=pre.length) (by rw[k3];exact r8);obtain⟨j,hj⟩:=Ab (min 32 (m - pre.length*32));obtain⟨cb,q4⟩:=Ab ((ps.drop (pre.length*32)).take 32);have i1:cb.length=j:=by rw[q4,hj,List.length_take,List.length_drop,hm.out]
  obtain⟨A',d4⟩:=Ab (A.map fun a=>a.add (pre.length*32*2):Option Addr);have m2:PosOk w A' cb:=by rw[d4,q4];exact h.out.part hA.out _ _
  have c5:chunkVA A m 32 pre.length = .slice A' j j:=by unfold chunkVA;rw[d4,hj]
  obtain⟨bP,o4⟩:=Ab ((P.drop (pre.length*32)).take 32);have e1:bP=cb.map PoC.po:=by rw[o4,q4,hP.out,psP,<-List.map_drop,<-List.map_take]
  obtain⟨lst,j4⟩:=Ab (lastPo (-1) (P.take (pre.length*32)));rw[<-o4,<-j4]at hR;rw[hR.last]at hI;obtain⟨Hd,q0⟩:=Ab (vb m++headPo (-1) ((chunkL 32 P).take pre.length));obtain⟨Bd,G⟩:=Ab (blockPo (-1) (P.take (pre.length*32)));rw[<-q0,<-G]at hI;have g9:j<=32:=by omega
  replace hI:=Aa hI;replace hR:=Aa hR;rw[c5];clear c5;replace m2:=Aa m2;replace d4:=Aa d4;replace q4:=Aa q4;replace hj:=Aa hj;replace o4:=Aa o4;replace j4:=Aa j4;replace q0:=Aa q0;replace G:=Aa G;replace i1:=Aa i1;replace e1:=Aa e1;replace k3:=Aa k3;gi_wp2_with fail;refine⟨KeepsOthers.refl _,KeepB.refl _ _ _,fun W2 f6=>?_⟩;have j7:=Aa (hI.out.alike f6 f0);clear f6 hI;obtain⟨i3,y4,y2,a2,a3⟩:=j7.out;obtain⟨Y,hY⟩:=Ab (blockPo lst bP);obtain⟨lz,t3⟩:=Ab (lastPo lst bP);have o8:=hR.out.lo;have d8:=hR.out.hi;have z8:Y.length<=50000000:=by have:=hR.out.len;have:=j0.out;rw[hY];omega
  have o7:=Aa (fun base A B n c k c2 l last N xs W h1 h2 h3 h4 h5 h6 h7 h8 h9=>OJ base A B n c k c2 l last N xs W h1 h2 h3 h4 h5 h6 h7 h8 h9);replace i3:=Aa i3;replace y4:=Aa y4;replace y2:=Aa y2;replace a2:=Aa a2;replace a3:=Aa a3;replace hY:=Aa hY;replace t3:=Aa t3;clear j7;gi_wp2_with fail
  gi_loopw [9,26] (fun s9 s26 wr=>∃(i n9 c9:Nat) (A9:Option Addr) (X:List UInt8) (la:Int),s9 = .slice A9 n9 c9/\s26 = .int .i64 (i:Int)/\i<=j/\n9<=50000000 /\ -1<=la/\la<65536/\Hid (Y=X++blockPo la (bP.drop i))/\Hid (risB 65536 la ((bP.drop i).map (·.1))=true)/\Hid (lastPo la (bP.drop i)=lz)/\Hid (Own8 wr w.heap.size A9 n9 c9 X)/\Hid (Row wr (h1+2) 3 #[.int .i64 la])/\Hid (Chg (fun k=>k=h1+2) W2 wr)) (fun _ s26 _=>j - (intOf s26).toNat)
  case atStart=>exact⟨0,0,0,none,[],lst,rfl,rfl,by omega,by omega,o8,d8,Aa (by rw[hY.out];rfl),Aa hR.out.ris,Aa (by rw[t3.out];rfl),Aa ⟨rfl,Buf.nil _ _ _⟩,y4,Aa (Chg.refl _ _)⟩
  case round =>
   obtain⟨i,n9,c9,A9,X,la,rfl,rfl,qa,ka,t9,v9,x7,p9,i7,p0,e0,r0⟩:=hrel;have J:Hid (Ext w wr):=Aa (a3.out.chg r0.out fun k hk e=>by omega);by_cases e8:i<j
   ·obtain⟨x,c4⟩:∃x,cb[i]? = some x:=⟨_,List.getElem?_eq_getElem (by rw[i1.out];exact e8)⟩
    obtain⟨g,o,v8,x0,x1⟩:=Bc (m2.out.cells.ext J.out) c4;subst v8;have y6:=m2.out.each x (List.mem_of_getElem? c4);have r4:bP[i]? = some x.po:=by rw[e1.out,List.getElem?_map,c4];rfl
    have m6:=hR.out.pos x.po (List.mem_of_getElem? r4);have k1:=x7.out;have d2:=p9.out;have j2:=i7.out;rw[AY r4]at k1 d2 j2;rw[List.map_cons]at d2;obtain⟨r5,w5,a4⟩:=BW d2;have n6:=fun o=>J.out.alloc o;have d7:=fun o=>r0.out.trans (Chg.of_ext ((Ext.refl wr).alloc o) _) fun _ _ h=>h;have e6:=fun o=>e0.out.alloc o;have a9:=fun o=>(e0.out.alloc o).cell 0 rfl;replace c4:=Aa c4;replace r4:=Aa r4;replace m6:=Aa m6;replace k1:=Aa k1;replace j2:=Aa j2;replace a4:=Aa a4;replace y6:=Aa y6;clear d2;obtain⟨d,pos,B,cB⟩:=x;have r5:la<d:=r5;have w5:d<65536:=w5;simp only at x0 x1;obtain⟨pl,y3⟩:=Ab pos.length;rw[<-y3]at x1;replace y3:=Aa y3;replace n6:=Aa n6;replace d7:=Aa d7;replace e6:=Aa e6;obtain⟨x9,x4⟩:0<pos.length/\risB 1048576 (-1) pos=true:=by
     have:=m6.out;unfold okPo at this;rw[Bool.and_eq_true]at this;exact⟨of_decide_eq_true this.1,this.2⟩
    obtain⟨q,hq⟩:∃q:Nat,(q:Int)=d - la - 1:=⟨(d - la - 1).toNat,by omega⟩
    obtain⟨X1,l4⟩:=Ab (X++stepsL la [d]);obtain⟨X2,o3⟩:=Ab (X1++vb pl);obtain⟨X3,j3⟩:=Ab (X2++stepsL (-1) pos);have j1:Y=X3++blockPo d (bP.drop (i+1)):=by
     rw[k1.out,j3,o3,l4,y3.out];show X++((vb (d - la - 1).toNat++vb pos.length++stepsL (-1) pos)++_)=_;simp[stepsL,PoC.po]
    have t7:X3.length<=50000000:=by rw[j1,List.length_append]at z8;omega
    have m7:X2.length<=X3.length:=by rw[j3,List.length_append];omega
    have g7:X1.length<=X2.length:=by rw[o3,List.length_append];omega
    have y9:pl<=50000000:=by
     have:=FR pos (-1);rw[j3,List.length_append,<-y3.out]at *;omega
    have va:=AH (m:=pl) (by omega);replace l4:=Aa l4;replace o3:=Aa o3;replace j3:=Aa j3;replace j1:=Aa j1;replace hq:=Aa hq;replace x4:=Aa x4;gi_wp2_with fail;obtain⟨W5,l3⟩:=Ab ((wr.alloc (Obj.cells #[Value.int IntKind.i64 d,Value.slice B pl cB] 89)).alloc (Obj.cells #[Value.int IntKind.i64 d] 3));have I:Ext wr W5:=by rw[l3];exact((Ext.refl wr).alloc _).alloc _
    have rp:Row W5 wr.heap.size 89 #[Value.int IntKind.i64 d,Value.slice B pl cB]:=by rw[l3];exact(Row.new wr _ _).alloc _
    have a7:Cells W5 (some ⟨wr.heap.size+1,0,none⟩) ([d].map IV):=by
     rw[l3];refine .inr ⟨_,0,rfl,fun u v hv=>?_⟩;have:=heap_alloc_new (wr.alloc (Obj.cells #[Value.int IntKind.i64 d,Value.slice B pl cB] 89)) (Obj.cells #[Value.int IntKind.i64 d] 3);rw[World.size_alloc]at this;rw[Nat.zero_add,cell_of_row _ _ _ _ _ _ this];simpa [IV]using hv
    rw[<-l3];have Z:=p0.out.1;refine(Bb (o7.out w.heap.size A9 _ n9 c9 1 1 X la 65536 [d] W5 (p0.out.ext I) (by have:=(J.out.trans I).size;omega) rfl a7 (by simp[risB,r5,w5]) (by omega) (by omega) (by omega) (by omega))).mono ?_;rintro e w6 i5;obtain⟨A6,c6,rfl,i0,e5⟩:=i5;rw[<-l4.out]at i0 ⊢;obtain⟨gp,p6⟩:=Ab wr.heap.size;rw[<-p6]at rp ⊢;have rp6:=rp.ext e5;have y1:=rp6.cell 1 rfl;have b4:w.heap.size<=W5.heap.size:=(J.out.trans I).size;have x5:Hid (Ext wr w6):=Aa (I.trans e5);have r7:w.heap.size<=w6.heap.size:=(J.out.trans x5.out).size;obtain⟨n10,m4⟩:=Ab X1.length;rw[<-m4]at i0 g7 ⊢;replace m4:=Aa m4;replace rp6:=Aa rp6;replace i0:=Aa i0;replace p6:=Aa p6;clear l3 I rp a7 Z e5 b4;gi_wp2_with fail;refine(Bb (x2.out A6 n10 c6 pl X1 w6 i0.out.1 i0.out.2.cells i0.out.nil_ (by omega) (by omega))).mono ?_;rintro e w7 n0;obtain⟨A7,c7,rfl,g0,k0⟩:=n0;rw[<-o3.out]at g0 ⊢;have rp7:=rp6.out.ext k0;have z1:=rp7.cell 1 rfl;have z0:=rp7.cell 0 rfl;have x3:Hid (Own8 w7 w.heap.size A7 X2.length c7 X2):=Aa ⟨rfl,g0.lower r7⟩;have b3:Hid (Ext wr w7):=Aa (x5.out.trans k0);have q8:w.heap.size<=w7.heap.size:=(J.out.trans b3.out).size;obtain⟨n11,t4⟩:=Ab X2.length;rw[<-t4]at x3 m7 ⊢;replace t4:=Aa t4;replace rp7:=Aa rp7;clear g0 k0 y1;gi_wp2_with fail;refine(Bb (o7.out w.heap.size A7 B n11 c7 pl cB X2 (-1) 1048576 pos w7 x3.out q8 y3.out ((y6.out.1.ext J.out).ext b3.out) x4.out (by omega) (by omega) (by omega) (by omega))).mono ?_;rintro e w8 i5;obtain⟨A8,c8,rfl,U,i2⟩:=i5;rw[<-j3.out]at U ⊢;have rp8:=rp7.out.ext i2;have v0:=rp8.cell 0 rfl;have y5:Hid (Ext wr w8):=Aa (b3.out.trans i2);have r38:=e0.out.ext y5.out;have t0:=r38.cell 0 rfl;have t1:=r38.free 0;obtain⟨n12,v4⟩:=Ab X3.length;rw[<-v4]at U t7 ⊢;replace v4:=Aa v4;replace U:=Aa U;replace r38:=Aa r38;clear z0 z1 i2 rp8;gi_wp2_with fail;have l7:=r38.out.put 0 (.int .i64 d);have j6:Own8 (w8.setCell ⟨h1+2,0,none⟩ (.int .i64 d)) w.heap.size A8 n12 c8 X3:=⟨U.out.1,U.out.2.setCell (U.out.2.unlike r38.out (by decide)) _⟩
    have b7:Chg (fun k=>k=h1+2) W2 (w8.setCell ⟨h1+2,0,none⟩ (.int .i64 d)):=(r0.out.trans (Chg.of_ext y5.out _) fun _ _ h=>h).trans (Chg.of_set (S:=fun k=>k=h1+2) w8 _ rfl) fun _ _ h=>h;exact⟨⟨i+1,n12,c8,A8,X3,d,rfl,by congr 1,by omega,by omega,by omega,by omega,j1,a4,j2,Aa j6,Aa l7,Aa b7⟩,by simp only[intOf];omega⟩
   ·have q5:bP.length=j:=by rw[e1.out,List.length_map];exact i1.out
    have l5:Y=X:=by rw[x7.out,List.drop_eq_nil_of_le (by rw[q5];omega),blockPo,List.append_nil]
    have c0:la=lz:=by rw[<-i7.out,List.drop_eq_nil_of_le (by rw[q5];omega),lastPo]
    have a5:HB w.heap.size h1 (h1+1) Hd Bd wr:=i3.out.chg r0.out fun k hk=>⟨3,#[.int .i64 lst],by rw[hk];exact y4.out,by decide,by decide⟩
    have l0:=a5;obtain⟨A1,B1,c1,d1,r1,r2,o1,o2,k5⟩:=a5;have f1:=r1.cell 0 rfl;have f3:=e0.out.cell 0 rfl;obtain⟨lN,g5⟩:∃lN:Nat,la=(lN:Int):=⟨la.toNat,by have:=hR.out.ne;rw[c0,t3.out];omega⟩
    have m9:lN<65536:=by omega
    have ma:=AH (m:=lN) (by omega);have ga:=AH (m:=n9) (by omega);rw[g5]at f3;have k7:Hd.length<=100000:=by
     have h1:=hR.out.hlen;have h2:=Ag (n:=m) (by omega);rw[q0.out,List.length_append];omega
    obtain⟨nh,v5⟩:=Ab Hd.length;rw[<-v5]at f1 k7 o1;obtain⟨H1,d3⟩:=Ab (Hd++vb lN);obtain⟨H2,e3⟩:=Ab (H1++vb n9);have i8:=Ag (n:=lN) (by omega);have l8:=Ag (n:=n9) (by omega);have q7:H1.length<=100010:=by rw[d3,List.length_append,<-v5];omega
    have p7:H2.length<=100020:=by rw[e3,List.length_append];omega
    have Z:=p0.out.1;have k8:=J.out.size;replace v5:=Aa v5;replace d3:=Aa d3;replace e3:=Aa e3;replace g5:=Aa g5;replace l5:=Aa l5;replace c0:=Aa c0;replace l0:=Aa l0;replace r1:=Aa r1;replace r2:=Aa r2;replace o1:=Aa o1;replace o2:=Aa o2;replace k5:=Aa k5;replace Z:=Aa Z;replace q5:=Aa q5;clear i8 l8;gi_wp2_with fail;refine(Bb (x2.out A1 nh c1 lN Hd wr o1.out.1 o1.out.2.cells o1.out.nil_ (by omega) (by omega))).mono ?_;rintro e w7 n0;obtain⟨A7,c7,rfl,g0,k0⟩:=n0;rw[<-d3.out]at g0 ⊢;obtain⟨n7,m5⟩:=Ab H1.length;rw[<-m5]at g0 q7 ⊢;have x3:Hid (Own8 w7 w.heap.size A7 n7 c7 H1):=Aa ⟨m5,g0.lower k8⟩;replace m5:=Aa m5;replace k0:=Aa k0;clear g0;gi_wp2_with fail;refine(Bb (x2.out A7 n7 c7 n9 H1 w7 x3.out.1 x3.out.2.cells x3.out.nil_ (by omega) (by omega))).mono ?_;rintro e w8 n0;obtain⟨A8,c8,rfl,U,i2⟩:=n0;rw[<-e3.out]at U ⊢;obtain⟨n8,t5⟩:=Ab H2.length;rw[<-t5]at U p7 ⊢;have H:Hid (Ext wr w8):=Aa (k0.out.trans i2);have r18:=r1.out.ext H.out;have s0:=r18.cell 0 rfl;have s1:=r18.free 0;have z5:=Aa (l0.out.head (W6:=w8) (B1:=w7.heap.size) (by omega) H.out t5 U k0.out.size (by have:=k0.out.size;omega));replace r18:=Aa r18;replace t5:=Aa t5;clear U i2;have g6:Hid (Own8 (w8.setCell ⟨h1,0,none⟩ (.slice A8 n8 c8)) w.heap.size A9 n9 c9 X):=Aa ⟨p0.out.1,((p0.out.2.ext H.out)).setCell ((p0.out.2.ext H.out).unlike r18.out (by decide)) _⟩;have p4:KeepsOthers W2 (w8.setCell ⟨h1,0,none⟩ (.slice A8 n8 c8)):=((r0.out.others fun k hk=>⟨3,#[.int .i64 lst],by rw[hk];exact y4.out⟩).trans H.out.others).trans (KeepsOthers.setCell _ _ _);have m1:Row (w8.setCell ⟨h1,0,none⟩ (.slice A8 n8 c8)) b1 47 #[.slice A m c]:=(((r0.out.row y2.out (by omega)).ext H.out)).away (by simp;omega) _;have a1:Row (w8.setCell ⟨h1,0,none⟩ (.slice A8 n8 c8)) b2 3 #[.int .i64 32]:=(((r0.out.row a2.out (by omega)).ext H.out)).away (by simp;omega) _;have z4:Row (w8.setCell ⟨h1,0,none⟩ (.slice A8 n8 c8)) (h1+2) 3 #[.int .i64 la]:=(e0.out.ext H.out).away (by simp) _;have p1:Ext w (w8.setCell ⟨h1,0,none⟩ (.slice A8 n8 c8)):=(J.out.trans H.out).setCell (by simpa using e7) _;replace p4:=Aa p4;replace m1:=Aa m1;replace a1:=Aa a1;replace z4:=Aa z4;replace p1:=Aa p1;have k9:Bd.length<=50000000:=by have:=hR.out.len;have:=j0.out;rw[G.out];omega
    have r28:Row (w8.setCell ⟨h1,0,none⟩ (.slice A8 n8 c8)) (h1+1) 24 #[.slice B1 Bd.length d1]:=(r2.out.ext H.out).away (by simp) _;have s2:=(r2.out.ext H.out).cell 0 rfl;have o5:Buf (w8.setCell ⟨h1,0,none⟩ (.slice A8 n8 c8)) w.heap.size 5 B1 Bd.length d1 (Bd.map B8):=(o2.out.2.ext H.out).setCell ((o2.out.2.ext H.out).unlike r18.out (by decide)) _;have x6:Cells (w8.setCell ⟨h1,0,none⟩ (.slice A8 n8 c8)) A9 (X.map B8):=g6.out.2.cells;have r3:(X.map B8).length=n9:=by rw[List.length_map];exact Z.out.symm
    have p8:=p1.out.size;replace r28:=Aa r28;replace o5:=Aa o5;replace x6:=Aa x6;replace r3:=Aa r3;gi_wp2_with (gi_at_builtin;refine Bu Aw o5.out x6.out (.tmp 57) (.tmp 58) rfl rfl rfl rfl rfl r3.out (Ai _) (by omega) p8 (fun A10 c10 w10 w3 p2 d5 k4=>?_);have r210:=HB.rows z5.out r28.out p2 r28.out (by decide);have u0:=r210.cell 0 rfl;have u1:=r210.free 0;replace r210:=Aa r210;replace w3:=Aa w3;replace p2:=Aa p2;replace d5:=Aa d5;replace k4:=Aa k4);obtain⟨g1,g2,g3,g4⟩:=HB.body (x:=X) z5.out (by omega) r28.out p2.out (by rw[List.length_append,<-Z.out]) (by rw[List.map_append];exact w3.out) k4.out;refine⟨p4.out.trans g2,KeepB.of y2.out (g3 _ _ _ m1.out (by decide) (by omega)) a2.out (g3 _ _ _ a1.out (by decide) (by omega)),?_,g3 _ _ _ ?_ (by decide) (by omega),g3 _ _ _ m1.out (by decide) (by omega),g3 _ _ _ a1.out (by decide) (by omega),g4 _ p1.out (Nat.le_refl _) (by omega)⟩
    ·rw[List.length_append,List.length_singleton,hR.out.head,hR.out.body,<-G.out,<-List.append_assoc,<-List.append_assoc,<-q0.out,<-hY.out,l5.out,<-t3.out,<-c0.out,<-Z.out,g5.out,Int.toNat_natCast,<-d3.out,<-e3.out];exact g1
    ·rw[List.length_append,List.length_singleton,hR.out.last2,<-t3.out,<-c0.out];exact z4.out
 case hdone =>
  rintro D xs W2 W3 W5 hD hI ⟨o6,x8,y8,r6⟩ i6 hk;have k3:P.length=m:=by rw[hP.out,hm.out];exact List.length_map ..
  have O:=Iu P xs.length (by rw[k3];exact o6);rw[k3]at O;have f5:=(hI.ext r6).alike i6 f0;have f4:=f5.1;have I:=f5.2.2.2.2;obtain⟨A1,B1,c1,d1,r1,r2,o1,o2,k5⟩:=f4;obtain⟨Hd,q0⟩:=Ab (vb m++headPo (-1) ((chunkL 32 P).take xs.length));obtain⟨Bd,G⟩:=Ab (blockPo (-1) (P.take (xs.length*32)));rw[<-q0]at r1 o1 O;rw[<-G]at r2 o2 O;have f1:=r1.cell 0 rfl;have f2:=r2.cell 0 rfl;have r9:Hd.length<=50000000:=by
   have h1:=E8 d0.out j0.out xs.length;have h2:=Ag (n:=m) (by omega);have h3:(headPo (-1) ((chunkL 32 P).take xs.length)).length<=20*(chunkL 32 P).length:=by
    have:=E8 d0.out j0.out (chunkL 32 P).length;rw[List.take_length]at this;refine Nat.le_trans ?_ this;have h4:=Ew ((chunkL 32 P).take xs.length) ((chunkL 32 P).drop xs.length) (-1);rw[List.take_append_drop]at h4;rw[h4,List.length_append];omega
   have h5:=AO (k:=32) (by omega) P;rw[q0,List.length_append];omega
  have i9:Bd.length<=50000000:=by have:=DO P (xs.length*32);have:=j0.out;rw[G];omega
  have b4:=I.size;have t6:=o2.2.cells;have n4:=o1.2;have k6:(Bd.map B8).length=Bd.length:=List.length_map ..;replace O:=Aa O;replace q0:=Aa q0;replace G:=Aa G;replace r1:=Aa r1;replace r2:=Aa r2;replace t6:=Aa t6;replace n4:=Aa n4;replace k6:=Aa k6;replace I:=Aa I;replace hk:=Aa hk;clear hI f5 o6 x8 y8 r6 i6 o1 o2 k5;gi_wp2_with (gi_at_builtin;refine Bu Aw n4.out t6.out (.tmp 60) (.tmp 61) rfl rfl rfl rfl rfl k6.out (Ai _) (by omega) b4 (fun A6 c6 w6 n5 q6 v6 f7=>?_);replace n5:=Aa n5;replace q6:=Aa q6;replace v6:=Aa v6;replace f7:=Aa f7);have f8:w6.heap[D]? = some (.deferred (some [])):=(BL n4.out q6.out).same _ _ hk.out rfl;refine BR (B:=w4.heap.size) rfl f8 hD fun W ha=>⟨_,results_tmp2 rfl _ _ _,?_⟩
  refine⟨A6,c6,?_,⟨rfl,?_⟩,ha.ext (v6.out w I.out (Nat.le_refl _)) f0⟩
  ·rw[O.out,List.length_append];rfl
  ·rw[O.out,List.length_append,List.map_append];exact ha.buf n5.out
end
section
open Go.RowKit
theorem wrap_i64 (h:q<9223372036854775808):IntKind.i64.wrap (q:Int)=(q:Int):=by
 simp[IntKind.wrap,IntKind.bits,IntKind.signed];omega
theorem GJ (A B:Option Addr) (n m c c2:Nat) (a b:List UInt8) (w:World) (ha:In8 w A n c a) (hb:In8 w B m c2 b) (hn:n<=1000000000) (hm:m<=1000000000) :
 Calls prog 96 #[.slice A n c,.slice B m c2] w fun e w'=>e = .returned (.bool (decide (a=b)))/\Ext w w':=by
 have d:=ha.len;have H:=hb.len;have Y:((n:Int) != (m:Int))=true->decide (a=b)=false:=fun h=>decide_eq_false fun e=>by rw[e]at d;simp at h;omega
 replace Y:=Aa Y;by_cases j0:n=m
 ·subst j0;replace d:=Aa d;replace H:=Aa H;clear Y
  go_in
  go_wp2_with fail
  go_loopw [13] (fun s13 wr=>∃i:Nat,s13 = .int .i64 i/\i<=n/\Hid (a.take i=b.take i)/\Hid (Ext w wr)) (fun s13 _=>n - (intOf s13).toNat)
  case atStart=>exact⟨0,rfl,by omega,rfl,Aa (Ext.refl w)⟩
  case round =>
   obtain⟨i,rfl,hi,hab,J⟩:=hrel;by_cases q0:i<n
   ·have I:i<a.length:=by rw[<-d.out];exact q0
    have h0:i<b.length:=by rw[<-H.out];exact q0
    obtain⟨g,o,rfl,hc⟩:=ha.bytes.at_ (by omega);obtain⟨g2,o2,rfl,G⟩:=hb.bytes.at_ (by omega);have k0:=J.out.cell (hc i I);have k1:=J.out.cell (G i h0);have O:a[i]=b[i]->a.take (i+1)=b.take (i+1):=fun h=>by rw[List.take_succ_eq_append_getElem I,List.take_succ_eq_append_getElem h0,hab.out,h]
    have Z:a[i]≠b[i]->decide (a=b)=false:=fun h=>decide_eq_false fun e=>h (by subst e;rfl);obtain⟨p,hp⟩:=Ab (a[i]);obtain⟨q,hq⟩:=Ab (b[i]);rw[<-hp,<-hq]at O Z;rw[<-hp]at k0;rw[<-hq]at k1;have y0:(0:Int)<=i:=by omega
    have b0:(i:Int)<n:=by omega
    replace O:=Aa O;replace Z:=Aa Z;clear hp hq hc G;by_cases U:p=q
    ·subst U;have t0:=Aa (O.out rfl);clear O Z;go_wp2_with fail;go_quiet (fail);go_wp2_with fail;go_roundw
     case rel=>exact⟨i+1,by go_num,by omega,t0,by first | exact Aa J.out.drew | exact Aa (J.out.drewN _)⟩
     case measure=>simp[intOf];omega
    ·have v0:=Aa (Z.out U);have c0:(((p.toNat:Int)) != (q.toNat:Int))=true:=by simp;exact fun h=>U (UInt8.toNat_inj.1 (by omega))
     clear O Z;go_wp2_with fail;go_quiet (fail);go_wp2_with fail;go_ret;exact⟨Bf v0.out.symm,by first | exact J.out.drew | exact J.out.drewN _⟩
   ·obtain rfl:i=n:=by omega
    have hd:decide (a=b)=true:=decide_eq_true (by
     have h:=hab.out;rw[List.take_of_length_le (by rw[<-d.out];exact Nat.le_refl _),List.take_of_length_le (by rw[<-H.out];exact Nat.le_refl _)]at h;exact h)
    replace hd:=Aa hd;go_wp2_with fail;go_ret;exact⟨Bf hd.out.symm,J.out⟩
 ·have hd:=Aa (Y.out (by simp;omega));clear Y d H ha hb
  go_in
  go_wp2_with fail;go_ret;exact⟨Bf hd.out.symm,Ext.refl w⟩
theorem In8.take (h:In8 w A n c l) (hk:k<=n):In8 w A k c (l.take k):=by
 refine⟨by rw[List.length_take,<-h.len];omega,?_,by have:=h.cap;omega,h.nil_,h.at_⟩;rcases h.bytes with hb | ⟨g,o,H,hb⟩
 ·left;have:l = []:=by simpa using hb
  rw[this];simp
 ·refine .inr ⟨g,o,H,fun i v d=>hb i v ?_⟩;rw[List.getElem?_map]at d ⊢;rw[List.getElem?_take]at d;split at d
  ·exact d
  ·cases d
theorem AN (w:World) (us:List Value) (T:TypeId):Cells (w.alloc (.cells us.toArray T)) (some ⟨w.heap.size,0,none⟩) us :=
 .inr ⟨w.heap.size,0,rfl,fun i u h=>by
  rw[Nat.zero_add,cell_of_row _ _ _ _ _ _ (heap_alloc_new w _)];simpa using h⟩
theorem Cu (hb:Buf w base e A n c xs) (H:w.grownBy w1 (Value.slice A n c).ownBlock) (d:Row w g t cs) (ht:t≠e):Row w1 g t cs :=
 d.grown H fun h=>by
  cases A with
  | none=>simp[Value.ownBlock]at h
  | some a=>exact hb.unlike d (fun e=>ht e.symm) a rfl (by simpa [Value.ownBlock]using h.symm)
end
section
open Go.RowKit
attribute [local go_sem] Oper.semAt_some AP Cp
theorem BX {d:TypeDesc} (h:w.cell? ⟨g,0,none⟩=some v) (H:P.underlying ty=some d) (hd:(match d with | .struct _ | .array _ _=>false | _=>true)=true):(loadVar ty ⟨g,0,none⟩).run P w = .ok v w:=by
 have hi:(isAgg ty).run P w = .ok false w:=by
  unfold isAgg;simp only[Sem.run_bind,run_underlying H,Result.andThen_ok];cases d <;> first | rfl | (cases hd)
 unfold loadVar;simp only[Sem.run_bind,hi,Result.andThen_ok];simp[h]
theorem Row.same (h:Row w g t cs) (Y:cs[i]? = some v):w.setCell ⟨g,i,none⟩ v=w:=by
 have H:=h.put i v;have J:cs.setIfInBounds i v=cs:=by
  apply Array.ext_getElem?;intro j;rw[Array.getElem?_setIfInBounds];split
  ·rename_i e;subst e;rw[Y,if_pos (Array.getElem?_eq_some_iff.1 Y).1]
  ·rfl
 rw[J]at H;have d:(w.setCell ⟨g,i,none⟩ v).heap=w.heap:=by
  apply Array.ext_getElem?;intro k;by_cases e:k=g
  ·subst e;exact H.trans (Eq.symm h)
  ·exact Below.heap_setCell w ⟨g,i,none⟩ v k e
 obtain⟨heap,os,tape,output⟩:=w;simp only[World.setCell]at d ⊢;rw[d]
theorem Hg {fn:Func} {p q r:Tmp} (d:fn.results=#[.cell p tp,.cell q tq,.cell r tr]) (tmps:Array Value) (w:World)
 (h1:tmps.getD p undef = .pointer (some ⟨g1,0,none⟩)) (h2:tmps.getD q undef = .pointer (some ⟨g2,0,none⟩)) (h:tmps.getD r undef = .pointer (some ⟨g3,0,none⟩))
 (l1:(loadVar tp ⟨g1,0,none⟩).run P w = .ok v1 w) (l2:(loadVar tq ⟨g2,0,none⟩).run P w = .ok v2 w) (l3:(loadVar tr ⟨g3,0,none⟩).run P w = .ok v3 w) :
 (results fn tmps).run P w = .ok (.tuple #[v1,v2,v3]) w:=by
 rw[Array.getD_eq_getD_getElem?]at h1 h2 h;simp only[results,d];simp[Sem.run_bind,Result.andThen,h1,h2,h,asAddr,l1,l2,l3]
theorem Rw:Elem prog 22 24 1 24:=⟨underlying22,⟨_,_,rfl,rfl,rfl,rfl,rfl⟩,by omega,by omega⟩
theorem LG (A:Option Addr) (n c:Nat) (ew:Nat) (w:World) :
 Calls prog 93 #[.slice A n c,.pointer (some ⟨ew,0,none⟩)] w fun e w'=>∃b1 b2,e = .returned (.func (.func 144) #[] #[.pointer (some ⟨b1,0,none⟩),.pointer (some ⟨b2,0,none⟩)])/\Row w' b1 24 #[.slice A n c]/\Row w' b2 174 #[.pointer (some ⟨ew,0,none⟩)]/\w.heap.size<=b1/\w.heap.size<=b2/\b1<b2/\Ext w w':=by
 go_in
 go_wp2_with fail;go_ret;have h1:=Row.new w 24 #[.slice A n c];have h2:=Row.new (w.alloc (.cells #[.slice A n c] 24)) 174 #[.pointer (some ⟨ew,0,none⟩)];rw[World.size_alloc]at h2;exact⟨w.heap.size,w.heap.size+1,rfl,h1.alloc _,h2,Nat.le_refl _,by omega,by omega,((Ext.refl w).alloc _).alloc _⟩
theorem NU (hb:Buf w base e A n c xs) (H:w.grownBy w1 (Value.slice A n c).ownBlock) (hk:k<base) (d:k<w.heap.size):w1.heap[k]? = w.heap[k]? :=
 H.block k d fun h=>by
  cases A with
  | none=>simp[Value.ownBlock]at h
  | some a =>
   have:=hb.base_le a rfl;simp[Value.ownBlock]at h;omega
theorem PayOk.grown {x:Pay} (h:PayOk w x) (hb:Buf w base e A n c xs) (Z:w.grownBy w1 (Value.slice A n c).ownBlock) (O:5≠e):PayOk w1 x:=by
 obtain⟨b,Y⟩:=h;refine⟨b,Y.grown Z fun a U d=>?_⟩;rcases hb.2.2 with ⟨J,_⟩ | ⟨g',cur,H,_,G,_⟩
 ·subst J;simp[Value.ownBlock]at d
 ·subst H;simp[Value.ownBlock]at d;exact Y.unlike G O a U d.symm
theorem PayOk.set {x:Pay} (h:PayOk w x) (H:Row w g t cs) (ht:5≠t) (i:Nat) (u:Value):PayOk (w.setCell ⟨g,i,none⟩ u) x:=by
 obtain⟨b,d⟩:=h;exact⟨b,d.setCell (d.unlike H ht) u⟩
def SpI (h bs b1 b2:Nat) (V1:Value) (w:World) (pre:List Pay) (W:World):Prop :=
 ∃L c z,Row W h 22 #[.slice L pre.length c]/\Row W (h+1) 3 #[.int .i64 z]/\Row W (h+2) 25 #[.int .i64 0]/\Buf W bs 24 L pre.length c (pre.map Pay.val)/\(∀x∈pre,PayOk W x)/\Row W b1 24 #[V1]/\Row W b2 174 #[.pointer (some ⟨h+2,0,none⟩)]/\Ext w W/\bs<=W.heap.size
theorem PayOk.ext {x:Pay} (h:PayOk W x) (d:Ext W W1):PayOk W1 x:=by obtain⟨b,hb⟩:=h;exact⟨b,hb.ext d⟩
theorem PayOk.alike {x:Pay} (h:PayOk W x) (d:Alike B W W1):PayOk W1 x:=by obtain⟨b,hb⟩:=h;exact⟨b,d.buf hb⟩
theorem SpI.ext {h bs b1 b2:Nat} {pre:List Pay} (hi:SpI h bs b1 b2 V1 w pre W) (d:Ext W W1):SpI h bs b1 b2 V1 w pre W1:=by
 obtain⟨L,c,z,r1,r2,r3,hb,Y,q1,q2,H,hs⟩:=hi;exact⟨L,c,z,r1.ext d,r2.ext d,r3.ext d,hb.ext d,fun x J=>(Y x J).ext d,q1.ext d,q2.ext d,H.trans d,Nat.le_trans hs d.size⟩
theorem SpI.alike {h bs b1 b2 B:Nat} {pre:List Pay} (hi:SpI h bs b1 b2 V1 w pre W) (d:Alike B W W1) (H:w.heap.size<=B):SpI h bs b1 b2 V1 w pre W1:=by
 obtain⟨L,c,z,r1,r2,r3,hb,J,q1,q2,Y,hs⟩:=hi;exact⟨L,c,z,d.row r1,d.row r2,d.row r3,d.buf hb,fun x U=>(J x U).alike d,d.row q1,d.row q2,d.ext Y H,Nat.le_trans hs d.size⟩
def SplitW (w:World) (b:List UInt8) (e:Ending) (w':World):Prop:=∃L c z,∃ps:List Pay,e = .returned (.tuple #[.slice L ps.length c,.int .i64 z,.int .i64 ((splitF b).2:Int)])/\Cells w' L (ps.map Pay.val)/\pays ps=(splitF b).1/\(∀x∈ps,PayOk w' x)/\Ext w w'
theorem OC (A:Option Addr) (n c:Nat) (b:List UInt8) (w:World) (h:In8 w A n c b) (a2:n<=1000000000) :
 Calls prog 53 #[.slice A n c] w fun e w'=>SplitW w b e w':=by
 replace h:=Aa h;refine(callsIn_wide (n:=0)).1 ?_;refine callsIn_of_wp_marks func53 rfl trivial ?_;simp only[ntmps53,List.size_toArray,List.length_cons,List.length_nil,Nat.reduceAdd,Nat.reduceSub,Array.replicate_succ,Array.replicate_zero,List.push_toArray,List.append_toArray,List.nil_append,List.cons_append];gi_wp2_with fail;obtain⟨W3,J⟩:=Ab (((w.alloc (Obj.cells #[Value.slice none 0 0] 22)).alloc (Obj.cells #[Value.int IntKind.i64 0] 3)).alloc (Obj.cells #[Value.int IntKind.i64 0] 25));rw[<-J];obtain⟨h1,Y⟩:=Ab w.heap.size;have q1:Row W3 h1 22 #[.slice none 0 0]:=by rw[J,Y];exact((Row.new w _ _).alloc _).alloc _
 have q2:Row W3 (h1+1) 3 #[.int .i64 0]:=by
  have:=Row.new (w.alloc (Obj.cells #[Value.slice none 0 0] 22)) 3 #[.int .i64 0];rw[World.size_alloc,<-Y]at this;rw[J];exact this.alloc _
 have q3:Row W3 (h1+2) 25 #[.int .i64 0]:=by
  have:=Row.new ((w.alloc (Obj.cells #[Value.slice none 0 0] 22)).alloc (Obj.cells #[Value.int IntKind.i64 0] 3)) 25 #[.int .i64 0];rw[World.size_alloc,World.size_alloc,<-Y]at this;rw[J];exact this
 have g0:Ext w W3:=by rw[J];exact(((Ext.refl w).alloc _).alloc _).alloc _
 have f0:W3.heap.size=h1+3:=by rw[J,Y];simp
 rw[<-Y];refine(callsIn_wide.2 (LG A n c (h1+2) W3)).mono ?_;rintro e w4 ⟨b1,b2,rfl,rb1,rb2,p2,j2,o2,H⟩;obtain⟨bs,t3⟩:=Ab w4.heap.size;have l0:SpI h1 bs b1 b2 (.slice A n c) w [] w4:=⟨none,0,0,q1.ext H,q2.ext H,q3.ext H,Buf.nil _ _ _,nofun,rb1,rb2,g0.trans H,by omega⟩
 have y0:=Kd A n c b h1 b1 b2 (h1+2) w w4 h.out (by omega) (g0.trans H) a2 rb1 rb2 (q3.ext H);rw[f0]at p2 j2;have d:w.heap.size<=w4.heap.size:=(g0.trans H).size;have h3:=rb2.lt;have j3:=(q3.ext H).lt;have p3:w.heap.size<=bs:=by omega
 replace l0:=Aa l0;replace y0:=Aa y0;replace J:=Aa J;replace Y:=Aa Y;clear q1 q2 q3 g0 H rb1 rb2 f0;gi_wp2_with fail;unfold FrIter at y0;refine C8 (gf:=144) (lb:=#[.pointer (some ⟨b1,0,none⟩),.pointer (some ⟨b2,0,none⟩)]) rfl (enters_of func144 (by kernel_rfl) rfl) y0.out (fun _=>rfl) (fun _ _ h=>h.others) ?fin (KeepS.trans h1 _) ?kb
  (fun pre W=>SpI h1 bs b1 b2 (.slice A n c) w pre W) (fun pre A B h ha=>h.alike ha d) (fun pre A B h G=>h.ext G) ?h0 ?hround ?hdone
 case fin =>
  rintro xs A B (⟨_,G⟩ | ⟨k,W3,_,_,G,rfl⟩)
  ·exact G.others
  ·exact G.others.trans (KeepsOthers.setCell _ _ _)
 case kb=>exact KeepS.alike (by omega) (fun k hk=>by omega)
 case h0=>exact fun W ha=>l0.out.alike ha d
 case hround =>
  rintro l pre ⟨P,cp,p,z⟩ W hI ⟨b0,r,o0⟩;unfold Pay.val;simp only;obtain⟨pl,c0⟩:=Ab p.length;rw[<-c0];replace c0:=Aa c0;replace hI:=Aa hI;replace b0:=Aa b0;replace o0:=Aa o0;gi_wp2_with fail;refine⟨KeepsOthers.refl _,KeepS.refl _ _ _,fun W2 i0=>?_⟩;have o1:=hI.out.alike i0 d;have j1:=Aa (b0.out.alike i0);clear i0 hI b0;obtain⟨L,cl,z0,r1,r2,r3,hb,hp,g1,g2,he,x1⟩:=o1;have m1:pre.length<=4000000000:=by
   have h1:=JC b;rw[o0.out]at h1;simp only[pays,List.length_append,List.length_map,List.length_cons]at h1;have:=h.out.len;omega
  have k1:=r1.cell 0 rfl;have U:=Aa (hb.alloc (.cells #[.slice P pl cp] 24));have d1:=Aa (AN W2 [.slice P pl cp] 24);have y1:bs<=(W2.alloc (.cells #[.slice P pl cp] 24)).heap.size:=by rw[World.size_alloc];omega
  obtain⟨m,hm⟩:=Ab pre.length;rw[<-hm]at m1 k1 U r1 hb;replace hm:=Aa hm;replace r1:=Aa r1;replace r2:=Aa r2;replace r3:=Aa r3;replace hb:=Aa hb;replace hp:=Aa hp;replace g1:=Aa g1;replace g2:=Aa g2;replace he:=Aa he;obtain⟨Wa,I⟩:=Ab (W2.alloc (.cells #[.slice P pl cp] 24));have m0:Ext W2 Wa:=by rw[I];exact(Ext.refl W2).alloc _
  have v0:=Aa m0;have ra1:=Aa (r1.out.ext m0);have ra2:=Aa (r2.out.ext m0);rw[<-I]at U d1 y1;replace I:=Aa I;clear m0;gi_wp2_with (gi_at_builtin;rw[<-I.out];refine Bu Rw U.out d1.out (.tmp 11) (.tmp 13) rfl rfl rfl rfl rfl rfl (by simp[Value.oneCell']) (by omega) y1 (fun A6 c6 w6 t0 O r0 p1=>?_);have r16:=Cu U.out O ra1.out (by decide);have r26:=Cu U.out O ra2.out (by decide);have u1:=r16.cell 0 rfl;have u2:=r16.free 0;have r27:=r26.away (p:=⟨h1,0,none⟩) (by simp) (.slice A6 (m+1) c6);have u3:=r27.cell 0 rfl;have u4:=r27.free 0;replace r16:=Aa r16;replace r26:=Aa r26;replace r27:=Aa r27;replace t0:=Aa t0;replace O:=Aa O;replace r0:=Aa r0;replace p1:=Aa p1);have Z:∀k,k<h1+3\/k=b1\/k=b2->k≠h1->k≠h1+1->((w6.setCell ⟨h1,0,none⟩ (.slice A6 (m+1) c6)).setCell ⟨h1+1,0,none⟩ (.int .i64 z)).heap[k]? = W2.heap[k]? :=fun k hk n1 n2=>by
   have y2:k<bs:=by omega
   rw[Below.heap_setCell _ _ _ k n2,Below.heap_setCell _ _ _ k n1,NU U.out O.out y2 (by omega)];exact Below.block v0.out k (by omega)
  have e1:∀w0:World,w0.heap.size<=h1->Ext w0 W2->Ext w0 ((w6.setCell ⟨h1,0,none⟩ (.slice A6 (m+1) c6)).setCell ⟨h1+1,0,none⟩ (.int .i64 z)):=fun w0 h0 G=>((r0.out w0 (G.trans v0.out) (by omega)).setCell (p:=⟨h1,0,none⟩) h0 _).setCell (p:=⟨h1+1,0,none⟩) (by show w0.heap.size<=h1+1;omega) _;have z3:=O.out.size;have m2:Buf ((w6.setCell ⟨h1,0,none⟩ (.slice A6 (m+1) c6)).setCell ⟨h1+1,0,none⟩ (.int .i64 z)) bs 24 A6 (m+1) c6 (pre.map Pay.val ++ [.slice P pl cp]):=by
   have q:=t0.out.setCell (p:=⟨h1,0,none⟩) (t0.out.unlike r16.out (by decide)) (.slice A6 (m+1) c6);exact q.setCell (p:=⟨h1+1,0,none⟩) (q.unlike r27.out (by decide)) _
  have d2:∀x∈pre ++ [(P,cp,p,z)],PayOk ((w6.setCell ⟨h1,0,none⟩ (.slice A6 (m+1) c6)).setCell ⟨h1+1,0,none⟩ (.int .i64 z)) x:=fun x hx=>by
   have e2:PayOk W2 x:=by
    rcases List.mem_append.1 hx with h | h
    ·exact hp.out x h
    ·rw[List.mem_singleton.1 h];exact j1.out
   exact(((e2.ext v0.out).grown U.out O.out (by decide)).set r16.out (by decide) 0 _).set r27.out (by decide) 0 _
  refine⟨((v0.out.others.trans (BL U.out O.out)).trans (KeepsOthers.setCell _ _ _)).trans (KeepsOthers.setCell _ _ _),⟨e1,fun k hk o ho=>?_⟩,A6,c6,z,?_,?_,?_,?_,d2,?_,?_,e1 w (by have:=Y.out;omega) he.out,?_⟩
  ·rw[Z k (by omega) (by omega) (by omega)];exact ho
  ·rw[List.length_append,<-hm.out];exact(r16.out.put 0 _).away (by simp) _
  ·exact r27.out.put 0 _
  ·unfold Row;rw[Z _ (by omega) (by omega) (by omega)];exact r3.out
  ·rw[List.length_append,<-hm.out,List.map_append];unfold Pay.val;simp only[List.map_cons,List.map_nil];rw[<-c0.out];exact m2
  ·unfold Row;rw[Z _ (by omega) (by omega) (by omega)];exact g1.out
  ·unfold Row;rw[Z _ (by omega) (by omega) (by omega)];exact g2.out
  ·simp;omega
 case hdone =>
  rintro D xs W2 W3 W4 hD hI hF hA hk;have h2:∃L c z,Row W4 h1 22 #[.slice L xs.length c]/\Row W4 (h1+1) 3 #[.int .i64 z]/\Row W4 (h1+2) 25 #[.int .i64 ((splitF b).2:Int)]/\Buf W4 bs 24 L xs.length c (xs.map Pay.val)/\(∀x∈xs,PayOk W4 x)/\Ext w W4/\pays xs=(splitF b).1:=by
   rcases hF with ⟨hs,G⟩ | ⟨k,W5,x3,hs,G,rfl⟩
   ·obtain⟨L,c,z,r1,r2,r3,hb,hp,q1,q2,he,x1⟩:=(hI.ext G).alike hA d;rw[hs];exact⟨L,c,z,r1,r2,r3,hb,hp,he,rfl⟩
   ·obtain⟨L,c,z,r1,r2,r3,hb,hp,q1,q2,he,x1⟩:=hI.ext G;rw[hs];refine⟨L,c,z,hA.row (r1.away (by simp) _),hA.row (r2.away (by simp) _),hA.row (r3.put 0 _),hA.buf (hb.setCell (hb.unlike r3 (by decide)) _),fun x hx=>((hp x hx).set r3 (by decide) 0 _).alike hA,hA.ext (he.setCell (by show w.heap.size<=h1+2;have:=Y.out;omega) _) d,rfl⟩
  obtain⟨L,cl,z,r1,r2,r3,hb,hp,he,n0⟩:=h2;have k1:=r1.cell 0 rfl;have k2:=r2.cell 0 rfl;have k3:=r3.cell 0 rfl;have f1:=r1.free 0;have f2:=r2.free 0;have f3:=r3.free 0;obtain⟨m,hm⟩:=Ab xs.length;rw[<-hm]at r1 k1 hb;obtain⟨ec,x0⟩:=Ab ((splitF b).2);rw[<-x0]at r3 k3;replace r1:=Aa r1;replace r2:=Aa r2;replace r3:=Aa r3;replace hb:=Aa hb;replace hp:=Aa hp;replace he:=Aa he;replace hm:=Aa hm;replace x0:=Aa x0;replace n0:=Aa n0;replace hk:=Aa hk;clear hI hF hA;gi_wp2_with fail;refine wpIn_wide.2 ?_;go_region;rw[show h1+1+1=h1+2 from rfl,r1.out.same rfl,r2.out.same rfl,r3.out.same rfl];gi_wp2_with fail;have x2:W4.drew.heap[D]? = some (.deferred (some [])):=hk.out;refine BR (B:=w4.heap.size) rfl x2 hD fun W ha=>⟨_,Hg rfl _ _ rfl rfl rfl (BX ((ha.row r1.out).cell 0 rfl) underlying22 rfl) (BX ((ha.row r2.out).cell 0 rfl) underlying3 rfl) (BX ((ha.row r3.out).cell 0 rfl) underlying25 rfl),L,cl,z,xs,?_,?_,n0.out,?_,?_⟩
  ·rw[<-hm.out,<-x0.out];rfl
  ·exact(ha.buf hb.out.drew).cells
  ·exact fun x hx=>((hp.out x hx).ext (Ext.refl W4).drew).alike ha
  ·exact ha.ext he.out.drew d
end
section
open Go.RowKit
attribute [local go_sem] Oper.semAt_some AP Cp
theorem Jg (a b:List UInt8):(ByteArray.mk a.toArray++ByteArray.mk b.toArray)=⟨(a++b).toArray⟩:=by
 apply ByteArray.ext;rw[ByteArray.data_append];simp
theorem Lx:Elem prog 155 157 2 40:=⟨underlying155,⟨_,_,rfl,rfl,rfl,rfl,rfl⟩,by omega,by omega⟩
theorem DX (D:List TmV) (x:TmV):tcs (D ++ [x])=tcs D++tcell x:=by
 unfold tcs;rw[List.flatMap_append];simp
def oneT (l:List (List UInt8×Int)):List (List UInt8×List Int):=l.map fun p=>(p.1,[p.2])
theorem N2 (l:List (List UInt8×Int)) (p:List UInt8×Int):oneT (l ++ [p])=oneT l ++ [(p.1,[p.2])]:=by unfold oneT;rw[List.map_append];rfl
section
variable {w w1 w0:World} {base n:Nat} {e:TypeId} {size:Nat} {v:Value} {xs:List Value}
theorem Jn (J:w.ownsRow base e size v n xs) (Y:w.grownBy w1 v.ownBlock) (d:Row w g t cs) (ht:t≠e):Row w1 g t cs :=
 d.grown Y fun h=>by
  obtain⟨cur,H,_⟩:=Ae J h.symm;exact d.unlike H ht rfl
theorem FH (J:w.ownsRow base e size v n xs) (H:w.grownBy w1 v.ownBlock):KeepsOthers w w1 :=
 KeepsOthers.of_grownBy H fun j o Y h=>by
  obtain⟨cur,d,_⟩:=Ae J Y;unfold Row at d;rw[d]at h;injection h with h;subst h;rfl
theorem CX (H:w.ownsRow base e size v n xs) (d:w.grownBy w1 v.ownBlock) (h:Ext w0 w) (hb:w0.heap.size<=base):Ext w0 w1 :=
 h.grown d fun k hk=>by obtain⟨_,_,Y⟩:=Ae H hk;omega
theorem Ci (J:w.ownsRow base e size v n xs) (Y:w.grownBy w1 v.ownBlock) (hb:Buf w b t A m c ys) (ht:t≠e):Buf w1 b t A m c ys :=
 hb.grown Y fun a d h=>by
  obtain⟨cur,H,_⟩:=Ae J h;exact hb.unlike H ht a d rfl
end
theorem FU {l x:List UInt8} (h:x∈tokL l):x.length<=32:=by
 unfold tokL at h;obtain⟨y,_,rfl⟩:=List.mem_map.1 h;exact JZ y [] (by simp)
theorem Iv {f:Fd} {x:List UInt8} (h:(tokL f.2)[i]? = some x):(fieldT base f)[i]? = some (f.1++58::x,((base+i:Nat):Int)):=by
 unfold fieldT;rw[List.getElem?_map,List.getElem?_zipIdx,h];simp
theorem CH:∀(fs:List Fd) (b:Nat),(∀f∈fs,f.2.length<=k)->(rawT b fs).length<=k*fs.length
 | [],b,_=>by simp[rawT]
 | f::fs,b,h=>by
  have h1:=CH fs (nextT b f) fun g d=>h g (List.mem_cons_of_mem _ d);have h2:=CK f.2;have H:=h f (List.mem_cons_self ..);unfold rawT;rw[List.length_append,CB,List.length_cons,Nat.mul_add];omega
theorem EN:∀(fs:List Fd) (b:Nat),(∀f∈fs,f.2.length<=k)->baseT b fs<=b+(64+k)*fs.length
 | [],b,_=>by simp[baseT]
 | f::fs,b,h=>by
  have h1:=EN fs (nextT b f) fun g d=>h g (List.mem_cons_of_mem _ d);have h2:=CK f.2;have H:=h f (List.mem_cons_self ..);unfold baseT;unfold nextT at h1 ⊢;rw[List.length_cons,Nat.mul_add];omega
theorem JF {l:List (List UInt8)} {x:List UInt8} (d:l[i]? = some x) (h:j<2):(tkV l)[i*2+j]? = [Value.string ⟨x.toArray⟩,.int .i64 (i:Int)][j]? :=by
 unfold tkV;refine AW (cellsA:=fun p:List UInt8×Nat=> [Value.string ⟨p.1.toArray⟩,.int .i64 (p.2:Int)]) (k:=2) (fun _=>rfl) l.zipIdx i (x,i) j ?_ h;rw[List.getElem?_zipIdx,d];simp
theorem Si {l:List (List UInt8)} (h:w.ownsRow base 207 2 (.slice A n c) n (tkV l)) (hk:∀g cs,Row w g 207 cs->Row w1 g 207 cs) {x:List UInt8} (H:l[i]? = some x) :
 ∃g o,A=some ⟨g,o,none⟩/\w1.cell? ⟨g,o+i*2,none⟩=some (.string ⟨x.toArray⟩)/\w1.cell? ⟨g,o+i*2+1,none⟩=some (.int .i64 (i:Int)):=by
 have Y:=JF H (j:=0) (by omega);have h1:=JF H (j:=1) (by omega);rcases h with ⟨G,⟨_,h2⟩ | ⟨g,cap,cur,U,hb,J,hn,O,hs,ht⟩⟩
 ·have:=(List.getElem?_eq_some_iff.1 H).1;have Z:(tkV l).length=l.length*2:=by unfold tkV;rw[AU (cellsA:=fun p:List UInt8×Nat=> [Value.string ⟨p.1.toArray⟩,.int .i64 (p.2:Int)]) (k:=2) (fun _=>rfl),List.length_zipIdx]
  omega
 ·cases U;have key:∀(j:Nat) (v:Value),(tkV l)[j]? = some v->w1.cell? ⟨g,j,none⟩=some v:=fun j v d=>by
   rw[(hk g cur J).get];rw[<-ht,List.getElem?_take]at d;split at d
   ·simpa using d
   ·cases d
  exact⟨g,0,rfl,by rw[Nat.zero_add];exact key _ _ Y,by rw[Nat.zero_add];exact key _ _ h1⟩
def TI (base h:Nat) (Z:List (List UInt8×Int)) (w W:World):Prop :=
 ∃L c D,Row W h 155 #[.slice L D.length c]/\W.ownsRow base 157 2 (.slice L D.length c) D.length (tcs D)/\TmsOk W base D (oneT Z)/\Ext w W
theorem TI.ext {base h:Nat} {Z:List (List UInt8×Int)} (hi:TI base h Z w W) (d:Ext W W1):TI base h Z w W1:=by
 obtain⟨L,c,D,r,o,t,e⟩:=hi;exact⟨L,c,D,r.ext d,d.owns o,t.ext d,e.trans d⟩
theorem TI.alike {base h B:Nat} {Z:List (List UInt8×Int)} (hi:TI base h Z w W) (d:Alike B W W1) (H:w.heap.size<=B):TI base h Z w W1:=by
 obtain⟨L,c,D,r,o,t,e⟩:=hi;exact⟨L,c,D,d.row r,d.owns o,t.keep fun _ _ _ _ hb=>d.buf hb,d.ext e H⟩
def ptsOf (w:World) (x:Option Addr×Nat×Nat):List Int:=match x.1 with
 | none=> []
 | some a=>(List.range x.2.1).map fun i=>match w.cell? ⟨a.block,a.off+i,none⟩with
  | some (.int _ z)=>z
  | _=>0
theorem N6 {l:List Int} (h:Buf w base t A n c (l.map IV)):ptsOf w (A,n,c)=l:=by
 have d:=h.cells;have Y:=h.1;rw[List.length_map]at Y;unfold ptsOf;rcases d with d | ⟨g,o,rfl,d⟩
 ·have:l = []:=List.map_eq_nil_iff.1 d;subst this;cases A with
  | none=>rfl
  | some a =>
   simp only;simp at Y;rw[<-Y];rfl
 ·simp only;apply List.ext_getElem?;intro i;rw[List.getElem?_map];show Option.map _ ((List.range n)[i]?)=_;by_cases hi:i<n
  ·rw[List.getElem?_range hi];have H:i<l.length:=by omega
   have:=d i (IV l[i]) (by rw[List.getElem?_map,List.getElem?_eq_getElem H];rfl);simp only[Option.map_some,this,IV];rw[List.getElem?_eq_getElem H]
  ·rw[List.getElem?_eq_none (by rw[List.length_range];omega),List.getElem?_eq_none (by omega)];rfl
end
section
open Go.RowKit
theorem Dw {e:Ev} {p:List UInt8×List Int} (h:p∈termsL e):checkE e.fs=0/\p.2=valsOf (rawT 0 e.fs) p.1/\p.2 ≠ []:=by
 unfold termsL at h;split at h
 ·rename_i d;exact⟨d,((BM _).mem p).1 h⟩
 ·cases h
theorem Ky:∀(fs:List Fd) (b:Nat) (q:List UInt8×Int),q∈rawT b fs->∃f∈fs,∃w∈tokL f.2,q.1=f.1++58::w
 | [],b,q,h=>by cases h
 | f::fs,b,q,h=>by
  unfold rawT at h;rcases List.mem_append.1 h with h | h
  ·unfold fieldT at h;obtain⟨p,Y,rfl⟩:=List.mem_map.1 h;obtain⟨w,i⟩:=p;have:=List.mem_zipIdx Y;exact⟨f,List.mem_cons_self ..,w,by rw[this.2.2];exact List.getElem_mem _,rfl⟩
  ·obtain⟨g,H,w,J,d⟩:=Ky fs _ q h;exact⟨g,List.mem_cons_of_mem _ H,w,J,d⟩
theorem Fv {β:Type} {ps:List (List UInt8×β)} (h:valsOf ps s ≠ []):∃p∈ps,p.1=s:=Decidable.byContradiction fun hn=>h (Df fun p d e=>hn ⟨p,d,e⟩)
theorem HM {β:Type} (ps:List (List UInt8×β)) (s:List UInt8):(valsOf ps s).length<=ps.length:=by
 unfold valsOf;rw[List.length_map];exact List.length_filter_le ..
theorem EH {e:Ev} {p:List UInt8×List Int} (h:p∈termsL e):1<=p.1.length/\p.1.length<=65:=by
 obtain⟨H,h1,h2⟩:=Dw h;rw[h1]at h2;obtain⟨q,O,d⟩:=Fv h2;obtain⟨f,J,w,Z,Y⟩:=Ky _ _ q O;have U:=(AM H).2 f J;have G:=FU Z;rw[<-d,Y,List.length_append,List.length_cons];omega
theorem Jd {e:Ev} {p:List UInt8×List Int} (h:p∈termsL e):p.2.length<=65536:=by
 obtain⟨d,h1,h2⟩:=Dw h;have Y:=HM (rawT 0 e.fs) p.1;have J:=CH (k:=4096) e.fs 0 fun f H=>((AM d).2 f H).2;have U:=(AM d).1;rw[h1];omega
theorem JI {β:Type} (p:List UInt8×β):∀(l:List (List UInt8×List β)),(addG p l).length<=l.length+1
 | []=>by simp[addG]
 | x::xs=>by
  have:=JI p xs;unfold addG;split
  ·simp only[List.length_cons];omega
  ·split
   ·simp only[List.length_cons];omega
   ·simp only[List.length_cons];omega
theorem Iy {β:Type}:∀(ps:List (List UInt8×β)) (l:List (List UInt8×List β)),(ps.foldl (fun l p=>addG p l) l).length<=l.length+ps.length
 | [],l=>by simp
 | p::ps,l=>by
  have h1:=Iy ps (addG p l);have h2:=JI p l;rw[List.foldl_cons,List.length_cons];omega
theorem EX {β:Type} (ps:List (List UInt8×β)):(grp ps).length<=ps.length:=by
 have:=Iy ps [];unfold grp;simpa using this
theorem MD (e:Ev):(termsL e).length<=65536:=by
 unfold termsL;split
 ·rename_i h;have H:=EX (rawT 0 e.fs);have Y:=CH (k:=4096) e.fs 0 fun f d=>((AM h).2 f d).2;have J:=(AM h).1;omega
 ·simp
end
section
open Go.RowKit
section
variable {β:Type}
def gsum (f:β->Nat) (r:List (List UInt8×List β)):Nat:=(r.map fun x=>(x.2.map f).sum).sum
theorem Ki (f:β->Nat) (p:List UInt8×β):∀(l:List (List UInt8×List β)),gsum f (addG p l)=gsum f l+f p.2
 | []=>by simp[addG,gsum]
 | x::xs=>by
  have ih:=Ki f p xs;unfold gsum at ih ⊢;unfold addG;split
  ·simp only[List.map_cons,List.sum_cons];omega
  ·split
   ·simp only[List.map_cons,List.sum_cons,List.map_append,List.sum_append,List.map_nil,List.sum_nil];omega
   ·simp only[List.map_cons,List.sum_cons,List.map_nil,List.sum_nil];omega
theorem IC (f:β->Nat):∀(ps:List (List UInt8×β)) (l:List (List UInt8×List β)),gsum f (ps.foldl (fun l p=>addG p l) l)=gsum f l+(ps.map fun p=>f p.2).sum
 | [],l=>by simp
 | p::ps,l=>by
  rw[List.foldl_cons,IC f ps,Ki,List.map_cons,List.sum_cons];omega
theorem EZ (f:β->Nat) (ps:List (List UInt8×β)):gsum f (grp ps)=(ps.map fun p=>f p.2).sum:=by
 unfold grp;rw[IC];simp[gsum]
theorem GR (r:List (List UInt8×List β)):gsum (fun _=>1) r=(r.map fun x=>x.2.length).sum:=by
 unfold gsum;congr 1;refine List.map_congr_left fun x _=>?_
 induction x.2 with
 | nil=>rfl
 | cons y ys ih=>rw[List.map_cons,List.sum_cons,ih,List.length_cons];omega
theorem JE (ps:List β):(ps.map fun _=>1).sum=ps.length:=by
 induction ps with
 | nil=>rfl
 | cons y ys ih=>rw[List.map_cons,List.sum_cons,ih,List.length_cons];omega
end
theorem Hf:∀(fs:List Fd) (b:Nat),(rawT b fs).length<=(putFs fs).length
 | [],b=>by simp[rawT]
 | f::fs,b=>by
  have h1:=Hf fs (nextT b f);have h2:=CK f.2;have d:f.2.length<=(putF f).length:=by unfold putF txL;simp only[List.length_append];omega
  have h:putFs (f::fs)=putF f++putFs fs:=rfl;unfold rawT;rw[h,List.length_append,CB,List.length_append];omega
theorem MF (e:Ev):((termsL e).map fun p=>p.2.length).sum<=(putE e).length:=by
 unfold termsL;split
 ·have h1:=EZ (fun _=>1) (rawT 0 e.fs);rw[GR,JE]at h1;rw[h1];have h2:=Hf e.fs 0;unfold putE;simp only[List.length_append];omega
 ·simp
theorem K3 (e:Ev):(termsL e).length<=(putE e).length:=by
 unfold termsL;split
 ·have h1:=EX (rawT 0 e.fs);have h2:=Hf e.fs 0;unfold putE;simp only[List.length_append];omega
 ·simp
theorem G6:∀(P:List Dc) (i:Nat) (lo:Int),((pairsD i P).map fun p=>p.2.2.length).sum<=(blockD lo P).length
 | [],i,lo=>by simp[pairsD]
 | d::t,i,lo=>by
  have h1:=G6 t (i+1) d.1;have h2:=MF d.2;unfold pairsD blockD oneD;rw[List.map_append,List.sum_append,List.map_map];simp only[List.length_append];have h:(((termsL d.2).map ((fun(p:List UInt8×Po)=>p.2.2.length)∘fun p=>(p.1,((i:Int),p.2))))).sum=((termsL d.2).map fun p=>p.2.length).sum:=rfl;omega
theorem G4:∀(P:List Dc) (i:Nat) (lo:Int),(pairsD i P).length<=(blockD lo P).length
 | [],i,lo=>by simp[pairsD]
 | d::t,i,lo=>by
  have h1:=G4 t (i+1) d.1;have h2:=K3 d.2;unfold pairsD blockD oneD;rw[List.length_append,List.length_map];simp only[List.length_append];omega
theorem Nc {n:Int}:∀ {l:List Int} {lo:Int},l.Pairwise (fun a b=>a<b)->(∀x∈l,lo<x/\x<n)->risB n lo l=true
 | [],lo,_,_=>rfl
 | x::t,lo,Y,h=>by
  obtain⟨h1,h2⟩:=List.pairwise_cons.1 Y;have d:=h x (List.mem_cons_self ..);unfold risB;rw[Nc h2 fun y H=>⟨h1 y H,(h y (List.mem_cons_of_mem _ H)).2⟩];simp[d.1,d.2]
theorem Nb:∀(fs:List Fd) (b:Nat),(rawT b fs).Pairwise (fun x y=>x.2<y.2)/\∀x∈rawT b fs,(b:Int)<=x.2/\x.2<(baseT b fs:Nat)
 | [],b=>⟨List.Pairwise.nil,nofun⟩
 | f::fs,b=>by
  obtain⟨h1,h2⟩:=Nb fs (nextT b f);have Y:nextT b f<=baseT (nextT b f) fs:=by
   have key:∀(fs:List Fd) (b:Nat),b<=baseT b fs:=fun fs=>by
    induction fs with
    | nil=>exact fun b=>Nat.le_refl _
    | cons g gs ih=>exact fun b=>Nat.le_trans (by unfold nextT;omega) (ih (nextT b g))
   exact key _ _
  have U:nextT b f=b+(64+(tokL f.2).length):=rfl;have d:∀x∈fieldT b f,(b:Int)<=x.2/\x.2<(b+(tokL f.2).length:Nat):=fun x h=>by
   unfold fieldT at h;obtain⟨p,O,rfl⟩:=List.mem_map.1 h;have:=List.mem_zipIdx O;simp only;omega
  have H:(fieldT b f).Pairwise (fun x y=>x.2<y.2):=by
   unfold fieldT;rw[List.pairwise_map];rw[List.pairwise_iff_getElem];intro i j hi G J;simp only[List.getElem_zipIdx];omega
  unfold rawT baseT;refine⟨List.pairwise_append.2 ⟨H,h1,fun x h y Z=>?_⟩,fun x h=>?_⟩
  ·have a1:=d x h;have a2:=h2 y Z;omega
  ·rcases List.mem_append.1 h with h | h
   ·have a1:=d x h;omega
   ·have a2:=h2 x h;omega
theorem ME {e:Ev} {p:List UInt8×List Int} (h:p∈termsL e):risB 1048576 (-1) p.2=true:=by
 obtain⟨d,h1,h2⟩:=Dw h;obtain⟨r1,r2⟩:=Nb e.fs 0;have hb:=EN (k:=4096) e.fs 0 fun f H=>((AM d).2 f H).2;have U:=(AM d).1;rw[h1];unfold valsOf;refine Nc ?_ fun x J=>?_
 ·rw[List.pairwise_map];exact r1.sublist List.filter_sublist
 ·obtain⟨q,Y,rfl⟩:=List.mem_map.1 J;have:=r2 q (List.mem_filter.1 Y).1;omega
theorem KD {β:Type} {s:List UInt8}:∀ {l:List (List UInt8×β)},Ris l->(valsOf l s).length<=1
 | [],_=>by simp[valsOf]
 | x::t,h=>by
  obtain⟨h1,h2⟩:=List.pairwise_cons.1 h;have ih:=KD (s:=s) h2;rw[K7];split
  ·rename_i d;rw[Df fun y H e=>by
    have:=h1 y H;rw[e,d]at this;exact List.lt_irrefl _ this]
   simp
  ·simpa using ih
theorem ED (s:List UInt8):∀(P:List Dc) (i:Nat) (lo:Int),lo<i->i+P.length<=65536 ->
 risB 65536 lo ((valsOf (pairsD i P) s).map (·.1))=true/\∀x∈valsOf (pairsD i P) s,(decide (0<x.2.length)&&risB 1048576 (-1) x.2)=true
 | [],i,lo,_,_=>⟨rfl,nofun⟩
 | d::t,i,lo,h1,h2=>by
  rw[List.length_cons]at h2;unfold pairsD;rw[AK,EJ (fun x:List Int=>((i:Int),x))];have Z:Ris (termsL d.2):=by
   unfold termsL;split
   ·exact(BM _).up
   ·exact List.Pairwise.nil
  have H:=KD (s:=s) Z;have h:∀x∈valsOf (termsL d.2) s,(decide (0<x.length)&&risB 1048576 (-1) x)=true:=fun x O=>by
   unfold valsOf at O;obtain⟨p,Y,rfl⟩:=List.mem_map.1 O;have Y:=(List.mem_filter.1 Y).1;rw[ME Y,Bool.and_true];exact decide_eq_true (List.length_pos_iff.2 (Dw Y).2.2)
  cases G:valsOf (termsL d.2) s with
  | nil =>
   have ih:=ED s t (i+1) lo (by omega) (by omega);simpa using ih
  | cons x xs =>
   rw[G]at H h;have J:xs = []:=by
    cases xs with
    | nil=>rfl
    | cons y ys=>simp at H
   subst J;have ih:=ED s t (i+1) i (by omega) (by omega);refine⟨?_,fun y U=>?_⟩
   ·show risB 65536 lo ((i:Int)::(valsOf (pairsD (i+1) t) s).map (·.1))=true;unfold risB;rw[ih.1];simp[h1];omega
   ·rcases List.mem_cons.1 U with rfl | U
    ·exact h x (List.mem_cons_self ..)
    ·exact ih.2 y U
theorem Q5 {P:List Dc} (Y:P.length<=65536) {r:List UInt8×List Po} (H:r∈rowsD P):okPs r.2=true/\r.2 ≠ []/\r.2=valsOf (pairsD 0 P) r.1:=by
 have h:=((BM (pairsD 0 P)).mem r).1 H;have d:=ED r.1 P 0 (-1) (by omega) (by omega);rw[<-h.1]at d;refine⟨?_,h.2,h.1⟩;unfold okPs;rw[d.1,Bool.true_and];exact List.all_eq_true.2 d.2
theorem G5:∀ {P:List Dc} {i:Nat} {q:List UInt8×Po},q∈pairsD i P->∃d∈P,∃p∈termsL d.2,p.1=q.1
 | [],i,q,h=>by cases h
 | d::t,i,q,h=>by
  unfold pairsD at h;rcases List.mem_append.1 h with h | h
  ·obtain⟨p,H,rfl⟩:=List.mem_map.1 h;exact⟨d,List.mem_cons_self ..,p,H,rfl⟩
  ·obtain⟨d',hd,r⟩:=G5 h;exact⟨d',List.mem_cons_of_mem _ hd,r⟩
theorem DW {P:List Dc} {r:List UInt8×List Po} (O:r∈rowsD P):1<=r.1.length/\r.1.length<=65:=by
 have h:=((BM (pairsD 0 P)).mem r).1 O;have h2:=h.2;rw[h.1]at h2;obtain⟨q,U,Y⟩:=Fv h2;obtain⟨d,_,p,J,H⟩:=G5 U;have:=EH J;rw[H,Y]at this;exact this
theorem Jx (P:List Dc):Ris (rowsD P):=(BM (pairsD 0 P)).up
theorem Ja:∀(l:List Int) (lo:Int),-1<=lo->risB 1048576 lo l=true->(stepsL lo l).length<=10*l.length
 | [],lo,_,_=>by simp[stepsL]
 | n::t,lo,H,h=>by
  obtain⟨h1,h2,d⟩:=BW h;have ih:=Ja t n (by omega) d;have Y:=Ag (n:=(n - lo - 1).toNat) (by omega);unfold stepsL;rw[List.length_append,List.length_cons];omega
theorem Gz:∀(L:List Po) (lo:Int),-1<=lo->risB 65536 lo (L.map (·.1))=true->(∀x∈L,(decide (0<x.2.length)&&risB 1048576 (-1) x.2)=true)->(blockPo lo L).length<=20*L.length+10*(L.map fun x=>x.2.length).sum
 | [],lo,_,_,_=>by simp[blockPo]
 | p::t,lo,Z,h,H=>by
  rw[List.map_cons]at h;obtain⟨h1,h2,Y⟩:=BW h;have d:=H p (List.mem_cons_self ..);rw[Bool.and_eq_true]at d;have ih:=Gz t p.1 (by omega) Y fun x O=>H x (List.mem_cons_of_mem _ O);have hs:=Ja p.2 (-1) (by omega) d.2;have G:=DU d.2 (by omega);have J:=Ag (n:=(p.1 - lo - 1).toNat) (by omega);have U:=Ag (n:=p.2.length) (by omega);unfold blockPo onePo;simp only[List.length_append,List.length_cons,List.map_cons,List.sum_cons];omega
theorem GA {L:List Po} (h:okPs L=true):(blockPo (-1) L).length<=20*L.length+10*(L.map fun x=>x.2.length).sum:=by
 unfold okPs at h;rw[Bool.and_eq_true]at h;exact Gz L (-1) (by omega) h.1 (List.all_eq_true.1 h.2)
theorem J7 {L:List Po} (h:okPs L=true) (hs:20*L.length+10*(L.map fun x=>x.2.length).sum<=50000000):(encPs L).length<=10+40*L.length+10*(L.map fun x=>x.2.length).sum:=by
 have h1:=GA h;have h2:=E8 h (by omega) (chunkL 32 L).length;rw[List.take_length]at h2;have d:=AO (k:=32) (by omega) L;have H:=Ag (n:=L.length) (by omega);unfold encPs;simp only[List.length_append];omega
end
section
open Go.RowKit
theorem F5 {α:Type} {f g:α->Nat}:∀(l:List α),(∀x∈l,f x<=g x)->(l.map f).sum<=(l.map g).sum
 | [],_=>Nat.le_refl _
 | x::t,h=>by
  have h1:=h x (List.mem_cons_self ..);have h2:=F5 t fun y d=>h y (List.mem_cons_of_mem _ d);simp only[List.map_cons,List.sum_cons];omega
theorem Dq {α:Type} {f:α->Nat}:∀ {l:List α} {x:α},x∈l->f x<=(l.map f).sum
 | y::t,x,h=>by
  rw[List.map_cons,List.sum_cons];rcases List.mem_cons.1 h with rfl | h
  ·omega
  ·have:=Dq (f:=f) h;omega
theorem Nh {α:Type} (f g:α->Nat) (a b c:Nat):∀(l:List α),(l.map fun x=>a+b*f x+c*g x).sum=a*l.length+b*(l.map f).sum+c*(l.map g).sum
 | []=>by simp
 | x::t=>by
  have ih:=Nh f g a b c t;simp only[List.map_cons,List.sum_cons,List.length_cons,Nat.mul_add];omega
theorem N5 (rs:List (List UInt8×List Po)):(postB rs).length=(rs.map fun r=>(encPs r.2).length).sum:=by
 unfold postB
 induction rs with
 | nil=>rfl
 | cons r t ih=>rw[List.flatMap_cons,List.length_append,ih,List.map_cons,List.sum_cons]
theorem Cc:∀(rs:List (List UInt8×List Po)) (o:Nat),(enOf o rs).length=rs.length
 | [],o=>rfl
 | r::t,o=>by
  unfold enOf;rw[List.length_cons,Cc t,List.length_cons]
theorem GH:∀(rs:List (List UInt8×List Po)) (o:Nat) (e:En),e∈enOf o rs->∃r∈rs,e.t=r.1/\o<=e.off/\e.off+e.len<=o+(postB rs).length/\e.len=(encPs r.2).length/\e.n=r.2.length
 | [],o,e,h=>by cases h
 | r::t,o,e,h=>by
  unfold enOf at h;have H:(postB (r::t)).length=(encPs r.2).length+(postB t).length:=by unfold postB;rw[List.flatMap_cons,List.length_append]
  rcases List.mem_cons.1 h with rfl | h
  ·exact⟨r,List.mem_cons_self ..,rfl,Nat.le_refl _,by simp only[H];omega,rfl,rfl⟩
  ·obtain⟨r',d,h1,h2,U,Y,J⟩:=GH t _ e h;exact⟨r',List.mem_cons_of_mem _ d,h1,by omega,by rw[H];omega,Y,J⟩
theorem MU:∀(rs:List (List UInt8×List Po)) (o:Nat),Ris rs->(enOf o rs).Pairwise fun a b=>a.t<b.t
 | [],o,_=>List.Pairwise.nil
 | r::t,o,h=>by
  obtain⟨h1,h2⟩:=List.pairwise_cons.1 h;unfold enOf;refine List.pairwise_cons.2 ⟨fun e Y=>?_,MU t _ h2⟩;obtain⟨r',d,H,_⟩:=GH t _ e Y;rw[H];exact h1 r' d
structure SmP (P:List Dc):Prop where
  ok:okDs P=true
  sz:(blockD 0 P).length<=70000
structure SegB (P:List Dc):Prop where
  n:P.length<=65536
  pairs:(pairsD 0 P).length<=70000
  rows:(rowsD P).length<=70000
  each:∀r∈rowsD P,okPs r.2=true/\r.2 ≠ []/\r.2.length<=70000/\(blockPo (-1) r.2).length<=50000000/\(encPs r.2).length<=5000000
  posts:(postB (rowsD P)).length<=5000000
  ens:OkEs (enOf 0 (rowsD P))
  dic:(encEs (enOf 0 (rowsD P))).length<=16777216
  docs:(encDs P).length<=16777216
  times:(timesD 0 P).length<=16777216
  bits:8<=(ofB ((rowsD P).map (·.1))).length/\(ofB ((rowsD P).map (·.1))).length<=131072
theorem SmP.seg {P:List Dc} (h:SmP P):SegB P:=by
 have H:=h.ok;have m0:=h.sz;have hn:P.length<=65536:=by
  unfold okDs at H;rw[Bool.and_eq_true]at H;exact of_decide_eq_true H.1
 have p0:=G4 P 0 0;have k0:=G6 P 0 0;have g0:(rowsD P).length<=(pairsD 0 P).length:=EX _;have U:=EZ (fun _=>1) (pairsD 0 P);rw[GR,JE]at U;have O:=EZ (fun x:Po=>x.2.length) (pairsD 0 P);unfold gsum at O;have h0:grp (pairsD 0 P)=rowsD P:=rfl;rw[h0]at U O;have J:∀r∈rowsD P,okPs r.2=true/\r.2 ≠ []/\r.2.length<=70000/\(r.2.map fun x=>x.2.length).sum<=70000:=fun r d=>by
  have h1:=Q5 hn d;have h2:=Dq (f:=fun x:List UInt8×List Po=>x.2.length) d;have Z:=Dq (f:=fun x:List UInt8×List Po=>(x.2.map fun(y:Po)=>y.2.length).sum) d;exact⟨h1.1,h1.2.1,by omega,by omega⟩
 have I:(postB (rowsD P)).length<=5000000:=by
  rw[N5];refine Nat.le_trans (F5 (g:=fun r:List UInt8×List Po=>10+40*r.2.length+10*(r.2.map fun(x:Po)=>x.2.length).sum) _ fun r d=>?_) ?_
  ·have:=J r d;exact J7 this.1 (by omega)
  ·rw[Nh (fun r:List UInt8×List Po=>r.2.length) (fun r:List UInt8×List Po=>(r.2.map fun(x:Po)=>x.2.length).sum)];omega
 have Y:∀e∈enOf 0 (rowsD P),okEn e/\e.t ≠ []:=fun e G=>by
  obtain⟨r,d,h1,h2,Z,h4,h5⟩:=GH _ _ e G;have hk:=DW d;have j0:=J r d;refine⟨⟨by rw[h1];exact hk.2,by omega,by omega,by omega⟩,fun e0=>?_⟩;rw[h1]at e0;rw[e0]at hk;simp at hk
 refine⟨hn,by omega,by omega,fun r d=>?_,I,⟨by rw[Cc];omega,Y,MU _ _ (Jx P)⟩,?_,?_,?_,?_⟩
 ·have h1:=J r d;have h2:=GA h1.1;have Z:=J7 h1.1 (by omega);exact⟨h1.1,h1.2.1,h1.2.2.1,by omega,by omega⟩
 ·have h1:=EE (cs:=chunkL 16 (enOf 0 (rowsD P))) fun c hc=>⟨fun e G=>(Y e (GB (by omega) hc e G)).1,(Fz (by omega) hc).2⟩
  have h2:=AO (k:=16) (by omega) (enOf 0 (rowsD P));rw[Cc]at h2;have Z:=Ag (n:=(enOf 0 (rowsD P)).length) (by rw[Cc];omega);unfold encEs;rw[List.length_append];omega
 ·have h1:=Gy H (by omega) (chunkL 16 P).length;rw[List.take_length]at h1;have h2:=AO (k:=16) (by omega) P;have Z:=Ag (n:=P.length) (by omega);unfold encDs;simp only[List.length_append];omega
 ·have:=Dx P 0;omega
 ·rw[QW];exact EU _
end
section
open Go.RowKit Go.Maps
open Go
structure MapL (P:Program) (k:TypeId) (w:World) (m:Nat) (L:List (Value×Value)):Prop where
  ex:∃es clock,w.heap[m]? = some (.map es clock)/\es.toList.map (fun e=>(e.key,e.val))=L/\es.toList.Pairwise (fun a b=>a.born≠b.born)/\∀e∈es.toList,e.born<clock
  keys:∀p∈L,∃l,keyOf P k p.1=some l
  nodup:(L.map Prod.fst).Nodup
section
variable {P:Program} {k:TypeId} {w w1:World} {m:Nat} {L:List (Value×Value)}
theorem MapL.keep (h:MapL P k w m L) (hb:w1.heap[m]? = w.heap[m]?):MapL P k w1 m L:=by
 obtain⟨⟨es,cl,h1,h2⟩,d,H⟩:=h;exact⟨⟨es,cl,hb.trans h1,h2⟩,d,H⟩
theorem MapL.lt (h:MapL P k w m L):m<w.heap.size:=by
 obtain⟨⟨es,cl,h1,_⟩,_⟩:=h;exact(Array.getElem?_eq_some_iff.1 h1).1
theorem MapL.ext (h:MapL P k w m L) (d:Ext w w1):MapL P k w1 m L:=h.keep (Below.block d m h.lt)
theorem MapL.grown {row:Option Nat} (h:MapL P k w m L) (H:w.grownBy w1 row) (d:row≠some m):MapL P k w1 m L:=h.keep (H.block m h.lt (fun e=>d e.symm))
theorem MapL.drew (h:MapL P k w m L):MapL P k w.drew m L:=h.keep rfl
theorem MapL.alloc (h:MapL P k w m L) (o:Obj):MapL P k (w.alloc o) m L:=h.keep (Below.heap_alloc w o m h.lt)
theorem MapL.made (w:World):MapL P k (w.alloc (.map #[] 0)) w.heap.size [] :=
 ⟨⟨#[],0,heap_alloc_new w _,rfl,List.Pairwise.nil,by simp⟩,by simp,by simp⟩
theorem MapL.unique {x u v:Value} (h:MapL P k w m L) (d:(x,u)∈L) (H:(x,v)∈L):u=v:=by
 have hn:=h.nodup;clear h
 induction L with
 | nil=>cases d
 | cons p L ih =>
  simp only[List.map_cons,List.nodup_cons]at hn;rcases List.mem_cons.1 d with h1 | h1 <;> rcases List.mem_cons.1 H with h2 | h2
  ·rw[<-h1]at h2;exact(Prod.mk.inj h2).2.symm
  ·exfalso;apply hn.1;rw[<-h1];exact List.mem_map.2 ⟨_,h2,rfl⟩
  ·exfalso;apply hn.1;rw[<-h2];exact List.mem_map.2 ⟨_,h1,rfl⟩
  ·exact ih h1 h2 hn.2
theorem MapL.find (h:MapL P k w m L) (K:Keyed P k) {x:Value} {l:Lit} (Z:keyOf P k x=some l) {es:Array MapEntry} (hb:w.heap[m]? = some (.map es cl)) (W:World) :
 ((Instr.findKey k x es.toList).run P W = .ok none W/\∀p∈L,p.1≠x) \/
 ∃j e,(Instr.findKey k x es.toList).run P W = .ok (some (j,e.val)) W/\es[j]? = some e/\e.key=x/\(x,e.val)∈L:=by
 obtain⟨⟨es',cl',h1,h2,_⟩,O,_⟩:=h;rw[hb]at h1;cases h1;have hk:∀e∈es.toList,∃l,keyOf P k e.key=some l:=fun e d=>O (e.key,e.val) (by rw[<-h2];exact List.mem_map.2 ⟨e,d,rfl⟩);rcases K.find W Z es.toList hk with ⟨Y,H⟩ | ⟨j,e,Y,J,d⟩
 ·refine .inl ⟨Y,fun p U=>?_⟩;rw[<-h2]at U;obtain⟨e,d,rfl⟩:=List.mem_map.1 U;exact H e d
 ·refine .inr ⟨j,e,Y,by simpa using J,d,?_⟩;rw[<-h2];exact List.mem_map.2 ⟨e,List.mem_of_getElem? J,by rw[d]⟩
theorem MapL.look (h:MapL P k w m L) (K:Keyed P k) (ht:P.underlying t=some (.map k E)) {x z:Value} {l:Lit} (Y:keyOf P k x=some l) (O:(zeroValue E).run P w = .ok z w) (ok:Bool) :
 (∃v,(x,v)∈L/\(Instr.lookup t (.map (some m)) x ok).run P w = .ok (if ok then .tuple #[v,.bool true] else v) w) \/
 ((∀p∈L,p.1≠x)/\(Instr.lookup t (.map (some m)) x ok).run P w = .ok (if ok then .tuple #[z,.bool false] else z) w):=by
 obtain⟨es,cl,hb,_⟩:=h.ex;have J:(getObj m).run P w = .ok (.map es cl) w:=by simp[getObj,Sem.run,hb]
 rcases h.find K Y hb w with ⟨H,d⟩ | ⟨j,e,H,G,Z,U⟩
 ·refine .inr ⟨d,?_⟩;simp only[Instr.lookup,Sem.run_bind,run_underlying ht,Result.andThen_ok,J,Sem.run_pure,K.check w es.isEmpty Y,H,O]
 ·refine .inl ⟨e.val,U,?_⟩;simp only[Instr.lookup,Sem.run_bind,run_underlying ht,Result.andThen_ok,J,Sem.run_pure,K.check w es.isEmpty Y,H]
structure Put (L:List (Value×Value)) (x v:Value) (L':List (Value×Value)):Prop where
  mem:∀p,p∈L'↔p=(x,v)\/(p∈L/\p.1≠x)
  len:(∃u,(x,u)∈L)/\L'.length=L.length\/(∀p∈L,p.1≠x)/\L'.length=L.length+1
theorem CI {es:Array MapEntry} (hb:w.heap[m]? = some (.map es cl)) (o:Obj):(setObj m o).run P w = .ok () { w with heap:=w.heap.setIfInBounds m o }:=by
 simp[setObj,Sem.run,hb]
theorem BH {o:Obj} (h:m<w.heap.size):({ w with heap:=w.heap.setIfInBounds m o }:World).heap[m]? = some o:=by
 simp[h]
theorem Br (o : Obj) : w.grownBy { w with heap := w.heap.setIfInBounds m o } (some m) :=
  ⟨rfl, rfl, rfl, by simp, fun i _ hi => by
    have : m ≠ i := fun e => hi (by rw [e])
    simp [Array.getElem?_setIfInBounds_ne this]⟩
theorem CE {es:Array MapEntry} {e0:MapEntry} (H:es[j]? = some e0) (f:MapEntry->MapEntry) (e:MapEntry) :
 e∈(es.modify j f).toList↔e=f e0\/∃i,i≠j/\es[i]? = some e:=by
 have Y:j<es.size:=(Array.getElem?_eq_some_iff.1 H).1;constructor
 ·intro h;obtain⟨i,hi⟩:=List.mem_iff_getElem?.1 h;rw[Array.getElem?_toList,Array.getElem?_modify]at hi;split at hi
  ·rename_i d;subst d;rw[H]at hi;exact .inl (Option.some.inj hi).symm
  ·rename_i d;exact .inr ⟨i,fun h=>d h.symm,hi⟩
 ·rintro(rfl | ⟨i,hi,d⟩)
  ·refine List.mem_iff_getElem?.2 ⟨j,?_⟩;rw[Array.getElem?_toList,Array.getElem?_modify,if_pos rfl,H];rfl
  ·refine List.mem_iff_getElem?.2 ⟨i,?_⟩;rw[Array.getElem?_toList,Array.getElem?_modify,if_neg (fun h=>hi h.symm)];exact d
theorem GZ {es:Array MapEntry} {β:Type} (f:MapEntry->MapEntry) (g:MapEntry->β) (H:∀e,es[j]? = some e->g (f e)=g e):(es.modify j f).toList.map g=es.toList.map g:=by
 refine List.ext_getElem? fun i=>?_;rw[List.getElem?_map,List.getElem?_map,Array.getElem?_toList,Array.getElem?_toList,Array.getElem?_modify];split
 ·rename_i h;subst h;cases d:es[j]? with
  | none=>rfl
  | some e=>simp[H e d]
 ·rfl
theorem Kr {es:Array MapEntry} (hn:(es.toList.map (·.key)).Nodup) {a b:MapEntry} (hi:es[i]? = some a) (d:es[j]? = some b) (hk:a.key=b.key):i=j:=by
 have h1:(es.toList.map (·.key))[i]? = some a.key:=by simp[hi]
 have h2:(es.toList.map (·.key))[j]? = some b.key:=by simp[d]
 have h:i<(es.toList.map (·.key)).length:=(List.getElem?_eq_some_iff.1 h1).1;exact(List.getElem?_inj h hn).1 (by rw[h1,h2,hk])
theorem MM {es:Array MapEntry} (hn:es.toList.Pairwise (fun a b=>a.born≠b.born)) {a b:MapEntry} (hi:es[i]? = some a) (H:es[j]? = some b) (hk:a.born=b.born):i=j:=by
 have d:(es.toList.map (·.born)).Nodup:=by rw[List.nodup_iff_pairwise_ne,List.pairwise_map];exact hn
 have h1:(es.toList.map (·.born))[i]? = some a.born:=by simp[hi]
 have h2:(es.toList.map (·.born))[j]? = some b.born:=by simp[H]
 have h:i<(es.toList.map (·.born)).length:=(List.getElem?_eq_some_iff.1 h1).1;exact(List.getElem?_inj h d).1 (by rw[h1,h2,hk])
theorem MapL.modify (h:MapL P k w m L) {es:Array MapEntry} (hb:w.heap[m]? = some (.map es cl)) {e0:MapEntry} (H:es[j]? = some e0) (v:Value) {f:MapEntry->MapEntry}
 (J:(f e0).key=e0.key) (O:(f e0).val=v) (Z:(f e0).born=e0.born) (hw:w1.heap[m]? = some (.map (es.modify j f) cl)):∃L',MapL P k w1 m L'/\Put L e0.key v L':=by
 obtain⟨⟨es',cl',h1,h2,h4,h5⟩,h3,h6⟩:=h;rw[hb]at h1;cases h1;have Y:(es.toList.map (·.key)).Nodup:=by
  rw[<-h2,List.map_map]at h6;exact h6
 refine⟨(es.modify j f).toList.map (fun e=>(e.key,e.val)),⟨⟨es.modify j f,cl,hw,rfl,?_,fun e d=>?_⟩,fun p U=>?_,?_⟩,fun p=>?_,.inl ⟨⟨e0.val,?_⟩,?_⟩⟩
 ·have I:(es.modify j f).toList.map (·.born)=es.toList.map (·.born):=GZ f (·.born) (fun e d=>by rw[H]at d;cases d;exact Z);have hn:(es.toList.map (·.born)).Nodup:=by rw[List.nodup_iff_pairwise_ne,List.pairwise_map];exact h4
  rw[<-I,List.nodup_iff_pairwise_ne,List.pairwise_map]at hn;exact hn
 ·rcases (CE H f e).1 d with rfl | ⟨i,_,hi⟩
  ·rw[Z];exact h5 e0 (by simpa using Array.mem_of_getElem? H)
  ·exact h5 e (by simpa using Array.mem_of_getElem? hi)
 ·obtain⟨e,d,rfl⟩:=List.mem_map.1 U;rcases (CE H f e).1 d with rfl | ⟨i,_,hi⟩
  ·rw[J];exact h3 (e0.key,e0.val) (by rw[<-h2];exact List.mem_map.2 ⟨e0,by simpa using Array.mem_of_getElem? H,rfl⟩)
  ·exact h3 (e.key,e.val) (by rw[<-h2];exact List.mem_map.2 ⟨e,by simpa using Array.mem_of_getElem? hi,rfl⟩)
 ·rw[List.map_map];have:(es.modify j f).toList.map (Prod.fst∘fun e=>(e.key,e.val))=es.toList.map (·.key):=GZ f _ (fun e d=>by rw[H]at d;cases d;exact J);rw[this];exact Y
 ·constructor
  ·intro U;obtain⟨e,d,rfl⟩:=List.mem_map.1 U;rcases (CE H f e).1 d with rfl | ⟨i,hi,G⟩
   ·exact .inl (by rw[J,O])
   ·refine .inr ⟨by rw[<-h2];exact List.mem_map.2 ⟨e,by simpa using Array.mem_of_getElem? G,rfl⟩,fun hk=>hi (Kr Y G H hk)⟩
  ·rintro(rfl | ⟨U,q0⟩)
   ·exact List.mem_map.2 ⟨f e0,(CE H f _).2 (.inl rfl),by rw[J,O]⟩
   ·rw[<-h2]at U;obtain⟨e,d,rfl⟩:=List.mem_map.1 U;obtain⟨i,hi⟩:=List.mem_iff_getElem?.1 d;rw[Array.getElem?_toList]at hi;exact List.mem_map.2 ⟨e,(CE H f e).2 (.inr ⟨i,fun h0=>q0 (by subst h0;rw[H]at hi;cases hi;rfl),hi⟩),rfl⟩
 ·rw[<-h2];exact List.mem_map.2 ⟨e0,by simpa using Array.mem_of_getElem? H,rfl⟩
 ·rw[<-h2];simp
theorem MapL.push (h:MapL P k w m L) {es:Array MapEntry} (hb:w.heap[m]? = some (.map es cl)) {x v:Value} {l:Lit} (hx:keyOf P k x=some l) (Y:∀p∈L,p.1≠x)
 (hw:w1.heap[m]? = some (.map (es.push { key:=x,val:=v,born:=cl }) (cl+1))):∃L',MapL P k w1 m L'/\Put L x v L':=by
 obtain⟨⟨es',cl',h1,h2,G,O⟩,Z,I⟩:=h;rw[hb]at h1;cases h1;refine⟨L ++ [(x,v)],⟨⟨_,_,hw,by simp[h2],?_,fun e J=>?_⟩,fun p d=>?_,?_⟩,fun p=>?_,.inr ⟨Y,by simp⟩⟩
 ·simp only[Array.toList_push];rw[List.pairwise_append];exact⟨G,List.pairwise_singleton ..,fun a U b H=>by
   obtain rfl:=List.mem_singleton.1 H;have:=O a U;simp only;omega⟩
 ·simp only[Array.toList_push]at J;rcases List.mem_append.1 J with J | J
  ·have:=O e J;omega
  ·obtain rfl:=List.mem_singleton.1 J;simp only;omega
 ·rcases List.mem_append.1 d with d | d
  ·exact Z p d
  ·obtain rfl:=List.mem_singleton.1 d;exact⟨l,hx⟩
 ·rw[List.map_append,List.nodup_append];refine⟨I,by simp,fun a U b H=>?_⟩;simp at H;obtain⟨p,d,rfl⟩:=List.mem_map.1 U;rw[H];exact Y p d
 ·constructor
  ·intro d;rcases List.mem_append.1 d with d | d
   ·exact .inr ⟨d,Y p d⟩
   ·exact .inl (List.mem_singleton.1 d)
  ·rintro(rfl | ⟨d,_⟩)
   ·simp
   ·exact List.mem_append_left _ d
theorem MapL.update (h:MapL P k w m L) (K:Keyed P k) (ht:P.underlying t=some (.map k E)) {x:Value} {l:Lit} (d:keyOf P k x=some l) (v:Value) :
 ∃w' L',(Instr.mapUpdate t (.map (some m)) x v).run P w = .ok () w'/\MapL P k w' m L'/\Put L x v L'/\w.grownBy w' (some m)/\w'.heap.size=w.heap.size:=by
 obtain⟨es,cl,hb,_⟩:=h.ex;have J:(getObj m).run P w = .ok (.map es cl) w:=by simp[getObj,Sem.run,hb]
 rcases h.find K d hb w with ⟨Y,H⟩ | ⟨j,e,Y,U,O,Z⟩
 ·obtain⟨L',h1,h2⟩:=h.push (w1:= { w with heap:=w.heap.setIfInBounds m (.map (es.push { key:=x,val:=v,born:=cl }) (cl+1)) }) hb d H (BH h.lt);refine⟨_,L',?_,h1,h2,Br _,by simp⟩;simp only[Instr.mapUpdate,Sem.run_bind,run_underlying ht,Result.andThen_ok,J,K.check w false d,Y,CI hb]
 ·subst O;obtain⟨L',h1,h2⟩:=h.modify (w1:= { w with heap:=w.heap.setIfInBounds m (.map (es.modify j fun e'=> { e' with key:=e.key,val:=v }) cl) }) hb U v (f:=fun e'=> { e' with key:=e.key,val:=v }) rfl rfl rfl (BH h.lt);refine⟨_,L',?_,h1,h2,Br _,by simp⟩;simp only[Instr.mapUpdate,Sem.run_bind,run_underlying ht,Result.andThen_ok,J,K.check w false d,Y,U,Option.map_some,Option.getD_some,K.stays w d,CI hb]
theorem MapL.entry (h:MapL P k w m L) (K:Keyed P k) (ht:P.underlying t=some (.map k E)) {x z:Value} {l:Lit} (hx:keyOf P k x=some l) (hz:(zeroValue E).run P w = .ok z w) :
 ∃w' v n,(Instr.mapEntry t (.map (some m)) x).run P w = .ok (.tuple #[v,.int .i64 n]) w'/\((x,v)∈L\/(∀p∈L,p.1≠x)/\v=z)/\w.grownBy w' (some m)/\w'.heap.size=w.heap.size/\(∃L1,MapL P k w' m L1) /\
  ∀(w2:World) (u:Value),w2.heap[m]? = w'.heap[m]? ->
   ∃w3 L',(Instr.entryStore t (.map (some m)) (.int .i64 n) u).run P w2 = .ok () w3/\MapL P k w3 m L'/\Put L x u L'/\w2.grownBy w3 (some m)/\w3.heap.size=w2.heap.size:=by
 obtain⟨es,cl,hb,_,Z,l0⟩:=h.ex;have hg:(getObj m).run P w = .ok (.map es cl) w:=by simp[getObj,Sem.run,hb]
 have back:∀(es2:Array MapEntry) (cl2 j:Nat) (e0:MapEntry) (w2:World) (u:Value),w2.heap[m]? = some (.map es2 cl2)->es2[j]? = some e0->es2.toList.Pairwise (fun a b=>a.born≠b.born) ->
  (Instr.entryStore t (.map (some m)) (.int .i64 (e0.born:Int)) u).run P w2 = .ok () { w2 with heap:=w2.heap.setIfInBounds m (.map (es2.modify j fun e=> { e with val:=u }) cl2) }:=by
  intro es2 cl2 j e0 w2 u d G c0;have b0:(getObj m).run P w2 = .ok (.map es2 cl2) w2:=by simp[getObj,Sem.run,d]
  have Y:j<es2.size:=(Array.getElem?_eq_some_iff.1 G).1;have y0:es2.findIdx? (fun e=>(e.born:Int)==(e0.born:Int))=some j:=by
   rw[Array.findIdx?_eq_some_iff_getElem];refine⟨Y,?_,fun i hi=>?_⟩
   ·have:es2[j]=e0:=by
     have:=Array.getElem?_eq_getElem Y;rw[G]at this;exact(Option.some.inj this).symm
    simp[this]
   ·have J:es2[i].born≠e0.born:=fun he=>by
     have:=MM c0 (Array.getElem?_eq_getElem (by omega:i<es2.size)) G he;omega
    simp;omega
  simp only[Instr.entryStore,Sem.run_bind,b0,Result.andThen_ok,asInt,asIntOf,Sem.run_pure,y0,CI d]
 rcases h.find K hx hb w with ⟨hr,O⟩ | ⟨j,e,hr,hj,he,hm⟩
 ·let w':World:= { w with heap:=w.heap.setIfInBounds m (.map (es.push { key:=x,val:=z,born:=cl }) (cl+1)) }
  have H:w'.heap[m]? = some (.map (es.push { key:=x,val:=z,born:=cl }) (cl+1)):=BH h.lt;obtain⟨L1,h1,h2⟩:=h.push (w1:=w') hb hx O H;refine⟨w',z,(cl:Int),?_,.inr ⟨O,rfl⟩,Br _,by simp[w'],⟨L1,h1⟩,fun w2 u d=>?_⟩
  ·simp only[Instr.mapEntry,Sem.run_bind,run_underlying ht,Result.andThen_ok,hg,K.check w false hx,hr,hz,CI hb,Sem.run_pure,goInt];rfl
  ·have q0:(es.push { key:=x,val:=z,born:=cl })[es.size]? = some { key:=x,val:=z,born:=cl }:=by simp
   obtain⟨⟨es1,cl1,j0,_,v0,_⟩,_⟩:=id h1;rw[H]at j0;cases j0;have I:=back _ _ _ _ w2 u (d.trans H) q0 v0;have Y:m<w2.heap.size:=(Array.getElem?_eq_some_iff.1 (d.trans H)).1;obtain⟨L2,h3,h4⟩:=(h1.keep d).modify (w1:= { w2 with heap:=w2.heap.setIfInBounds m (.map ((es.push { key:=x,val:=z,born:=cl }).modify es.size fun e=> { e with val:=u }) (cl+1)) }) (d.trans H) q0 u (f:=fun e=> { e with val:=u }) rfl rfl rfl (BH Y);refine⟨_,L2,I,h3,⟨fun p=>?_,?_⟩,Br _,by simp⟩
   ·rw[h4.mem p];constructor
    ·rintro(rfl | ⟨hp,J⟩)
     ·exact .inl rfl
     ·rcases (h2.mem p).1 hp with rfl | hp
      ·exact absurd rfl J
      ·exact .inr hp
    ·rintro(rfl | ⟨hp,J⟩)
     ·exact .inl rfl
     ·exact .inr ⟨(h2.mem p).2 (.inr ⟨hp,J⟩),J⟩
   ·refine .inr ⟨O,?_⟩;rcases h2.len with ⟨⟨u',f0⟩,_⟩ | ⟨_,hl⟩
    ·exact absurd rfl (O _ f0)
    ·rcases h4.len with ⟨_,n0⟩ | ⟨p0,_⟩
     ·omega
     ·exact absurd rfl (p0 (x,z) ((h2.mem _).2 (.inl rfl)))
 ·subst he
  let w':World:= { w with heap:=w.heap.setIfInBounds m (.map (es.modify j fun e'=> { e' with key:=e.key }) cl) }
  have o0:j<es.size:=(Array.getElem?_eq_some_iff.1 hj).1;have U:es.modify j (fun e'=> { e' with key:=e.key })=es:=by
   apply Array.ext_getElem?;intro i;rw[Array.getElem?_modify];split
   ·rename_i hi;subst hi;rw[hj];rfl
   ·rfl
  have H:w'.heap[m]? = some (.map es cl):=by
   have:=BH (w:=w) (m:=m) (o:= .map (es.modify j fun e'=> { e' with key:=e.key }) cl) h.lt;rw[U]at this;simpa [w',U]using this
  refine⟨w',e.val,(e.born:Int),?_,.inl hm,Br _,by simp[w'],⟨L,h.keep (H.trans hb.symm)⟩,fun w2 u d=>?_⟩
  ·simp only[Instr.mapEntry,Sem.run_bind,run_underlying ht,Result.andThen_ok,hg,K.check w false hx,hr,hj,Option.map_some,Option.getD_some,K.stays w hx,CI hb,Sem.run_pure,goInt];rfl
  ·have I:=back es cl j e w2 u (d.trans H) hj Z;have Y:m<w2.heap.size:=(Array.getElem?_eq_some_iff.1 (d.trans H)).1;obtain⟨L2,h3,h4⟩:=(h.keep ((d.trans H).trans hb.symm)).modify (w1:= { w2 with heap:=w2.heap.setIfInBounds m (.map (es.modify j fun e=> { e with val:=u }) cl) }) (d.trans H) hj u (f:=fun e=> { e with val:=u }) rfl rfl rfl (BH Y);exact⟨_,L2,I,h3,h4,Br _,by simp⟩
end
end
section
open Go.RowKit
theorem HX (w:World):Calls prog 201 #[.slice none 0 0,.int .i64 0,.int .i64 0,cmpV] w fun e w'=>e = .returned (.tuple #[])/\w'=w:=by
 unfold cmpV
 go_in
 go_wp2_with fail
 go_loopw [8] (fun s8 wr=>s8 = .int .i64 1/\wr=w) (fun _ _=>0)
 case atStart=>exact⟨rfl,rfl⟩
 case round =>
  obtain⟨rfl,rfl⟩:=hrel;go_wp2_with fail
  go_end0
  exact⟨rfl,rfl⟩
theorem MB (w:World):Calls prog 176 #[.slice none 0 0,.int .i64 0,cmpV] w fun e w'=>e = .returned (.tuple #[])/\w'=w:=by
 have h:=Aa (HX w);unfold cmpV at h ⊢
 go_in
 go_wp2_with fail
 go_loopw [7,8] (fun s7 s8 wr=>s7 = .int .i64 0/\s8 = .int .i64 20/\wr=w) (fun _ _ _=>0)
 case atStart=>exact⟨rfl,rfl,rfl⟩
 case round =>
  obtain⟨rfl,rfl,rfl⟩:=hrel;go_wp2_with fail;refine h.out.mono ?_;rintro e w1 ⟨rfl,rfl⟩;go_wp2_with fail
  go_loopw [6] (fun s6 wr2=>s6 = .int .i64 20/\wr2=w1) (fun _ _=>0)
  case atStart=>exact⟨rfl,rfl⟩
  case round =>
   obtain⟨rfl,rfl⟩:=hrel;go_wp2_with fail
   go_end0
   exact⟨rfl,rfl⟩
theorem Hx (w:World):Calls prog 131 #[.slice none 0 0,cmpV] w fun e w'=>e = .returned (.tuple #[])/\w'=w:=by
 have h:=Aa (MB w);unfold cmpV at h ⊢
 go_in
 go_wp2_with fail;refine h.out.mono ?_;rintro e w1 ⟨rfl,rfl⟩;go_wp2_with fail
 go_end0
 exact⟨rfl,rfl⟩
theorem Mv (base:Nat) (L:Option Addr) (n c:Nat) (D:List TmV) (w:World) (h:w.ownsRow base 157 2 (.slice L n c) n (tcs D)) (hn:n=D.length) (d:n<=268435456) :
 Calls prog 131 #[.slice L n c,cmpV] w fun e w'=>e = .returned (.tuple #[])/\∃E,Std D E/\(n≠0->∃g,L=some ⟨g,0,none⟩/\base<=g/\TR w' g E)/\Chg (fun k=>(Value.slice L n c).ownBlock=some k) w w':=by
 rcases h with ⟨I,⟨H,G⟩ | ⟨g,cap,cur,H,hb,O,Z,U,hs,ht⟩⟩
 ·cases H;obtain rfl:D = []:=List.length_eq_zero_iff.1 hn.symm;exact(Hx w).mono fun e w' ⟨h1,h2⟩=>⟨h1,[],⟨List.Pairwise.nil,Stb.refl _⟩,fun h=>absurd rfl h,by rw[h2];exact Chg.refl _ _⟩
 ·cases H;subst hn;refine(Hw g c D w ⟨cur,O,fun i v hi=>?_⟩ d).mono ?_
  ·rw[<-ht,List.getElem?_take]at hi;split at hi
   ·simpa using hi
   ·cases hi
  ·rintro e w' ⟨h1,E,h2,Y,J⟩;exact⟨h1,E,h2,fun _=>⟨g,rfl,hb,Y⟩,J.mono fun k _ hk=>by rw[hk];rfl⟩
abbrev TmP:=TmV×(List UInt8×List Int)
def TmP.far (x y:TmP):Prop:=∀a b,x.1.2.1=some a->y.1.2.1=some b->a.block≠b.block
theorem TmP.far_symm {x y:TmP} (h:TmP.far x y):TmP.far y x:=fun a b d hb e=>h b a hb d e.symm
def TmP.ok (w:World) (base:Nat) (z:TmP):Prop:=z.1.1=z.2.1/\Buf w base 3 z.1.2.1 z.1.2.2.1 z.1.2.2.2 (z.2.2.map IV)
structure TZ (w:World) (base:Nat) (l:List TmP):Prop where
  each:∀z∈l,TmP.ok w base z
  apart:l.Pairwise TmP.far
theorem TZ.perm {l m:List TmP} (h:TZ w base l) (d:m.Perm l):TZ w base m :=
 ⟨fun z H=>h.each z (d.mem_iff.1 H),(d.symm.pairwise_iff (fun {x y} h=>TmP.far_symm h)).1 h.apart⟩
theorem TZ.keep {l:List TmP} (h:TZ w base l) (hk:∀A n c xs,Buf w base 3 A n c xs->Buf w1 base 3 A n c xs):TZ w1 base l :=
 ⟨fun z d=>⟨(h.each z d).1,hk _ _ _ _ (h.each z d).2⟩,h.apart⟩
theorem TmsOk.tz {D:List TmV} {Z:List (List UInt8×Int)} (h:TmsOk w base D (oneT Z)) :
 TZ w base (D.map fun x=>(x,(x.1,ptsOf w x.2)))/\(∀x∈D,ptsOf w x.2 = [(ptsOf w x.2).headD 0])/\D.map (fun x=>(x.1,(ptsOf w x.2).headD 0))=Z:=by
 have hl:D.length=Z.length:=by have:=h.len;unfold oneT at this;rwa [List.length_map]at this
 have H:∀(i:Nat) (x:TmV),D[i]? = some x->∃p,Z[i]? = some p/\x.1=p.1/\Buf w base 3 x.2.1 x.2.2.1 x.2.2.2 ([p.2].map IV)/\ptsOf w x.2 = [p.2]:=fun i x d=>by
  have hi:=(List.getElem?_eq_some_iff.1 d).1;obtain⟨p,Y⟩:∃p,Z[i]? = some p:=⟨_,List.getElem?_eq_getElem (by omega)⟩
  have:=h.each i x (p.1,[p.2]) d (by unfold oneT;rw[List.getElem?_map,Y];rfl);exact⟨p,Y,this.1,this.2,N6 this.2⟩
 refine⟨⟨fun z I=>?_,?_⟩,fun x d=>?_,?_⟩
 ·obtain⟨x,d,rfl⟩:=List.mem_map.1 I;obtain⟨i,hi⟩:=List.mem_iff_getElem?.1 d;obtain⟨p,Y,h1,h2,J⟩:=H i x hi;exact⟨rfl,by simp only[J];exact h2⟩
 ·rw[List.pairwise_map,List.pairwise_iff_getElem];intro i j hi G O a b U hb;exact h.apart i j _ _ (List.getElem?_eq_getElem hi) (List.getElem?_eq_getElem G) (by omega) a b U hb
 ·obtain⟨i,hi⟩:=List.mem_iff_getElem?.1 d;obtain⟨p,Y,h1,h2,J⟩:=H i x hi;rw[J];rfl
 ·apply List.ext_getElem?;intro i;rw[List.getElem?_map];cases d:D[i]? with
  | none=>rw[List.getElem?_eq_none_iff]at d;rw[List.getElem?_eq_none (by omega)];rfl
  | some x =>
   obtain⟨p,Y,h1,h2,J⟩:=H i x d;rw[Y,Option.map_some,J,h1];rfl
theorem TZ.tms {l:List TmP} (h:TZ w base l):TmsOk w base (l.map Prod.fst) (l.map Prod.snd):=by
 refine⟨by rw[List.length_map,List.length_map],fun i x p H U=>?_,fun i j x y H G J a b O hb=>?_⟩
 ·rw[List.getElem?_map]at H U;obtain⟨z,Y,rfl⟩:=Option.map_eq_some_iff.1 H;rw[Y]at U;cases U;exact h.each z (List.mem_of_getElem? Y)
 ·rw[List.getElem?_map]at H G;obtain⟨z,Y,rfl⟩:=Option.map_eq_some_iff.1 H;obtain⟨u,I,rfl⟩:=Option.map_eq_some_iff.1 G;obtain⟨hi,rfl⟩:=List.getElem?_eq_some_iff.1 Y;obtain⟨Z,rfl⟩:=List.getElem?_eq_some_iff.1 I;rcases Nat.lt_or_gt_of_ne J with d | d
  ·exact List.pairwise_iff_getElem.1 h.apart i j hi Z d a b O hb
  ·exact(List.pairwise_iff_getElem.1 h.apart j i Z hi d b a hb O).symm
theorem TZ.join {a r:List TmP} {x y:TmP} (h:TZ w base (a++x::y::r)) (x':TmP) (hk:∀z∈a++r,TmP.far z x->TmP.ok w base z->TmP.ok w1 base z) (hx:TmP.ok w1 base x') (hn:x'.1.2.1=x.1.2.1\/∃b,x'.1.2.1=some b/\w.heap.size<=b.block):TZ w1 base (a++x'::r):=by
 have U:∀z∈a++r,z∈a++x::y::r:=fun z d=>by
  rcases List.mem_append.1 d with h | h
  ·exact List.mem_append_left _ h
  ·exact List.mem_append_right _ (List.mem_cons_of_mem _ (List.mem_cons_of_mem _ h))
 have H:∀z∈a++r,(TmP.far z x->TmP.far z x'):=fun z d I p q Y O=>by
  rcases hn with hn | ⟨b,hb,h0⟩
  ·rw[hn]at O;exact I p q Y O
  ·rw[hb]at O;cases O;have:=(h.each z (U z d)).2.lt p Y;omega
 have Y:=List.pairwise_append.1 h.apart;have J:=List.pairwise_cons.1 Y.2.1;have Z:=List.pairwise_cons.1 J.2;refine⟨fun z d=>?_,List.pairwise_append.2 ⟨Y.1,List.pairwise_cons.2 ⟨fun z d=>?_,Z.2⟩,fun z d u G=>?_⟩⟩
 ·rcases List.mem_append.1 d with d | d
  ·exact hk z (List.mem_append_left _ d) (Y.2.2 z d x (List.mem_cons_self ..)) (h.each z (List.mem_append_left _ d))
  ·rcases List.mem_cons.1 d with rfl | d
   ·exact hx
   ·exact hk z (List.mem_append_right _ d) (TmP.far_symm (J.1 z (List.mem_cons_of_mem _ d))) (h.each z (U z (List.mem_append_right _ d)))
 ·exact TmP.far_symm (H z (List.mem_append_right _ d) (TmP.far_symm (J.1 z (List.mem_cons_of_mem _ d))))
 ·rcases List.mem_cons.1 G with rfl | G
  ·exact H z (List.mem_append_left _ d) (Y.2.2 z d x (List.mem_cons_self ..))
  ·exact Y.2.2 z d u (List.mem_cons_of_mem _ (List.mem_cons_of_mem _ G))
theorem M7 {base g n c size:Nat} (h:w.ownsRow base e size (.slice (some ⟨g,0,none⟩) n c) n xs) (j:Nat) (u:Value) :
 (w.setCell ⟨g,j,none⟩ u).ownsRow base e size (.slice (some ⟨g,0,none⟩) n c) n (xs.set j u):=by
 rcases h with ⟨Y,⟨h2,_⟩ | ⟨g',cap,cur,J,hb,H,hn,d,hs,ht⟩⟩
 ·cases h2
 ·cases J;refine⟨by rw[List.length_set];exact Y,.inr ⟨g,_,cur.setIfInBounds j u,rfl,hb,Row.put (w:=w) H j u,hn,d,by rw[Array.size_setIfInBounds];exact hs,?_⟩⟩;rw[Array.toList_setIfInBounds,List.take_set,ht]
theorem Qf (D:List TmV) (x:TmV) (y:Option Addr×Nat×Nat):(tcs (D ++ [x])).set (D.length*2+1) (.slice y.1 y.2.1 y.2.2)=tcs (D ++ [(x.1,y)]):=by
 rw[DX,DX,List.set_append_right _ _ (by rw[Ft];omega),Ft,show D.length*2+1 - D.length*2=1 by omega];rfl
theorem GU {β:Type} (r:List (List UInt8×List β)) (x:List UInt8×List β) (p:List UInt8×β):joinS (r ++ [x]) p=if x.1=p.1 then r ++ [(x.1,x.2 ++ [p.2])] else r ++ [x] ++ [(p.1,[p.2])]:=by
 unfold joinS;rw[List.getLast?_concat,List.dropLast_concat]
theorem Qe {D:List TmV} (h:w.ownsRow base 157 2 (.slice A n c) n (tcs D)) {x:TmV} (Y:D[i]? = some x) :
 ∃g cur,A=some ⟨g,0,none⟩/\base<=g/\Row w g 157 cur/\w.cell? ⟨g,i*2,none⟩=some (.string ⟨x.1.toArray⟩)/\w.cell? ⟨g,i*2+1,none⟩=some (.slice x.2.1 x.2.2.1 x.2.2.2):=by
 have hi:=(List.getElem?_eq_some_iff.1 Y).1;rcases h with ⟨U,⟨_,h2⟩ | ⟨g,cap,cur,O,hb,H,hn,Z,hs,ht⟩⟩
 ·rw[Ft]at U;omega
 ·cases O;have J:TR w g D:=⟨cur,H,fun j v d=>by
   rw[<-ht,List.getElem?_take]at d;split at d
   ·simpa using d
   ·cases d⟩
  have:=J.at_ Y;exact⟨g,cur,rfl,hb,H,this.1,this.2⟩
theorem Pu {β:Type} {r:List (List UInt8×List β)} (h:∀z∈r,z.2.length<=k) (p:List UInt8×β):∀z∈joinS r p,z.2.length<=k+1:=by
 intro z d;rcases List.eq_nil_or_concat r with rfl | ⟨r0,x,H⟩
 ·unfold joinS at d;simp only[List.getLast?_nil,List.mem_singleton]at d;rw[d];simp
 ·rw[List.concat_eq_append]at H;subst H;rw[GU]at d;have Y:=h x (by simp);split at d
  ·rcases List.mem_append.1 d with d | d
   ·have:=h z (List.mem_append_left _ d);omega
   ·rw[List.mem_singleton.1 d,List.length_append];simp;omega
  ·rcases List.mem_append.1 d with d | d
   ·have:=h z d;omega
   ·rw[List.mem_singleton.1 d];simp
theorem Kc {β:Type}:∀(l:List (List UInt8×β)) (r:List (List UInt8×List β)) (k:Nat),(∀z∈r,z.2.length<=k)->∀z∈l.foldl joinS r,z.2.length<=k+l.length
 | [],r,k,h=>h
 | p::l,r,k,h=>fun z d=>by
  have:=Kc l (joinS r p) (k+1) (Pu h p) z d;rw[List.length_cons];omega
theorem Gr {base n c b m size:Nat} (hb:Buf w base e A n c xs) (H:w.grownBy w1 (Value.slice A n c).ownBlock) (Y:w.ownsRow b t size v m ys) (ht:t≠e):w1.ownsRow b t size v m ys :=
 (Chg.of_grown (S:=fun j=>(Value.slice A n c).ownBlock=some j) H (fun k _ h=>h)).owns Y fun g H d=>by
  obtain⟨cur,J,_⟩:=Ae Y H;cases A with
  | none=>simp[Value.ownBlock]at d
  | some a =>
   simp[Value.ownBlock]at d;exact hb.unlike J (fun h=>ht h.symm) a rfl d
theorem Rs {A B:Option Addr} (J:w.grownBy w1 (Value.slice A n c).ownBlock) (h:Buf w b t B n2 c2 ys) (Y:∀p q,B=some p->A=some q->p.block≠q.block):Buf w1 b t B n2 c2 ys :=
 h.grown J fun a H d=>by
  cases A with
  | none=>simp[Value.ownBlock]at d
  | some q =>
   simp[Value.ownBlock]at d;exact Y a q H rfl d.symm
end
section
open Go.RowKit Go.Maps
structure IdE where
  s:List UInt8
  ps:List PoC
  A:Option Addr
  c:Nat
def IdE.val (x:IdE):Value:= .slice x.A x.ps.length x.c
def IdE.own (x:IdE) (base:Nat) (W:World):Prop:=W.ownsRow base 89 2 (.slice x.A x.ps.length x.c) x.ps.length (pcells x.ps)
def IdE.far (x y:IdE):Prop:=∀a b,x.A=some a->y.A=some b->a.block≠b.block
def posAt (base:Nat) (W:World) (y:PoC):Prop:=Buf W base 3 y.A y.pos.length y.c (y.pos.map IV)/\y.pos.length<=1000000000
structure IX (base M:Nat) (done:List (List UInt8×Po)) (E:List IdE) (W:World):Prop where
  map:∃L,MapL prog 9 W M L/\∀p,p∈L↔∃x∈E,p=(strV x.s,x.val)
  own:∀x∈E,x.own base W/\psP x.ps=valsOf done x.s/\x.ps ≠ []
  pos:∀x∈E,∀y∈x.ps,posAt base W y
  uniq:∀x∈E,∀y∈E,x.s=y.s->x=y
  apart:∀x∈E,∀y∈E,x.s≠y.s->IdE.far x y
  all:∀p∈done,∃x∈E,x.s=p.1
theorem HG {a b:List UInt8} (h:strV a=strV b):a=b:=by
 unfold strV at h;injection h with h;injection h with h;simpa using h
theorem IX.new:IX base w.heap.size [] [] (w.alloc (.map #[] 0)) :=
 ⟨⟨[],MapL.made w,fun p=>by simp⟩,nofun,nofun,nofun,nofun,nofun⟩
theorem IX.ext {done:List (List UInt8×Po)} {E:List IdE} (h:IX base M done E W) (Y:Ext W W1):IX base M done E W1:=by
 obtain⟨⟨L,Z,I⟩,J,U,hu,G,d⟩:=h;exact⟨⟨L,Z.ext Y,I⟩,fun x H=>⟨Y.owns (J x H).1,(J x H).2⟩,fun x H y O=>⟨(U x H y O).1.ext Y,(U x H y O).2⟩,hu,G,d⟩
theorem Kk:Keyed prog 9:=string_keyed underlying9
theorem DJ (hs:s.length<=9223372036854775807):keyOf prog 9 (strV s)=some (.string s):=by
 have h:=WideMaps.keyOf_string_mk (P:=prog) underlying9 (s:=⟨s.toArray⟩) (by show s.toArray.size<=9223372036854775807;simpa using hs);simpa [strV]using h
def IdG (E:List IdE) (s:List UInt8) (x:IdE):Prop:=x.s=s/\(x∈E\/(x.A=none/\x.c=0/\x.ps = []/\∀y∈E,y.s≠s))
theorem IX.get {done:List (List UInt8×Po)} {E:List IdE} (h:IX base M done E W) (s:List UInt8) (hs:s.length<=9223372036854775807) :
 ∃x,IdG E s x/\x.own base W/\psP x.ps=valsOf done s/\∀W1,Ext W W1->(Instr.lookup 94 (.map (some M)) (strV s) false).run prog W1 = .ok (.slice x.A x.ps.length x.c) W1:=by
 obtain⟨L,Y,hm⟩:=h.map;have hz:∀W,(zeroValue 47).run prog W = .ok (.slice none 0 0) W:=fun W=>by kernel_rfl
 rcases Y.look Kk underlying94 (DJ hs) (hz W) false with ⟨v,Z,_⟩ | ⟨d,_⟩
 ·obtain⟨x,hx,he⟩:=(hm _).1 Z;injection he with h1 h2;have G:=HG h1;subst G;have:=h.own x hx;refine⟨x,⟨rfl,.inl hx⟩,this.1,this.2.1,fun W1 J=>?_⟩;rcases (Y.ext J).look Kk underlying94 (DJ hs) (hz W1) false with ⟨u,O,U⟩ | ⟨d,_⟩
  ·rw[U,Y.unique O Z,h2];rfl
  ·exact absurd rfl (d _ Z)
 ·have H:∀y∈E,y.s≠s:=fun y I e=>d (strV y.s,y.val) ((hm _).2 ⟨y,I,rfl⟩) (by rw[e]);refine⟨⟨s,[],none,0⟩,⟨rfl,.inr ⟨rfl,rfl,rfl,H⟩⟩,World.ownsRow_nil _ _ _ _,?_,fun W1 J=>?_⟩
  ·show []=_;exact(Df fun p hp e=>by
    obtain⟨y,I,h0⟩:=h.all p hp;exact H y I (h0.trans e)).symm
  ·rcases (Y.ext J).look Kk underlying94 (DJ hs) (hz W1) false with ⟨u,O,_⟩ | ⟨_,U⟩
   ·exact absurd rfl (d _ O)
   ·exact U
theorem DK {L:List (Value×Value)} (h:MapL prog 9 W M L) {e size n:Nat} (Y:W.ownsRow base e size v n xs):v.ownBlock≠some M:=fun H=>by
 obtain⟨cur,d,_⟩:=Ae Y H;obtain⟨⟨es,cl,h1,_⟩,_⟩:=h;unfold Row at d;rw[h1]at d;cases d
theorem DL {L:List (Value×Value)} (h:MapL prog 9 W M L) {g t:Nat} (d:Row W g t cs):g≠M:=fun H=>by
 obtain⟨⟨es,cl,h1,_⟩,_⟩:=h;unfold Row at d;rw[H,h1]at d;cases d
theorem MapL.same {k:TypeId} {L L':List (Value×Value)} (h:MapL prog k w m L) (Y:MapL prog k w m L'):L=L':=by
 obtain⟨⟨es,cl,h1,h2,_⟩,_⟩:=h;obtain⟨⟨es',cl',d,H,_⟩,_⟩:=Y;rw[h1]at d;cases d;exact h2.symm.trans H
theorem Kw (l:List PoC) (x:PoC):psP (l ++ [x])=psP l ++ [x.po]:=by unfold psP;rw[List.map_append];rfl
theorem F9 (l:List PoC) (x:PoC):pcells (l ++ [x])=pcells l++x.cells:=by
 unfold pcells;rw[List.flatMap_append];simp
theorem IX.put {done:List (List UInt8×Po)} {E:List IdE} (h:IX base M done E W) {x:IdE} (hx:IdG E s x) (e0:x.own base W) (x1:psP x.ps=valsOf done s)
 {y:PoC} (hg:W.grownBy w8 (Value.slice x.A x.ps.length x.c).ownBlock) (ho:w8.ownsRow base 89 2 (.slice A1 (x.ps.length+1) c1) (x.ps.length+1) (pcells x.ps++y.cells))
 (G:(Value.slice A1 (x.ps.length+1) c1).ownBlock=(Value.slice x.A x.ps.length x.c).ownBlock\/∃k,(Value.slice A1 (x.ps.length+1) c1).ownBlock=some k/\W.heap.size<=k) (hy:posAt base W y)
 (h9:∀L,MapL prog 9 w8 M L->(∀p,p∈L↔∃x∈E,p=(strV x.s,x.val))->∃L',MapL prog 9 w9 M L'/\Put L (strV s) (.slice A1 (x.ps.length+1) c1) L'/\w8.grownBy w9 (some M)) :
 IX base M (done ++ [(s,y.po)]) (⟨s,x.ps ++ [y],A1,c1⟩::E.filter fun z=>decide (z.s≠s)) w9:=by
 obtain⟨L,hL,hm⟩:=h.map;have m0:MapL prog 9 w8 M L:=hL.grown hg (DK hL e0);obtain⟨L',n0,d0,x0⟩:=h9 L m0 hm;have hlen:(x.ps ++ [y]).length=x.ps.length+1:=by rw[List.length_append];rfl
 have d:∀z,z∈(E.filter fun z=>decide (z.s≠s))↔z∈E/\z.s≠s:=fun z=>by rw[List.mem_filter];simp
 have p1:∀g t cs,Row w8 g t cs->Row w9 g t cs:=fun g t cs hr=>hr.grown x0 fun e=>DL m0 hr (by injection e);have j0:∀ {b e size n:Nat} {v:Value} {xs:List Value},w8.ownsRow b e size v n xs->w9.ownsRow b e size v n xs:=fun hh =>
  (Chg.of_grown (S:=fun k=>k=M) x0 (fun k _ e=>by injection e with e;exact e.symm)).owns hh fun g r0 e=>DK m0 hh (by rw[r0,e])
 have q0:∀z∈E,z.s≠s->∀a,x.A=some a->∀b,z.A=some b->b.block≠a.block:=fun z H U a J b hb=>by
  rcases hx.2 with b0 | ⟨hn,_⟩
  ·exact h.apart z H x b0 (fun e=>U (e.trans hx.1)) b a hb J
  ·rw[hn]at J;cases J
 have t0:∀z∈E,z.s≠s->z.own base w9:=fun z H U=>by
  refine j0 ?_;refine(Chg.of_grown (S:=fun k=>(Value.slice x.A x.ps.length x.c).ownBlock=some k) hg (fun k _ e=>e)).owns (h.own z H).1 fun g k0 p0=>?_;cases c0:z.A with
  | none=>rw[c0]at k0;simp[Value.ownBlock]at k0
  | some b =>
   cases Z:x.A with
   | none=>rw[Z]at p0;simp[Value.ownBlock]at p0
   | some a =>
    rw[c0]at k0;rw[Z]at p0;simp[Value.ownBlock]at k0 p0;exact q0 z H U a Z b c0 (k0.trans p0.symm)
 have O:∀u,posAt base W u->posAt base w9 u:=fun u Y=>by
  have q:=Ci e0 hg Y.1 (by decide);exact⟨q.grown x0 fun a J e=>by
   injection e with e;rcases q.2.2 with ⟨h0,_⟩ | ⟨g',cur,l0,_,hr,_⟩
   ·rw[h0]at J;cases J
   ·rw[l0]at J;cases J;exact DL m0 hr e.symm,Y.2⟩
 have k1:valsOf (done ++ [(s,y.po)]) s=valsOf done s ++ [y.po]:=by rw[AK,Dz,if_pos rfl]
 have j1:∀t,t≠s->valsOf (done ++ [(s,y.po)]) t=valsOf done t:=fun t ht=>by rw[AK,Dz,if_neg (fun e=>ht e.symm),List.append_nil]
 refine⟨⟨L',n0,fun p=>?_⟩,fun z H=>?_,fun z H u Y=>?_,fun z H u Y I=>?_,fun z H u Y I=>?_,fun p hp=>?_⟩
 ·rw[d0.mem];constructor
  ·rintro(rfl | ⟨hp,U⟩)
   ·exact⟨_,List.mem_cons_self ..,by unfold IdE.val;simp only[hlen]⟩
   ·obtain⟨z,H,rfl⟩:=(hm _).1 hp;exact⟨z,List.mem_cons_of_mem _ ((d z).2 ⟨H,fun e=>U (by rw[e])⟩),rfl⟩
  ·rintro⟨z,H,rfl⟩;rcases List.mem_cons.1 H with rfl | H
   ·exact .inl (by unfold IdE.val;simp only[hlen])
   ·obtain⟨g0,v0⟩:=(d z).1 H;exact .inr ⟨(hm _).2 ⟨z,g0,rfl⟩,fun e=>v0 (HG e)⟩
 ·rcases List.mem_cons.1 H with rfl | H
  ·refine⟨?_,?_,by simp⟩
   ·show w9.ownsRow base _ 2 (.slice A1 (x.ps ++ [y]).length c1) (x.ps ++ [y]).length (pcells (x.ps ++ [y]));rw[hlen,F9];exact j0 ho
   ·show psP (x.ps ++ [y])=valsOf _ s;rw[Kw,x1,k1]
  ·obtain⟨g0,v0⟩:=(d z).1 H;exact⟨t0 z g0 v0,by rw[j1 _ v0];exact(h.own z g0).2.1,(h.own z g0).2.2⟩
 ·rcases List.mem_cons.1 H with rfl | H
  ·rcases List.mem_append.1 Y with Y | Y
   ·rcases hx.2 with b0 | ⟨_,_,hn,_⟩
    ·exact O u (h.pos x b0 u Y)
    ·rw[hn]at Y;cases Y
   ·rw[List.mem_singleton.1 Y];exact O y hy
  ·exact O u (h.pos z ((d z).1 H).1 u Y)
 ·rcases List.mem_cons.1 H with rfl | H <;> rcases List.mem_cons.1 Y with rfl | Y
  ·rfl
  ·exact absurd I.symm ((d u).1 Y).2
  ·exact absurd I ((d z).1 H).2
  ·exact h.uniq z ((d z).1 H).1 u ((d u).1 Y).1 I
 ·have key:∀z∈E,z.s≠s->∀a b,A1=some a->z.A=some b->b.block≠a.block:=fun z H U a b J hb e=>by
   rcases G with G | G
   ·rw[J]at G;cases Z:x.A with
    | none=>rw[Z]at G;simp[Value.ownBlock]at G
    | some a' =>
     rw[Z]at G;simp[Value.ownBlock]at G;exact q0 z H U a' Z b hb (e.trans G)
   ·obtain⟨k,G,h1⟩:=G;rw[J]at G;simp[Value.ownBlock]at G;obtain⟨cur,hc,_⟩:=Ae (h.own z H).1 (g:=b.block) (by rw[hb];rfl);have:=hc.lt;omega
  rcases List.mem_cons.1 H with rfl | H <;> rcases List.mem_cons.1 Y with rfl | Y
  ·exact absurd rfl I
  ·exact fun a b J hb e=>key u ((d u).1 Y).1 ((d u).1 Y).2 a b J hb e.symm
  ·exact fun a b J hb=>key z ((d z).1 H).1 ((d z).1 H).2 b a hb J
  ·exact h.apart z ((d z).1 H).1 u ((d u).1 Y).1 I
 ·rcases List.mem_append.1 hp with hp | hp
  ·obtain⟨z,H,f0⟩:=h.all p hp;by_cases hs:p.1=s
   ·exact⟨_,List.mem_cons_self ..,hs.symm⟩
   ·exact⟨z,List.mem_cons_of_mem _ ((d z).2 ⟨H,by rw[f0];exact hs⟩),f0⟩
  ·rw[List.mem_singleton.1 hp];exact⟨_,List.mem_cons_self ..,rfl⟩
end
end Go.Proofs.YtfifdilapbeiiaaGreat
