/- Texts of one proof, joined. -/
import Derived.Test.YtfifdilapbeiiaaGreatPO05
import Derived.RegionTactic
import Derived.ChangeAlike
import Derived.Maps.Keyed
import Derived.Maps.OwnOps
set_option linter.unusedSimpArgs false
set_option linter.unusedVariables false
set_option maxRecDepth 100000
set_option maxHeartbeats 16000000
namespace Go.Proofs.YtfifdilapbeiiaaGreat
open _root_.Go.Proofs.Tryz
variable {cs:Array Value} {l r s:List UInt8} {xs ys:List Value} {B c cl g g1 g2 g3 i k m n p1 p2 q:Nat} {S:Nat → Prop} {A:Option Addr} {P:Program} {E e t tp tq tr ty:TypeId} {V V1 v v1 v2 v3:Value} {W W1 w w0 w1 wr:World}
section
open Go.RowKit Go.Shelf
attribute [local go_sem] Oper.semAt_some AP Cp
def psP (ps:List PoC):List Po:=ps.map PoC.po
def OkB (w:World) (l:List UInt8) (e:Ending) (w':World):Prop:=∃A c,e = .returned (.tuple #[.slice A l.length c,.int .i64 0])/\Own8 w' w.heap.size A l.length c l/\Ext w w'
theorem E6 {l:List Po} (h:okPs l=true):l.length<=65536:=by
 rw[Ed,Bool.and_eq_true]at h;have:=DU h.1 (by omega);rw[List.length_map]at this;omega
theorem PosOk.part {ps:List PoC} (h:PosOk w A ps) (j:∀a,A=some a->a.spot=none) (i m:Nat):PosOk w (A.map fun a=>a.add (i*2)) ((ps.drop i).take m):=by
 refine⟨?_,fun x b=>h.each x (List.mem_of_mem_drop (List.mem_of_mem_take b))⟩;unfold pcells;rw[Bh (f:=PoC.cells) (k:=2) (fun _=>rfl),Bo (f:=PoC.cells) (k:=2) (fun _=>rfl)];exact h.cells.part j _ _
def PEnc (base h1 h2 h3 b1 b2:Nat) (V:Value) (Hd Bd:List UInt8) (last:Int) (w W:World):Prop :=
 HB base h1 h2 Hd Bd W/\Row W h3 3 #[.int .i64 last]/\Row W b1 47 #[V]/\Row W b2 3 #[.int .i64 32]/\Ext w W
theorem PEnc.alike {base h1 h2 b b1 b2 B:Nat} {Hd Bd:List UInt8} {last:Int} (h:PEnc base h1 h2 b b1 b2 V Hd Bd last w W) (j:Alike B W W1) (a:w.heap.size<=B):PEnc base h1 h2 b b1 b2 V Hd Bd last w W1 :=
 ⟨h.1.alike j,j.row h.2.1,j.row h.2.2.1,j.row h.2.2.2.1,j.ext h.2.2.2.2 a⟩
theorem PEnc.ext {base h1 h2 b b1 b2:Nat} {Hd Bd:List UInt8} {last:Int} (h:PEnc base h1 h2 b b1 b2 V Hd Bd last w W) (j:Ext W W1):PEnc base h1 h2 b b1 b2 V Hd Bd last w W1 :=
 ⟨h.1.ext j,h.2.1.ext j,h.2.2.1.ext j,h.2.2.2.1.ext j,h.2.2.2.2.trans j⟩
theorem E7 (ps:List PoC) (A:Option Addr) (m c:Nat) (w:World) (hm:m=ps.length) (h:PosOk w A ps) (hA:∀a,A=some a->a.spot=none) (g9:m<=c) (b0:okPs (psP ps)=true) (p0:(blockPo (-1) (psP ps)).length<=50000000) :
 Calls prog 44 #[.slice A m c] w fun e w'=>OkB w (encPs (psP ps)) e w':=by
 have ma:m<=65536:=by have:=E6 b0;unfold psP at this;rw[List.length_map]at this;omega
 have g5:=Ku ps A m c w hm h (by omega);rw[show ps.map PoC.po=psP ps from rfl,b0,if_pos rfl]at g5;obtain⟨P,hP⟩:=Ab (psP ps);rw[<-hP]at b0 p0 ⊢;have x2:=Aa (fun A n c x l W h1 h2 h3 h4 h5=>Cm A n c x l W h1 h2 h3 h4 h5);have za:=AH (m:=m) (by omega);replace g5:=Aa g5;replace hm:=Aa hm;replace h:=Aa h;replace hP:=Aa hP;replace b0:=Aa b0;replace p0:=Aa p0;replace hA:=Aa hA;refine(callsIn_wide (n:=0)).1 ?_;refine callsIn_of_wp_marks func44 rfl trivial ?_;simp only[ntmps44,List.size_toArray,List.length_cons,List.length_nil,Nat.reduceAdd,Nat.reduceSub,Array.replicate_succ,Array.replicate_zero,List.push_toArray,List.append_toArray,List.nil_append,List.cons_append];gi_wp2_with fail;refine(callsIn_wide.2 g5.out).mono ?_;rintro e w1 ⟨rfl,q7⟩;gi_wp2_with fail;refine(callsIn_wide.2 (x2.out none 0 0 m [] w1 rfl (.inl rfl) (fun _=>rfl) (by omega) (by omega))).mono ?_;rintro e w2 i0;obtain⟨A2,c2,rfl,i2,a3⟩:=i0;rw[List.nil_append]at i2 ⊢;obtain⟨k2,t3⟩:∃k,k=(vb m).length:=⟨_,rfl⟩
 rw[<-t3]at i2 ⊢;replace i2:=Aa i2;replace t3:=Aa t3;replace a3:=Aa (q7.trans a3);gi_wp2_with fail;obtain⟨W3,g0⟩:=Ab (((w2.alloc (Obj.cells #[Value.slice A2 k2 c2] 24)).alloc (Obj.cells #[Value.slice none 0 0] 24)).alloc (Obj.cells #[Value.int IntKind.i64 (-1)] 3));rw[<-g0];obtain⟨h1,m0⟩:=Ab w2.heap.size;have q1:Row W3 h1 24 #[.slice A2 k2 c2]:=by rw[g0,m0];exact((Row.new w2 _ _).alloc _).alloc _
 have q2:Row W3 (h1+1) 24 #[.slice none 0 0]:=by
  have:=Row.new (w2.alloc (Obj.cells #[Value.slice A2 k2 c2] 24)) 24 #[.slice none 0 0];rw[World.size_alloc,<-m0]at this;rw[g0];exact this.alloc _
 have q3:Row W3 (h1+2) 3 #[.int .i64 (-1)]:=by
  have:=Row.new ((w2.alloc (Obj.cells #[Value.slice A2 k2 c2] 24)).alloc (Obj.cells #[Value.slice none 0 0] 24)) 3 #[.int .i64 (-1)];rw[World.size_alloc,World.size_alloc,<-m0]at this;rw[g0];exact this
 have j0:Ext w2 W3:=by rw[g0];exact(((Ext.refl w2).alloc _).alloc _).alloc _
 have e5:W3.heap.size=h1+3:=by rw[g0,m0];simp
 have o7:w.heap.size<=h1:=by rw[m0];exact a3.out.size
 have n4:HB w.heap.size h1 (h1+1) (vb m) [] W3:=⟨A2,none,c2,0,by rw[<-t3.out];exact q1,q2,⟨rfl,by rw[<-t3.out];exact(i2.out.lower q7.size).ext j0⟩,⟨rfl,Buf.nil _ _ _⟩,fun _ _ _ e=>by cases e⟩
 replace j0:=Aa (a3.out.trans j0);rw[<-m0];refine(callsIn_wide.2 (Ln A m c 32 W3 (by omega) (by omega))).mono ?_;rintro e w4 ⟨b1,b2,rfl,rb1,rb2,f8,i8,v9,l4⟩;have k3:PEnc w.heap.size h1 (h1+1) (h1+2) b1 b2 (.slice A m c) (vb m) [] (-1) w w4:=⟨n4.ext l4,q3.ext l4,rb1,rb2,j0.out.trans l4⟩
 have t5:=JT A m c 32 b1 b2 w4 rb1 rb2 (by omega) (by omega) (by omega) g9;rw[e5]at f8 i8;have d0:=k3.2.2.2.2.size;replace k3:=Aa k3;replace t5:=Aa t5;replace g0:=Aa g0;replace m0:=Aa m0;clear q1 q2 q3 n4 l4 rb1 rb2 i2 j0 a3 t3 e5;gi_wp2_with fail;unfold ChIterA at t5;refine C8 (gf:=135) (lb:=#[.pointer (some ⟨b1,0,none⟩),.pointer (some ⟨b2,0,none⟩)]) rfl (enters_of func135 (by kernel_rfl) rfl) t5.out (fun _=>rfl) (fun _ _ h=>h.others) (fun _ _ _ h=>h.2.2.2.others) (KeepB.trans b1 b2) ?kb
  (fun pre W=>PEnc w.heap.size h1 (h1+1) (h1+2) b1 b2 (.slice A m c) (vb m++headPo (-1) ((chunkL 32 P).take pre.length)) (blockPo (-1) (P.take (pre.length*32))) (lastPo (-1) (P.take (pre.length*32))) w W) (fun pre A B h ha=>h.alike ha d0) (fun pre A B h hE=>h.ext hE) ?h0 ?hround ?hdone
 case kb =>
  have d7:=(k3.out.2.2.1).lt;have e7:=(k3.out.2.2.2.1).lt;exact KeepB.alike d7 e7
 case h0 =>
  intro W ha;have:=k3.out.alike ha d0;simpa [headPo,blockPo,lastPo]using this
 case hround =>
  rintro l pre i W hI ⟨hi,j9⟩;subst hi;have j3:P.length=m:=by rw[hP.out,hm.out];exact List.length_map ..
  have hR:=Hb b0.out p0.out (r:=pre.length) (by rw[j3];exact j9);obtain⟨j,hj⟩:=Ab (min 32 (m - pre.length*32));obtain⟨cb,j4⟩:=Ab ((ps.drop (pre.length*32)).take 32);have e1:cb.length=j:=by rw[j4,hj,List.length_take,List.length_drop,hm.out]
  obtain⟨A',i4⟩:=Ab (A.map fun a=>a.add (pre.length*32*2):Option Addr);have m2:PosOk w A' cb:=by rw[i4,j4];exact h.out.part hA.out _ _
  have f5:chunkVA A m 32 pre.length = .slice A' j j:=by unfold chunkVA;rw[i4,hj]
  obtain⟨bP,p5⟩:=Ab ((P.drop (pre.length*32)).take 32);have a1:bP=cb.map PoC.po:=by rw[p5,j4,hP.out,psP,<-List.map_drop,<-List.map_take]
  obtain⟨lst,v4⟩:=Ab (lastPo (-1) (P.take (pre.length*32)));rw[<-p5,<-v4]at hR;rw[hR.last]at hI;obtain⟨Hd,G⟩:=Ab (vb m++headPo (-1) ((chunkL 32 P).take pre.length));obtain⟨Bd,T⟩:=Ab (blockPo (-1) (P.take (pre.length*32)));rw[<-G,<-T]at hI;have x9:j<=32:=by omega
  replace hI:=Aa hI;replace hR:=Aa hR;rw[f5];clear f5;replace m2:=Aa m2;replace i4:=Aa i4;replace j4:=Aa j4;replace hj:=Aa hj;replace p5:=Aa p5;replace v4:=Aa v4;replace G:=Aa G;replace T:=Aa T;replace e1:=Aa e1;replace a1:=Aa a1;replace j3:=Aa j3;gi_wp2_with fail;refine⟨KeepsOthers.refl _,KeepB.refl _ _ _,fun W2 o6=>?_⟩;have v7:=Aa (hI.out.alike o6 d0);clear o6 hI;obtain⟨o3,b4,y2,a2,b3⟩:=v7.out;obtain⟨Y,hY⟩:=Ab (blockPo lst bP);obtain⟨lz,x3⟩:=Ab (lastPo lst bP);have k9:=hR.out.lo;have l8:=hR.out.hi;have e8:Y.length<=50000000:=by have:=hR.out.len;have:=p0.out;rw[hY];omega
  have k8:=Aa (fun base A B n c k c2 l last N xs W h1 h2 h3 h4 h5 h6 h7 h8 h9=>OJ base A B n c k c2 l last N xs W h1 h2 h3 h4 h5 h6 h7 h8 h9);replace o3:=Aa o3;replace b4:=Aa b4;replace y2:=Aa y2;replace a2:=Aa a2;replace b3:=Aa b3;replace hY:=Aa hY;replace x3:=Aa x3;clear v7;gi_wp2_with fail
  gi_loopw [9,26] (fun s9 s26 wr=>∃(i n9 c9:Nat) (A9:Option Addr) (X:List UInt8) (la:Int),s9 = .slice A9 n9 c9/\s26 = .int .i64 (i:Int)/\i<=j/\n9<=50000000 /\ -1<=la/\la<65536/\Hid (Y=X++blockPo la (bP.drop i))/\Hid (risB 65536 la ((bP.drop i).map (·.1))=true)/\Hid (lastPo la (bP.drop i)=lz)/\Hid (Own8 wr w.heap.size A9 n9 c9 X)/\Hid (Row wr (h1+2) 3 #[.int .i64 la])/\Hid (Chg (fun k=>k=h1+2) W2 wr)) (fun _ s26 _=>j - (intOf s26).toNat)
  case atStart=>exact⟨0,0,0,none,[],lst,rfl,rfl,by omega,by omega,k9,l8,Aa (by rw[hY.out];rfl),Aa hR.out.ris,Aa (by rw[x3.out];rfl),Aa ⟨rfl,Buf.nil _ _ _⟩,b4,Aa (Chg.refl _ _)⟩
  case round =>
   obtain⟨i,n9,c9,A9,X,la,rfl,rfl,ga,ta,z9,a9,b7,m9,q8,I,c0,n0⟩:=hrel;have H:Hid (Ext w wr):=Aa (b3.out.chg n0.out fun k hk e=>by omega);by_cases o8:i<j
   ·obtain⟨x,f4⟩:∃x,cb[i]? = some x:=⟨_,List.getElem?_eq_getElem (by rw[e1.out];exact o8)⟩
    obtain⟨g,o,a8,x0,x1⟩:=Bc (m2.out.cells.ext H.out) f4;subst a8;have d6:=m2.out.each x (List.mem_of_getElem? f4);have k5:bP[i]? = some x.po:=by rw[a1.out,List.getElem?_map,f4];rfl
    have y6:=hR.out.pos x.po (List.mem_of_getElem? k5);have r0:=b7.out;have d2:=m9.out;have j2:=q8.out;rw[AY k5]at r0 d2 j2;rw[List.map_cons]at d2;obtain⟨k6,j6,d4⟩:=BW d2;have p7:=fun o=>H.out.alloc o;have l7:=fun o=>n0.out.trans (Chg.of_ext ((Ext.refl wr).alloc o) _) fun _ _ h=>h;have n6:=fun o=>c0.out.alloc o;have f9:=fun o=>(c0.out.alloc o).cell 0 rfl;replace f4:=Aa f4;replace k5:=Aa k5;replace y6:=Aa y6;replace r0:=Aa r0;replace j2:=Aa j2;replace d4:=Aa d4;replace d6:=Aa d6;clear d2;obtain⟨d,pos,B,cB⟩:=x;have k6:la<d:=k6;have j6:d<65536:=j6;simp only at x0 x1;obtain⟨pl,z3⟩:=Ab pos.length;rw[<-z3]at x1;replace z3:=Aa z3;replace p7:=Aa p7;replace l7:=Aa l7;replace n6:=Aa n6;obtain⟨b9,a4⟩:0<pos.length/\risB 1048576 (-1) pos=true:=by
     have:=y6.out;unfold okPo at this;rw[Bool.and_eq_true]at this;exact⟨of_decide_eq_true this.1,this.2⟩
    obtain⟨q,hq⟩:∃q:Nat,(q:Int)=d - la - 1:=⟨(d - la - 1).toNat,by omega⟩
    obtain⟨X1,r4⟩:=Ab (X++stepsL la [d]);obtain⟨X2,q4⟩:=Ab (X1++vb pl);obtain⟨X3,m3⟩:=Ab (X2++stepsL (-1) pos);have k1:Y=X3++blockPo d (bP.drop (i+1)):=by
     rw[r0.out,m3,q4,r4,z3.out];show X++((vb (d - la - 1).toNat++vb pos.length++stepsL (-1) pos)++_)=_;simp[stepsL,PoC.po]
    have z7:X3.length<=50000000:=by rw[k1,List.length_append]at e8;omega
    have y7:X2.length<=X3.length:=by rw[m3,List.length_append];omega
    have x7:X1.length<=X2.length:=by rw[q4,List.length_append];omega
    have d9:pl<=50000000:=by
     have:=FR pos (-1);rw[m3,List.length_append,<-z3.out]at *;omega
    have aa:=AH (m:=pl) (by omega);replace r4:=Aa r4;replace q4:=Aa q4;replace m3:=Aa m3;replace k1:=Aa k1;replace hq:=Aa hq;replace a4:=Aa a4;gi_wp2_with fail;obtain⟨W5,r3⟩:=Ab ((wr.alloc (Obj.cells #[Value.int IntKind.i64 d,Value.slice B pl cB] 89)).alloc (Obj.cells #[Value.int IntKind.i64 d] 3));have Z:Ext wr W5:=by rw[r3];exact((Ext.refl wr).alloc _).alloc _
    have rp:Row W5 wr.heap.size 89 #[Value.int IntKind.i64 d,Value.slice B pl cB]:=by rw[r3];exact(Row.new wr _ _).alloc _
    have f7:Cells W5 (some ⟨wr.heap.size+1,0,none⟩) ([d].map IV):=by
     rw[r3];refine .inr ⟨_,0,rfl,fun u v hv=>?_⟩;have:=heap_alloc_new (wr.alloc (Obj.cells #[Value.int IntKind.i64 d,Value.slice B pl cB] 89)) (Obj.cells #[Value.int IntKind.i64 d] 3);rw[World.size_alloc]at this;rw[Nat.zero_add,cell_of_row _ _ _ _ _ _ this];simpa [IV]using hv
    rw[<-r3];have O:=I.out.1;refine(Bb (k8.out w.heap.size A9 _ n9 c9 1 1 X la 65536 [d] W5 (I.out.ext Z) (by have:=(H.out.trans Z).size;omega) rfl f7 (by simp[risB,k6,j6]) (by omega) (by omega) (by omega) (by omega))).mono ?_;rintro e w6 o5;obtain⟨A6,c6,rfl,e0,l5⟩:=o5;rw[<-r4.out]at e0 ⊢;obtain⟨gp,m6⟩:=Ab wr.heap.size;rw[<-m6]at rp ⊢;have rp6:=rp.ext l5;have y1:=rp6.cell 1 rfl;have e4:w.heap.size<=W5.heap.size:=(H.out.trans Z).size;have a5:Hid (Ext wr w6):=Aa (Z.trans l5);have j8:w.heap.size<=w6.heap.size:=(H.out.trans a5.out).size;obtain⟨n10,x4⟩:=Ab X1.length;rw[<-x4]at e0 x7 ⊢;replace x4:=Aa x4;replace rp6:=Aa rp6;replace e0:=Aa e0;replace m6:=Aa m6;clear r3 Z rp f7 O l5 e4;gi_wp2_with fail;refine(Bb (x2.out A6 n10 c6 pl X1 w6 e0.out.1 e0.out.2.cells e0.out.nil_ (by omega) (by omega))).mono ?_;rintro e w7 i0;obtain⟨A7,c7,rfl,k0,q0⟩:=i0;rw[<-q4.out]at k0 ⊢;have rp7:=rp6.out.ext q0;have z1:=rp7.cell 1 rfl;have z0:=rp7.cell 0 rfl;have y3:Hid (Own8 w7 w.heap.size A7 X2.length c7 X2):=Aa ⟨rfl,k0.lower j8⟩;have d3:Hid (Ext wr w7):=Aa (a5.out.trans q0);have g8:w.heap.size<=w7.heap.size:=(H.out.trans d3.out).size;obtain⟨n11,y4⟩:=Ab X2.length;rw[<-y4]at y3 y7 ⊢;replace y4:=Aa y4;replace rp7:=Aa rp7;clear k0 q0 y1;gi_wp2_with fail;refine(Bb (k8.out w.heap.size A7 B n11 c7 pl cB X2 (-1) 1048576 pos w7 y3.out g8 z3.out ((d6.out.1.ext H.out).ext d3.out) a4.out (by omega) (by omega) (by omega) (by omega))).mono ?_;rintro e w8 o5;obtain⟨A8,c8,rfl,J,p3⟩:=o5;rw[<-m3.out]at J ⊢;have rp8:=rp7.out.ext p3;have v0:=rp8.cell 0 rfl;have b5:Hid (Ext wr w8):=Aa (d3.out.trans p3);have r38:=c0.out.ext b5.out;have t0:=r38.cell 0 rfl;have t1:=r38.free 0;obtain⟨n12,z4⟩:=Ab X3.length;rw[<-z4]at J z7 ⊢;replace z4:=Aa z4;replace J:=Aa J;replace r38:=Aa r38;clear z0 z1 p3 rp8;gi_wp2_with fail;have p8:=r38.out.put 0 (.int .i64 d);have v6:Own8 (w8.setCell ⟨h1+2,0,none⟩ (.int .i64 d)) w.heap.size A8 n12 c8 X3:=⟨J.out.1,J.out.2.setCell (J.out.2.unlike r38.out (by decide)) _⟩
    have i7:Chg (fun k=>k=h1+2) W2 (w8.setCell ⟨h1+2,0,none⟩ (.int .i64 d)):=(n0.out.trans (Chg.of_ext b5.out _) fun _ _ h=>h).trans (Chg.of_set (S:=fun k=>k=h1+2) w8 _ rfl) fun _ _ h=>h;exact⟨⟨i+1,n12,c8,A8,X3,d,rfl,by congr 1,by omega,by omega,by omega,by omega,k1,d4,j2,Aa v6,Aa p8,Aa i7⟩,by simp only[intOf];omega⟩
   ·have j5:bP.length=j:=by rw[a1.out,List.length_map];exact e1.out
    have r5:Y=X:=by rw[b7.out,List.drop_eq_nil_of_le (by rw[j5];omega),blockPo,List.append_nil]
    have y0:la=lz:=by rw[<-q8.out,List.drop_eq_nil_of_le (by rw[j5];omega),lastPo]
    have d5:HB w.heap.size h1 (h1+1) Hd Bd wr:=o3.out.chg n0.out fun k hk=>⟨3,#[.int .i64 lst],by rw[hk];exact b4.out,by decide,by decide⟩
    have f0:=d5;obtain⟨A1,B1,c1,d1,r1,r2,o1,o2,m5⟩:=d5;have f1:=r1.cell 0 rfl;have f3:=c0.out.cell 0 rfl;obtain⟨lN,v5⟩:∃lN:Nat,la=(lN:Int):=⟨la.toNat,by have:=hR.out.ne;rw[y0,x3.out];omega⟩
    have y9:lN<65536:=by omega
    have ya:=AH (m:=lN) (by omega);have xa:=AH (m:=n9) (by omega);rw[v5]at f3;have t7:Hd.length<=100000:=by
     have h1:=hR.out.hlen;have h2:=Ag (n:=m) (by omega);rw[G.out,List.length_append];omega
    obtain⟨nh,z5⟩:=Ab Hd.length;rw[<-z5]at f1 t7 o1;obtain⟨H1,e3⟩:=Ab (Hd++vb lN);obtain⟨H2,i3⟩:=Ab (H1++vb n9);have q9:=Ag (n:=lN) (by omega);have p9:=Ag (n:=n9) (by omega);have g7:H1.length<=100010:=by rw[e3,List.length_append,<-z5];omega
    have m7:H2.length<=100020:=by rw[i3,List.length_append];omega
    have O:=I.out.1;have t8:=H.out.size;replace z5:=Aa z5;replace e3:=Aa e3;replace i3:=Aa i3;replace v5:=Aa v5;replace r5:=Aa r5;replace y0:=Aa y0;replace f0:=Aa f0;replace r1:=Aa r1;replace r2:=Aa r2;replace o1:=Aa o1;replace o2:=Aa o2;replace m5:=Aa m5;replace O:=Aa O;replace j5:=Aa j5;clear q9 p9;gi_wp2_with fail;refine(Bb (x2.out A1 nh c1 lN Hd wr o1.out.1 o1.out.2.cells o1.out.nil_ (by omega) (by omega))).mono ?_;rintro e w7 i0;obtain⟨A7,c7,rfl,k0,q0⟩:=i0;rw[<-e3.out]at k0 ⊢;obtain⟨n7,x5⟩:=Ab H1.length;rw[<-x5]at k0 g7 ⊢;have y3:Hid (Own8 w7 w.heap.size A7 n7 c7 H1):=Aa ⟨x5,k0.lower t8⟩;replace x5:=Aa x5;replace q0:=Aa q0;clear k0;gi_wp2_with fail;refine(Bb (x2.out A7 n7 c7 n9 H1 w7 y3.out.1 y3.out.2.cells y3.out.nil_ (by omega) (by omega))).mono ?_;rintro e w8 i0;obtain⟨A8,c8,rfl,J,p3⟩:=i0;rw[<-i3.out]at J ⊢;obtain⟨n8,y5⟩:=Ab H2.length;rw[<-y5]at J m7 ⊢;have b:Hid (Ext wr w8):=Aa (q0.out.trans p3);have r18:=r1.out.ext b.out;have s0:=r18.cell 0 rfl;have s1:=r18.free 0;have c5:=Aa (f0.out.head (W6:=w8) (B1:=w7.heap.size) (by omega) b.out y5 J q0.out.size (by have:=q0.out.size;omega));replace r18:=Aa r18;replace y5:=Aa y5;clear J p3;have x6:Hid (Own8 (w8.setCell ⟨h1,0,none⟩ (.slice A8 n8 c8)) w.heap.size A9 n9 c9 X):=Aa ⟨I.out.1,((I.out.2.ext b.out)).setCell ((I.out.2.ext b.out).unlike r18.out (by decide)) _⟩;have m4:KeepsOthers W2 (w8.setCell ⟨h1,0,none⟩ (.slice A8 n8 c8)):=((n0.out.others fun k hk=>⟨3,#[.int .i64 lst],by rw[hk];exact b4.out⟩).trans b.out.others).trans (KeepsOthers.setCell _ _ _);have j1:Row (w8.setCell ⟨h1,0,none⟩ (.slice A8 n8 c8)) b1 47 #[.slice A m c]:=(((n0.out.row y2.out (by omega)).ext b.out)).away (by simp;omega) _;have m1:Row (w8.setCell ⟨h1,0,none⟩ (.slice A8 n8 c8)) b2 3 #[.int .i64 32]:=(((n0.out.row a2.out (by omega)).ext b.out)).away (by simp;omega) _;have c4:Row (w8.setCell ⟨h1,0,none⟩ (.slice A8 n8 c8)) (h1+2) 3 #[.int .i64 la]:=(c0.out.ext b.out).away (by simp) _;have o0:Ext w (w8.setCell ⟨h1,0,none⟩ (.slice A8 n8 c8)):=(H.out.trans b.out).setCell (by simpa using o7) _;replace m4:=Aa m4;replace j1:=Aa j1;replace m1:=Aa m1;replace c4:=Aa c4;replace o0:=Aa o0;have t9:Bd.length<=50000000:=by have:=hR.out.len;have:=p0.out;rw[T.out];omega
    have r28:Row (w8.setCell ⟨h1,0,none⟩ (.slice A8 n8 c8)) (h1+1) 24 #[.slice B1 Bd.length d1]:=(r2.out.ext b.out).away (by simp) _;have s2:=(r2.out.ext b.out).cell 0 rfl;have p6:Buf (w8.setCell ⟨h1,0,none⟩ (.slice A8 n8 c8)) w.heap.size 5 B1 Bd.length d1 (Bd.map B8):=(o2.out.2.ext b.out).setCell ((o2.out.2.ext b.out).unlike r18.out (by decide)) _;have b6:Cells (w8.setCell ⟨h1,0,none⟩ (.slice A8 n8 c8)) A9 (X.map B8):=x6.out.2.cells;have p4:(X.map B8).length=n9:=by rw[List.length_map];exact O.out.symm
    have m8:=o0.out.size;replace r28:=Aa r28;replace p6:=Aa p6;replace b6:=Aa b6;replace p4:=Aa p4;gi_wp2_with (gi_at_builtin;refine Bu Aw p6.out b6.out (.tmp 57) (.tmp 58) rfl rfl rfl rfl rfl p4.out (Ai _) (by omega) m8 (fun A10 c10 w10 k4 i1 i5 t4=>?_);have r210:=HB.rows c5.out r28.out i1 r28.out (by decide);have u0:=r210.cell 0 rfl;have u1:=r210.free 0;replace r210:=Aa r210;replace k4:=Aa k4;replace i1:=Aa i1;replace i5:=Aa i5;replace t4:=Aa t4);obtain⟨g1,g2,g3,g4⟩:=HB.body (x:=X) c5.out (by omega) r28.out i1.out (by rw[List.length_append,<-O.out]) (by rw[List.map_append];exact k4.out) t4.out;refine⟨m4.out.trans g2,KeepB.of y2.out (g3 _ _ _ j1.out (by decide) (by omega)) a2.out (g3 _ _ _ m1.out (by decide) (by omega)),?_,g3 _ _ _ ?_ (by decide) (by omega),g3 _ _ _ j1.out (by decide) (by omega),g3 _ _ _ m1.out (by decide) (by omega),g4 _ o0.out (Nat.le_refl _) (by omega)⟩
    ·rw[List.length_append,List.length_singleton,hR.out.head,hR.out.body,<-T.out,<-List.append_assoc,<-List.append_assoc,<-G.out,<-hY.out,r5.out,<-x3.out,<-y0.out,<-O.out,v5.out,Int.toNat_natCast,<-e3.out,<-i3.out];exact g1
    ·rw[List.length_append,List.length_singleton,hR.out.last2,<-x3.out,<-y0.out];exact c4.out
 case hdone =>
  rintro D xs W2 W3 W5 hD hI ⟨k7,b8,d8,j7⟩ r6 hk;have j3:P.length=m:=by rw[hP.out,hm.out];exact List.length_map ..
  have U:=Iu P xs.length (by rw[j3];exact k7);rw[j3]at U;have n5:=(hI.ext j7).alike r6 d0;have n4:=n5.1;have Z:=n5.2.2.2.2;obtain⟨A1,B1,c1,d1,r1,r2,o1,o2,m5⟩:=n4;obtain⟨Hd,G⟩:=Ab (vb m++headPo (-1) ((chunkL 32 P).take xs.length));obtain⟨Bd,T⟩:=Ab (blockPo (-1) (P.take (xs.length*32)));rw[<-G]at r1 o1 U;rw[<-T]at r2 o2 U;have f1:=r1.cell 0 rfl;have f2:=r2.cell 0 rfl;have ja:Hd.length<=50000000:=by
   have h1:=E8 b0.out p0.out xs.length;have h2:=Ag (n:=m) (by omega);have h3:(headPo (-1) ((chunkL 32 P).take xs.length)).length<=20*(chunkL 32 P).length:=by
    have:=E8 b0.out p0.out (chunkL 32 P).length;rw[List.take_length]at this;refine Nat.le_trans ?_ this;have h4:=Ew ((chunkL 32 P).take xs.length) ((chunkL 32 P).drop xs.length) (-1);rw[List.take_append_drop]at h4;rw[h4,List.length_append];omega
   have h5:=AO (k:=32) (by omega) P;rw[G,List.length_append];omega
  have qa:Bd.length<=50000000:=by have:=DO P (xs.length*32);have:=p0.out;rw[T];omega
  have e4:=Z.size;have z6:=o2.2.cells;have q5:=o1.2;have t6:(Bd.map B8).length=Bd.length:=List.length_map ..;replace U:=Aa U;replace G:=Aa G;replace T:=Aa T;replace r1:=Aa r1;replace r2:=Aa r2;replace z6:=Aa z6;replace q5:=Aa q5;replace t6:=Aa t6;replace Z:=Aa Z;replace hk:=Aa hk;clear hI n5 k7 b8 d8 j7 r6 o1 o2 m5;gi_wp2_with (gi_at_builtin;refine Bu Aw q5.out z6.out (.tmp 60) (.tmp 61) rfl rfl rfl rfl rfl t6.out (Ai _) (by omega) e4 (fun A6 c6 w6 q6 g6 a6 r7=>?_);replace q6:=Aa q6;replace g6:=Aa g6;replace a6:=Aa a6;replace r7:=Aa r7);have r8:w6.heap[D]? = some (.deferred (some [])):=(BL q5.out g6.out).same _ _ hk.out rfl;refine BR (B:=w4.heap.size) rfl r8 hD fun W ha=>⟨_,results_tmp2 rfl _ _ _,?_⟩
  refine⟨A6,c6,?_,⟨rfl,?_⟩,ha.ext (a6.out w Z.out (Nat.le_refl _)) d0⟩
  ·rw[U.out,List.length_append];rfl
  ·rw[U.out,List.length_append,List.map_append];exact ha.buf q6.out
end
section
open Go.RowKit
def RdSt (w0:World) (p1 p2:Nat) (r:List UInt8) (W:World):Prop:=∃A c,Row W p1 24 #[.slice A r.length c]/\Row W p2 4 #[.bool false]/\In8 w0 A r.length c r/\Ext w0 W
theorem RdSt.chg (h:RdSt w0 p1 p2 r W) (j:Chg S W W1) (h1:¬ S p1) (h2:¬ S p2) (b:∀k,S k->w0.heap.size<=k):RdSt w0 p1 p2 r W1:=by
 obtain⟨A,c,r1,r2,hi,a⟩:=h;exact⟨A,c,j.row r1 h1,j.row r2 h2,hi,a.chg j fun i hi hs=>by have:=b i hs;omega⟩
theorem RdSt.ext (h:RdSt w0 p1 p2 r W) (j:Ext W W1):RdSt w0 p1 p2 r W1:=by
 obtain⟨A,c,r1,r2,hi,b⟩:=h;exact⟨A,c,r1.ext j,r2.ext j,hi,b.trans j⟩
def NumR (w0:World) (p1 p2 q:Nat) (r:List UInt8) (W:World) (e:Ending) (W':World):Prop:=e = .returned (.int .i64 (q:Int))/\RdSt w0 p1 p2 r W'/\Chg (fun k=>k=p1) W W'
theorem wrap_i64 (h:q<9223372036854775808):IntKind.i64.wrap (q:Int)=(q:Int):=by
 simp[IntKind.wrap,IntKind.bits,IntKind.signed];omega
theorem LZ (w0 W:World) (p1 p2 q:Nat) (r:List UInt8) (z:Int) (h:RdSt w0 p1 p2 (vb q++r) W) (J:w0.heap.size<=p1) (U:p1≠p2) (I:(q:Int)<=z) (G:z<=1099511627776) (H:(vb q++r).length<=1000000000) :
 Calls prog 101 #[.int .i64 z,.pointer (some ⟨p1,0,none⟩),.pointer (some ⟨p2,0,none⟩)] W fun e W'=>NumR w0 p1 p2 q r W e W':=by
 obtain⟨A,c,r1,r2,hi,Y⟩:=h;have a:=Cl A (vb q++r).length c (vb q++r) w0 W hi Y H;rw[BD (by omega)]at a;obtain⟨n,hn⟩:=Ab ((vb q++r).length);rw[<-hn]at a r1 H;obtain⟨b,hb⟩:∃b:Nat,z=(b:Int):=⟨z.toNat,by omega⟩
 subst hb;have k1:=r1.cell 0 rfl;have T:=AH (m:=b) (by omega);have Z:=wrap_i64 (q:=q) (by omega);have O:¬ (b:Int)<(q:Int):=by omega
 replace a:=Aa a;replace r1:=Aa r1;replace r2:=Aa r2;replace hi:=Aa hi;replace Y:=Aa Y;replace hn:=Aa hn
 go_in
 go_wp2_with fail;refine a.out.mono ?_;rintro e w1 ⟨j,A1,c1,rfl,hi1⟩;have r11:=r1.out.ext j;have r21:=r2.out.ext j;have k2:=r21.cell 0 rfl;have k3:=r11.cell 0 rfl;have k4:=r11.free 0;have k5:=r21.free 0;replace r11:=Aa r11;replace r21:=Aa r21;replace j:=Aa j;replace hi1:=Aa hi1;go_wp2_with fail;go_ret;refine⟨rfl,⟨A1,c1,r11.out.put 0 _,r21.out.away (by simpa using fun e=>U e.symm) _,hi1.out,(Y.out.trans j.out).setCell J _⟩,(Chg.of_ext j.out _).trans (Chg.of_set (S:=fun k=>k=p1) w1 _ rfl) fun _ _ h=>h⟩
theorem GJ (A B:Option Addr) (n m c c2:Nat) (a b:List UInt8) (w:World) (ha:In8 w A n c a) (hb:In8 w B m c2 b) (hn:n<=1000000000) (hm:m<=1000000000) :
 Calls prog 96 #[.slice A n c,.slice B m c2] w fun e w'=>e = .returned (.bool (decide (a=b)))/\Ext w w':=by
 have j:=ha.len;have H:=hb.len;have Y:((n:Int) != (m:Int))=true->decide (a=b)=false:=fun h=>decide_eq_false fun e=>by rw[e]at j;simp at h;omega
 replace Y:=Aa Y;by_cases p0:n=m
 ·subst p0;replace j:=Aa j;replace H:=Aa H;clear Y
  go_in
  go_wp2_with fail
  go_loopw [13] (fun s13 wr=>∃i:Nat,s13 = .int .i64 i/\i<=n/\Hid (a.take i=b.take i)/\Hid (Ext w wr)) (fun s13 _=>n - (intOf s13).toNat)
  case atStart=>exact⟨0,rfl,by omega,rfl,Aa (Ext.refl w)⟩
  case round =>
   obtain⟨i,rfl,hi,hab,J⟩:=hrel;by_cases h0:i<n
   ·have G:i<a.length:=by rw[<-j.out];exact h0
    have I:i<b.length:=by rw[<-H.out];exact h0
    obtain⟨g,o,rfl,hc⟩:=ha.bytes.at_ (by omega);obtain⟨g2,o2,rfl,Z⟩:=hb.bytes.at_ (by omega);have k0:=J.out.cell (hc i G);have k1:=J.out.cell (Z i I);have O:a[i]=b[i]->a.take (i+1)=b.take (i+1):=fun h=>by rw[List.take_succ_eq_append_getElem G,List.take_succ_eq_append_getElem I,hab.out,h]
    have T:a[i]≠b[i]->decide (a=b)=false:=fun h=>decide_eq_false fun e=>h (by subst e;rfl);obtain⟨p,hp⟩:=Ab (a[i]);obtain⟨q,hq⟩:=Ab (b[i]);rw[<-hp,<-hq]at O T;rw[<-hp]at k0;rw[<-hq]at k1;have x0:(0:Int)<=i:=by omega
    have hi1:(i:Int)<n:=by omega
    replace O:=Aa O;replace T:=Aa T;clear hp hq hc Z;by_cases U:p=q
    ·subst U;have m0:=Aa (O.out rfl);clear O T;go_wp2_with fail;go_quiet (fail);go_wp2_with fail;go_roundw
     case rel=>exact⟨i+1,by go_num,by omega,m0,by first | exact Aa J.out.drew | exact Aa (J.out.drewN _)⟩
     case measure=>simp[intOf];omega
    ·have t0:=Aa (T.out U);have y0:(((p.toNat:Int)) != (q.toNat:Int))=true:=by simp;exact fun h=>U (UInt8.toNat_inj.1 (by omega))
     clear O T;go_wp2_with fail;go_quiet (fail);go_wp2_with fail;go_ret;exact⟨Bf t0.out.symm,by first | exact J.out.drew | exact J.out.drewN _⟩
   ·obtain rfl:i=n:=by omega
    have hd:decide (a=b)=true:=decide_eq_true (by
     have h:=hab.out;rw[List.take_of_length_le (by rw[<-j.out];exact Nat.le_refl _),List.take_of_length_le (by rw[<-H.out];exact Nat.le_refl _)]at h;exact h)
    replace hd:=Aa hd;go_wp2_with fail;go_ret;exact⟨Bf hd.out.symm,J.out⟩
 ·have hd:=Aa (Y.out (by simp;omega));clear Y j H ha hb
  go_in
  go_wp2_with fail;go_ret;exact⟨Bf hd.out.symm,Ext.refl w⟩
theorem In8.take (h:In8 w A n c l) (hk:k<=n):In8 w A k c (l.take k):=by
 refine⟨by rw[List.length_take,<-h.len];omega,?_,by have:=h.cap;omega,h.nil_,h.at_⟩;rcases h.bytes with hb | ⟨g,o,b,hb⟩
 ·left;have:l = []:=by simpa using hb
  rw[this];simp
 ·refine .inr ⟨g,o,b,fun i v j=>hb i v ?_⟩;rw[List.getElem?_map]at j ⊢;rw[List.getElem?_take]at j;split at j
  ·exact j
  ·cases j
def NewPs (w:World) (L:List Po) (e:Ending) (w':World):Prop:=∃(ps:List PoC) (A:Option Addr) (c:Nat),psP ps=L/\e = .returned (.tuple #[.slice A L.length c,.int .i64 0])/\PosOk w' A ps/\(∀a,A=some a->a.spot=none)/\L.length<=c/\Ext w w'
theorem NB {L:List Po} (h:okPs L=true) (j:(blockPo (-1) L).length<=50000000):(encPs L).length<=60000000:=by
 have h1:=E6 h;have h2:=E8 h j (chunkL 32 L).length;rw[List.take_length]at h2;have b:=AO (k:=32) (by omega) L;have a:=Ag (n:=L.length) (by omega);unfold encPs;rw[List.length_append,List.length_append];omega
theorem Pb:Elem prog 47 89 2 32:=⟨underlying47,⟨_,_,rfl,rfl,rfl,rfl,rfl⟩,by omega,by omega⟩
structure PoRead (L:List Po) (i:Nat) (p:Po) (la:Int):Prop where
  eq:la=lastPo (-1) (L.take i)
  lo : -1<=la
  hi:la<65536
  lt:la<p.1
  lt2:p.1<65536
  pos:0<p.2.length
  ris:risB 1048576 (-1) p.2=true
  len:p.2.length<=1048576
  rest:blockPo la (L.drop i)=vb (p.1 - la - 1).toNat++(vb p.2.length++(stepsL (-1) p.2++blockPo p.1 (L.drop (i+1))))
  next:lastPo (-1) (L.take (i+1))=p.1
  all:(blockPo la (L.drop i)).length<=(blockPo (-1) L).length
theorem Q1 {L:List Po} (h:okPs L=true) {p:Po} (b:L[i]? = some p):PoRead L i p (lastPo (-1) (L.take i)):=by
 rw[Ed,Bool.and_eq_true]at h;have h1:=FK i h.1;have hb:=Cw (l:=L.take i) (lo:= -1) (n:=65536) (by rw[List.map_take];exact Bp _ h.1) (by omega);rw[AY b,List.map_cons]at h1;obtain⟨h2,a,H⟩:=BW h1;have j:=List.all_eq_true.1 h.2 p (List.mem_of_getElem? b);unfold okPo at j;rw[Bool.and_eq_true]at j;have Y:=DU j.2 (by omega);refine⟨rfl,hb.1,hb.2,h2,a,of_decide_eq_true j.1,j.2,by omega,?_,?_,?_⟩
 ·rw[AY b];show onePo _ p++blockPo p.1 _=_;unfold onePo;simp
 ·rw[List.take_add_one,b,CD];rfl
 ·conv=>rhs;rw[<-List.take_append_drop i L,Be,List.length_append]
  omega
structure Done (w wr:World) (A:Option Addr) (i c:Nat) (dn:List PoC):Prop where
  len:dn.length=i
  own:wr.ownsRow w.heap.size 89 2 (.slice A i c) i (pcells dn)
  each:∀x∈dn,Buf wr w.heap.size 3 x.A x.pos.length x.c (x.pos.map IV)/\x.pos.length<=1000000000
theorem Done.chg {dn:List PoC} (h:Done w wr A i c dn) (Y:Chg S wr w1) (H:∀k,S k->∃t cs,Row wr k t cs/\t≠89/\t≠3):Done w w1 A i c dn:=by
 refine⟨h.len,Y.owns h.own fun g U hs=>?_,fun x b=>⟨(h.each x b).1.chg Y fun a J hs=>?_,(h.each x b).2⟩⟩
 ·obtain⟨t,cs,j,h1,_⟩:=H _ hs;exact Am h.own j (fun e=>h1 e.symm) U
 ·obtain⟨t,cs,j,_,h2⟩:=H _ hs;exact(h.each x b).1.unlike j (fun e=>h2 e.symm) a J rfl
theorem JD:∀ {l:List Int} {lo:Int},risB 1048576 lo l=true -> -1<=lo->(stepsL lo l).length<=10*l.length:=fun h h2=>by have:=HD h h2;omega
theorem AN (w:World) (us:List Value) (T:TypeId):Cells (w.alloc (.cells us.toArray T)) (some ⟨w.heap.size,0,none⟩) us :=
 .inr ⟨w.heap.size,0,rfl,fun i u h=>by
  rw[Nat.zero_add,cell_of_row _ _ _ _ _ _ (heap_alloc_new w _)];simpa using h⟩
theorem Done.pos {dn:List PoC} (h:Done w wr A i c dn):PosOk wr A dn:=⟨Cells.of_own h.own,fun x j=>⟨(h.each x j).1.cells,(h.each x j).2⟩⟩
theorem RdSt.rows (h:RdSt w0 p1 p2 r W) (j:∀g t cs,Row W g t cs->t=24\/t=4->Row W1 g t cs) (b:Ext w0 W1):RdSt w0 p1 p2 r W1:=by
 obtain⟨A,c,r1,r2,hi,_⟩:=h;exact⟨A,c,j _ _ _ r1 (.inl rfl),j _ _ _ r2 (.inr rfl),hi,b⟩
theorem Cu {base n c:Nat} (hb:Buf w base e A n c xs) (b:w.grownBy w1 (Value.slice A n c).ownBlock) (j:Row w g t cs) (ht:t≠e):Row w1 g t cs :=
 j.grown b fun h=>by
  cases A with
  | none=>simp[Value.ownBlock]at h
  | some a=>exact hb.unlike j (fun e=>ht e.symm) a rfl (by simpa [Value.ownBlock]using h.symm)
theorem Jp (A:Option Addr) (n c:Nat) (bs:List UInt8) (w:World) (L:List Po) (h:In8 w A n c bs) (x0:okPs L=true) (i1:bs=encPs L) (k1:(blockPo (-1) L).length<=50000000) :
 Calls prog 60 #[.slice A n c] w fun e w'=>NewPs w L e w':=by
 have c6:=NB x0 k1;rw[<-i1,<-h.len]at c6;obtain⟨m,hm⟩:=Ab L.length;have a7:m<=65536:=by rw[hm];exact E6 x0
 obtain⟨R,hR⟩:=Ab (headPo (-1) (chunkL 32 L)++blockPo (-1) L);have e0:bs=vb m++R:=by rw[i1,hR,hm];unfold encPs;rw[List.append_assoc]
 have g0:n=(vb m++R).length:=by rw[<-e0];exact h.len
 obtain⟨W0,l0⟩:=Ab ((w.alloc (Obj.cells #[.slice A n c] 24)).alloc (Obj.cells #[.bool false] 4));obtain⟨p1,a2⟩:=Ab w.heap.size;have b4:RdSt w p1 (p1+1) (vb m++R) W0:=by
  have r1:Row W0 p1 24 #[.slice A n c]:=by rw[l0,a2];exact(Row.new w _ _).alloc _
  have r2:Row W0 (p1+1) 4 #[.bool false]:=by
   have:=Row.new (w.alloc (Obj.cells #[.slice A n c] 24)) 4 #[.bool false];rw[World.size_alloc,<-a2]at this;rw[l0];exact this
  refine⟨A,c,by rw[<-g0];exact r1,r2,by rw[<-g0,<-e0];exact h,by rw[l0];exact((Ext.refl w).alloc _).alloc _⟩
 have p0:=Aa (fun W q r z h1 h2 h3 h4=>LZ w W p1 (p1+1) q r z h1 (by omega) (by omega) h2 h3 h4);replace b4:=Aa b4;replace x0:=Aa x0;replace k1:=Aa k1;replace i1:=Aa i1;replace e0:=Aa e0;replace hR:=Aa hR;replace l0:=Aa l0;replace a2:=Aa a2;replace h:=Aa h;replace g0:=Aa g0;replace hm:=Aa hm
 go_in
 go_wp2_with fail;rw[<-l0.out,<-a2.out];refine(p0.out W0 m R 65536 b4.out (by omega) (by omega) (by rw[<-g0.out];omega)).mono ?_;rintro e w1 ⟨rfl,c4,m4⟩;replace c4:=Aa c4;replace m4:=Aa m4;obtain⟨nc,x2⟩:=Ab ((chunkL 32 L).length);have y2:((m:Int)+32 - 1) / 32=(nc:Int):=by rw[x2,AO (by omega),hm.out];omega
 have q7:nc<=4096:=by omega
 have z4:R.length<=100000000:=by have:=g0.out;rw[List.length_append]at this;omega
 replace x2:=Aa x2;replace z4:=Aa z4;replace y2:=Aa y2;go_wp2_with fail;rw[y2.out]
 go_loopw [24] (fun s24 wr=>∃(k:Nat) (r:List UInt8),s24 = .int .i64 (k:Int)/\k<=nc/\Hid (r.length<=100000000)/\Hid (r=headPo (lastPo (-1) (L.take (k*32))) ((chunkL 32 L).drop k)++blockPo (-1) L)/\Hid (RdSt w p1 (p1+1) r wr)/\Hid (Chg (fun k=>k=p1) W0 wr)) (fun s24 _=>nc - (intOf s24).toNat)
 case atStart=>exact⟨0,R,rfl,by omega,z4,Aa (by rw[hR.out];simp[lastPo]),c4,m4⟩
 case round =>
  obtain⟨k,r,rfl,hk,k6,hr,hS,hC⟩:=hrel;by_cases y7:k<nc
  ·have j2:k*32<L.length:=by
    rcases Nat.lt_or_ge (k*32) L.length with h1 | h1
    ·exact h1
    ·have:=Cb (k:=32) (by omega) k L h1;rw[<-x2.out]at this;omega
   have j:=Hb x0.out k1.out j2;have l4:=AY (BQ (k:=32) (by omega) k L j2);obtain⟨bP,a3⟩:=Ab ((L.drop (k*32)).take 32);obtain⟨lst,i0⟩:=Ab (lastPo (-1) (L.take (k*32)));rw[<-a3,<-i0]at j;rw[<-a3]at l4;have p5:=hr.out;rw[l4,<-i0]at p5;obtain⟨q1,b0⟩:=Ab ((lastPo lst bP).toNat:Nat);obtain⟨q2,f2⟩:=Ab ((blockPo lst bP).length:Nat);have j4:(q1:Int)<=65536:=by have:=j.hi2;omega
   obtain⟨r2,i2⟩:=Ab (headPo (lastPo lst bP) ((chunkL 32 L).drop (k+1))++blockPo (-1) L);have k5:r=vb q1++(vb q2++r2):=by
    rw[p5,i2,b0,f2];show (vb _++vb _++headPo _ _)++_=_;simp
   have g4:(q2:Int)<=(n:Int):=by
    have h1:=j.len;have h2:=g0.out;rw[hR.out]at h2;simp only[List.length_append]at h2;omega
   have J:(vb q1++(vb q2++r2)).length<=100000000:=by rw[<-k5];exact k6.out
   have t0:(vb q2++r2).length<=100000000:=by rw[List.length_append]at J;omega
   have O:r2.length<=100000000:=by rw[List.length_append]at t0;omega
   have f4:=Aa (fun W h=>p0.out W q1 (vb q2++r2) 65536 h j4 (by omega) (by omega));have i4:=Aa (fun W h=>p0.out W q2 r2 (n:Int) h g4 (by omega) (by omega));have a4:Hid (RdSt w p1 (p1+1) (vb q1++(vb q2++r2)) wr):=Aa (by rw[<-k5];exact hS.out);have p6:Hid (r2=headPo (lastPo (-1) (L.take ((k+1)*32))) ((chunkL 32 L).drop (k+1))++blockPo (-1) L):=Aa (by rw[j.last2];exact i2);clear p5 k5 J t0 j l4 i2 g4 j4 j2;replace a3:=Aa a3;replace i0:=Aa i0;replace b0:=Aa b0;replace f2:=Aa f2;replace O:=Aa O;go_wp2_with fail;refine(f4.out _ a4.out).mono ?_;rintro e w3 ⟨rfl,I,t4⟩;replace I:=Aa I;replace t4:=Aa (hC.out.trans t4 fun _ _ h=>h);go_wp2_with fail;refine(i4.out _ I.out).mono ?_;rintro e w4 ⟨rfl,v0,j0⟩;replace v0:=Aa v0;replace j0:=Aa (t4.out.trans j0 fun _ _ h=>h);go_wp2_with fail;exact⟨⟨k+1,r2,by congr 1,by omega,O,p6,v0,j0⟩,by simp only[intOf];omega⟩
  ·have j6:r=blockPo (-1) (L.drop 0):=by
    rw[hr.out,List.drop_eq_nil_of_le (by rw[<-x2.out];omega),headPo,List.nil_append,List.drop_zero]
   have a4:Hid (RdSt w p1 (p1+1) (blockPo (-1) (L.drop 0)) wr):=Aa (by rw[<-j6];exact hS.out);clear j6 hr hS k6;go_wp2_with fail
   go_loopw [8,9,10] (fun s8 s9 s10 wv=>∃(i c8:Nat) (A8:Option Addr) (la:Int) (dn:List PoC),s8 = .slice A8 i c8/\s9 = .int .i64 la/\s10 = .int .i64 (i:Int)/\i<=m/\Hid (la=lastPo (-1) (L.take i))/\Hid (RdSt w p1 (p1+1) (blockPo la (L.drop i)) wv)/\Hid (Done w wv A8 i c8 dn)/\Hid (psP dn=L.take i)) (fun _ _ s10 _=>m - (intOf s10).toNat)
   case atStart=>exact⟨0,0,none,-1,[],rfl,rfl,rfl,by omega,Aa rfl,a4,Aa ⟨rfl,World.ownsRow_nil _ _ _ _,nofun⟩,Aa rfl⟩
   case round =>
    obtain⟨i,c8,A8,la,dn,rfl,rfl,rfl,him,f6,G,r0,r5⟩:=hrel;obtain⟨wv,rfl⟩:=Ab wr;obtain⟨B0,d0,r10,r20,_,_⟩:=G.out;have kw:=r20.cell 0 rfl;clear r10 r20;by_cases e6:i<m
    ·obtain⟨p,f3⟩:∃p,L[i]? = some p:=⟨_,List.getElem?_eq_getElem (by rw[<-hm.out];exact e6)⟩
     have j:=Q1 x0.out f3;rw[<-f6.out]at j;have I:=G.out;rw[j.rest]at I;have J:=j.all;rw[j.rest]at J;obtain⟨d,pos⟩:=p;have g7:la<d:=j.lt;have m7:d<65536:=j.lt2;have z7:=j.lo;have x7:=j.hi;simp only at I J;obtain⟨q1,b0⟩:=Ab ((d - la - 1).toNat:Nat);have t7:la+1+(q1:Int)=d:=by omega
     obtain⟨pl,k0⟩:=Ab pos.length;obtain⟨tl,r3⟩:=Ab (blockPo d (L.drop (i+1)));rw[<-b0,<-k0,<-r3]at I J;have p4:(vb q1++(vb pl++(stepsL (-1) pos++tl))).length<=50000000:=Nat.le_trans J k1.out;have t0:(vb pl++(stepsL (-1) pos++tl)).length<=50000000:=by rw[List.length_append]at p4;omega
     have O:(stepsL (-1) pos++tl).length<=50000000:=by rw[List.length_append]at t0;omega
     have p7:pl<=1048576:=by have:=j.len;rw[k0];exact this
     obtain⟨mn,h5⟩:∃mn:Nat,(mn:Int)=min 1048576 (n:Int):=⟨min 1048576 n,by omega⟩
     have d2:(pl:Int)<=(mn:Int):=by
      have h1:=FR pos (-1);have h2:=j.all;have h3:=g0.out;rw[hR.out,List.length_append,List.length_append]at h3;rw[j.rest]at h2;simp only[List.length_append]at h2;omega
     have o5:(mn:Int)<=1099511627776:=by omega
     have h7:=fun(W:World)=>AQ (P:=prog) #[3,3] 3 h5 W;have f4:=Aa (fun W h=>p0.out W q1 (vb pl++(stepsL (-1) pos++tl)) 65536 h (by omega) (by omega) (by omega));have i4:=Aa (fun W h=>p0.out W pl (stepsL (-1) pos++tl) (mn:Int) h d2 o5 (by omega));replace h5:=Aa h5;replace I:=Aa I;replace j:=Aa j;replace f3:=Aa f3;replace b0:=Aa b0;replace k0:=Aa k0;replace r3:=Aa r3;replace d2:=Aa d2;clear J p4 t0;replace O:=Aa O;go_wp2_with fail;refine(f4.out _ I.out).mono ?_;rintro e w3 ⟨rfl,v0,j0⟩;obtain⟨g11,m0⟩:=Ab w3.heap.size;obtain⟨W4,n0⟩:=Ab (w3.alloc (.cells #[.int .i64 d,.slice none 0 0] 89));have j5:Row W4 g11 89 #[.int .i64 d,.slice none 0 0]:=by rw[n0,m0];exact Row.new w3 _ _
     have a1:RdSt w p1 (p1+1) (vb pl++(stepsL (-1) pos++tl)) W4:=by rw[n0];exact v0.ext ((Ext.refl w3).alloc _)
     have v4:Chg (fun k=>k=p1) wv W4:=by rw[n0];exact j0.trans (Chg.of_ext ((Ext.refl w3).alloc _) _) fun _ _ h=>h
     have d6:wv.heap.size<=g11:=by rw[m0];exact j0.size
     replace v0:=Aa v0;replace j0:=Aa j0;replace a1:=Aa a1;replace v4:=Aa v4;replace j5:=Aa j5;replace n0:=Aa n0;replace m0:=Aa m0;go_wp2_with fail;rw[<-n0.out,<-m0.out];refine(i4.out _ a1.out).mono ?_;rintro e w5 ⟨rfl,d4,m3⟩;have i6:Hid (Row w5 g11 89 #[.int .i64 d,.slice none 0 0]):=Aa (m3.row j5.out (by rintro rfl;have:=G.out;obtain⟨_,_,q,_⟩:=this;have:=q.lt;omega));replace m3:=Aa (v4.out.trans m3 fun _ _ h=>h);replace d4:=Aa d4;obtain⟨sz,Y⟩:=Ab wv.heap.size;rw[<-Y]at d6;replace Y:=Aa Y;go_wp2_with fail
     go_loopw [12,13] (fun s12 s13 w6=>∃(t c3:Nat) (A3:Option Addr) (z:Int),s12 = .int .i64 z/\s13 = .int .i64 ((pl - t:Nat):Int)/\t<=pl /\ -1<=z/\z<1048576/\Hid (risB 1048576 z (pos.drop t)=true)/\Hid (RdSt w p1 (p1+1) (stepsL z (pos.drop t)++tl) w6)/\Hid (Row w6 g11 89 #[.int .i64 d,.slice A3 t c3])/\Hid (Buf w6 sz 3 A3 t c3 ((pos.take t).map IV))/\Hid (Chg (fun k=>k=p1) wv w6)) (fun _ s13 _=>(intOf s13).toNat)
     case atStart=>exact⟨0,0,none,-1,rfl,rfl,by omega,by omega,by omega,Aa j.out.ris,d4,i6,Aa (Buf.nil _ _ _),m3⟩
     case round =>
      obtain⟨t,c3,A3,z,rfl,rfl,ht,r6,e7,g6,x3,i3,e4,y5⟩:=hrel;obtain⟨B1,d1,r11,r21,_,_⟩:=x3.out;have kw2:=r21.cell 0 rfl;clear r11 r21;by_cases n6:t<pl
      ·obtain⟨x,p3⟩:∃x,pos[t]? = some x:=⟨_,List.getElem?_eq_getElem (by rw[<-k0.out];exact n6)⟩
       have o2:=g6.out;have H:=x3.out;rw[AY p3]at o2 H;obtain⟨c7,d7,q3⟩:=BW o2;obtain⟨q,hq⟩:=Ab ((x - z - 1).toNat:Nat);have b7:z+(1+(q:Int))=x:=by omega
       have y3:Hid (RdSt w p1 (p1+1) (vb q++(stepsL x (pos.drop (t+1))++tl)) wr):=Aa (by
        rw[hq,<-List.append_assoc];exact H)
       have f2:(q:Int)<=1048576:=by omega
       have m2:(vb q++(stepsL x (pos.drop (t+1))++tl)).length<=1000000000:=by
        have h1:=O.out;rw[List.length_append]at h1;have h3:(stepsL z (pos.drop t)).length=(vb q).length+(stepsL x (pos.drop (t+1))).length:=by
         rw[AY p3,hq,<-List.length_append];rfl
        have h4:(stepsL z (pos.drop t)).length<=10*(pos.drop t).length:=JD g6.out r6;rw[List.length_drop,<-k0.out]at h4;rw[List.length_append,List.length_append];omega
       have b6:=Aa (p0.out wr q (stepsL x (pos.drop (t+1))++tl) 1048576 y3.out f2 (by omega) m2);have g5:(pos.take (t+1)).map IV=(pos.take t).map IV ++ [.int .i64 x]:=by
        rw[List.take_add_one,p3,List.map_append];rfl
       have l5:g11≠p1:=by rintro rfl;obtain⟨_,_,q,_⟩:=G.out;have:=q.lt;have:=Y.out;omega
       clear o2 H m2 y3;replace hq:=Aa hq;replace p3:=Aa p3;replace q3:=Aa q3;replace g5:=Aa g5;go_wp2_with fail;refine b6.out.mono ?_;rintro e w8 ⟨rfl,H,j1⟩;have o3:=j1.row i3.out l5;have h0:Buf w8 sz 3 A3 t c3 ((pos.take t).map IV):=e4.out.chg j1 (by
        obtain⟨_,_,q,_⟩:=x3.out;intro a ha e;exact e4.out.unlike q (by decide) a ha e)
       have t3:=y5.out.trans j1 fun _ _ h=>h;have y1:=o3.cell 1 rfl;have k7:sz<=w8.heap.size:=by rw[Y.out];exact t3.size
       replace o3:=Aa o3;replace h0:=Aa h0;replace t3:=Aa t3;replace H:=Aa H;replace j1:=Aa j1;have x4:Ext w w8:=by obtain⟨_,_,_,_,_,q⟩:=H.out;exact q
       replace x4:=Aa x4;go_wp2_with (at_builtin;refine Al RU (h0.out.alloc _) (AN w8 [.int .i64 x] _) (.tmp 67) (.tmp 69) rfl rfl rfl rfl rfl rfl (Az rfl) (by omega) (by simp;omega) (fun A9 c9 w9 z3 q0 m5 J=>?_);have r89:=Cu (h0.out.alloc _) q0 (o3.out.alloc _) (by decide);have u0:=r89.cell 1 rfl;have u1:=r89.free 1;replace r89:=Aa r89;replace z3:=Aa z3;replace q0:=Aa q0;replace m5:=Aa m5;replace J:=Aa J);obtain⟨W10,e1⟩:=Ab (w8.alloc (.cells #[.int .i64 x] 3));have r4:=q0.out;rw[<-e1]at r4;have x1:Ext w8 W10:=by rw[e1];exact(Ext.refl w8).alloc _
       have f1:Buf W10 sz 3 A3 t c3 ((pos.take t).map IV):=by rw[e1];exact h0.out.alloc _
       have y4:Ext w w9:=m5.out w ((x4.out).alloc _) (by rw[Y.out];obtain⟨_,_,_,_,_,q⟩:=G.out;exact q.size);have q4:RdSt w p1 (p1+1) (stepsL x (pos.drop (t+1))++tl) w9:=(H.out.ext x1).rows (fun g T cs hr hT=>Cu f1 r4 hr (by rcases hT with rfl | rfl <;> decide)) y4;have o4:w.heap.size<=g11:=by obtain⟨_,_,_,_,_,q⟩:=G.out;have:=q.size;have:=Y.out;omega
       have a5:RdSt w p1 (p1+1) (stepsL x (pos.drop (t+1))++tl) (w9.setCell ⟨g11,1,none⟩ (.slice A9 (t+1) c9)):=by
        refine q4.chg (S:=fun k=>k=g11) (Chg.of_set _ _ rfl) (fun e=>l5 e.symm) (fun e=>?_) (fun k hk=>by rw[hk];exact o4);obtain⟨_,_,q,q2,_,_⟩:=q4;exact Row.unlike q2 r89.out (by decide) e
       have q6:=r89.out.put 1 (.slice A9 (t+1) c9);have f5:Buf (w9.setCell ⟨g11,1,none⟩ (.slice A9 (t+1) c9)) sz 3 A9 (t+1) c9 ((pos.take (t+1)).map IV):=by
        rw[g5.out];exact z3.out.setCell (z3.out.unlike r89.out (by decide)) _
       have x5:Chg (fun k=>k=p1) wv (w9.setCell ⟨g11,1,none⟩ (.slice A9 (t+1) c9)):=by
        refine((t3.out.trans (Chg.of_ext x1 (fun k=>k=p1)) fun _ _ h=>h).trans (Chg.of_grown r4 (S:=fun k=>sz<=k) fun k _ hk=>?_) fun i hi h=>?_).trans (Chg.of_set (S:=fun k=>k=g11) _ _ rfl) fun i hi h=>?_
        ·have:=f1.base_le;cases A3 with
         | none=>simp[Value.ownBlock]at hk
         | some a=>have:=this a rfl;simp[Value.ownBlock]at hk;omega
        ·have:=Y.out;omega
        ·have:=Y.out;omega
       exact⟨⟨t+1,c9,A9,x,by congr 1,by congr 1;omega,by omega,by omega,by omega,q3,Aa a5,Aa q6,Aa f5,Aa x5⟩,by simp only[intOf];omega⟩
      ·obtain rfl:t=pl:=by omega
       have n4:pos.drop t = []:=List.drop_eq_nil_of_le (by rw[k0.out];exact Nat.le_refl _);have H:=x3.out;rw[n4]at H;have H:RdSt w p1 (p1+1) tl wr:=H;have h0:=e4.out;rw[List.take_of_length_le (by rw[k0.out];exact Nat.le_refl _)]at h0;have y0:=i3.out.cell 0 rfl;have y1:=i3.out.cell 1 rfl;have v7:=i3.out.get;have o1:Done w wr A8 i c8 dn:=r0.out.chg y5.out fun k hk=>by
        obtain⟨_,_,q,_⟩:=G.out;exact⟨_,_,hk ▸ q,by decide,by decide⟩
       have o6:w.heap.size<=wr.heap.size:=by obtain⟨_,_,_,_,_,q⟩:=H;exact q.size
       have U:=o1.own;replace H:=Aa H;replace h0:=Aa h0;replace n4:=Aa n4;replace o1:=Aa o1;replace U:=Aa U;go_wp2_with (at_builtin;refine Ch Pb U.out (.tmp 74) (.tmp 76) rfl rfl rfl rfl rfl (Az rfl) (by omega) o6 (fun A9 c9 w9 q5 q0 J=>?_);replace q5:=Aa q5;replace q0:=Aa q0;replace J:=Aa J);have e5:∀ {n c:Nat} {A:Option Addr} {xs:List Value} {b:Nat},Buf wr b 3 A n c xs->Buf w9 b 3 A n c xs:=fun hb=>hb.grown q0.out fun a ha e=>Nm hb U.out (by decide) a ha e;have l6:∀g T cs,Row wr g T cs->T≠89->Row w9 g T cs:=fun g T cs hr hT=>hr.grown q0.out fun e=>Am U.out hr (fun e=>hT e.symm) e.symm;have y4:Ext w w9:=by
        obtain⟨_,_,_,_,_,q⟩:=H.out;refine q.grown q0.out fun k hk=>?_;obtain⟨_,_,hb⟩:=Ae U.out hk;exact hb
       have a6:Buf w9 w.heap.size 3 A3 t c3 (pos.map IV):=(e5 h0.out).lower (by rw[Y.out];obtain⟨_,_,_,_,_,q⟩:=G.out;exact q.size);have y3:RdSt w p1 (p1+1) (blockPo d (L.drop (i+1))) w9:=by
        rw[<-r3.out];exact H.out.rows (fun g T cs hr hT=>l6 g T cs hr (by rcases hT with rfl | rfl <;> decide)) y4
       have n5:pos.length=t:=k0.out.symm;have i5:Done w w9 A9 (i+1) c9 (dn ++ [⟨d,pos,A3,c3⟩]):=by
        refine⟨by rw[List.length_append,r0.out.len];rfl,?_,fun y hy=>?_⟩
        ·have h:=q5.out;have e:pcells (dn ++ [⟨d,pos,A3,c3⟩])=pcells dn ++ [.int .i64 d,.slice A3 t c3]:=by
          unfold pcells;rw[List.flatMap_append];simp[PoC.cells,n5]
         rw[e];exact h
        ·rcases List.mem_append.1 hy with hy | hy
         ·exact⟨e5 (o1.out.each y hy).1,(o1.out.each y hy).2⟩
         ·rw[List.mem_singleton.1 hy];simp only[n5];exact⟨a6,by omega⟩
       have h6:psP (dn ++ [⟨d,pos,A3,c3⟩])=L.take (i+1):=by
        rw[List.take_add_one,f3.out,<-r5.out];unfold psP;rw[List.map_append];rfl
       exact⟨⟨i+1,c9,A9,d,dn ++ [⟨d,pos,A3,c3⟩],rfl,rfl,rfl,by omega,Aa j.out.next.symm,Aa y3,Aa i5,Aa h6⟩,by simp only[intOf];omega⟩
    ·obtain rfl:i=m:=by omega
     have Z:=r5.out;rw[List.take_of_length_le (by rw[hm.out];exact Nat.le_refl _)]at Z;have o0:=BN r0.out.own;have f0:=E7 dn A8 i c8 wv r0.out.len.symm r0.out.pos o0.2 o0.1 (by rw[Z];exact x0.out) (by rw[Z];exact k1.out);rw[Z,<-i1.out]at f0;replace f0:=Aa f0;replace Z:=Aa Z;go_wp2_with fail;refine f0.out.mono ?_;rintro e w5 x6;obtain⟨A5,c5,rfl,j3,m1⟩:=x6;have c0:Ext w w5:=by obtain⟨_,_,_,_,_,q⟩:=G.out;exact q.trans m1
     have a1:=G.out.ext m1;obtain⟨B5,d5,_,r25,_,_⟩:=a1;have kw5:=r25.cell 0 rfl;clear r25;obtain⟨nb,e3⟩:=Ab bs.length;rw[<-e3]at j3 ⊢;have k4:nb=n:=by rw[e3];exact h.out.len.symm
     have b3:=GJ A5 A nb n c5 c bs bs w5 j3.2.in8 (h.out.ext c0) (by omega) (by omega);rw[decide_eq_true rfl]at b3;have k2:=r0.out.pos.ext m1;replace b3:=Aa b3;replace e3:=Aa e3;replace k2:=Aa k2;replace c0:=Aa c0;replace m1:=Aa m1;replace j3:=Aa j3;replace o0:=Aa o0;replace k4:=Aa k4;go_wp2_with fail;refine b3.out.mono ?_;rintro e w6 ⟨rfl,z5⟩;go_wp2_with fail;go_ret2;exact⟨dn,A8,c8,Z.out,by rw[hm.out];rfl,k2.out.ext z5,o0.out.2,by rw[<-hm.out];exact o0.out.1,c0.out.trans z5⟩
end
section
open Go.RowKit
attribute [local go_sem] Oper.semAt_some AP Cp
theorem BX {d:TypeDesc} (h:w.cell? ⟨g,0,none⟩=some v) (j:P.underlying ty=some d) (hd:(match d with | .struct _ | .array _ _=>false | _=>true)=true):(loadVar ty ⟨g,0,none⟩).run P w = .ok v w:=by
 have hi:(isAgg ty).run P w = .ok false w:=by
  unfold isAgg;simp only[Sem.run_bind,run_underlying j,Result.andThen_ok];cases d <;> first | rfl | (cases hd)
 unfold loadVar;simp only[Sem.run_bind,hi,Result.andThen_ok];simp[h]
theorem Row.same (h:Row w g t cs) (H:cs[i]? = some v):w.setCell ⟨g,i,none⟩ v=w:=by
 have a:=h.put i v;have Y:cs.setIfInBounds i v=cs:=by
  apply Array.ext_getElem?;intro j;rw[Array.getElem?_setIfInBounds];split
  ·rename_i e;subst e;rw[H,if_pos (Array.getElem?_eq_some_iff.1 H).1]
  ·rfl
 rw[Y]at a;have b:(w.setCell ⟨g,i,none⟩ v).heap=w.heap:=by
  apply Array.ext_getElem?;intro k;by_cases e:k=g
  ·subst e;exact a.trans (Eq.symm h)
  ·exact Below.heap_setCell w ⟨g,i,none⟩ v k e
 obtain⟨heap,os,tape,output⟩:=w;simp only[World.setCell]at b ⊢;rw[b]
theorem Hg {fn:Func} {p q r:Tmp} (j:fn.results=#[.cell p tp,.cell q tq,.cell r tr]) (tmps:Array Value) (w:World)
 (h1:tmps.getD p undef = .pointer (some ⟨g1,0,none⟩)) (h2:tmps.getD q undef = .pointer (some ⟨g2,0,none⟩)) (h:tmps.getD r undef = .pointer (some ⟨g3,0,none⟩))
 (l1:(loadVar tp ⟨g1,0,none⟩).run P w = .ok v1 w) (l2:(loadVar tq ⟨g2,0,none⟩).run P w = .ok v2 w) (l3:(loadVar tr ⟨g3,0,none⟩).run P w = .ok v3 w) :
 (results fn tmps).run P w = .ok (.tuple #[v1,v2,v3]) w:=by
 rw[Array.getD_eq_getD_getElem?]at h1 h2 h;simp only[results,j];simp[Sem.run_bind,Result.andThen,h1,h2,h,asAddr,l1,l2,l3]
theorem Rw:Elem prog 22 24 1 24:=⟨underlying22,⟨_,_,rfl,rfl,rfl,rfl,rfl⟩,by omega,by omega⟩
theorem LG (A:Option Addr) (n c:Nat) (ew:Nat) (w:World) :
 Calls prog 93 #[.slice A n c,.pointer (some ⟨ew,0,none⟩)] w fun e w'=>∃b1 b2,e = .returned (.func (.func 144) #[] #[.pointer (some ⟨b1,0,none⟩),.pointer (some ⟨b2,0,none⟩)])/\Row w' b1 24 #[.slice A n c]/\Row w' b2 174 #[.pointer (some ⟨ew,0,none⟩)]/\w.heap.size<=b1/\w.heap.size<=b2/\b1<b2/\Ext w w':=by
 go_in
 go_wp2_with fail;go_ret;have h1:=Row.new w 24 #[.slice A n c];have h2:=Row.new (w.alloc (.cells #[.slice A n c] 24)) 174 #[.pointer (some ⟨ew,0,none⟩)];rw[World.size_alloc]at h2;exact⟨w.heap.size,w.heap.size+1,rfl,h1.alloc _,h2,Nat.le_refl _,by omega,by omega,((Ext.refl w).alloc _).alloc _⟩
theorem NU {base n c:Nat} (hb:Buf w base e A n c xs) (b:w.grownBy w1 (Value.slice A n c).ownBlock) (hk:k<base) (j:k<w.heap.size):w1.heap[k]? = w.heap[k]? :=
 b.block k j fun h=>by
  cases A with
  | none=>simp[Value.ownBlock]at h
  | some a =>
   have:=hb.base_le a rfl;simp[Value.ownBlock]at h;omega
theorem PayOk.grown {x:Pay} {base n c:Nat} (h:PayOk w x) (hb:Buf w base e A n c xs) (T:w.grownBy w1 (Value.slice A n c).ownBlock) (O:5≠e):PayOk w1 x:=by
 obtain⟨b,Y⟩:=h;refine⟨b,Y.grown T fun a U j=>?_⟩;rcases hb.2.2 with ⟨J,_⟩ | ⟨g',cur,H,_,Z,_⟩
 ·subst J;simp[Value.ownBlock]at j
 ·subst H;simp[Value.ownBlock]at j;exact Y.unlike Z O a U j.symm
theorem PayOk.set {x:Pay} (h:PayOk w x) (a:Row w g t cs) (ht:5≠t) (i:Nat) (u:Value):PayOk (w.setCell ⟨g,i,none⟩ u) x:=by
 obtain⟨b,j⟩:=h;exact⟨b,j.setCell (j.unlike a ht) u⟩
def SpI (h bs b1 b2:Nat) (V1:Value) (w:World) (pre:List Pay) (W:World):Prop :=
 ∃L c z,Row W h 22 #[.slice L pre.length c]/\Row W (h+1) 3 #[.int .i64 z]/\Row W (h+2) 25 #[.int .i64 0]/\Buf W bs 24 L pre.length c (pre.map Pay.val)/\(∀x∈pre,PayOk W x)/\Row W b1 24 #[V1]/\Row W b2 174 #[.pointer (some ⟨h+2,0,none⟩)]/\Ext w W/\bs<=W.heap.size
theorem PayOk.ext {x:Pay} (h:PayOk W x) (j:Ext W W1):PayOk W1 x:=by obtain⟨b,hb⟩:=h;exact⟨b,hb.ext j⟩
theorem PayOk.alike {x:Pay} (h:PayOk W x) (j:Alike B W W1):PayOk W1 x:=by obtain⟨b,hb⟩:=h;exact⟨b,j.buf hb⟩
theorem SpI.ext {h bs b1 b2:Nat} {pre:List Pay} (hi:SpI h bs b1 b2 V1 w pre W) (j:Ext W W1):SpI h bs b1 b2 V1 w pre W1:=by
 obtain⟨L,c,z,r1,r2,r3,hb,a,q1,q2,b,hs⟩:=hi;exact⟨L,c,z,r1.ext j,r2.ext j,r3.ext j,hb.ext j,fun x H=>(a x H).ext j,q1.ext j,q2.ext j,b.trans j,Nat.le_trans hs j.size⟩
theorem SpI.alike {h bs b1 b2 B:Nat} {pre:List Pay} (hi:SpI h bs b1 b2 V1 w pre W) (j:Alike B W W1) (b:w.heap.size<=B):SpI h bs b1 b2 V1 w pre W1:=by
 obtain⟨L,c,z,r1,r2,r3,hb,H,q1,q2,a,hs⟩:=hi;exact⟨L,c,z,j.row r1,j.row r2,j.row r3,j.buf hb,fun x Y=>(H x Y).alike j,j.row q1,j.row q2,j.ext a b,Nat.le_trans hs j.size⟩
def SplitW (w:World) (b:List UInt8) (e:Ending) (w':World):Prop:=∃L c z,∃ps:List Pay,e = .returned (.tuple #[.slice L ps.length c,.int .i64 z,.int .i64 ((splitF b).2:Int)])/\Cells w' L (ps.map Pay.val)/\pays ps=(splitF b).1/\(∀x∈ps,PayOk w' x)/\Ext w w'
theorem OC (A:Option Addr) (n c:Nat) (b:List UInt8) (w:World) (h:In8 w A n c b) (a2:n<=1000000000) :
 Calls prog 53 #[.slice A n c] w fun e w'=>SplitW w b e w':=by
 replace h:=Aa h;refine(callsIn_wide (n:=0)).1 ?_;refine callsIn_of_wp_marks func53 rfl trivial ?_;simp only[ntmps53,List.size_toArray,List.length_cons,List.length_nil,Nat.reduceAdd,Nat.reduceSub,Array.replicate_succ,Array.replicate_zero,List.push_toArray,List.append_toArray,List.nil_append,List.cons_append];gi_wp2_with fail;obtain⟨W3,Y⟩:=Ab (((w.alloc (Obj.cells #[Value.slice none 0 0] 22)).alloc (Obj.cells #[Value.int IntKind.i64 0] 3)).alloc (Obj.cells #[Value.int IntKind.i64 0] 25));rw[<-Y];obtain⟨h1,H⟩:=Ab w.heap.size;have q1:Row W3 h1 22 #[.slice none 0 0]:=by rw[Y,H];exact((Row.new w _ _).alloc _).alloc _
 have q2:Row W3 (h1+1) 3 #[.int .i64 0]:=by
  have:=Row.new (w.alloc (Obj.cells #[Value.slice none 0 0] 22)) 3 #[.int .i64 0];rw[World.size_alloc,<-H]at this;rw[Y];exact this.alloc _
 have q3:Row W3 (h1+2) 25 #[.int .i64 0]:=by
  have:=Row.new ((w.alloc (Obj.cells #[Value.slice none 0 0] 22)).alloc (Obj.cells #[Value.int IntKind.i64 0] 3)) 25 #[.int .i64 0];rw[World.size_alloc,World.size_alloc,<-H]at this;rw[Y];exact this
 have k0:Ext w W3:=by rw[Y];exact(((Ext.refl w).alloc _).alloc _).alloc _
 have d0:W3.heap.size=h1+3:=by rw[Y,H];simp
 rw[<-H];refine(callsIn_wide.2 (LG A n c (h1+2) W3)).mono ?_;rintro e w4 ⟨b1,b2,rfl,rb1,rb2,h2,j2,h3,a⟩;obtain⟨bs,x3⟩:=Ab w4.heap.size;have f0:SpI h1 bs b1 b2 (.slice A n c) w [] w4:=⟨none,0,0,q1.ext a,q2.ext a,q3.ext a,Buf.nil _ _ _,nofun,rb1,rb2,k0.trans a,by omega⟩
 have v0:=Kd A n c b h1 b1 b2 (h1+2) w w4 h.out (by omega) (k0.trans a) a2 rb1 rb2 (q3.ext a);rw[d0]at h2 j2;have j:w.heap.size<=w4.heap.size:=(k0.trans a).size;have p3:=rb2.lt;have m3:=(q3.ext a).lt;have j3:w.heap.size<=bs:=by omega
 replace f0:=Aa f0;replace v0:=Aa v0;replace Y:=Aa Y;replace H:=Aa H;clear q1 q2 q3 k0 a rb1 rb2 d0;gi_wp2_with fail;unfold FrIter at v0;refine C8 (gf:=144) (lb:=#[.pointer (some ⟨b1,0,none⟩),.pointer (some ⟨b2,0,none⟩)]) rfl (enters_of func144 (by kernel_rfl) rfl) v0.out (fun _=>rfl) (fun _ _ h=>h.others) ?fin (KeepS.trans h1 _) ?kb
  (fun pre W=>SpI h1 bs b1 b2 (.slice A n c) w pre W) (fun pre A B h ha=>h.alike ha j) (fun pre A B h T=>h.ext T) ?h0 ?hround ?hdone
 case fin =>
  rintro xs A B (⟨_,T⟩ | ⟨k,W3,_,_,T,rfl⟩)
  ·exact T.others
  ·exact T.others.trans (KeepsOthers.setCell _ _ _)
 case kb=>exact KeepS.alike (by omega) (fun k hk=>by omega)
 case h0=>exact fun W ha=>f0.out.alike ha j
 case hround =>
  rintro l pre ⟨P,cp,p,z⟩ W hI ⟨x0,r,l0⟩;unfold Pay.val;simp only;obtain⟨pl,y0⟩:=Ab p.length;rw[<-y0];replace y0:=Aa y0;replace hI:=Aa hI;replace x0:=Aa x0;replace l0:=Aa l0;gi_wp2_with fail;refine⟨KeepsOthers.refl _,KeepS.refl _ _ _,fun W2 e0=>?_⟩;have i1:=hI.out.alike e0 j;have r0:=Aa (x0.out.alike e0);clear e0 hI x0;obtain⟨L,cl,z0,r1,r2,r3,hb,I,g1,g2,G,m1⟩:=i1;have j1:pre.length<=4000000000:=by
   have h1:=JC b;rw[l0.out]at h1;simp only[pays,List.length_append,List.length_map,List.length_cons]at h1;have:=h.out.len;omega
  have k1:=r1.cell 0 rfl;have J:=Aa (hb.alloc (.cells #[.slice P pl cp] 24));have a1:=Aa (AN W2 [.slice P pl cp] 24);have x1:bs<=(W2.alloc (.cells #[.slice P pl cp] 24)).heap.size:=by rw[World.size_alloc];omega
  obtain⟨m,hm⟩:=Ab pre.length;rw[<-hm]at j1 k1 J r1 hb;replace hm:=Aa hm;replace r1:=Aa r1;replace r2:=Aa r2;replace r3:=Aa r3;replace hb:=Aa hb;replace I:=Aa I;replace g1:=Aa g1;replace g2:=Aa g2;replace G:=Aa G;obtain⟨Wa,Z⟩:=Ab (W2.alloc (.cells #[.slice P pl cp] 24));have j0:Ext W2 Wa:=by rw[Z];exact(Ext.refl W2).alloc _
  have m0:=Aa j0;have ra1:=Aa (r1.out.ext j0);have ra2:=Aa (r2.out.ext j0);rw[<-Z]at J a1 x1;replace Z:=Aa Z;clear j0;gi_wp2_with (gi_at_builtin;rw[<-Z.out];refine Bu Rw J.out a1.out (.tmp 11) (.tmp 13) rfl rfl rfl rfl rfl rfl (by simp[Value.oneCell']) (by omega) x1 (fun A6 c6 w6 g0 U n0 o0=>?_);have r16:=Cu J.out U ra1.out (by decide);have r26:=Cu J.out U ra2.out (by decide);have u1:=r16.cell 0 rfl;have u2:=r16.free 0;have r27:=r26.away (p:=⟨h1,0,none⟩) (by simp) (.slice A6 (m+1) c6);have u3:=r27.cell 0 rfl;have u4:=r27.free 0;replace r16:=Aa r16;replace r26:=Aa r26;replace r27:=Aa r27;replace g0:=Aa g0;replace U:=Aa U;replace n0:=Aa n0;replace o0:=Aa o0);have O:∀k,k<h1+3\/k=b1\/k=b2->k≠h1->k≠h1+1->((w6.setCell ⟨h1,0,none⟩ (.slice A6 (m+1) c6)).setCell ⟨h1+1,0,none⟩ (.int .i64 z)).heap[k]? = W2.heap[k]? :=fun k hk n1 n2=>by
   have y2:k<bs:=by omega
   rw[Below.heap_setCell _ _ _ k n2,Below.heap_setCell _ _ _ k n1,NU J.out U.out y2 (by omega)];exact Below.block m0.out k (by omega)
  have d1:∀w0:World,w0.heap.size<=h1->Ext w0 W2->Ext w0 ((w6.setCell ⟨h1,0,none⟩ (.slice A6 (m+1) c6)).setCell ⟨h1+1,0,none⟩ (.int .i64 z)):=fun w0 h0 T=>((n0.out w0 (T.trans m0.out) (by omega)).setCell (p:=⟨h1,0,none⟩) h0 _).setCell (p:=⟨h1+1,0,none⟩) (by show w0.heap.size<=h1+1;omega) _;have a3:=U.out.size;have m2:Buf ((w6.setCell ⟨h1,0,none⟩ (.slice A6 (m+1) c6)).setCell ⟨h1+1,0,none⟩ (.int .i64 z)) bs 24 A6 (m+1) c6 (pre.map Pay.val ++ [.slice P pl cp]):=by
   have q:=g0.out.setCell (p:=⟨h1,0,none⟩) (g0.out.unlike r16.out (by decide)) (.slice A6 (m+1) c6);exact q.setCell (p:=⟨h1+1,0,none⟩) (q.unlike r27.out (by decide)) _
  have d2:∀x∈pre ++ [(P,cp,p,z)],PayOk ((w6.setCell ⟨h1,0,none⟩ (.slice A6 (m+1) c6)).setCell ⟨h1+1,0,none⟩ (.int .i64 z)) x:=fun x hx=>by
   have i2:PayOk W2 x:=by
    rcases List.mem_append.1 hx with h | h
    ·exact I.out x h
    ·rw[List.mem_singleton.1 h];exact r0.out
   exact(((i2.ext m0.out).grown J.out U.out (by decide)).set r16.out (by decide) 0 _).set r27.out (by decide) 0 _
  refine⟨((m0.out.others.trans (BL J.out U.out)).trans (KeepsOthers.setCell _ _ _)).trans (KeepsOthers.setCell _ _ _),⟨d1,fun k hk o ho=>?_⟩,A6,c6,z,?_,?_,?_,?_,d2,?_,?_,d1 w (by have:=H.out;omega) G.out,?_⟩
  ·rw[O k (by omega) (by omega) (by omega)];exact ho
  ·rw[List.length_append,<-hm.out];exact(r16.out.put 0 _).away (by simp) _
  ·exact r27.out.put 0 _
  ·unfold Row;rw[O _ (by omega) (by omega) (by omega)];exact r3.out
  ·rw[List.length_append,<-hm.out,List.map_append];unfold Pay.val;simp only[List.map_cons,List.map_nil];rw[<-y0.out];exact m2
  ·unfold Row;rw[O _ (by omega) (by omega) (by omega)];exact g1.out
  ·unfold Row;rw[O _ (by omega) (by omega) (by omega)];exact g2.out
  ·simp;omega
 case hdone =>
  rintro D xs W2 W3 W4 hD hI hF hA hk;have o1:∃L c z,Row W4 h1 22 #[.slice L xs.length c]/\Row W4 (h1+1) 3 #[.int .i64 z]/\Row W4 (h1+2) 25 #[.int .i64 ((splitF b).2:Int)]/\Buf W4 bs 24 L xs.length c (xs.map Pay.val)/\(∀x∈xs,PayOk W4 x)/\Ext w W4/\pays xs=(splitF b).1:=by
   rcases hF with ⟨hs,T⟩ | ⟨k,W5,y3,hs,T,rfl⟩
   ·obtain⟨L,c,z,r1,r2,r3,hb,I,q1,q2,G,m1⟩:=(hI.ext T).alike hA j;rw[hs];exact⟨L,c,z,r1,r2,r3,hb,I,G,rfl⟩
   ·obtain⟨L,c,z,r1,r2,r3,hb,I,q1,q2,G,m1⟩:=hI.ext T;rw[hs];refine⟨L,c,z,hA.row (r1.away (by simp) _),hA.row (r2.away (by simp) _),hA.row (r3.put 0 _),hA.buf (hb.setCell (hb.unlike r3 (by decide)) _),fun x hx=>((I x hx).set r3 (by decide) 0 _).alike hA,hA.ext (G.setCell (by show w.heap.size<=h1+2;have:=H.out;omega) _) j,rfl⟩
  obtain⟨L,cl,z,r1,r2,r3,hb,I,G,i0⟩:=o1;have k1:=r1.cell 0 rfl;have k2:=r2.cell 0 rfl;have k3:=r3.cell 0 rfl;have f1:=r1.free 0;have f2:=r2.free 0;have f3:=r3.free 0;obtain⟨m,hm⟩:=Ab xs.length;rw[<-hm]at r1 k1 hb;obtain⟨ec,t0⟩:=Ab ((splitF b).2);rw[<-t0]at r3 k3;replace r1:=Aa r1;replace r2:=Aa r2;replace r3:=Aa r3;replace hb:=Aa hb;replace I:=Aa I;replace G:=Aa G;replace hm:=Aa hm;replace t0:=Aa t0;replace i0:=Aa i0;replace hk:=Aa hk;clear hI hF hA;gi_wp2_with fail;refine wpIn_wide.2 ?_;go_region;rw[show h1+1+1=h1+2 from rfl,r1.out.same rfl,r2.out.same rfl,r3.out.same rfl];gi_wp2_with fail;have x2:W4.drew.heap[D]? = some (.deferred (some [])):=hk.out;refine BR (B:=w4.heap.size) rfl x2 hD fun W ha=>⟨_,Hg rfl _ _ rfl rfl rfl (BX ((ha.row r1.out).cell 0 rfl) underlying22 rfl) (BX ((ha.row r2.out).cell 0 rfl) underlying3 rfl) (BX ((ha.row r3.out).cell 0 rfl) underlying25 rfl),L,cl,z,xs,?_,?_,i0.out,?_,?_⟩
  ·rw[<-hm.out,<-t0.out];rfl
  ·exact(ha.buf hb.out.drew).cells
  ·exact fun x hx=>((I.out x hx).ext (Ext.refl W4).drew).alike ha
  ·exact ha.ext G.out.drew j
end
section
open Go.RowKit
attribute [local go_sem] Oper.semAt_some AP Cp
theorem Jg (a b:List UInt8):(ByteArray.mk a.toArray++ByteArray.mk b.toArray)=⟨(a++b).toArray⟩:=by
 apply ByteArray.ext;rw[ByteArray.data_append];simp
theorem Lx:Elem prog 155 157 2 40:=⟨underlying155,⟨_,_,rfl,rfl,rfl,rfl,rfl⟩,by omega,by omega⟩
theorem DX (D:List TmV) (x:TmV):tcs (D ++ [x])=tcs D++tcell x:=by
 unfold tcs;rw[List.flatMap_append];simp
def oneT (l:List (List UInt8×Int)):List (List UInt8×List Int):=l.map fun p=>(p.1,[p.2])
theorem N2 (l:List (List UInt8×Int)) (p:List UInt8×Int):oneT (l ++ [p])=oneT l ++ [(p.1,[p.2])]:=by unfold oneT;rw[List.map_append];rfl
section
variable {w w1 w0:World} {base n:Nat} {e:TypeId} {size:Nat} {v:Value} {xs:List Value}
theorem Jn (H:w.ownsRow base e size v n xs) (a:w.grownBy w1 v.ownBlock) (j:Row w g t cs) (ht:t≠e):Row w1 g t cs :=
 j.grown a fun h=>by
  obtain⟨cur,b,_⟩:=Ae H h.symm;exact j.unlike b ht rfl
theorem FH (Y:w.ownsRow base e size v n xs) (a:w.grownBy w1 v.ownBlock):KeepsOthers w w1 :=
 KeepsOthers.of_grownBy a fun j o H h=>by
  obtain⟨cur,b,_⟩:=Ae Y H;unfold Row at b;rw[b]at h;injection h with h;subst h;rfl
theorem CX (b:w.ownsRow base e size v n xs) (j:w.grownBy w1 v.ownBlock) (h:Ext w0 w) (hb:w0.heap.size<=base):Ext w0 w1 :=
 h.grown j fun k hk=>by obtain⟨_,_,a⟩:=Ae b hk;omega
theorem Ci (J:w.ownsRow base e size v n xs) (Y:w.grownBy w1 v.ownBlock) {b:Nat} (hb:Buf w b t A m c ys) (ht:t≠e):Buf w1 b t A m c ys :=
 hb.grown Y fun a j h=>by
  obtain⟨cur,H,_⟩:=Ae J h;exact hb.unlike H ht a j rfl
end
theorem FU {l x:List UInt8} (h:x∈tokL l):x.length<=32:=by
 unfold tokL at h;obtain⟨y,_,rfl⟩:=List.mem_map.1 h;exact JZ y [] (by simp)
theorem Iv {base:Nat} {f:Fd} {x:List UInt8} (h:(tokL f.2)[i]? = some x):(fieldT base f)[i]? = some (f.1++58::x,((base+i:Nat):Int)):=by
 unfold fieldT;rw[List.getElem?_map,List.getElem?_zipIdx,h];simp
theorem CH:∀(fs:List Fd) (b:Nat),(∀f∈fs,f.2.length<=k)->(rawT b fs).length<=k*fs.length
 | [],b,_=>by simp[rawT]
 | f::fs,b,h=>by
  have h1:=CH fs (nextT b f) fun g j=>h g (List.mem_cons_of_mem _ j);have h2:=CK f.2;have a:=h f (List.mem_cons_self ..);unfold rawT;rw[List.length_append,CB,List.length_cons,Nat.mul_add];omega
theorem EN:∀(fs:List Fd) (b:Nat),(∀f∈fs,f.2.length<=k)->baseT b fs<=b+(64+k)*fs.length
 | [],b,_=>by simp[baseT]
 | f::fs,b,h=>by
  have h1:=EN fs (nextT b f) fun g j=>h g (List.mem_cons_of_mem _ j);have h2:=CK f.2;have a:=h f (List.mem_cons_self ..);unfold baseT;unfold nextT at h1 ⊢;rw[List.length_cons,Nat.mul_add];omega
theorem JF {l:List (List UInt8)} {x:List UInt8} (b:l[i]? = some x) {j:Nat} (h:j<2):(tkV l)[i*2+j]? = [Value.string ⟨x.toArray⟩,.int .i64 (i:Int)][j]? :=by
 unfold tkV;refine AW (cellsA:=fun p:List UInt8×Nat=> [Value.string ⟨p.1.toArray⟩,.int .i64 (p.2:Int)]) (k:=2) (fun _=>rfl) l.zipIdx i (x,i) j ?_ h;rw[List.getElem?_zipIdx,b];simp
theorem Si {base n c:Nat} {l:List (List UInt8)} (h:w.ownsRow base 207 2 (.slice A n c) n (tkV l)) (hk:∀g cs,Row w g 207 cs->Row w1 g 207 cs) {x:List UInt8} (a:l[i]? = some x) :
 ∃g o,A=some ⟨g,o,none⟩/\w1.cell? ⟨g,o+i*2,none⟩=some (.string ⟨x.toArray⟩)/\w1.cell? ⟨g,o+i*2+1,none⟩=some (.int .i64 (i:Int)):=by
 have H:=JF a (j:=0) (by omega);have h1:=JF a (j:=1) (by omega);rcases h with ⟨T,⟨_,h2⟩ | ⟨g,cap,cur,J,hb,Y,hn,U,hs,ht⟩⟩
 ·have:=(List.getElem?_eq_some_iff.1 a).1;have O:(tkV l).length=l.length*2:=by unfold tkV;rw[AU (cellsA:=fun p:List UInt8×Nat=> [Value.string ⟨p.1.toArray⟩,.int .i64 (p.2:Int)]) (k:=2) (fun _=>rfl),List.length_zipIdx]
  omega
 ·cases J;have key:∀(j:Nat) (v:Value),(tkV l)[j]? = some v->w1.cell? ⟨g,j,none⟩=some v:=fun j v b=>by
   rw[(hk g cur Y).get];rw[<-ht,List.getElem?_take]at b;split at b
   ·simpa using b
   ·cases b
  exact⟨g,0,rfl,by rw[Nat.zero_add];exact key _ _ H,by rw[Nat.zero_add];exact key _ _ h1⟩
def TI (base h:Nat) (Z:List (List UInt8×Int)) (w W:World):Prop :=
 ∃L c D,Row W h 155 #[.slice L D.length c]/\W.ownsRow base 157 2 (.slice L D.length c) D.length (tcs D)/\TmsOk W base D (oneT Z)/\Ext w W
theorem TI.ext {base h:Nat} {Z:List (List UInt8×Int)} (hi:TI base h Z w W) (j:Ext W W1):TI base h Z w W1:=by
 obtain⟨L,c,D,r,o,t,e⟩:=hi;exact⟨L,c,D,r.ext j,j.owns o,t.ext j,e.trans j⟩
theorem TI.alike {base h B:Nat} {Z:List (List UInt8×Int)} (hi:TI base h Z w W) (j:Alike B W W1) (b:w.heap.size<=B):TI base h Z w W1:=by
 obtain⟨L,c,D,r,o,t,e⟩:=hi;exact⟨L,c,D,j.row r,j.owns o,t.keep fun _ _ _ _ hb=>j.buf hb,j.ext e b⟩
def ptsOf (w:World) (x:Option Addr×Nat×Nat):List Int:=match x.1 with
 | none=> []
 | some a=>(List.range x.2.1).map fun i=>match w.cell? ⟨a.block,a.off+i,none⟩with
  | some (.int _ z)=>z
  | _=>0
theorem N6 {base:Nat} {l:List Int} (h:Buf w base t A n c (l.map IV)):ptsOf w (A,n,c)=l:=by
 have j:=h.cells;have H:=h.1;rw[List.length_map]at H;unfold ptsOf;rcases j with j | ⟨g,o,rfl,j⟩
 ·have:l = []:=List.map_eq_nil_iff.1 j;subst this;cases A with
  | none=>rfl
  | some a =>
   simp only;simp at H;rw[<-H];rfl
 ·simp only;apply List.ext_getElem?;intro i;rw[List.getElem?_map];show Option.map _ ((List.range n)[i]?)=_;by_cases hi:i<n
  ·rw[List.getElem?_range hi];have b:i<l.length:=by omega
   have:=j i (IV l[i]) (by rw[List.getElem?_map,List.getElem?_eq_getElem b];rfl);simp only[Option.map_some,this,IV];rw[List.getElem?_eq_getElem b]
  ·rw[List.getElem?_eq_none (by rw[List.length_range];omega),List.getElem?_eq_none (by omega)];rfl
end
section
open Go.RowKit
theorem Dw {e:Ev} {p:List UInt8×List Int} (h:p∈termsL e):checkE e.fs=0/\p.2=valsOf (rawT 0 e.fs) p.1/\p.2 ≠ []:=by
 unfold termsL at h;split at h
 ·rename_i j;exact⟨j,((BM _).mem p).1 h⟩
 ·cases h
theorem Ky:∀(fs:List Fd) (b:Nat) (q:List UInt8×Int),q∈rawT b fs->∃f∈fs,∃w∈tokL f.2,q.1=f.1++58::w
 | [],b,q,h=>by cases h
 | f::fs,b,q,h=>by
  unfold rawT at h;rcases List.mem_append.1 h with h | h
  ·unfold fieldT at h;obtain⟨p,H,rfl⟩:=List.mem_map.1 h;obtain⟨w,i⟩:=p;have:=List.mem_zipIdx H;exact⟨f,List.mem_cons_self ..,w,by rw[this.2.2];exact List.getElem_mem _,rfl⟩
  ·obtain⟨g,a,w,Y,j⟩:=Ky fs _ q h;exact⟨g,List.mem_cons_of_mem _ a,w,Y,j⟩
theorem Fv {β:Type} {ps:List (List UInt8×β)} (h:valsOf ps s ≠ []):∃p∈ps,p.1=s:=Decidable.byContradiction fun hn=>h (Df fun p j e=>hn ⟨p,j,e⟩)
theorem HM {β:Type} (ps:List (List UInt8×β)) (s:List UInt8):(valsOf ps s).length<=ps.length:=by
 unfold valsOf;rw[List.length_map];exact List.length_filter_le ..
theorem EH {e:Ev} {p:List UInt8×List Int} (h:p∈termsL e):1<=p.1.length/\p.1.length<=65:=by
 obtain⟨b,h1,h2⟩:=Dw h;rw[h1]at h2;obtain⟨q,J,j⟩:=Fv h2;obtain⟨f,H,w,U,a⟩:=Ky _ _ q J;have Y:=(AM b).2 f H;have O:=FU U;rw[<-j,a,List.length_append,List.length_cons];omega
theorem Jd {e:Ev} {p:List UInt8×List Int} (h:p∈termsL e):p.2.length<=65536:=by
 obtain⟨j,h1,h2⟩:=Dw h;have a:=HM (rawT 0 e.fs) p.1;have H:=CH (k:=4096) e.fs 0 fun f b=>((AM j).2 f b).2;have Y:=(AM j).1;rw[h1];omega
theorem JI {β:Type} (p:List UInt8×β):∀(l:List (List UInt8×List β)),(addG p l).length<=l.length+1
 | []=>by simp[addG]
 | x::xs=>by
  have:=JI p xs;unfold addG;split
  ·simp only[List.length_cons];omega
  ·split
   ·simp only[List.length_cons];omega
   ·simp only[List.length_cons];omega
theorem Iy {β:Type}:∀(ps:List (List UInt8×β)) (l:List (List UInt8×List β)),(ps.foldl (fun l p=>addG p l) l).length<=l.length+ps.length
 | [],l=>by simp
 | p::ps,l=>by
  have h1:=Iy ps (addG p l);have h2:=JI p l;rw[List.foldl_cons,List.length_cons];omega
theorem EX {β:Type} (ps:List (List UInt8×β)):(grp ps).length<=ps.length:=by
 have:=Iy ps [];unfold grp;simpa using this
theorem MD (e:Ev):(termsL e).length<=65536:=by
 unfold termsL;split
 ·rename_i h;have b:=EX (rawT 0 e.fs);have a:=CH (k:=4096) e.fs 0 fun f j=>((AM h).2 f j).2;have H:=(AM h).1;omega
 ·simp
end
section
open Go.RowKit
section
variable {β:Type}
def gsum (f:β->Nat) (r:List (List UInt8×List β)):Nat:=(r.map fun x=>(x.2.map f).sum).sum
theorem Ki (f:β->Nat) (p:List UInt8×β):∀(l:List (List UInt8×List β)),gsum f (addG p l)=gsum f l+f p.2
 | []=>by simp[addG,gsum]
 | x::xs=>by
  have ih:=Ki f p xs;unfold gsum at ih ⊢;unfold addG;split
  ·simp only[List.map_cons,List.sum_cons];omega
  ·split
   ·simp only[List.map_cons,List.sum_cons,List.map_append,List.sum_append,List.map_nil,List.sum_nil];omega
   ·simp only[List.map_cons,List.sum_cons,List.map_nil,List.sum_nil];omega
theorem IC (f:β->Nat):∀(ps:List (List UInt8×β)) (l:List (List UInt8×List β)),gsum f (ps.foldl (fun l p=>addG p l) l)=gsum f l+(ps.map fun p=>f p.2).sum
 | [],l=>by simp
 | p::ps,l=>by
  rw[List.foldl_cons,IC f ps,Ki,List.map_cons,List.sum_cons];omega
theorem EZ (f:β->Nat) (ps:List (List UInt8×β)):gsum f (grp ps)=(ps.map fun p=>f p.2).sum:=by
 unfold grp;rw[IC];simp[gsum]
theorem GR (r:List (List UInt8×List β)):gsum (fun _=>1) r=(r.map fun x=>x.2.length).sum:=by
 unfold gsum;congr 1;refine List.map_congr_left fun x _=>?_
 induction x.2 with
 | nil=>rfl
 | cons y ys ih=>rw[List.map_cons,List.sum_cons,ih,List.length_cons];omega
theorem JE (ps:List β):(ps.map fun _=>1).sum=ps.length:=by
 induction ps with
 | nil=>rfl
 | cons y ys ih=>rw[List.map_cons,List.sum_cons,ih,List.length_cons];omega
end
theorem Hf:∀(fs:List Fd) (b:Nat),(rawT b fs).length<=(putFs fs).length
 | [],b=>by simp[rawT]
 | f::fs,b=>by
  have h1:=Hf fs (nextT b f);have h2:=CK f.2;have j:f.2.length<=(putF f).length:=by unfold putF txL;simp only[List.length_append];omega
  have h:putFs (f::fs)=putF f++putFs fs:=rfl;unfold rawT;rw[h,List.length_append,CB,List.length_append];omega
theorem MF (e:Ev):((termsL e).map fun p=>p.2.length).sum<=(putE e).length:=by
 unfold termsL;split
 ·have h1:=EZ (fun _=>1) (rawT 0 e.fs);rw[GR,JE]at h1;rw[h1];have h2:=Hf e.fs 0;unfold putE;simp only[List.length_append];omega
 ·simp
theorem K3 (e:Ev):(termsL e).length<=(putE e).length:=by
 unfold termsL;split
 ·have h1:=EX (rawT 0 e.fs);have h2:=Hf e.fs 0;unfold putE;simp only[List.length_append];omega
 ·simp
theorem G6:∀(P:List Dc) (i:Nat) (lo:Int),((pairsD i P).map fun p=>p.2.2.length).sum<=(blockD lo P).length
 | [],i,lo=>by simp[pairsD]
 | d::t,i,lo=>by
  have h1:=G6 t (i+1) d.1;have h2:=MF d.2;unfold pairsD blockD oneD;rw[List.map_append,List.sum_append,List.map_map];simp only[List.length_append];have h:(((termsL d.2).map ((fun(p:List UInt8×Po)=>p.2.2.length)∘fun p=>(p.1,((i:Int),p.2))))).sum=((termsL d.2).map fun p=>p.2.length).sum:=rfl;omega
theorem G4:∀(P:List Dc) (i:Nat) (lo:Int),(pairsD i P).length<=(blockD lo P).length
 | [],i,lo=>by simp[pairsD]
 | d::t,i,lo=>by
  have h1:=G4 t (i+1) d.1;have h2:=K3 d.2;unfold pairsD blockD oneD;rw[List.length_append,List.length_map];simp only[List.length_append];omega
theorem Nc {n:Int}:∀ {l:List Int} {lo:Int},l.Pairwise (fun a b=>a<b)->(∀x∈l,lo<x/\x<n)->risB n lo l=true
 | [],lo,_,_=>rfl
 | x::t,lo,Y,h=>by
  obtain⟨h1,h2⟩:=List.pairwise_cons.1 Y;have j:=h x (List.mem_cons_self ..);unfold risB;rw[Nc h2 fun y H=>⟨h1 y H,(h y (List.mem_cons_of_mem _ H)).2⟩];simp[j.1,j.2]
theorem Nb:∀(fs:List Fd) (b:Nat),(rawT b fs).Pairwise (fun x y=>x.2<y.2)/\∀x∈rawT b fs,(b:Int)<=x.2/\x.2<(baseT b fs:Nat)
 | [],b=>⟨List.Pairwise.nil,nofun⟩
 | f::fs,b=>by
  obtain⟨h1,h2⟩:=Nb fs (nextT b f);have Y:nextT b f<=baseT (nextT b f) fs:=by
   have key:∀(fs:List Fd) (b:Nat),b<=baseT b fs:=fun fs=>by
    induction fs with
    | nil=>exact fun b=>Nat.le_refl _
    | cons g gs ih=>exact fun b=>Nat.le_trans (by unfold nextT;omega) (ih (nextT b g))
   exact key _ _
  have U:nextT b f=b+(64+(tokL f.2).length):=rfl;have a:∀x∈fieldT b f,(b:Int)<=x.2/\x.2<(b+(tokL f.2).length:Nat):=fun x h=>by
   unfold fieldT at h;obtain⟨p,O,rfl⟩:=List.mem_map.1 h;have:=List.mem_zipIdx O;simp only;omega
  have H:(fieldT b f).Pairwise (fun x y=>x.2<y.2):=by
   unfold fieldT;rw[List.pairwise_map];rw[List.pairwise_iff_getElem];intro i j hi Z J;simp only[List.getElem_zipIdx];omega
  unfold rawT baseT;refine⟨List.pairwise_append.2 ⟨H,h1,fun x h y T=>?_⟩,fun x h=>?_⟩
  ·have a1:=a x h;have a2:=h2 y T;omega
  ·rcases List.mem_append.1 h with h | h
   ·have a1:=a x h;omega
   ·have a2:=h2 x h;omega
theorem ME {e:Ev} {p:List UInt8×List Int} (h:p∈termsL e):risB 1048576 (-1) p.2=true:=by
 obtain⟨j,h1,h2⟩:=Dw h;obtain⟨r1,r2⟩:=Nb e.fs 0;have hb:=EN (k:=4096) e.fs 0 fun f b=>((AM j).2 f b).2;have Y:=(AM j).1;rw[h1];unfold valsOf;refine Nc ?_ fun x H=>?_
 ·rw[List.pairwise_map];exact r1.sublist List.filter_sublist
 ·obtain⟨q,a,rfl⟩:=List.mem_map.1 H;have:=r2 q (List.mem_filter.1 a).1;omega
theorem KD {β:Type} {s:List UInt8}:∀ {l:List (List UInt8×β)},Ris l->(valsOf l s).length<=1
 | [],_=>by simp[valsOf]
 | x::t,h=>by
  obtain⟨h1,h2⟩:=List.pairwise_cons.1 h;have ih:=KD (s:=s) h2;rw[K7];split
  ·rename_i j;rw[Df fun y b e=>by
    have:=h1 y b;rw[e,j]at this;exact List.lt_irrefl _ this]
   simp
  ·simpa using ih
theorem ED (s:List UInt8):∀(P:List Dc) (i:Nat) (lo:Int),lo<i->i+P.length<=65536 ->
 risB 65536 lo ((valsOf (pairsD i P) s).map (·.1))=true/\∀x∈valsOf (pairsD i P) s,(decide (0<x.2.length)&&risB 1048576 (-1) x.2)=true
 | [],i,lo,_,_=>⟨rfl,nofun⟩
 | d::t,i,lo,h1,h2=>by
  rw[List.length_cons]at h2;unfold pairsD;rw[AK,EJ (fun x:List Int=>((i:Int),x))];have J:Ris (termsL d.2):=by
   unfold termsL;split
   ·exact(BM _).up
   ·exact List.Pairwise.nil
  have j:=KD (s:=s) J;have h:∀x∈valsOf (termsL d.2) s,(decide (0<x.length)&&risB 1048576 (-1) x)=true:=fun x Y=>by
   unfold valsOf at Y;obtain⟨p,b,rfl⟩:=List.mem_map.1 Y;have b:=(List.mem_filter.1 b).1;rw[ME b,Bool.and_true];exact decide_eq_true (List.length_pos_iff.2 (Dw b).2.2)
  cases U:valsOf (termsL d.2) s with
  | nil =>
   have ih:=ED s t (i+1) lo (by omega) (by omega);simpa using ih
  | cons x xs =>
   rw[U]at j h;have a:xs = []:=by
    cases xs with
    | nil=>rfl
    | cons y ys=>simp at j
   subst a;have ih:=ED s t (i+1) i (by omega) (by omega);refine⟨?_,fun y H=>?_⟩
   ·show risB 65536 lo ((i:Int)::(valsOf (pairsD (i+1) t) s).map (·.1))=true;unfold risB;rw[ih.1];simp[h1];omega
   ·rcases List.mem_cons.1 H with rfl | H
    ·exact h x (List.mem_cons_self ..)
    ·exact ih.2 y H
theorem Q5 {P:List Dc} (a:P.length<=65536) {r:List UInt8×List Po} (b:r∈rowsD P):okPs r.2=true/\r.2 ≠ []/\r.2=valsOf (pairsD 0 P) r.1:=by
 have h:=((BM (pairsD 0 P)).mem r).1 b;have j:=ED r.1 P 0 (-1) (by omega) (by omega);rw[<-h.1]at j;refine⟨?_,h.2,h.1⟩;unfold okPs;rw[j.1,Bool.true_and];exact List.all_eq_true.2 j.2
theorem G5:∀ {P:List Dc} {i:Nat} {q:List UInt8×Po},q∈pairsD i P->∃d∈P,∃p∈termsL d.2,p.1=q.1
 | [],i,q,h=>by cases h
 | d::t,i,q,h=>by
  unfold pairsD at h;rcases List.mem_append.1 h with h | h
  ·obtain⟨p,j,rfl⟩:=List.mem_map.1 h;exact⟨d,List.mem_cons_self ..,p,j,rfl⟩
  ·obtain⟨d',hd,r⟩:=G5 h;exact⟨d',List.mem_cons_of_mem _ hd,r⟩
theorem DW {P:List Dc} {r:List UInt8×List Po} (Y:r∈rowsD P):1<=r.1.length/\r.1.length<=65:=by
 have h:=((BM (pairsD 0 P)).mem r).1 Y;have h2:=h.2;rw[h.1]at h2;obtain⟨q,H,b⟩:=Fv h2;obtain⟨d,_,p,a,j⟩:=G5 H;have:=EH a;rw[j,b]at this;exact this
theorem Jx (P:List Dc):Ris (rowsD P):=(BM (pairsD 0 P)).up
theorem Ja:∀(l:List Int) (lo:Int),-1<=lo->risB 1048576 lo l=true->(stepsL lo l).length<=10*l.length
 | [],lo,_,_=>by simp[stepsL]
 | n::t,lo,b,h=>by
  obtain⟨h1,h2,j⟩:=BW h;have ih:=Ja t n (by omega) j;have a:=Ag (n:=(n - lo - 1).toNat) (by omega);unfold stepsL;rw[List.length_append,List.length_cons];omega
theorem Gz:∀(L:List Po) (lo:Int),-1<=lo->risB 65536 lo (L.map (·.1))=true->(∀x∈L,(decide (0<x.2.length)&&risB 1048576 (-1) x.2)=true)->(blockPo lo L).length<=20*L.length+10*(L.map fun x=>x.2.length).sum
 | [],lo,_,_,_=>by simp[blockPo]
 | p::t,lo,U,h,b=>by
  rw[List.map_cons]at h;obtain⟨h1,h2,a⟩:=BW h;have j:=b p (List.mem_cons_self ..);rw[Bool.and_eq_true]at j;have ih:=Gz t p.1 (by omega) a fun x J=>b x (List.mem_cons_of_mem _ J);have hs:=Ja p.2 (-1) (by omega) j.2;have O:=DU j.2 (by omega);have H:=Ag (n:=(p.1 - lo - 1).toNat) (by omega);have Y:=Ag (n:=p.2.length) (by omega);unfold blockPo onePo;simp only[List.length_append,List.length_cons,List.map_cons,List.sum_cons];omega
theorem GA {L:List Po} (h:okPs L=true):(blockPo (-1) L).length<=20*L.length+10*(L.map fun x=>x.2.length).sum:=by
 unfold okPs at h;rw[Bool.and_eq_true]at h;exact Gz L (-1) (by omega) h.1 (List.all_eq_true.1 h.2)
theorem J7 {L:List Po} (h:okPs L=true) (hs:20*L.length+10*(L.map fun x=>x.2.length).sum<=50000000):(encPs L).length<=10+40*L.length+10*(L.map fun x=>x.2.length).sum:=by
 have h1:=GA h;have h2:=E8 h (by omega) (chunkL 32 L).length;rw[List.take_length]at h2;have j:=AO (k:=32) (by omega) L;have b:=Ag (n:=L.length) (by omega);unfold encPs;simp only[List.length_append];omega
end
section
open Go.RowKit
theorem F5 {α:Type} {f g:α->Nat}:∀(l:List α),(∀x∈l,f x<=g x)->(l.map f).sum<=(l.map g).sum
 | [],_=>Nat.le_refl _
 | x::t,h=>by
  have h1:=h x (List.mem_cons_self ..);have h2:=F5 t fun y j=>h y (List.mem_cons_of_mem _ j);simp only[List.map_cons,List.sum_cons];omega
theorem Dq {α:Type} {f:α->Nat}:∀ {l:List α} {x:α},x∈l->f x<=(l.map f).sum
 | y::t,x,h=>by
  rw[List.map_cons,List.sum_cons];rcases List.mem_cons.1 h with rfl | h
  ·omega
  ·have:=Dq (f:=f) h;omega
theorem Nh {α:Type} (f g:α->Nat) (a b c:Nat):∀(l:List α),(l.map fun x=>a+b*f x+c*g x).sum=a*l.length+b*(l.map f).sum+c*(l.map g).sum
 | []=>by simp
 | x::t=>by
  have ih:=Nh f g a b c t;simp only[List.map_cons,List.sum_cons,List.length_cons,Nat.mul_add];omega
theorem N5 (rs:List (List UInt8×List Po)):(postB rs).length=(rs.map fun r=>(encPs r.2).length).sum:=by
 unfold postB
 induction rs with
 | nil=>rfl
 | cons r t ih=>rw[List.flatMap_cons,List.length_append,ih,List.map_cons,List.sum_cons]
theorem Cc:∀(rs:List (List UInt8×List Po)) (o:Nat),(enOf o rs).length=rs.length
 | [],o=>rfl
 | r::t,o=>by
  unfold enOf;rw[List.length_cons,Cc t,List.length_cons]
theorem GH:∀(rs:List (List UInt8×List Po)) (o:Nat) (e:En),e∈enOf o rs->∃r∈rs,e.t=r.1/\o<=e.off/\e.off+e.len<=o+(postB rs).length/\e.len=(encPs r.2).length/\e.n=r.2.length
 | [],o,e,h=>by cases h
 | r::t,o,e,h=>by
  unfold enOf at h;have b:(postB (r::t)).length=(encPs r.2).length+(postB t).length:=by unfold postB;rw[List.flatMap_cons,List.length_append]
  rcases List.mem_cons.1 h with rfl | h
  ·exact⟨r,List.mem_cons_self ..,rfl,Nat.le_refl _,by simp only[b];omega,rfl,rfl⟩
  ·obtain⟨r',j,h1,h2,Y,a,H⟩:=GH t _ e h;exact⟨r',List.mem_cons_of_mem _ j,h1,by omega,by rw[b];omega,a,H⟩
theorem MU:∀(rs:List (List UInt8×List Po)) (o:Nat),Ris rs->(enOf o rs).Pairwise fun a b=>a.t<b.t
 | [],o,_=>List.Pairwise.nil
 | r::t,o,h=>by
  obtain⟨h1,h2⟩:=List.pairwise_cons.1 h;unfold enOf;refine List.pairwise_cons.2 ⟨fun e Y=>?_,MU t _ h2⟩;obtain⟨r',j,H,_⟩:=GH t _ e Y;rw[H];exact h1 r' j
structure SmP (P:List Dc):Prop where
  ok:okDs P=true
  sz:(blockD 0 P).length<=70000
structure SegB (P:List Dc):Prop where
  n:P.length<=65536
  pairs:(pairsD 0 P).length<=70000
  rows:(rowsD P).length<=70000
  each:∀r∈rowsD P,okPs r.2=true/\r.2 ≠ []/\r.2.length<=70000/\(blockPo (-1) r.2).length<=50000000/\(encPs r.2).length<=5000000
  posts:(postB (rowsD P)).length<=5000000
  ens:OkEs (enOf 0 (rowsD P))
  dic:(encEs (enOf 0 (rowsD P))).length<=16777216
  docs:(encDs P).length<=16777216
  times:(timesD 0 P).length<=16777216
  bits:8<=(ofB ((rowsD P).map (·.1))).length/\(ofB ((rowsD P).map (·.1))).length<=131072
theorem SmP.seg {P:List Dc} (h:SmP P):SegB P:=by
 have b:=h.ok;have k0:=h.sz;have hn:P.length<=65536:=by
  unfold okDs at b;rw[Bool.and_eq_true]at b;exact of_decide_eq_true b.1
 have I:=G4 P 0 0;have h0:=G6 P 0 0;have p0:(rowsD P).length<=(pairsD 0 P).length:=EX _;have Y:=EZ (fun _=>1) (pairsD 0 P);rw[GR,JE]at Y;have J:=EZ (fun x:Po=>x.2.length) (pairsD 0 P);unfold gsum at J;have Z:grp (pairsD 0 P)=rowsD P:=rfl;rw[Z]at Y J;have H:∀r∈rowsD P,okPs r.2=true/\r.2 ≠ []/\r.2.length<=70000/\(r.2.map fun x=>x.2.length).sum<=70000:=fun r j=>by
  have h1:=Q5 hn j;have h2:=Dq (f:=fun x:List UInt8×List Po=>x.2.length) j;have U:=Dq (f:=fun x:List UInt8×List Po=>(x.2.map fun(y:Po)=>y.2.length).sum) j;exact⟨h1.1,h1.2.1,by omega,by omega⟩
 have T:(postB (rowsD P)).length<=5000000:=by
  rw[N5];refine Nat.le_trans (F5 (g:=fun r:List UInt8×List Po=>10+40*r.2.length+10*(r.2.map fun(x:Po)=>x.2.length).sum) _ fun r j=>?_) ?_
  ·have:=H r j;exact J7 this.1 (by omega)
  ·rw[Nh (fun r:List UInt8×List Po=>r.2.length) (fun r:List UInt8×List Po=>(r.2.map fun(x:Po)=>x.2.length).sum)];omega
 have a:∀e∈enOf 0 (rowsD P),okEn e/\e.t ≠ []:=fun e O=>by
  obtain⟨r,j,h1,h2,U,h4,h5⟩:=GH _ _ e O;have hk:=DW j;have q0:=H r j;refine⟨⟨by rw[h1];exact hk.2,by omega,by omega,by omega⟩,fun e0=>?_⟩;rw[h1]at e0;rw[e0]at hk;simp at hk
 refine⟨hn,by omega,by omega,fun r j=>?_,T,⟨by rw[Cc];omega,a,MU _ _ (Jx P)⟩,?_,?_,?_,?_⟩
 ·have h1:=H r j;have h2:=GA h1.1;have U:=J7 h1.1 (by omega);exact⟨h1.1,h1.2.1,h1.2.2.1,by omega,by omega⟩
 ·have h1:=EE (cs:=chunkL 16 (enOf 0 (rowsD P))) fun c G=>⟨fun e O=>(a e (GB (by omega) G e O)).1,(Fz (by omega) G).2⟩
  have h2:=AO (k:=16) (by omega) (enOf 0 (rowsD P));rw[Cc]at h2;have U:=Ag (n:=(enOf 0 (rowsD P)).length) (by rw[Cc];omega);unfold encEs;rw[List.length_append];omega
 ·have h1:=Gy b (by omega) (chunkL 16 P).length;rw[List.take_length]at h1;have h2:=AO (k:=16) (by omega) P;have U:=Ag (n:=P.length) (by omega);unfold encDs;simp only[List.length_append];omega
 ·have:=Dx P 0;omega
 ·rw[QW];exact EU _
def fewE (e:Ev):Ev:=⟨e.at_,(e.fs.take 8).map fun f=>(f.1,f.2.take 300)⟩
def fewD (P:List Dc):List Dc:=(P.take 40).map fun d=>(d.1,fewE d.2)
structure Few8 (P:List Dc):Prop where
  n:P.length<=25
  each:∀d∈P,I64ok' d.2.at_/\d.2.fs.length<=8/\∀f∈d.2.fs,f.2.length<=300
theorem QG {P:List Dc} (h:∀d∈P,I64ok' d.2.at_):Few8 (fewD (P.take 25)):=by
 refine⟨?_,fun d hd=>?_⟩
 ·unfold fewD;simp only[List.length_map,List.length_take];omega
 ·unfold fewD at hd;obtain⟨x,b,rfl⟩:=List.mem_map.1 hd;refine⟨h x (List.mem_of_mem_take (List.mem_of_mem_take b)),?_,fun f j=>?_⟩
  ·unfold fewE;simp only[List.length_map,List.length_take];omega
  ·unfold fewE at j;obtain⟨g,_,rfl⟩:=List.mem_map.1 j;simp only[List.length_take];omega
theorem IQ:∀ {fs:List Fd},(∀f∈fs,f.1.length<=32/\f.2.length<=300)->(putFs fs).length<=335*fs.length
 | [],_=>by simp[putFs]
 | f::fs,h=>by
  have h1:=IQ (fs:=fs) fun x b=>h x (List.mem_cons_of_mem _ b);have H:=h f (List.mem_cons_self ..);have h2:=FV 1 f.1.length (by omega);have a:=FV 2 f.2.length (by omega);have j:(putFs (f::fs)).length=(txL f.1).length+(txL f.2).length+(putFs fs).length:=by unfold putFs;rw[List.flatMap_cons,List.length_append];unfold putF;rw[List.length_append]
  unfold txL at j;rw[List.length_append,List.length_append]at j;rw[j,List.length_cons];omega
theorem Ii:∀(P:List Dc) (lo:Int),0<=lo->risB 1099511627777 lo (P.map (·.1))=true->P.all okD=true->(∀d∈P,I64ok' d.2.at_/\d.2.fs.length<=8/\∀f∈d.2.fs,f.2.length<=300)->(blockD lo P).length<=2701*P.length
 | [],_,_,_,_,_=>by simp[blockD]
 | d::t,lo,G,U,hk,h=>by
  rw[List.map_cons,risB,Bool.and_eq_true,Bool.and_eq_true]at U;obtain⟨⟨j,b⟩,H⟩:=U;have j:=of_decide_eq_true j;have b:=of_decide_eq_true b;rw[List.all_cons,Bool.and_eq_true]at hk;have ih:=Ii t d.1 (by omega) H hk.2 fun x Z=>h x (List.mem_cons_of_mem _ Z);obtain⟨Y,hn,T⟩:=h d (List.mem_cons_self ..);have O:=of_decide_eq_true hk.1;obtain⟨_,a⟩:=AM O;have h1:=IQ (fs:=d.2.fs) fun f J=>⟨(a f J).1,T f J⟩
  have h2:=Co (CM Y.1 Y.2);have I:=FV 1 d.2.fs.length (by omega);have h4:=Co (n:=(d.1 - lo - 1).toNat) (by omega);rw[blockD,List.length_append,List.length_cons];unfold oneD putE;simp only[List.length_append];omega
theorem Few8.sm {P:List Dc} (h:Few8 P) (hk:okDs P=true):SmP P:=by
 refine⟨hk,?_⟩;unfold okDs at hk;rw[Bool.and_eq_true,Bool.and_eq_true]at hk;have h1:=Ii P 0 (by omega) hk.2.1 hk.2.2 h.each;have:=h.n;omega
end
section
open Go.RowKit Go.Maps
open Go
structure MapL (P:Program) (k:TypeId) (w:World) (m:Nat) (L:List (Value×Value)):Prop where
  ex:∃es clock,w.heap[m]? = some (.map es clock)/\es.toList.map (fun e=>(e.key,e.val))=L/\es.toList.Pairwise (fun a b=>a.born≠b.born)/\∀e∈es.toList,e.born<clock
  keys:∀p∈L,∃l,keyOf P k p.1=some l
  nodup:(L.map Prod.fst).Nodup
section
variable {P:Program} {k:TypeId} {w w1:World} {m:Nat} {L:List (Value×Value)}
theorem MapL.keep (h:MapL P k w m L) (hb:w1.heap[m]? = w.heap[m]?):MapL P k w1 m L:=by
 obtain⟨⟨es,cl,h1,h2⟩,j,b⟩:=h;exact⟨⟨es,cl,hb.trans h1,h2⟩,j,b⟩
theorem MapL.lt (h:MapL P k w m L):m<w.heap.size:=by
 obtain⟨⟨es,cl,h1,_⟩,_⟩:=h;exact(Array.getElem?_eq_some_iff.1 h1).1
theorem MapL.ext (h:MapL P k w m L) (j:Ext w w1):MapL P k w1 m L:=h.keep (Below.block j m h.lt)
theorem MapL.grown {row:Option Nat} (h:MapL P k w m L) (b:w.grownBy w1 row) (j:row≠some m):MapL P k w1 m L:=h.keep (b.block m h.lt (fun e=>j e.symm))
theorem MapL.drew (h:MapL P k w m L):MapL P k w.drew m L:=h.keep rfl
theorem MapL.alloc (h:MapL P k w m L) (o:Obj):MapL P k (w.alloc o) m L:=h.keep (Below.heap_alloc w o m h.lt)
theorem MapL.made (w:World):MapL P k (w.alloc (.map #[] 0)) w.heap.size [] :=
 ⟨⟨#[],0,heap_alloc_new w _,rfl,List.Pairwise.nil,by simp⟩,by simp,by simp⟩
theorem MapL.unique {x u v:Value} (h:MapL P k w m L) (j:(x,u)∈L) (b:(x,v)∈L):u=v:=by
 have hn:=h.nodup;clear h
 induction L with
 | nil=>cases j
 | cons p L ih =>
  simp only[List.map_cons,List.nodup_cons]at hn;rcases List.mem_cons.1 j with h1 | h1 <;> rcases List.mem_cons.1 b with h2 | h2
  ·rw[<-h1]at h2;exact(Prod.mk.inj h2).2.symm
  ·exfalso;apply hn.1;rw[<-h1];exact List.mem_map.2 ⟨_,h2,rfl⟩
  ·exfalso;apply hn.1;rw[<-h2];exact List.mem_map.2 ⟨_,h1,rfl⟩
  ·exact ih h1 h2 hn.2
theorem MapL.find (h:MapL P k w m L) (K:Keyed P k) {x:Value} {l:Lit} (O:keyOf P k x=some l) {es:Array MapEntry} (hb:w.heap[m]? = some (.map es cl)) (W:World) :
 ((Instr.findKey k x es.toList).run P W = .ok none W/\∀p∈L,p.1≠x) \/
 ∃j e,(Instr.findKey k x es.toList).run P W = .ok (some (j,e.val)) W/\es[j]? = some e/\e.key=x/\(x,e.val)∈L:=by
 obtain⟨⟨es',cl',h1,h2,_⟩,U,_⟩:=h;rw[hb]at h1;cases h1;have hk:∀e∈es.toList,∃l,keyOf P k e.key=some l:=fun e b=>U (e.key,e.val) (by rw[<-h2];exact List.mem_map.2 ⟨e,b,rfl⟩);rcases K.find W O es.toList hk with ⟨H,a⟩ | ⟨j,e,H,Y,b⟩
 ·refine .inl ⟨H,fun p J=>?_⟩;rw[<-h2]at J;obtain⟨e,b,rfl⟩:=List.mem_map.1 J;exact a e b
 ·refine .inr ⟨j,e,H,by simpa using Y,b,?_⟩;rw[<-h2];exact List.mem_map.2 ⟨e,List.mem_of_getElem? Y,by rw[b]⟩
theorem MapL.look (h:MapL P k w m L) (K:Keyed P k) (ht:P.underlying t=some (.map k E)) {x z:Value} {l:Lit} (H:keyOf P k x=some l) (U:(zeroValue E).run P w = .ok z w) (ok:Bool) :
 (∃v,(x,v)∈L/\(Instr.lookup t (.map (some m)) x ok).run P w = .ok (if ok then .tuple #[v,.bool true] else v) w) \/
 ((∀p∈L,p.1≠x)/\(Instr.lookup t (.map (some m)) x ok).run P w = .ok (if ok then .tuple #[z,.bool false] else z) w):=by
 obtain⟨es,cl,hb,_⟩:=h.ex;have Y:(getObj m).run P w = .ok (.map es cl) w:=by simp[getObj,Sem.run,hb]
 rcases h.find K H hb w with ⟨a,b⟩ | ⟨j,e,a,T,O,J⟩
 ·refine .inr ⟨b,?_⟩;simp only[Instr.lookup,Sem.run_bind,run_underlying ht,Result.andThen_ok,Y,Sem.run_pure,K.check w es.isEmpty H,a,U]
 ·refine .inl ⟨e.val,J,?_⟩;simp only[Instr.lookup,Sem.run_bind,run_underlying ht,Result.andThen_ok,Y,Sem.run_pure,K.check w es.isEmpty H,a]
structure Put (L:List (Value×Value)) (x v:Value) (L':List (Value×Value)):Prop where
  mem:∀p,p∈L'↔p=(x,v)\/(p∈L/\p.1≠x)
  len:(∃u,(x,u)∈L)/\L'.length=L.length\/(∀p∈L,p.1≠x)/\L'.length=L.length+1
theorem CI {es:Array MapEntry} (hb:w.heap[m]? = some (.map es cl)) (o:Obj):(setObj m o).run P w = .ok () { w with heap:=w.heap.setIfInBounds m o }:=by
 simp[setObj,Sem.run,hb]
theorem BH {o:Obj} (h:m<w.heap.size):({ w with heap:=w.heap.setIfInBounds m o }:World).heap[m]? = some o:=by
 simp[h]
theorem Br (o : Obj) : w.grownBy { w with heap := w.heap.setIfInBounds m o } (some m) :=
  ⟨rfl, rfl, rfl, by simp, fun i _ hi => by
    have : m ≠ i := fun e => hi (by rw [e])
    simp [Array.getElem?_setIfInBounds_ne this]⟩
theorem CE {es:Array MapEntry} {j:Nat} {e0:MapEntry} (a:es[j]? = some e0) (f:MapEntry->MapEntry) (e:MapEntry) :
 e∈(es.modify j f).toList↔e=f e0\/∃i,i≠j/\es[i]? = some e:=by
 have H:j<es.size:=(Array.getElem?_eq_some_iff.1 a).1;constructor
 ·intro h;obtain⟨i,hi⟩:=List.mem_iff_getElem?.1 h;rw[Array.getElem?_toList,Array.getElem?_modify]at hi;split at hi
  ·rename_i b;subst b;rw[a]at hi;exact .inl (Option.some.inj hi).symm
  ·rename_i b;exact .inr ⟨i,fun h=>b h.symm,hi⟩
 ·rintro(rfl | ⟨i,hi,b⟩)
  ·refine List.mem_iff_getElem?.2 ⟨j,?_⟩;rw[Array.getElem?_toList,Array.getElem?_modify,if_pos rfl,a];rfl
  ·refine List.mem_iff_getElem?.2 ⟨i,?_⟩;rw[Array.getElem?_toList,Array.getElem?_modify,if_neg (fun h=>hi h.symm)];exact b
theorem GZ {es:Array MapEntry} {j:Nat} {β:Type} (f:MapEntry->MapEntry) (g:MapEntry->β) (a:∀e,es[j]? = some e->g (f e)=g e):(es.modify j f).toList.map g=es.toList.map g:=by
 refine List.ext_getElem? fun i=>?_;rw[List.getElem?_map,List.getElem?_map,Array.getElem?_toList,Array.getElem?_toList,Array.getElem?_modify];split
 ·rename_i h;subst h;cases b:es[j]? with
  | none=>rfl
  | some e=>simp[a e b]
 ·rfl
theorem Kr {es:Array MapEntry} (hn:(es.toList.map (·.key)).Nodup) {i j:Nat} {a b:MapEntry} (hi:es[i]? = some a) (H:es[j]? = some b) (hk:a.key=b.key):i=j:=by
 have h1:(es.toList.map (·.key))[i]? = some a.key:=by simp[hi]
 have h2:(es.toList.map (·.key))[j]? = some b.key:=by simp[H]
 have h:i<(es.toList.map (·.key)).length:=(List.getElem?_eq_some_iff.1 h1).1;exact(List.getElem?_inj h hn).1 (by rw[h1,h2,hk])
theorem MM {es:Array MapEntry} (hn:es.toList.Pairwise (fun a b=>a.born≠b.born)) {i j:Nat} {a b:MapEntry} (hi:es[i]? = some a) (Y:es[j]? = some b) (hk:a.born=b.born):i=j:=by
 have H:(es.toList.map (·.born)).Nodup:=by rw[List.nodup_iff_pairwise_ne,List.pairwise_map];exact hn
 have h1:(es.toList.map (·.born))[i]? = some a.born:=by simp[hi]
 have h2:(es.toList.map (·.born))[j]? = some b.born:=by simp[Y]
 have h:i<(es.toList.map (·.born)).length:=(List.getElem?_eq_some_iff.1 h1).1;exact(List.getElem?_inj h H).1 (by rw[h1,h2,hk])
theorem MapL.modify (h:MapL P k w m L) {es:Array MapEntry} (hb:w.heap[m]? = some (.map es cl)) {j:Nat} {e0:MapEntry} (a:es[j]? = some e0) (v:Value) {f:MapEntry->MapEntry}
 (Y:(f e0).key=e0.key) (U:(f e0).val=v) (O:(f e0).born=e0.born) (hw:w1.heap[m]? = some (.map (es.modify j f) cl)):∃L',MapL P k w1 m L'/\Put L e0.key v L':=by
 obtain⟨⟨es',cl',h1,h2,h4,h5⟩,h3,h6⟩:=h;rw[hb]at h1;cases h1;have H:(es.toList.map (·.key)).Nodup:=by
  rw[<-h2,List.map_map]at h6;exact h6
 refine⟨(es.modify j f).toList.map (fun e=>(e.key,e.val)),⟨⟨es.modify j f,cl,hw,rfl,?_,fun e b=>?_⟩,fun p J=>?_,?_⟩,fun p=>?_,.inl ⟨⟨e0.val,?_⟩,?_⟩⟩
 ·have Z:(es.modify j f).toList.map (·.born)=es.toList.map (·.born):=GZ f (·.born) (fun e b=>by rw[a]at b;cases b;exact O);have hn:(es.toList.map (·.born)).Nodup:=by rw[List.nodup_iff_pairwise_ne,List.pairwise_map];exact h4
  rw[<-Z,List.nodup_iff_pairwise_ne,List.pairwise_map]at hn;exact hn
 ·rcases (CE a f e).1 b with rfl | ⟨i,_,hi⟩
  ·rw[O];exact h5 e0 (by simpa using Array.mem_of_getElem? a)
  ·exact h5 e (by simpa using Array.mem_of_getElem? hi)
 ·obtain⟨e,b,rfl⟩:=List.mem_map.1 J;rcases (CE a f e).1 b with rfl | ⟨i,_,hi⟩
  ·rw[Y];exact h3 (e0.key,e0.val) (by rw[<-h2];exact List.mem_map.2 ⟨e0,by simpa using Array.mem_of_getElem? a,rfl⟩)
  ·exact h3 (e.key,e.val) (by rw[<-h2];exact List.mem_map.2 ⟨e,by simpa using Array.mem_of_getElem? hi,rfl⟩)
 ·rw[List.map_map];have:(es.modify j f).toList.map (Prod.fst∘fun e=>(e.key,e.val))=es.toList.map (·.key):=GZ f _ (fun e b=>by rw[a]at b;cases b;exact Y);rw[this];exact H
 ·constructor
  ·intro J;obtain⟨e,b,rfl⟩:=List.mem_map.1 J;rcases (CE a f e).1 b with rfl | ⟨i,hi,T⟩
   ·exact .inl (by rw[Y,U])
   ·refine .inr ⟨by rw[<-h2];exact List.mem_map.2 ⟨e,by simpa using Array.mem_of_getElem? T,rfl⟩,fun hk=>hi (Kr H T a hk)⟩
  ·rintro(rfl | ⟨J,I⟩)
   ·exact List.mem_map.2 ⟨f e0,(CE a f _).2 (.inl rfl),by rw[Y,U]⟩
   ·rw[<-h2]at J;obtain⟨e,b,rfl⟩:=List.mem_map.1 J;obtain⟨i,hi⟩:=List.mem_iff_getElem?.1 b;rw[Array.getElem?_toList]at hi;exact List.mem_map.2 ⟨e,(CE a f e).2 (.inr ⟨i,fun G=>I (by subst G;rw[a]at hi;cases hi;rfl),hi⟩),rfl⟩
 ·rw[<-h2];exact List.mem_map.2 ⟨e0,by simpa using Array.mem_of_getElem? a,rfl⟩
 ·rw[<-h2];simp
theorem MapL.push (h:MapL P k w m L) {es:Array MapEntry} (hb:w.heap[m]? = some (.map es cl)) {x v:Value} {l:Lit} (hx:keyOf P k x=some l) (Y:∀p∈L,p.1≠x)
 (I:w1.heap[m]? = some (.map (es.push { key:=x,val:=v,born:=cl }) (cl+1))):∃L',MapL P k w1 m L'/\Put L x v L':=by
 obtain⟨⟨es',cl',h1,h2,Z,O⟩,T,G⟩:=h;rw[hb]at h1;cases h1;refine⟨L ++ [(x,v)],⟨⟨_,_,I,by simp[h2],?_,fun e J=>?_⟩,fun p j=>?_,?_⟩,fun p=>?_,.inr ⟨Y,by simp⟩⟩
 ·simp only[Array.toList_push];rw[List.pairwise_append];exact⟨Z,List.pairwise_singleton ..,fun a U b H=>by
   obtain rfl:=List.mem_singleton.1 H;have:=O a U;simp only;omega⟩
 ·simp only[Array.toList_push]at J;rcases List.mem_append.1 J with J | J
  ·have:=O e J;omega
  ·obtain rfl:=List.mem_singleton.1 J;simp only;omega
 ·rcases List.mem_append.1 j with j | j
  ·exact T p j
  ·obtain rfl:=List.mem_singleton.1 j;exact⟨l,hx⟩
 ·rw[List.map_append,List.nodup_append];refine⟨G,by simp,fun a U b H=>?_⟩;simp at H;obtain⟨p,j,rfl⟩:=List.mem_map.1 U;rw[H];exact Y p j
 ·constructor
  ·intro j;rcases List.mem_append.1 j with j | j
   ·exact .inr ⟨j,Y p j⟩
   ·exact .inl (List.mem_singleton.1 j)
  ·rintro(rfl | ⟨j,_⟩)
   ·simp
   ·exact List.mem_append_left _ j
theorem MapL.update (h:MapL P k w m L) (K:Keyed P k) (ht:P.underlying t=some (.map k E)) {x:Value} {l:Lit} (b:keyOf P k x=some l) (v:Value) :
 ∃w' L',(Instr.mapUpdate t (.map (some m)) x v).run P w = .ok () w'/\MapL P k w' m L'/\Put L x v L'/\w.grownBy w' (some m)/\w'.heap.size=w.heap.size:=by
 obtain⟨es,cl,hb,_⟩:=h.ex;have Y:(getObj m).run P w = .ok (.map es cl) w:=by simp[getObj,Sem.run,hb]
 rcases h.find K b hb w with ⟨H,a⟩ | ⟨j,e,H,J,U,O⟩
 ·obtain⟨L',h1,h2⟩:=h.push (w1:= { w with heap:=w.heap.setIfInBounds m (.map (es.push { key:=x,val:=v,born:=cl }) (cl+1)) }) hb b a (BH h.lt);refine⟨_,L',?_,h1,h2,Br _,by simp⟩;simp only[Instr.mapUpdate,Sem.run_bind,run_underlying ht,Result.andThen_ok,Y,K.check w false b,H,CI hb]
 ·subst U;obtain⟨L',h1,h2⟩:=h.modify (w1:= { w with heap:=w.heap.setIfInBounds m (.map (es.modify j fun e'=> { e' with key:=e.key,val:=v }) cl) }) hb J v (f:=fun e'=> { e' with key:=e.key,val:=v }) rfl rfl rfl (BH h.lt);refine⟨_,L',?_,h1,h2,Br _,by simp⟩;simp only[Instr.mapUpdate,Sem.run_bind,run_underlying ht,Result.andThen_ok,Y,K.check w false b,H,J,Option.map_some,Option.getD_some,K.stays w b,CI hb]
theorem MapL.entry (h:MapL P k w m L) (K:Keyed P k) (ht:P.underlying t=some (.map k E)) {x z:Value} {l:Lit} (hx:keyOf P k x=some l) (hz:(zeroValue E).run P w = .ok z w) :
 ∃w' v n,(Instr.mapEntry t (.map (some m)) x).run P w = .ok (.tuple #[v,.int .i64 n]) w'/\((x,v)∈L\/(∀p∈L,p.1≠x)/\v=z)/\w.grownBy w' (some m)/\w'.heap.size=w.heap.size/\(∃L1,MapL P k w' m L1) /\
  ∀(w2:World) (u:Value),w2.heap[m]? = w'.heap[m]? ->
   ∃w3 L',(Instr.entryStore t (.map (some m)) (.int .i64 n) u).run P w2 = .ok () w3/\MapL P k w3 m L'/\Put L x u L'/\w2.grownBy w3 (some m)/\w3.heap.size=w2.heap.size:=by
 obtain⟨es,cl,hb,_,Z,l0⟩:=h.ex;have hg:(getObj m).run P w = .ok (.map es cl) w:=by simp[getObj,Sem.run,hb]
 have back:∀(es2:Array MapEntry) (cl2 j:Nat) (e0:MapEntry) (w2:World) (u:Value),w2.heap[m]? = some (.map es2 cl2)->es2[j]? = some e0->es2.toList.Pairwise (fun a b=>a.born≠b.born) ->
  (Instr.entryStore t (.map (some m)) (.int .i64 (e0.born:Int)) u).run P w2 = .ok () { w2 with heap:=w2.heap.setIfInBounds m (.map (es2.modify j fun e=> { e with val:=u }) cl2) }:=by
  intro es2 cl2 j e0 w2 u H G c0;have b0:(getObj m).run P w2 = .ok (.map es2 cl2) w2:=by simp[getObj,Sem.run,H]
  have J:j<es2.size:=(Array.getElem?_eq_some_iff.1 G).1;have y0:es2.findIdx? (fun e=>(e.born:Int)==(e0.born:Int))=some j:=by
   rw[Array.findIdx?_eq_some_iff_getElem];refine⟨J,?_,fun i hi=>?_⟩
   ·have:es2[j]=e0:=by
     have:=Array.getElem?_eq_getElem J;rw[G]at this;exact(Option.some.inj this).symm
    simp[this]
   ·have U:es2[i].born≠e0.born:=fun he=>by
     have:=MM c0 (Array.getElem?_eq_getElem (by omega:i<es2.size)) G he;omega
    simp;omega
  simp only[Instr.entryStore,Sem.run_bind,b0,Result.andThen_ok,asInt,asIntOf,Sem.run_pure,y0,CI H]
 rcases h.find K hx hb w with ⟨hr,T⟩ | ⟨j,e,hr,hj,he,hm⟩
 ·let w':World:= { w with heap:=w.heap.setIfInBounds m (.map (es.push { key:=x,val:=z,born:=cl }) (cl+1)) }
  have Y:w'.heap[m]? = some (.map (es.push { key:=x,val:=z,born:=cl }) (cl+1)):=BH h.lt;obtain⟨L1,h1,h2⟩:=h.push (w1:=w') hb hx T Y;refine⟨w',z,(cl:Int),?_,.inr ⟨T,rfl⟩,Br _,by simp[w'],⟨L1,h1⟩,fun w2 u H=>?_⟩
  ·simp only[Instr.mapEntry,Sem.run_bind,run_underlying ht,Result.andThen_ok,hg,K.check w false hx,hr,hz,CI hb,Sem.run_pure,goInt];rfl
  ·have q0:(es.push { key:=x,val:=z,born:=cl })[es.size]? = some { key:=x,val:=z,born:=cl }:=by simp
   obtain⟨⟨es1,cl1,j0,_,v0,_⟩,_⟩:=id h1;rw[Y]at j0;cases j0;have I:=back _ _ _ _ w2 u (H.trans Y) q0 v0;have J:m<w2.heap.size:=(Array.getElem?_eq_some_iff.1 (H.trans Y)).1;obtain⟨L2,h3,h4⟩:=(h1.keep H).modify (w1:= { w2 with heap:=w2.heap.setIfInBounds m (.map ((es.push { key:=x,val:=z,born:=cl }).modify es.size fun e=> { e with val:=u }) (cl+1)) }) (H.trans Y) q0 u (f:=fun e=> { e with val:=u }) rfl rfl rfl (BH J);refine⟨_,L2,I,h3,⟨fun p=>?_,?_⟩,Br _,by simp⟩
   ·rw[h4.mem p];constructor
    ·rintro(rfl | ⟨hp,U⟩)
     ·exact .inl rfl
     ·rcases (h2.mem p).1 hp with rfl | hp
      ·exact absurd rfl U
      ·exact .inr hp
    ·rintro(rfl | ⟨hp,U⟩)
     ·exact .inl rfl
     ·exact .inr ⟨(h2.mem p).2 (.inr ⟨hp,U⟩),U⟩
   ·refine .inr ⟨T,?_⟩;rcases h2.len with ⟨⟨u',f0⟩,_⟩ | ⟨_,hl⟩
    ·exact absurd rfl (T _ f0)
    ·rcases h4.len with ⟨_,n0⟩ | ⟨p0,_⟩
     ·omega
     ·exact absurd rfl (p0 (x,z) ((h2.mem _).2 (.inl rfl)))
 ·subst he
  let w':World:= { w with heap:=w.heap.setIfInBounds m (.map (es.modify j fun e'=> { e' with key:=e.key }) cl) }
  have o0:j<es.size:=(Array.getElem?_eq_some_iff.1 hj).1;have O:es.modify j (fun e'=> { e' with key:=e.key })=es:=by
   apply Array.ext_getElem?;intro i;rw[Array.getElem?_modify];split
   ·rename_i hi;subst hi;rw[hj];rfl
   ·rfl
  have Y:w'.heap[m]? = some (.map es cl):=by
   have:=BH (w:=w) (m:=m) (o:= .map (es.modify j fun e'=> { e' with key:=e.key }) cl) h.lt;rw[O]at this;simpa [w',O]using this
  refine⟨w',e.val,(e.born:Int),?_,.inl hm,Br _,by simp[w'],⟨L,h.keep (Y.trans hb.symm)⟩,fun w2 u H=>?_⟩
  ·simp only[Instr.mapEntry,Sem.run_bind,run_underlying ht,Result.andThen_ok,hg,K.check w false hx,hr,hj,Option.map_some,Option.getD_some,K.stays w hx,CI hb,Sem.run_pure,goInt];rfl
  ·have I:=back es cl j e w2 u (H.trans Y) hj Z;have J:m<w2.heap.size:=(Array.getElem?_eq_some_iff.1 (H.trans Y)).1;obtain⟨L2,h3,h4⟩:=(h.keep ((H.trans Y).trans hb.symm)).modify (w1:= { w2 with heap:=w2.heap.setIfInBounds m (.map (es.modify j fun e=> { e with val:=u }) cl) }) (H.trans Y) hj u (f:=fun e=> { e with val:=u }) rfl rfl rfl (BH J);exact⟨_,L2,I,h3,h4,Br _,by simp⟩
end
end
end Go.Proofs.YtfifdilapbeiiaaGreat
