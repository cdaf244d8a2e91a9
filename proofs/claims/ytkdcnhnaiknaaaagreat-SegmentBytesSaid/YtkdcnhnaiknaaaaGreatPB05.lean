/- Texts of one proof, joined. -/
import Derived.Test.YtkdcnhnaiknaaaaGreatPB03
import Derived.Test.YtkdcnhnaiknaaaaGreatPB04
import Derived.Deep.QuietTactic
import Derived.BigQuiet
import Derived.Test.YtkdcnhnaiknaaaaGreatPB02
import Derived.Test.YtkdcnhnaiknaaaaGreatPB01
import Derived.Maps.Keyed
import Derived.Maps.OwnOps
import Derived.Test.YtkdcnhnaiknaaaaGreatPBShelf
import Derived.Deep.CutRange
import Derived.Deep.DeepCutAuto
import Derived.Deep.RegionHeld3
set_option linter.unusedSimpArgs false
set_option linter.unusedVariables false
set_option maxRecDepth 100000
set_option maxHeartbeats 16000000
namespace Go.Proofs.YtkdcnhnaiknaaaaGreat
section
open Go.RowKit Go.Shelf
attribute [local go_sem] Oper.semAt_some Za ZAw
def psP (ps:List PoC):List Po:=ps.map PoC.po
def OkB (w:World) (l:List UInt8) (e:Ending) (w':World):Prop:=∃A c,e = .returned (.tuple #[.slice A l.length c,.int .i64 0])/\Own8 w' w.heap.size A l.length c l/\Ext w w'
theorem ZCy {l:List Po} (h:okPs l=true):l.length<=65536:=by
 rw[ZCU,Bool.and_eq_true]at h;have:=ZCH h.1 (by omega);rw[List.length_map]at this;omega
theorem PosOk.part {w:World} {A:Option Addr} {ps:List PoC} (h:PosOk w A ps) (hA:∀a,A=some a->a.spot=none) (i m:Nat):PosOk w (A.map fun a=>a.add (i*2)) ((ps.drop i).take m):=by
 refine⟨?_,fun x hx=>h.each x (List.mem_of_mem_drop (List.mem_of_mem_take hx))⟩;unfold pcells;rw[Z4 (f:=PoC.cells) (k:=2) (fun _=>rfl),ZAE (f:=PoC.cells) (k:=2) (fun _=>rfl)];exact h.cells.part hA _ _
def PEnc (base h1 h2 h3 b1 b2:Nat) (V:Value) (Hd Bd:List UInt8) (last:Int) (w W:World):Prop :=
 HB base h1 h2 Hd Bd W/\Row W h3 3 #[.int .i64 last]/\Row W b1 43 #[V]/\Row W b2 3 #[.int .i64 32]/\Ext w W
theorem PEnc.alike {base h1 h2 h3 b1 b2 B:Nat} {V:Value} {Hd Bd:List UInt8} {last:Int} {w W W1:World} (h:PEnc base h1 h2 h3 b1 b2 V Hd Bd last w W) (ha:Alike B W W1) (hB:w.heap.size<=B):PEnc base h1 h2 h3 b1 b2 V Hd Bd last w W1 :=
 ⟨h.1.alike ha,ha.row h.2.1,ha.row h.2.2.1,ha.row h.2.2.2.1,ha.ext h.2.2.2.2 hB⟩
theorem PEnc.ext {base h1 h2 h3 b1 b2:Nat} {V:Value} {Hd Bd:List UInt8} {last:Int} {w W W1:World} (h:PEnc base h1 h2 h3 b1 b2 V Hd Bd last w W) (hE:Ext W W1):PEnc base h1 h2 h3 b1 b2 V Hd Bd last w W1 :=
 ⟨h.1.ext hE,h.2.1.ext hE,h.2.2.1.ext hE,h.2.2.2.1.ext hE,h.2.2.2.2.trans hE⟩
theorem ZCk (ps:List PoC) (A:Option Addr) (m c:Nat) (w:World) (hm:m=ps.length) (h:PosOk w A ps) (hA:∀a,A=some a->a.spot=none) (r7:m<=c) (v2:okPs (psP ps)=true) (p2:(blockPo (-1) (psP ps)).length<=50000000) :
 Calls Tryz.prog 40 #[.slice A m c] w fun e w'=>OkB w (encPs (psP ps)) e w':=by
 have t8:m<=65536:=by have:=ZCy v2;unfold psP at this;rw[List.length_map]at this;omega
 have o4:=ZHo ps A m c w hm h (by omega);rw[show ps.map PoC.po=psP ps from rfl,v2,if_pos rfl]at o4;obtain⟨P,hP⟩:∃P,P=psP ps:=⟨_,rfl⟩
 rw[<-hP]at v2 p2 ⊢;have e1:=ZA (fun A n c x l W h1 h2 h3 h4 h5=>ZA3 A n c x l W h1 h2 h3 h4 h5);have z8:=ZX (m:=m) (by omega);replace o4:=ZA o4;replace hm:=ZA hm;replace h:=ZA h;replace hP:=ZA hP;replace v2:=ZA v2;replace p2:=ZA p2;replace hA:=ZA hA;refine(callsIn_wide (n:=0)).1 ?_;refine callsIn_of_wp_marks Tryz.func40 rfl trivial ?_;simp only[Tryz.ntmps40,List.size_toArray,List.length_cons,List.length_nil,Nat.reduceAdd,Nat.reduceSub,Array.replicate_succ,Array.replicate_zero,List.push_toArray,List.append_toArray,List.nil_append,List.cons_append];gi_wp2_with fail;refine(callsIn_wide.2 o4.out).mono ?_;rintro e w1 ⟨rfl,b6⟩;gi_wp2_with fail;refine(callsIn_wide.2 (e1.out none 0 0 m [] w1 rfl (.inl rfl) (fun _=>rfl) (by omega) (by omega))).mono ?_;rintro e w2 a2;obtain⟨A2,c2,rfl,y3,n3⟩:=a2;rw[List.nil_append]at y3 ⊢;obtain⟨k2,d3⟩:∃k,k=(vb m).length:=⟨_,rfl⟩
 rw[<-d3]at y3 ⊢;replace y3:=ZA y3;replace d3:=ZA d3;replace n3:=ZA (b6.trans n3);gi_wp2_with fail;obtain⟨W3,m2⟩:∃W3,W3=((w2.alloc (Obj.cells #[Value.slice A2 k2 c2] 25)).alloc (Obj.cells #[Value.slice none 0 0] 25)).alloc (Obj.cells #[Value.int IntKind.i64 (-1)] 3):=⟨_,rfl⟩
 rw[<-m2];obtain⟨h1,t2⟩:∃h1,h1=w2.heap.size:=⟨_,rfl⟩
 have q1:Row W3 h1 25 #[.slice A2 k2 c2]:=by rw[m2,t2];exact((Row.new w2 _ _).alloc _).alloc _
 have q2:Row W3 (h1+1) 25 #[.slice none 0 0]:=by
  have:=Row.new (w2.alloc (Obj.cells #[Value.slice A2 k2 c2] 25)) 25 #[.slice none 0 0];rw[World.size_alloc,<-t2]at this;rw[m2];exact this.alloc _
 have q3:Row W3 (h1+2) 3 #[.int .i64 (-1)]:=by
  have:=Row.new ((w2.alloc (Obj.cells #[Value.slice A2 k2 c2] 25)).alloc (Obj.cells #[Value.slice none 0 0] 25)) 3 #[.int .i64 (-1)];rw[World.size_alloc,World.size_alloc,<-t2]at this;rw[m2];exact this
 have y0:Ext w2 W3:=by rw[m2];exact(((Ext.refl w2).alloc _).alloc _).alloc _
 have x4:W3.heap.size=h1+3:=by rw[m2,t2];simp
 have s5:w.heap.size<=h1:=by rw[t2];exact n3.out.size
 have d4:HB w.heap.size h1 (h1+1) (vb m) [] W3:=⟨A2,none,c2,0,by rw[<-d3.out];exact q1,q2,⟨rfl,by rw[<-d3.out];exact(y3.out.lower b6.size).ext y0⟩,⟨rfl,Buf.nil _ _ _⟩,fun _ _ _ e=>by cases e⟩
 replace y0:=ZA (n3.out.trans y0);rw[<-t2];refine(callsIn_wide.2 (ZIq A m c 32 W3 (by omega) (by omega))).mono ?_;rintro e w4 ⟨b1,b2,rfl,rb1,rb2,t7,u7,v7,c4⟩;have a3:PEnc w.heap.size h1 (h1+1) (h1+2) b1 b2 (.slice A m c) (vb m) [] (-1) w w4:=⟨d4.ext c4,q3.ext c4,rb1,rb2,y0.out.trans c4⟩
 have s4:=ZHE A m c 32 b1 b2 w4 rb1 rb2 (by omega) (by omega) (by omega) r7;rw[x4]at t7 u7;have d0:=a3.2.2.2.2.size;replace a3:=ZA a3;replace s4:=ZA s4;replace m2:=ZA m2;replace t2:=ZA t2;clear q1 q2 q3 d4 c4 rb1 rb2 y3 y0 n3 d3 x4;gi_wp2_with fail;unfold ChIterA at s4;refine ZBC (gf:=144) (lb:=#[.pointer (some ⟨b1,0,none⟩),.pointer (some ⟨b2,0,none⟩)]) rfl (enters_of Tryz.func144 (by kernel_rfl) rfl) s4.out (fun _=>rfl) (fun _ _ h=>h.others) (fun _ _ _ h=>h.2.2.2.others) (KeepB.trans b1 b2) ?kb
  (fun pre W=>PEnc w.heap.size h1 (h1+1) (h1+2) b1 b2 (.slice A m c) (vb m++headPo (-1) ((chunkL 32 P).take pre.length)) (blockPo (-1) (P.take (pre.length*32))) (lastPo (-1) (P.take (pre.length*32))) w W) (fun pre A B h ha=>h.alike ha d0) (fun pre A B h hE=>h.ext hE) ?h0 ?hround ?hdone
 case kb =>
  have c5:=(a3.out.2.2.1).lt;have d5:=(a3.out.2.2.2.1).lt;exact KeepB.alike c5 d5
 case h0 =>
  intro W ha;have:=a3.out.alike ha d0;simpa [headPo,blockPo,lastPo]using this
 case hround =>
  rintro l pre i W hI ⟨hi,o7⟩;subst hi;have b3:P.length=m:=by rw[hP.out,hm.out];exact List.length_map ..
  have hR:=ZFP v2.out p2.out (r:=pre.length) (by rw[b3];exact o7);obtain⟨j,hj⟩:∃j,j=min 32 (m - pre.length*32):=⟨_,rfl⟩
  obtain⟨cb,m4⟩:∃cb,cb=(ps.drop (pre.length*32)).take 32:=⟨_,rfl⟩
  have j1:cb.length=j:=by rw[m4,hj,List.length_take,List.length_drop,hm.out]
  obtain⟨A',b4⟩:∃A':Option Addr,A'=A.map fun a=>a.add (pre.length*32*2):=⟨_,rfl⟩
  have a1:PosOk w A' cb:=by rw[b4,m4];exact h.out.part hA.out _ _
  have y4:chunkVA A m 32 pre.length = .slice A' j j:=by unfold chunkVA;rw[b4,hj]
  obtain⟨bP,i4⟩:∃bP,bP=(P.drop (pre.length*32)).take 32:=⟨_,rfl⟩
  have k1:bP=cb.map PoC.po:=by rw[i4,m4,hP.out,psP,<-List.map_drop,<-List.map_take]
  obtain⟨lst,p3⟩:∃lst,lst=lastPo (-1) (P.take (pre.length*32)):=⟨_,rfl⟩
  rw[<-i4,<-p3]at hR;rw[hR.last]at hI;obtain⟨Hd,i0⟩:∃Hd,Hd=vb m++headPo (-1) ((chunkL 32 P).take pre.length):=⟨_,rfl⟩
  obtain⟨Bd,e0⟩:∃Bd,Bd=blockPo (-1) (P.take (pre.length*32)):=⟨_,rfl⟩
  rw[<-i0,<-e0]at hI;have z7:j<=32:=by omega
  replace hI:=ZA hI;replace hR:=ZA hR;rw[y4];clear y4;replace a1:=ZA a1;replace b4:=ZA b4;replace m4:=ZA m4;replace hj:=ZA hj;replace i4:=ZA i4;replace p3:=ZA p3;replace i0:=ZA i0;replace e0:=ZA e0;replace j1:=ZA j1;replace k1:=ZA k1;replace b3:=ZA b3;gi_wp2_with fail;refine⟨KeepsOthers.refl _,KeepB.refl _ _ _,fun W2 z6=>?_⟩;have i6:=ZA (hI.out.alike z6 d0);clear z6 hI;obtain⟨z2,u4,i1,l1,x2⟩:=i6.out;obtain⟨Y,hY⟩:∃Y,Y=blockPo lst bP:=⟨_,rfl⟩
  obtain⟨lz,e3⟩:∃lz,lz=lastPo lst bP:=⟨_,rfl⟩
  have l7:=hR.out.lo;have x7:=hR.out.hi;have m7:Y.length<=50000000:=by have:=hR.out.len;have:=p2.out;rw[hY];omega
  have q7:=ZA (fun base A B n c k c2 l last N xs W h1 h2 h3 h4 h5 h6 h7 h8 h9=>ZK8 base A B n c k c2 l last N xs W h1 h2 h3 h4 h5 h6 h7 h8 h9);replace z2:=ZA z2;replace u4:=ZA u4;replace i1:=ZA i1;replace l1:=ZA l1;replace x2:=ZA x2;replace hY:=ZA hY;replace e3:=ZA e3;clear i6;gi_wp2_with fail
  gi_loopw [9,26] (fun s9 s26 wr=>∃(i n9 c9:Nat) (A9:Option Addr) (X:List UInt8) (la:Int),s9 = .slice A9 n9 c9/\s26 = .int .i64 (i:Int)/\i<=j/\n9<=50000000 /\ -1<=la/\la<65536/\Hid (Y=X++blockPo la (bP.drop i))/\Hid (risB 65536 la ((bP.drop i).map (·.1))=true)/\Hid (lastPo la (bP.drop i)=lz)/\Hid (Own8 wr w.heap.size A9 n9 c9 X)/\Hid (Row wr (h1+2) 3 #[.int .i64 la])/\Hid (Chg (fun k=>k=h1+2) W2 wr)) (fun _ s26 _=>j - (intOf s26).toNat)
  case atStart=>exact⟨0,0,0,none,[],lst,rfl,rfl,by omega,by omega,l7,x7,ZA (by rw[hY.out];rfl),ZA hR.out.ris,ZA (by rw[e3.out];rfl),ZA ⟨rfl,Buf.nil _ _ _⟩,u4,ZA (Chg.refl _ _)⟩
  case round =>
   obtain⟨i,n9,c9,A9,X,la,rfl,rfl,m8,v8,f7,i7,l6,p8,s6,g0,c0,i2⟩:=hrel;have p0:Hid (Ext w wr):=ZA (x2.out.chg i2.out fun k hk e=>by omega);by_cases y7:i<j
   ·obtain⟨x,a4⟩:∃x,cb[i]? = some x:=⟨_,List.getElem?_eq_getElem (by rw[j1.out];exact y7)⟩
    obtain⟨g,o,p7,x0,x1⟩:=Z5 (a1.out.cells.ext p0.out) a4;subst p7;have x6:=a1.out.each x (List.mem_of_getElem? a4);have l4:bP[i]? = some x.po:=by rw[k1.out,List.getElem?_map,a4];rfl
    have q6:=hR.out.pos x.po (List.mem_of_getElem? l4);have o0:=l6.out;have n1:=p8.out;have v1:=s6.out;rw[Zo l4]at o0 n1 v1;rw[List.map_cons]at n1;obtain⟨l5,n5,u3⟩:=ZAS n1;have d6:=fun o=>p0.out.alloc o;have o6:=fun o=>i2.out.trans (Chg.of_ext ((Ext.refl wr).alloc o) _) fun _ _ h=>h;have y6:=fun o=>c0.out.alloc o;have k8:=fun o=>(c0.out.alloc o).cell 0 rfl;replace a4:=ZA a4;replace l4:=ZA l4;replace q6:=ZA q6;replace o0:=ZA o0;replace v1:=ZA v1;replace u3:=ZA u3;replace x6:=ZA x6;clear n1;obtain⟨d,pos,B,cB⟩:=x;have l5:la<d:=l5;have n5:d<65536:=n5;simp only at x0 x1;obtain⟨pl,l3⟩:∃pl,pl=pos.length:=⟨_,rfl⟩
    rw[<-l3]at x1;replace l3:=ZA l3;replace d6:=ZA d6;replace o6:=ZA o6;replace y6:=ZA y6;obtain⟨s7,t3⟩:0<pos.length/\risB 1048576 (-1) pos=true:=by
     have:=q6.out;unfold okPo at this;rw[Bool.and_eq_true]at this;exact⟨of_decide_eq_true this.1,this.2⟩
    obtain⟨q,hq⟩:∃q:Nat,(q:Int)=d - la - 1:=⟨(d - la - 1).toNat,by omega⟩
    obtain⟨X1,e4⟩:∃X1,X1=X++stepsL la [d]:=⟨_,rfl⟩
    obtain⟨X2,j4⟩:∃X2,X2=X1++vb pl:=⟨_,rfl⟩
    obtain⟨X3,c3⟩:∃X3,X3=X2++stepsL (-1) pos:=⟨_,rfl⟩
    have r0:Y=X3++blockPo d (bP.drop (i+1)):=by
     rw[o0.out,c3,j4,e4,l3.out];show X++((vb (d - la - 1).toNat++vb pos.length++stepsL (-1) pos)++_)=_;simp[stepsL,PoC.po]
    have a5:X3.length<=50000000:=by rw[r0,List.length_append]at m7;omega
    have z5:X2.length<=X3.length:=by rw[c3,List.length_append];omega
    have y5:X1.length<=X2.length:=by rw[j4,List.length_append];omega
    have q8:pl<=50000000:=by
     have:=ZDy pos (-1);rw[c3,List.length_append,<-l3.out]at *;omega
    have a8:=ZX (m:=pl) (by omega);replace e4:=ZA e4;replace j4:=ZA j4;replace c3:=ZA c3;replace r0:=ZA r0;replace hq:=ZA hq;replace t3:=ZA t3;gi_wp2_with fail;obtain⟨W5,k4⟩:∃W5,W5=(wr.alloc (Obj.cells #[Value.int IntKind.i64 d,Value.slice B pl cB] 107)).alloc (Obj.cells #[Value.int IntKind.i64 d] 3):=⟨_,rfl⟩
    have f0:Ext wr W5:=by rw[k4];exact((Ext.refl wr).alloc _).alloc _
    have rp:Row W5 wr.heap.size 107 #[Value.int IntKind.i64 d,Value.slice B pl cB]:=by rw[k4];exact(Row.new wr _ _).alloc _
    have n6:Cells W5 (some ⟨wr.heap.size+1,0,none⟩) ([d].map IV):=by
     rw[k4];refine .inr ⟨_,0,rfl,fun u v hv=>?_⟩;have:=heap_alloc_new (wr.alloc (Obj.cells #[Value.int IntKind.i64 d,Value.slice B pl cB] 107)) (Obj.cells #[Value.int IntKind.i64 d] 3);rw[World.size_alloc]at this;rw[Nat.zero_add,cell_of_row _ _ _ _ _ _ this];simpa [IV]using hv
    rw[<-k4];have j0:=g0.out.1;refine(Zt (q7.out w.heap.size A9 _ n9 c9 1 1 X la 65536 [d] W5 (g0.out.ext f0) (by have:=(p0.out.trans f0).size;omega) rfl n6 (by simp[risB,l5,n5]) (by omega) (by omega) (by omega) (by omega))).mono ?_;rintro e w6 x5;obtain⟨A6,c6,rfl,u2,g5⟩:=x5;rw[<-e4.out]at u2 ⊢;obtain⟨gp,r5⟩:∃gp,gp=wr.heap.size:=⟨_,rfl⟩
    rw[<-r5]at rp ⊢;have rp6:=rp.ext g5;have y1:=rp6.cell 1 rfl;have x3:w.heap.size<=W5.heap.size:=(p0.out.trans f0).size;have o3:Hid (Ext wr w6):=ZA (f0.trans g5);have k6:w.heap.size<=w6.heap.size:=(p0.out.trans o3.out).size;obtain⟨n10,k3⟩:∃n10,n10=X1.length:=⟨_,rfl⟩
    rw[<-k3]at u2 y5 ⊢;replace k3:=ZA k3;replace rp6:=ZA rp6;replace u2:=ZA u2;replace r5:=ZA r5;clear k4 f0 rp n6 j0 g5 x3;gi_wp2_with fail;refine(Zt (e1.out A6 n10 c6 pl X1 w6 u2.out.1 u2.out.2.cells u2.out.nil_ (by omega) (by omega))).mono ?_;rintro e w7 a2;obtain⟨A7,c7,rfl,j2,l0⟩:=a2;rw[<-j4.out]at j2 ⊢;have rp7:=rp6.out.ext l0;have z1:=rp7.cell 1 rfl;have z0:=rp7.cell 0 rfl;have i3:Hid (Own8 w7 w.heap.size A7 X2.length c7 X2):=ZA ⟨rfl,j2.lower k6⟩;have y2:Hid (Ext wr w7):=ZA (o3.out.trans l0);have j6:w.heap.size<=w7.heap.size:=(p0.out.trans y2.out).size;obtain⟨n11,j3⟩:∃n11,n11=X2.length:=⟨_,rfl⟩
    rw[<-j3]at i3 z5 ⊢;replace j3:=ZA j3;replace rp7:=ZA rp7;clear j2 l0 y1;gi_wp2_with fail;refine(Zt (q7.out w.heap.size A7 B n11 c7 pl cB X2 (-1) 1048576 pos w7 i3.out j6 l3.out ((x6.out.1.ext p0.out).ext y2.out) t3.out (by omega) (by omega) (by omega) (by omega))).mono ?_;rintro e w8 x5;obtain⟨A8,c8,rfl,m0,z3⟩:=x5;rw[<-c3.out]at m0 ⊢;have rp8:=rp7.out.ext z3;have v0:=rp8.cell 0 rfl;have r3:Hid (Ext wr w8):=ZA (y2.out.trans z3);have r38:=c0.out.ext r3.out;have t0:=r38.cell 0 rfl;have t1:=r38.free 0;obtain⟨n12,m3⟩:∃n12,n12=X3.length:=⟨_,rfl⟩
    rw[<-m3]at m0 a5 ⊢;replace m3:=ZA m3;replace m0:=ZA m0;replace r38:=ZA r38;clear z0 z1 z3 rp8;gi_wp2_with fail;have p6:=r38.out.put 0 (.int .i64 d);have t4:Own8 (w8.setCell ⟨h1+2,0,none⟩ (.int .i64 d)) w.heap.size A8 n12 c8 X3:=⟨m0.out.1,m0.out.2.setCell (m0.out.2.unlike r38.out (by decide)) _⟩
    have i5:Chg (fun k=>k=h1+2) W2 (w8.setCell ⟨h1+2,0,none⟩ (.int .i64 d)):=(i2.out.trans (Chg.of_ext r3.out _) fun _ _ h=>h).trans (Chg.of_set (S:=fun k=>k=h1+2) w8 _ rfl) fun _ _ h=>h;exact⟨⟨i+1,n12,c8,A8,X3,d,rfl,by congr 1,by omega,by omega,by omega,by omega,r0,u3,v1,ZA t4,ZA p6,ZA i5⟩,by simp only[intOf];omega⟩
   ·have n4:bP.length=j:=by rw[k1.out,List.length_map];exact j1.out
    have b5:Y=X:=by rw[l6.out,List.drop_eq_nil_of_le (by rw[n4];omega),blockPo,List.append_nil]
    have b0:la=lz:=by rw[<-s6.out,List.drop_eq_nil_of_le (by rw[n4];omega),lastPo]
    have p4:HB w.heap.size h1 (h1+1) Hd Bd wr:=z2.out.chg i2.out fun k hk=>⟨3,#[.int .i64 lst],by rw[hk];exact u4.out,by decide,by decide⟩
    have a0:=p4;obtain⟨A1,B1,c1,d1,r1,r2,o1,o2,r4⟩:=p4;have f1:=r1.cell 0 rfl;have f3:=c0.out.cell 0 rfl;obtain⟨lN,q5⟩:∃lN:Nat,la=(lN:Int):=⟨la.toNat,by have:=hR.out.ne;rw[b0,e3.out];omega⟩
    have e7:lN<65536:=by omega
    have y8:=ZX (m:=lN) (by omega);have x8:=ZX (m:=n9) (by omega);rw[q5]at f3;have v5:Hd.length<=100000:=by
     have h1:=hR.out.hlen;have h2:=ZD (n:=m) (by omega);rw[i0.out,List.length_append];omega
    obtain⟨nh,j5⟩:∃nh,nh=Hd.length:=⟨_,rfl⟩
    rw[<-j5]at f1 v5 o1;obtain⟨H1,s3⟩:∃H1,H1=Hd++vb lN:=⟨_,rfl⟩
    obtain⟨H2,w3⟩:∃H2,H2=H1++vb n9:=⟨_,rfl⟩
    have b7:=ZD (n:=lN) (by omega);have d7:=ZD (n:=n9) (by omega);have m5:H1.length<=100010:=by rw[s3,List.length_append,<-j5];omega
    have t5:H2.length<=100020:=by rw[w3,List.length_append];omega
    have j0:=g0.out.1;have m6:=p0.out.size;replace j5:=ZA j5;replace s3:=ZA s3;replace w3:=ZA w3;replace q5:=ZA q5;replace b5:=ZA b5;replace b0:=ZA b0;replace a0:=ZA a0;replace r1:=ZA r1;replace r2:=ZA r2;replace o1:=ZA o1;replace o2:=ZA o2;replace r4:=ZA r4;replace j0:=ZA j0;replace n4:=ZA n4;clear b7 d7;gi_wp2_with fail;refine(Zt (e1.out A1 nh c1 lN Hd wr o1.out.1 o1.out.2.cells o1.out.nil_ (by omega) (by omega))).mono ?_;rintro e w7 a2;obtain⟨A7,c7,rfl,j2,l0⟩:=a2;rw[<-s3.out]at j2 ⊢;obtain⟨n7,p5⟩:∃n7,n7=H1.length:=⟨_,rfl⟩
    rw[<-p5]at j2 m5 ⊢;have i3:Hid (Own8 w7 w.heap.size A7 n7 c7 H1):=ZA ⟨p5,j2.lower m6⟩;replace p5:=ZA p5;replace l0:=ZA l0;clear j2;gi_wp2_with fail;refine(Zt (e1.out A7 n7 c7 n9 H1 w7 i3.out.1 i3.out.2.cells i3.out.nil_ (by omega) (by omega))).mono ?_;rintro e w8 a2;obtain⟨A8,c8,rfl,m0,z3⟩:=a2;rw[<-w3.out]at m0 ⊢;obtain⟨n8,k5⟩:∃n8,n8=H2.length:=⟨_,rfl⟩
    rw[<-k5]at m0 t5 ⊢;have q0:Hid (Ext wr w8):=ZA (l0.out.trans z3);have r18:=r1.out.ext q0.out;have s0:=r18.cell 0 rfl;have s1:=r18.free 0;have q4:=ZA (a0.out.head (W6:=w8) (B1:=w7.heap.size) (by omega) q0.out k5 m0 l0.out.size (by have:=l0.out.size;omega));replace r18:=ZA r18;replace k5:=ZA k5;clear m0 z3;have v4:Hid (Own8 (w8.setCell ⟨h1,0,none⟩ (.slice A8 n8 c8)) w.heap.size A9 n9 c9 X):=ZA ⟨g0.out.1,((g0.out.2.ext q0.out)).setCell ((g0.out.2.ext q0.out).unlike r18.out (by decide)) _⟩;have l2:KeepsOthers W2 (w8.setCell ⟨h1,0,none⟩ (.slice A8 n8 c8)):=((i2.out.others fun k hk=>⟨3,#[.int .i64 lst],by rw[hk];exact u4.out⟩).trans q0.out.others).trans (KeepsOthers.setCell _ _ _);have w0:Row (w8.setCell ⟨h1,0,none⟩ (.slice A8 n8 c8)) b1 43 #[.slice A m c]:=(((i2.out.row i1.out (by omega)).ext q0.out)).away (by simp;omega) _;have p1:Row (w8.setCell ⟨h1,0,none⟩ (.slice A8 n8 c8)) b2 3 #[.int .i64 32]:=(((i2.out.row l1.out (by omega)).ext q0.out)).away (by simp;omega) _;have v3:Row (w8.setCell ⟨h1,0,none⟩ (.slice A8 n8 c8)) (h1+2) 3 #[.int .i64 la]:=(c0.out.ext q0.out).away (by simp) _;have n0:Ext w (w8.setCell ⟨h1,0,none⟩ (.slice A8 n8 c8)):=(p0.out.trans q0.out).setCell (by simpa using s5) _;replace l2:=ZA l2;replace w0:=ZA w0;replace p1:=ZA p1;replace v3:=ZA v3;replace n0:=ZA n0;have k7:Bd.length<=50000000:=by have:=hR.out.len;have:=p2.out;rw[e0.out];omega
    have r28:Row (w8.setCell ⟨h1,0,none⟩ (.slice A8 n8 c8)) (h1+1) 25 #[.slice B1 Bd.length d1]:=(r2.out.ext q0.out).away (by simp) _;have s2:=(r2.out.ext q0.out).cell 0 rfl;have f5:Buf (w8.setCell ⟨h1,0,none⟩ (.slice A8 n8 c8)) w.heap.size 5 B1 Bd.length d1 (Bd.map B8):=(o2.out.2.ext q0.out).setCell ((o2.out.2.ext q0.out).unlike r18.out (by decide)) _;have u6:Cells (w8.setCell ⟨h1,0,none⟩ (.slice A8 n8 c8)) A9 (X.map B8):=v4.out.2.cells;have d2:(X.map B8).length=n9:=by rw[List.length_map];exact j0.out.symm
    have g6:=n0.out.size;replace r28:=ZA r28;replace f5:=ZA f5;replace u6:=ZA u6;replace d2:=ZA d2;gi_wp2_with (gi_at_builtin;refine Z3 ZV f5.out u6.out (.tmp 57) (.tmp 58) rfl rfl rfl rfl rfl d2.out (ZF _) (by omega) g6 (fun A10 c10 w10 e2 m1 z4 n2=>?_);have r210:=HB.rows q4.out r28.out m1 r28.out (by decide);have u0:=r210.cell 0 rfl;have u1:=r210.free 0;replace r210:=ZA r210;replace e2:=ZA e2;replace m1:=ZA m1;replace z4:=ZA z4;replace n2:=ZA n2);obtain⟨g1,g2,g3,g4⟩:=HB.body (x:=X) q4.out (by omega) r28.out m1.out (by rw[List.length_append,<-j0.out]) (by rw[List.map_append];exact e2.out) n2.out;refine⟨l2.out.trans g2,KeepB.of i1.out (g3 _ _ _ w0.out (by decide) (by omega)) l1.out (g3 _ _ _ p1.out (by decide) (by omega)),?_,g3 _ _ _ ?_ (by decide) (by omega),g3 _ _ _ w0.out (by decide) (by omega),g3 _ _ _ p1.out (by decide) (by omega),g4 _ n0.out (Nat.le_refl _) (by omega)⟩
    ·rw[List.length_append,List.length_singleton,hR.out.head,hR.out.body,<-e0.out,<-List.append_assoc,<-List.append_assoc,<-i0.out,<-hY.out,b5.out,<-e3.out,<-b0.out,<-j0.out,q5.out,Int.toNat_natCast,<-s3.out,<-w3.out];exact g1
    ·rw[List.length_append,List.length_singleton,hR.out.last2,<-e3.out,<-b0.out];exact v3.out
 case hdone =>
  rintro D xs W2 W3 W5 hD hI ⟨e6,j7,g7,f6⟩ a6 hk;have b3:P.length=m:=by rw[hP.out,hm.out];exact List.length_map ..
  have k0:=ZF5 P xs.length (by rw[b3];exact e6);rw[b3]at k0;have u5:=(hI.ext f6).alike a6 d0;have d4:=u5.1;have f0:=u5.2.2.2.2;obtain⟨A1,B1,c1,d1,r1,r2,o1,o2,r4⟩:=d4;obtain⟨Hd,i0⟩:∃Hd,Hd=vb m++headPo (-1) ((chunkL 32 P).take xs.length):=⟨_,rfl⟩
  obtain⟨Bd,e0⟩:∃Bd,Bd=blockPo (-1) (P.take (xs.length*32)):=⟨_,rfl⟩
  rw[<-i0]at r1 o1 k0;rw[<-e0]at r2 o2 k0;have f1:=r1.cell 0 rfl;have f2:=r2.cell 0 rfl;have g8:Hd.length<=50000000:=by
   have h1:=ZDD v2.out p2.out xs.length;have h2:=ZD (n:=m) (by omega);have h3:(headPo (-1) ((chunkL 32 P).take xs.length)).length<=20*(chunkL 32 P).length:=by
    have:=ZDD v2.out p2.out (chunkL 32 P).length;rw[List.take_length]at this;refine Nat.le_trans ?_ this;have h4:=ZCS ((chunkL 32 P).take xs.length) ((chunkL 32 P).drop xs.length) (-1);rw[List.take_append_drop]at h4;rw[h4,List.length_append];omega
   have h5:=ZZ (k:=32) (by omega) P;rw[i0,List.length_append];omega
  have j8:Bd.length<=50000000:=by have:=ZBt P (xs.length*32);have:=p2.out;rw[e0];omega
  have x3:=f0.size;have t6:=o2.2.cells;have f4:=o1.2;have w5:(Bd.map B8).length=Bd.length:=List.length_map ..;replace k0:=ZA k0;replace i0:=ZA i0;replace e0:=ZA e0;replace r1:=ZA r1;replace r2:=ZA r2;replace t6:=ZA t6;replace f4:=ZA f4;replace w5:=ZA w5;replace f0:=ZA f0;replace hk:=ZA hk;clear hI u5 e6 j7 g7 f6 a6 o1 o2 r4;gi_wp2_with (gi_at_builtin;refine Z3 ZV f4.out t6.out (.tmp 60) (.tmp 61) rfl rfl rfl rfl rfl w5.out (ZF _) (by omega) x3 (fun A6 c6 w6 e5 o5 v6 r6=>?_);replace e5:=ZA e5;replace o5:=ZA o5;replace v6:=ZA v6;replace r6:=ZA r6);have a7:w6.heap[D]? = some (.deferred (some [])):=(ZAF f4.out o5.out).same _ _ hk.out rfl;refine ZAO (B:=w4.heap.size) rfl a7 hD fun W ha=>⟨_,results_tmp2 rfl _ _ _,?_⟩
  refine⟨A6,c6,?_,⟨rfl,?_⟩,ha.ext (v6.out w f0.out (Nat.le_refl _)) d0⟩
  ·rw[k0.out,List.length_append];rfl
  ·rw[k0.out,List.length_append,List.map_append];exact ha.buf e5.out
end
section
open Go.RowKit
def RdSt (w0:World) (p1 p2:Nat) (r:List UInt8) (W:World):Prop:=∃A c,Row W p1 25 #[.slice A r.length c]/\Row W p2 4 #[.bool false]/\In8 w0 A r.length c r/\Ext w0 W
theorem RdSt.chg {w0:World} {p1 p2:Nat} {r:List UInt8} {W W1:World} {S:Nat->Prop} (h:RdSt w0 p1 p2 r W) (hc:Chg S W W1) (h1:¬ S p1) (h2:¬ S p2) (h0:∀k,S k->w0.heap.size<=k):RdSt w0 p1 p2 r W1:=by
 obtain⟨A,c,r1,r2,hi,hE⟩:=h;exact⟨A,c,hc.row r1 h1,hc.row r2 h2,hi,hE.chg hc fun i hi hs=>by have:=h0 i hs;omega⟩
theorem RdSt.ext {w0:World} {p1 p2:Nat} {r:List UInt8} {W W1:World} (h:RdSt w0 p1 p2 r W) (hE:Ext W W1):RdSt w0 p1 p2 r W1:=by
 obtain⟨A,c,r1,r2,hi,h0⟩:=h;exact⟨A,c,r1.ext hE,r2.ext hE,hi,h0.trans hE⟩
def NumR (w0:World) (p1 p2 q:Nat) (r:List UInt8) (W:World) (e:Ending) (W':World):Prop:=e = .returned (.int .i64 (q:Int))/\RdSt w0 p1 p2 r W'/\Chg (fun k=>k=p1) W W'
theorem wrap_i64 {q:Nat} (h:q<9223372036854775808):IntKind.i64.wrap (q:Int)=(q:Int):=by
 simp[IntKind.wrap,IntKind.bits,IntKind.signed];omega
theorem ZJZ (w0 W:World) (p1 p2 q:Nat) (r:List UInt8) (z:Int) (h:RdSt w0 p1 p2 (vb q++r) W) (p0:w0.heap.size<=p1) (hp:p1≠p2) (hz:(q:Int)<=z) (m0:z<=1099511627776) (q0:(vb q++r).length<=1000000000) :
 Calls Tryz.prog 106 #[.int .i64 z,.pointer (some ⟨p1,0,none⟩),.pointer (some ⟨p2,0,none⟩)] W fun e W'=>NumR w0 p1 p2 q r W e W':=by
 obtain⟨A,c,r1,r2,hi,hE⟩:=h;have hg:=ZA1 A (vb q++r).length c (vb q++r) w0 W hi hE q0;rw[Zm (by omega)]at hg;obtain⟨n,hn⟩:∃n,n=(vb q++r).length:=⟨_,rfl⟩
 rw[<-hn]at hg r1 q0;obtain⟨b,hb⟩:∃b:Nat,z=(b:Int):=⟨z.toNat,by omega⟩
 subst hb;have k1:=r1.cell 0 rfl;have j0:=ZX (m:=b) (by omega);have g0:=wrap_i64 (q:=q) (by omega);have k0:¬ (b:Int)<(q:Int):=by omega
 replace hg:=ZA hg;replace r1:=ZA r1;replace r2:=ZA r2;replace hi:=ZA hi;replace hE:=ZA hE;replace hn:=ZA hn;go_enter Tryz.func106,Tryz.ntmps106;go_wp2_with fail;refine hg.out.mono ?_;rintro e w1 ⟨h0,A1,c1,rfl,hi1⟩;have r11:=r1.out.ext h0;have r21:=r2.out.ext h0;have k2:=r21.cell 0 rfl;have k3:=r11.cell 0 rfl;have k4:=r11.free 0;have k5:=r21.free 0;replace r11:=ZA r11;replace r21:=ZA r21;replace h0:=ZA h0;replace hi1:=ZA hi1;go_wp2_with fail;go_ret;refine⟨rfl,⟨A1,c1,r11.out.put 0 _,r21.out.away (by simpa using fun e=>hp e.symm) _,hi1.out,(hE.out.trans h0.out).setCell p0 _⟩,(Chg.of_ext h0.out _).trans (Chg.of_set (S:=fun k=>k=p1) w1 _ rfl) fun _ _ h=>h⟩
theorem ZEW (A B:Option Addr) (n m c c2:Nat) (a b:List UInt8) (w:World) (ha:In8 w A n c a) (hb:In8 w B m c2 b) (hn:n<=1000000000) (hm:m<=1000000000) :
 Calls Tryz.prog 96 #[.slice A n c,.slice B m c2] w fun e w'=>e = .returned (.bool (decide (a=b)))/\Ext w w':=by
 have h0:=ha.len;have q0:=hb.len;have p0:((n:Int) != (m:Int))=true->decide (a=b)=false:=fun h=>decide_eq_false fun e=>by rw[e]at h0;simp at h;omega
 replace p0:=ZA p0;by_cases u0:n=m
 ·subst u0;replace h0:=ZA h0;replace q0:=ZA q0;clear p0;go_enter Tryz.func96,Tryz.ntmps96;go_wp2_with fail
  go_loopw [13] (fun s13 wr=>∃i:Nat,s13 = .int .i64 i/\i<=n/\Hid (a.take i=b.take i)/\Hid (Ext w wr)) (fun s13 _=>n - (intOf s13).toNat)
  case atStart=>exact⟨0,rfl,by omega,rfl,ZA (Ext.refl w)⟩
  case round =>
   obtain⟨i,rfl,hi,hab,hE⟩:=hrel;by_cases v0:i<n
   ·have m0:i<a.length:=by rw[<-h0.out];exact v0
    have t0:i<b.length:=by rw[<-q0.out];exact v0
    obtain⟨g,o,rfl,hc⟩:=ha.bytes.at_ (by omega);obtain⟨g2,o2,rfl,g0⟩:=hb.bytes.at_ (by omega);have k0:=hE.out.cell (hc i m0);have k1:=hE.out.cell (g0 i t0);have hx:a[i]=b[i]->a.take (i+1)=b.take (i+1):=fun h=>by rw[List.take_succ_eq_append_getElem m0,List.take_succ_eq_append_getElem t0,hab.out,h]
    have hy:a[i]≠b[i]->decide (a=b)=false:=fun h=>decide_eq_false fun e=>h (by subst e;rfl);obtain⟨p,hp⟩:∃p,p=a[i]:=⟨_,rfl⟩
    obtain⟨q,hq⟩:∃q,q=b[i]:=⟨_,rfl⟩
    rw[<-hp,<-hq]at hx hy;rw[<-hp]at k0;rw[<-hq]at k1;have z0:(0:Int)<=i:=by omega
    have hi1:(i:Int)<n:=by omega
    replace hx:=ZA hx;replace hy:=ZA hy;clear hp hq hc g0;by_cases j0:p=q
    ·subst j0;have x0:=ZA (hx.out rfl);clear hx hy;go_wp2_with fail;go_quiet (fail);go_wp2_with fail;go_roundw
     case rel=>exact⟨i+1,by go_num,by omega,x0,by first | exact ZA hE.out.drew | exact ZA (hE.out.drewN _)⟩
     case measure=>simp[intOf];omega
    ·have y0:=ZA (hy.out j0);have a0:(((p.toNat:Int)) != (q.toNat:Int))=true:=by simp;exact fun h=>j0 (UInt8.toNat_inj.1 (by omega))
     clear hx hy;go_wp2_with fail;go_quiet (fail);go_wp2_with fail;go_ret;exact⟨Zw y0.out.symm,by first | exact hE.out.drew | exact hE.out.drewN _⟩
   ·obtain rfl:i=n:=by omega
    have hd:decide (a=b)=true:=decide_eq_true (by
     have h:=hab.out;rw[List.take_of_length_le (by rw[<-h0.out];exact Nat.le_refl _),List.take_of_length_le (by rw[<-q0.out];exact Nat.le_refl _)]at h;exact h)
    replace hd:=ZA hd;go_wp2_with fail;go_ret;exact⟨Zw hd.out.symm,hE.out⟩
 ·have hd:=ZA (p0.out (by simp;omega));clear p0 h0 q0 ha hb;go_enter Tryz.func96,Tryz.ntmps96;go_wp2_with fail;go_ret;exact⟨Zw hd.out.symm,Ext.refl w⟩
theorem In8.take {w:World} {A:Option Addr} {n c:Nat} {l:List UInt8} (h:In8 w A n c l) {k:Nat} (hk:k<=n):In8 w A k c (l.take k):=by
 refine⟨by rw[List.length_take,<-h.len];omega,?_,by have:=h.cap;omega,h.nil_,h.at_⟩;rcases h.bytes with hb | ⟨g,o,hA,hb⟩
 ·left;have:l = []:=by simpa using hb
  rw[this];simp
 ·refine .inr ⟨g,o,hA,fun i v hv=>hb i v ?_⟩;rw[List.getElem?_map]at hv ⊢;rw[List.getElem?_take]at hv;split at hv
  ·exact hv
  ·cases hv
def NewPs (w:World) (L:List Po) (e:Ending) (w':World):Prop:=∃(ps:List PoC) (A:Option Addr) (c:Nat),psP ps=L/\e = .returned (.tuple #[.slice A L.length c,.int .i64 0])/\PosOk w' A ps/\(∀a,A=some a->a.spot=none)/\L.length<=c/\Ext w w'
theorem ZKn {L:List Po} (h0:okPs L=true) (q0:(blockPo (-1) L).length<=50000000):(encPs L).length<=60000000:=by
 have h1:=ZCy h0;have h2:=ZDD h0 q0 (chunkL 32 L).length;rw[List.take_length]at h2;have h3:=ZZ (k:=32) (by omega) L;have h4:=ZD (n:=L.length) (by omega);unfold encPs;rw[List.length_append,List.length_append];omega
theorem ZM3:Elem Tryz.prog 43 107 2 32:=⟨Tryz.underlying43,⟨_,_,rfl,rfl,rfl,rfl,rfl⟩,by omega,by omega⟩
structure PoRead (L:List Po) (i:Nat) (p:Po) (la:Int):Prop where
  eq:la=lastPo (-1) (L.take i)
  lo : -1<=la
  hi:la<65536
  lt:la<p.1
  lt2:p.1<65536
  pos:0<p.2.length
  ris:risB 1048576 (-1) p.2=true
  len:p.2.length<=1048576
  rest:blockPo la (L.drop i)=vb (p.1 - la - 1).toNat++(vb p.2.length++(stepsL (-1) p.2++blockPo p.1 (L.drop (i+1))))
  next:lastPo (-1) (L.take (i+1))=p.1
  all:(blockPo la (L.drop i)).length<=(blockPo (-1) L).length
theorem ZNi {L:List Po} (h0:okPs L=true) {i:Nat} {p:Po} (hp:L[i]? = some p):PoRead L i p (lastPo (-1) (L.take i)):=by
 rw[ZCU,Bool.and_eq_true]at h0;have h1:=ZD5 i h0.1;have hb:=ZAj (l:=L.take i) (lo:= -1) (n:=65536) (by rw[List.map_take];exact Zv _ h0.1) (by omega);rw[Zo hp,List.map_cons]at h1;obtain⟨h2,h3,h4⟩:=ZAS h1;have h5:=List.all_eq_true.1 h0.2 p (List.mem_of_getElem? hp);unfold okPo at h5;rw[Bool.and_eq_true]at h5;have h6:=ZCH h5.2 (by omega);refine⟨rfl,hb.1,hb.2,h2,h3,of_decide_eq_true h5.1,h5.2,by omega,?_,?_,?_⟩
 ·rw[Zo hp];show onePo _ p++blockPo p.1 _=_;unfold onePo;simp
 ·rw[List.take_add_one,hp,ZAl];rfl
 ·conv=>rhs;rw[<-List.take_append_drop i L,Zn,List.length_append]
  omega
structure Done (w wr:World) (A:Option Addr) (i c:Nat) (dn:List PoC):Prop where
  len:dn.length=i
  own:wr.ownsRow w.heap.size 107 2 (.slice A i c) i (pcells dn)
  each:∀x∈dn,Buf wr w.heap.size 3 x.A x.pos.length x.c (x.pos.map IV)/\x.pos.length<=1000000000
theorem Done.chg {w wr w1:World} {A:Option Addr} {i c:Nat} {dn:List PoC} {S:Nat->Prop} (h:Done w wr A i c dn) (hc:Chg S wr w1) (hS:∀k,S k->∃t cs,Row wr k t cs/\t≠107/\t≠3):Done w w1 A i c dn:=by
 refine⟨h.len,hc.owns h.own fun g hg hs=>?_,fun x hx=>⟨(h.each x hx).1.chg hc fun a ha hs=>?_,(h.each x hx).2⟩⟩
 ·obtain⟨t,cs,hr,h1,_⟩:=hS _ hs;exact ZJ h.own hr (fun e=>h1 e.symm) hg
 ·obtain⟨t,cs,hr,_,h2⟩:=hS _ hs;exact(h.each x hx).1.unlike hr (fun e=>h2 e.symm) a ha rfl
theorem ZGw:∀ {l:List Int} {lo:Int},risB 1048576 lo l=true -> -1<=lo->(stepsL lo l).length<=10*l.length:=fun h h2=>by have:=ZEs h h2;omega
theorem Zg (w:World) (us:List Value) (T:TypeId):Cells (w.alloc (.cells us.toArray T)) (some ⟨w.heap.size,0,none⟩) us :=
 .inr ⟨w.heap.size,0,rfl,fun i u hu=>by
  rw[Nat.zero_add,cell_of_row _ _ _ _ _ _ (heap_alloc_new w _)];simpa using hu⟩
theorem Done.pos {w wr:World} {A:Option Addr} {i c:Nat} {dn:List PoC} (h:Done w wr A i c dn):PosOk wr A dn:=⟨Cells.of_own h.own,fun x hx=>⟨(h.each x hx).1.cells,(h.each x hx).2⟩⟩
theorem RdSt.rows {w0:World} {p1 p2:Nat} {r:List UInt8} {W W1:World} (h:RdSt w0 p1 p2 r W) (hr:∀g t cs,Row W g t cs->t=25\/t=4->Row W1 g t cs) (hE:Ext w0 W1):RdSt w0 p1 p2 r W1:=by
 obtain⟨A,c,r1,r2,hi,_⟩:=h;exact⟨A,c,hr _ _ _ r1 (.inl rfl),hr _ _ _ r2 (.inr rfl),hi,hE⟩
theorem ZAk {w w1:World} {base n c:Nat} {e t:TypeId} {A:Option Addr} {xs:List Value} (hb:Buf w base e A n c xs) (hg:w.grownBy w1 (Value.slice A n c).ownBlock) {g:Nat} {cs:Array Value} (hr:Row w g t cs) (ht:t≠e):Row w1 g t cs :=
 hr.grown hg fun h=>by
  cases A with
  | none=>simp[Value.ownBlock]at h
  | some a=>exact hb.unlike hr (fun e=>ht e.symm) a rfl (by simpa [Value.ownBlock]using h.symm)
theorem ZGJ (A:Option Addr) (n c:Nat) (bs:List UInt8) (w:World) (L:List Po) (h:In8 w A n c bs) (x1:okPs L=true) (g2:bs=encPs L) (o1:(blockPo (-1) L).length<=50000000) :
 Calls Tryz.prog 59 #[.slice A n c] w fun e w'=>NewPs w L e w':=by
 have h5:=ZKn x1 o1;rw[<-g2,<-h.len]at h5;obtain⟨m,hm⟩:∃m,m=L.length:=⟨_,rfl⟩
 have o5:m<=65536:=by rw[hm];exact ZCy x1
 obtain⟨R,hR⟩:∃R,R=headPo (-1) (chunkL 32 L)++blockPo (-1) L:=⟨_,rfl⟩
 have f0:bs=vb m++R:=by rw[g2,hR,hm];unfold encPs;rw[List.append_assoc]
 have s0:n=(vb m++R).length:=by rw[<-f0];exact h.len
 obtain⟨W0,f1⟩:∃W0,W0=(w.alloc (Obj.cells #[.slice A n c] 25)).alloc (Obj.cells #[.bool false] 4):=⟨_,rfl⟩
 obtain⟨p1,y2⟩:∃p1,p1=w.heap.size:=⟨_,rfl⟩
 have a3:RdSt w p1 (p1+1) (vb m++R) W0:=by
  have r1:Row W0 p1 25 #[.slice A n c]:=by rw[f1,y2];exact(Row.new w _ _).alloc _
  have r2:Row W0 (p1+1) 4 #[.bool false]:=by
   have:=Row.new (w.alloc (Obj.cells #[.slice A n c] 25)) 4 #[.bool false];rw[World.size_alloc,<-y2]at this;rw[f1];exact this
  refine⟨A,c,by rw[<-s0];exact r1,r2,by rw[<-s0,<-f0];exact h,by rw[f1];exact((Ext.refl w).alloc _).alloc _⟩
 have t0:=ZA (fun W q r z h1 h2 h3 h4=>ZJZ w W p1 (p1+1) q r z h1 (by omega) (by omega) h2 h3 h4);replace a3:=ZA a3;replace x1:=ZA x1;replace o1:=ZA o1;replace g2:=ZA g2;replace f0:=ZA f0;replace hR:=ZA hR;replace f1:=ZA f1;replace y2:=ZA y2;replace h:=ZA h;replace s0:=ZA s0;replace hm:=ZA hm;go_enter Tryz.func59,Tryz.ntmps59;go_wp2_with fail;rw[<-f1.out,<-y2.out];refine(t0.out W0 m R 65536 a3.out (by omega) (by omega) (by rw[<-s0.out];omega)).mono ?_;rintro e w1 ⟨rfl,b3,g3⟩;replace b3:=ZA b3;replace g3:=ZA g3;obtain⟨nc,x2⟩:∃nc,nc=(chunkL 32 L).length:=⟨_,rfl⟩
 have v1:((m:Int)+32 - 1) / 32=(nc:Int):=by rw[x2,ZZ (by omega),hm.out];omega
 have g5:nc<=4096:=by omega
 have y3:R.length<=100000000:=by have:=s0.out;rw[List.length_append]at this;omega
 replace x2:=ZA x2;replace y3:=ZA y3;replace v1:=ZA v1;go_wp2_with fail;rw[v1.out]
 go_loopw [24] (fun s24 wr=>∃(k:Nat) (r:List UInt8),s24 = .int .i64 (k:Int)/\k<=nc/\Hid (r.length<=100000000)/\Hid (r=headPo (lastPo (-1) (L.take (k*32))) ((chunkL 32 L).drop k)++blockPo (-1) L)/\Hid (RdSt w p1 (p1+1) r wr)/\Hid (Chg (fun k=>k=p1) W0 wr)) (fun s24 _=>nc - (intOf s24).toNat)
 case atStart=>exact⟨0,R,rfl,by omega,y3,ZA (by rw[hR.out];simp[lastPo]),b3,g3⟩
 case round =>
  obtain⟨k,r,rfl,hk,i4,hr,hS,hC⟩:=hrel;by_cases l5:k<nc
  ·have t1:k*32<L.length:=by
    rcases Nat.lt_or_ge (k*32) L.length with h1 | h1
    ·exact h1
    ·have:=ZAR (k:=32) (by omega) k L h1;rw[<-x2.out]at this;omega
   have h0:=ZFP x1.out o1.out t1;have o3:=Zo (ZAP (k:=32) (by omega) k L t1);obtain⟨bP,o2⟩:∃bP,bP=(L.drop (k*32)).take 32:=⟨_,rfl⟩
   obtain⟨lst,l0⟩:∃lst,lst=lastPo (-1) (L.take (k*32)):=⟨_,rfl⟩
   rw[<-o2,<-l0]at h0;rw[<-o2]at o3;have t4:=hr.out;rw[o3,<-l0]at t4;obtain⟨q1,a1⟩:∃q1:Nat,q1=(lastPo lst bP).toNat:=⟨_,rfl⟩
   obtain⟨q2,a2⟩:∃q2:Nat,q2=(blockPo lst bP).length:=⟨_,rfl⟩
   have z2:(q1:Int)<=65536:=by have:=h0.hi2;omega
   obtain⟨r2,b1⟩:∃r2,r2=headPo (lastPo lst bP) ((chunkL 32 L).drop (k+1))++blockPo (-1) L:=⟨_,rfl⟩
   have u4:r=vb q1++(vb q2++r2):=by
    rw[t4,b1,a1,a2];show (vb _++vb _++headPo _ _)++_=_;simp
   have b2:(q2:Int)<=(n:Int):=by
    have h1:=h0.len;have h2:=s0.out;rw[hR.out]at h2;simp only[List.length_append]at h2;omega
   have m0:(vb q1++(vb q2++r2)).length<=100000000:=by rw[<-u4];exact i4.out
   have x0:(vb q2++r2).length<=100000000:=by rw[List.length_append]at m0;omega
   have j0:r2.length<=100000000:=by rw[List.length_append]at x0;omega
   have l3:=ZA (fun W h=>t0.out W q1 (vb q2++r2) 65536 h z2 (by omega) (by omega));have n3:=ZA (fun W h=>t0.out W q2 r2 (n:Int) h b2 (by omega) (by omega));have z3:Hid (RdSt w p1 (p1+1) (vb q1++(vb q2++r2)) wr):=ZA (by rw[<-u4];exact hS.out);have v4:Hid (r2=headPo (lastPo (-1) (L.take ((k+1)*32))) ((chunkL 32 L).drop (k+1))++blockPo (-1) L):=ZA (by rw[h0.last2];exact b1);clear t4 u4 m0 x0 h0 o3 b1 b2 z2 t1;replace o2:=ZA o2;replace l0:=ZA l0;replace a1:=ZA a1;replace a2:=ZA a2;replace j0:=ZA j0;go_wp2_with fail;refine(l3.out _ z3.out).mono ?_;rintro e w3 ⟨rfl,a0,t3⟩;replace a0:=ZA a0;replace t3:=ZA (hC.out.trans t3 fun _ _ h=>h);go_wp2_with fail;refine(n3.out _ a0.out).mono ?_;rintro e w4 ⟨rfl,j1,o0⟩;replace j1:=ZA j1;replace o0:=ZA (t3.out.trans o0 fun _ _ h=>h);go_wp2_with fail;exact⟨⟨k+1,r2,by congr 1,by omega,j0,v4,j1,o0⟩,by simp only[intOf];omega⟩
  ·have l4:r=blockPo (-1) (L.drop 0):=by
    rw[hr.out,List.drop_eq_nil_of_le (by rw[<-x2.out];omega),headPo,List.nil_append,List.drop_zero]
   have z3:Hid (RdSt w p1 (p1+1) (blockPo (-1) (L.drop 0)) wr):=ZA (by rw[<-l4];exact hS.out);clear l4 hr hS i4;go_wp2_with fail
   go_loopw [8,9,10] (fun s8 s9 s10 wv=>∃(i c8:Nat) (A8:Option Addr) (la:Int) (dn:List PoC),s8 = .slice A8 i c8/\s9 = .int .i64 la/\s10 = .int .i64 (i:Int)/\i<=m/\Hid (la=lastPo (-1) (L.take i))/\Hid (RdSt w p1 (p1+1) (blockPo la (L.drop i)) wv)/\Hid (Done w wv A8 i c8 dn)/\Hid (psP dn=L.take i)) (fun _ _ s10 _=>m - (intOf s10).toNat)
   case atStart=>exact⟨0,0,none,-1,[],rfl,rfl,rfl,by omega,ZA rfl,z3,ZA ⟨rfl,World.ownsRow_nil _ _ _ _,nofun⟩,ZA rfl⟩
   case round =>
    obtain⟨i,c8,A8,la,dn,rfl,rfl,rfl,him,k5,z0,n1,f4⟩:=hrel;obtain⟨wv,rfl⟩:∃wv,wv=wr:=⟨_,rfl⟩
    obtain⟨B0,d0,r10,r20,_,_⟩:=z0.out;have kw:=r20.cell 0 rfl;clear r10 r20;by_cases p5:i<m
    ·obtain⟨p,q3⟩:∃p,L[i]? = some p:=⟨_,List.getElem?_eq_getElem (by rw[<-hm.out];exact p5)⟩
     have h0:=ZNi x1.out q3;rw[<-k5.out]at h0;have a0:=z0.out;rw[h0.rest]at a0;have m0:=h0.all;rw[h0.rest]at m0;obtain⟨d,pos⟩:=p;have a5:la<d:=h0.lt;have b5:d<65536:=h0.lt2;have n5:=h0.lo;have i5:=h0.hi;simp only at a0 m0;obtain⟨q1,a1⟩:∃q1:Nat,q1=(d - la - 1).toNat:=⟨_,rfl⟩
     have e5:la+1+(q1:Int)=d:=by omega
     obtain⟨pl,n0⟩:∃pl,pl=pos.length:=⟨_,rfl⟩
     obtain⟨tl,j3⟩:∃tl,tl=blockPo d (L.drop (i+1)):=⟨_,rfl⟩
     rw[<-a1,<-n0,<-j3]at a0 m0;have v2:(vb q1++(vb pl++(stepsL (-1) pos++tl))).length<=50000000:=Nat.le_trans m0 o1.out;have x0:(vb pl++(stepsL (-1) pos++tl)).length<=50000000:=by rw[List.length_append]at v2;omega
     have j0:(stepsL (-1) pos++tl).length<=50000000:=by rw[List.length_append]at x0;omega
     have m5:pl<=1048576:=by have:=h0.len;rw[n0];exact this
     obtain⟨mn,p4⟩:∃mn:Nat,(mn:Int)=min 1048576 (n:Int):=⟨min 1048576 n,by omega⟩
     have z1:(pl:Int)<=(mn:Int):=by
      have h1:=ZDy pos (-1);have h2:=h0.all;have h3:=s0.out;rw[hR.out,List.length_append,List.length_append]at h3;rw[h0.rest]at h2;simp only[List.length_append]at h2;omega
     have k4:(mn:Int)<=1099511627776:=by omega
     have j5:=fun(W:World)=>Zf (P:=Tryz.prog) #[3,3] 3 p4 W;have l3:=ZA (fun W h=>t0.out W q1 (vb pl++(stepsL (-1) pos++tl)) 65536 h (by omega) (by omega) (by omega));have n3:=ZA (fun W h=>t0.out W pl (stepsL (-1) pos++tl) (mn:Int) h z1 k4 (by omega));replace p4:=ZA p4;replace a0:=ZA a0;replace h0:=ZA h0;replace q3:=ZA q3;replace a1:=ZA a1;replace n0:=ZA n0;replace j3:=ZA j3;replace z1:=ZA z1;clear m0 v2 x0;replace j0:=ZA j0;go_wp2_with fail;refine(l3.out _ a0.out).mono ?_;rintro e w3 ⟨rfl,j1,o0⟩;obtain⟨g11,v0⟩:∃g11,g11=w3.heap.size:=⟨_,rfl⟩
     obtain⟨W4,i1⟩:∃W4,W4=w3.alloc (.cells #[.int .i64 d,.slice none 0 0] 107):=⟨_,rfl⟩
     have x4:Row W4 g11 107 #[.int .i64 d,.slice none 0 0]:=by rw[i1,v0];exact Row.new w3 _ _
     have j2:RdSt w p1 (p1+1) (vb pl++(stepsL (-1) pos++tl)) W4:=by rw[i1];exact j1.ext ((Ext.refl w3).alloc _)
     have v3:Chg (fun k=>k=p1) wv W4:=by rw[i1];exact o0.trans (Chg.of_ext ((Ext.refl w3).alloc _) _) fun _ _ h=>h
     have q5:wv.heap.size<=g11:=by rw[v0];exact o0.size
     replace j1:=ZA j1;replace o0:=ZA o0;replace j2:=ZA j2;replace v3:=ZA v3;replace x4:=ZA x4;replace i1:=ZA i1;replace v0:=ZA v0;go_wp2_with fail;rw[<-i1.out,<-v0.out];refine(n3.out _ j2.out).mono ?_;rintro e w5 ⟨rfl,e3,e2⟩;have t5:Hid (Row w5 g11 107 #[.int .i64 d,.slice none 0 0]):=ZA (e2.row x4.out (by rintro rfl;have:=z0.out;obtain⟨_,_,q,_⟩:=this;have:=q.lt;omega));replace e2:=ZA (v3.out.trans e2 fun _ _ h=>h);replace e3:=ZA e3;obtain⟨sz,q0⟩:∃sz,sz=wv.heap.size:=⟨_,rfl⟩
     rw[<-q0]at q5;replace q0:=ZA q0;go_wp2_with fail
     go_loopw [12,13] (fun s12 s13 w6=>∃(t c3:Nat) (A3:Option Addr) (z:Int),s12 = .int .i64 z/\s13 = .int .i64 ((pl - t:Nat):Int)/\t<=pl /\ -1<=z/\z<1048576/\Hid (risB 1048576 z (pos.drop t)=true)/\Hid (RdSt w p1 (p1+1) (stepsL z (pos.drop t)++tl) w6)/\Hid (Row w6 g11 107 #[.int .i64 d,.slice A3 t c3])/\Hid (Buf w6 sz 3 A3 t c3 ((pos.take t).map IV))/\Hid (Chg (fun k=>k=p1) wv w6)) (fun _ s13 _=>(intOf s13).toNat)
     case atStart=>exact⟨0,0,none,-1,rfl,rfl,by omega,by omega,by omega,ZA h0.out.ris,e3,t5,ZA (Buf.nil _ _ _),e2⟩
     case round =>
      obtain⟨t,c3,A3,z,rfl,rfl,ht,z5,q6,n4,i2,p3,i3,a4⟩:=hrel;obtain⟨B1,d1,r11,r21,_,_⟩:=i2.out;have kw2:=r21.cell 0 rfl;clear r11 r21;by_cases x5:t<pl
      ·obtain⟨x,c2⟩:∃x,pos[t]? = some x:=⟨_,List.getElem?_eq_getElem (by rw[<-n0.out];exact x5)⟩
       have c1:=n4.out;have k0:=i2.out;rw[Zo c2]at c1 k0;obtain⟨s5,h6,e1⟩:=ZAS c1;obtain⟨q,hq⟩:∃q:Nat,q=(x - z - 1).toNat:=⟨_,rfl⟩
       have r5:z+(1+(q:Int))=x:=by omega
       have l2:Hid (RdSt w p1 (p1+1) (vb q++(stepsL x (pos.drop (t+1))++tl)) wr):=ZA (by
        rw[hq,<-List.append_assoc];exact k0)
       have a2:(q:Int)<=1048576:=by omega
       have k1:(vb q++(stepsL x (pos.drop (t+1))++tl)).length<=1000000000:=by
        have h1:=j0.out;rw[List.length_append]at h1;have h3:(stepsL z (pos.drop t)).length=(vb q).length+(stepsL x (pos.drop (t+1))).length:=by
         rw[Zo c2,hq,<-List.length_append];rfl
        have h4:(stepsL z (pos.drop t)).length<=10*(pos.drop t).length:=ZGw n4.out z5;rw[List.length_drop,<-n0.out]at h4;rw[List.length_append,List.length_append];omega
       have s4:=ZA (t0.out wr q (stepsL x (pos.drop (t+1))++tl) 1048576 l2.out a2 (by omega) k1);have y4:(pos.take (t+1)).map IV=(pos.take t).map IV ++ [.int .i64 x]:=by
        rw[List.take_add_one,c2,List.map_append];rfl
       have d4:g11≠p1:=by rintro rfl;obtain⟨_,_,q,_⟩:=z0.out;have:=q.lt;have:=q0.out;omega
       clear c1 k0 k1 l2;replace hq:=ZA hq;replace c2:=ZA c2;replace e1:=ZA e1;replace y4:=ZA y4;go_wp2_with fail;refine s4.out.mono ?_;rintro e w8 ⟨rfl,k0,s1⟩;have k3:=s1.row p3.out d4;have b0:Buf w8 sz 3 A3 t c3 ((pos.take t).map IV):=i3.out.chg s1 (by
        obtain⟨_,_,q,_⟩:=i2.out;intro a ha e;exact i3.out.unlike q (by decide) a ha e)
       have f2:=a4.out.trans s1 fun _ _ h=>h;have y1:=k3.cell 1 rfl;have u5:sz<=w8.heap.size:=by rw[q0.out];exact f2.size
       replace k3:=ZA k3;replace b0:=ZA b0;replace f2:=ZA f2;replace k0:=ZA k0;replace s1:=ZA s1;have u3:Ext w w8:=by obtain⟨_,_,_,_,_,q⟩:=k0.out;exact q
       replace u3:=ZA u3;go_wp2_with (at_builtin;refine ZG ZOd (b0.out.alloc _) (Zg w8 [.int .i64 x] _) (.tmp 67) (.tmp 69) rfl rfl rfl rfl rfl rfl (ZS rfl) (by omega) (by simp;omega) (fun A9 c9 w9 n2 c0 z4 m0=>?_);have r89:=ZAk (b0.out.alloc _) c0 (k3.out.alloc _) (by decide);have u0:=r89.cell 1 rfl;have u1:=r89.free 1;replace r89:=ZA r89;replace n2:=ZA n2;replace c0:=ZA c0;replace z4:=ZA z4;replace m0:=ZA m0);obtain⟨W10,g1⟩:∃W10,W10=w8.alloc (.cells #[.int .i64 x] 3):=⟨_,rfl⟩
       have q4:=c0.out;rw[<-g1]at q4;have r0:Ext w8 W10:=by rw[g1];exact(Ext.refl w8).alloc _
       have w0:Buf W10 sz 3 A3 t c3 ((pos.take t).map IV):=by rw[g1];exact b0.out.alloc _
       have x3:Ext w w9:=z4.out w ((u3.out).alloc _) (by rw[q0.out];obtain⟨_,_,_,_,_,q⟩:=z0.out;exact q.size);have k2:RdSt w p1 (p1+1) (stepsL x (pos.drop (t+1))++tl) w9:=(k0.out.ext r0).rows (fun g T cs hr hT=>ZAk w0 q4 hr (by rcases hT with rfl | rfl <;> decide)) x3;have t2:w.heap.size<=g11:=by obtain⟨_,_,_,_,_,q⟩:=z0.out;have:=q.size;have:=q0.out;omega
       have d3:RdSt w p1 (p1+1) (stepsL x (pos.drop (t+1))++tl) (w9.setCell ⟨g11,1,none⟩ (.slice A9 (t+1) c9)):=by
        refine k2.chg (S:=fun k=>k=g11) (Chg.of_set _ _ rfl) (fun e=>d4 e.symm) (fun e=>?_) (fun k hk=>by rw[hk];exact t2);obtain⟨_,_,q,q2,_,_⟩:=k2;exact Row.unlike q2 r89.out (by decide) e
       have m4:=r89.out.put 1 (.slice A9 (t+1) c9);have f3:Buf (w9.setCell ⟨g11,1,none⟩ (.slice A9 (t+1) c9)) sz 3 A9 (t+1) c9 ((pos.take (t+1)).map IV):=by
        rw[y4.out];exact n2.out.setCell (n2.out.unlike r89.out (by decide)) _
       have m3:Chg (fun k=>k=p1) wv (w9.setCell ⟨g11,1,none⟩ (.slice A9 (t+1) c9)):=by
        refine((f2.out.trans (Chg.of_ext r0 (fun k=>k=p1)) fun _ _ h=>h).trans (Chg.of_grown q4 (S:=fun k=>sz<=k) fun k _ hk=>?_) fun i hi h=>?_).trans (Chg.of_set (S:=fun k=>k=g11) _ _ rfl) fun i hi h=>?_
        ·have:=w0.base_le;cases A3 with
         | none=>simp[Value.ownBlock]at hk
         | some a=>have:=this a rfl;simp[Value.ownBlock]at hk;omega
        ·have:=q0.out;omega
        ·have:=q0.out;omega
       exact⟨⟨t+1,c9,A9,x,by congr 1,by congr 1;omega,by omega,by omega,by omega,e1,ZA d3,ZA m4,ZA f3,ZA m3⟩,by simp only[intOf];omega⟩
      ·obtain rfl:t=pl:=by omega
       have s3:pos.drop t = []:=List.drop_eq_nil_of_le (by rw[n0.out];exact Nat.le_refl _);have k0:=i2.out;rw[s3]at k0;have k0:RdSt w p1 (p1+1) tl wr:=k0;have b0:=i3.out;rw[List.take_of_length_le (by rw[n0.out];exact Nat.le_refl _)]at b0;have y0:=p3.out.cell 0 rfl;have y1:=p3.out.cell 1 rfl;have f5:=p3.out.get;have m2:Done w wr A8 i c8 dn:=n1.out.chg a4.out fun k hk=>by
        obtain⟨_,_,q,_⟩:=z0.out;exact⟨_,_,hk ▸ q,by decide,by decide⟩
       have y5:w.heap.size<=wr.heap.size:=by obtain⟨_,_,_,_,_,q⟩:=k0;exact q.size
       have p0:=m2.own;replace k0:=ZA k0;replace b0:=ZA b0;replace s3:=ZA s3;replace m2:=ZA m2;replace p0:=ZA p0;go_wp2_with (at_builtin;refine Z7 ZM3 p0.out (.tmp 74) (.tmp 76) rfl rfl rfl rfl rfl (ZS rfl) (by omega) y5 (fun A9 c9 w9 j4 c0 m0=>?_);replace j4:=ZA j4;replace c0:=ZA c0;replace m0:=ZA m0);have c4:∀ {n c:Nat} {A:Option Addr} {xs:List Value} {b:Nat},Buf wr b 3 A n c xs->Buf w9 b 3 A n c xs:=fun hb=>hb.grown c0.out fun a ha e=>ZJw hb p0.out (by decide) a ha e;have v5:∀g T cs,Row wr g T cs->T≠107->Row w9 g T cs:=fun g T cs hr hT=>hr.grown c0.out fun e=>ZJ p0.out hr (fun e=>hT e.symm) e.symm;have x3:Ext w w9:=by
        obtain⟨_,_,_,_,_,q⟩:=k0.out;refine q.grown c0.out fun k hk=>?_;obtain⟨_,_,hb⟩:=ZC p0.out hk;exact hb
       have r4:Buf w9 w.heap.size 3 A3 t c3 (pos.map IV):=(c4 b0.out).lower (by rw[q0.out];obtain⟨_,_,_,_,_,q⟩:=z0.out;exact q.size);have l2:RdSt w p1 (p1+1) (blockPo d (L.drop (i+1))) w9:=by
        rw[<-j3.out];exact k0.out.rows (fun g T cs hr hT=>v5 g T cs hr (by rcases hT with rfl | rfl <;> decide)) x3
       have e4:pos.length=t:=n0.out.symm;have r3:Done w w9 A9 (i+1) c9 (dn ++ [⟨d,pos,A3,c3⟩]):=by
        refine⟨by rw[List.length_append,n1.out.len];rfl,?_,fun y hy=>?_⟩
        ·have h:=j4.out;have e:pcells (dn ++ [⟨d,pos,A3,c3⟩])=pcells dn ++ [.int .i64 d,.slice A3 t c3]:=by
          unfold pcells;rw[List.flatMap_append];simp[PoC.cells,e4]
         rw[e];exact h
        ·rcases List.mem_append.1 hy with hy | hy
         ·exact⟨c4 (m2.out.each y hy).1,(m2.out.each y hy).2⟩
         ·rw[List.mem_singleton.1 hy];simp only[e4];exact⟨r4,by omega⟩
       have g4:psP (dn ++ [⟨d,pos,A3,c3⟩])=L.take (i+1):=by
        rw[List.take_add_one,q3.out,<-f4.out];unfold psP;rw[List.map_append];rfl
       exact⟨⟨i+1,c9,A9,d,dn ++ [⟨d,pos,A3,c3⟩],rfl,rfl,rfl,by omega,ZA h0.out.next.symm,ZA l2,ZA r3,ZA g4⟩,by simp only[intOf];omega⟩
    ·obtain rfl:i=m:=by omega
     have g0:=f4.out;rw[List.take_of_length_le (by rw[hm.out];exact Nat.le_refl _)]at g0;have l1:=ZAL n1.out.own;have i0:=ZCk dn A8 i c8 wv n1.out.len.symm n1.out.pos l1.2 l1.1 (by rw[g0];exact x1.out) (by rw[g0];exact o1.out);rw[g0,<-g2.out]at i0;replace i0:=ZA i0;replace g0:=ZA g0;go_wp2_with fail;refine i0.out.mono ?_;rintro e w5 o4;obtain⟨A5,c5,rfl,d2,p2⟩:=o4;have e0:Ext w w5:=by obtain⟨_,_,_,_,_,q⟩:=z0.out;exact q.trans p2
     have j2:=z0.out.ext p2;obtain⟨B5,d5,_,r25,_,_⟩:=j2;have kw5:=r25.cell 0 rfl;clear r25;obtain⟨nb,w2⟩:∃nb,nb=bs.length:=⟨_,rfl⟩
     rw[<-w2]at d2 ⊢;have u2:nb=n:=by rw[w2];exact h.out.len.symm
     have s2:=ZEW A5 A nb n c5 c bs bs w5 d2.2.in8 (h.out.ext e0) (by omega) (by omega);rw[decide_eq_true rfl]at s2;have m1:=n1.out.pos.ext p2;replace s2:=ZA s2;replace w2:=ZA w2;replace m1:=ZA m1;replace e0:=ZA e0;replace p2:=ZA p2;replace d2:=ZA d2;replace l1:=ZA l1;replace u2:=ZA u2;go_wp2_with fail;refine s2.out.mono ?_;rintro e w6 ⟨rfl,b4⟩;go_wp2_with fail;go_ret2;exact⟨dn,A8,c8,g0.out,by rw[hm.out];rfl,m1.out.ext b4,l1.out.2,by rw[<-hm.out];exact l1.out.1,e0.out.trans b4⟩
end
section
open Go.RowKit Go.Maps
open Go
structure MapL (P:Program) (k:TypeId) (w:World) (m:Nat) (L:List (Value×Value)):Prop where
  ex:∃es clock,w.heap[m]? = some (.map es clock)/\es.toList.map (fun e=>(e.key,e.val))=L/\es.toList.Pairwise (fun a b=>a.born≠b.born)/\∀e∈es.toList,e.born<clock
  keys:∀p∈L,∃l,keyOf P k p.1=some l
  nodup:(L.map Prod.fst).Nodup
section
variable {P:Program} {k:TypeId} {w w1:World} {m:Nat} {L:List (Value×Value)}
theorem MapL.keep (h:MapL P k w m L) (hb:w1.heap[m]? = w.heap[m]?):MapL P k w1 m L:=by
 obtain⟨⟨es,cl,h1,h2⟩,h3,h4⟩:=h;exact⟨⟨es,cl,hb.trans h1,h2⟩,h3,h4⟩
theorem MapL.lt (h:MapL P k w m L):m<w.heap.size:=by
 obtain⟨⟨es,cl,h1,_⟩,_⟩:=h;exact(Array.getElem?_eq_some_iff.1 h1).1
theorem MapL.ext (h:MapL P k w m L) (he:Ext w w1):MapL P k w1 m L:=h.keep (Below.block he m h.lt)
theorem MapL.grown {row:Option Nat} (h:MapL P k w m L) (hg:w.grownBy w1 row) (h0:row≠some m):MapL P k w1 m L:=h.keep (hg.block m h.lt (fun e=>h0 e.symm))
theorem MapL.drew (h:MapL P k w m L):MapL P k w.drew m L:=h.keep rfl
theorem MapL.alloc (h:MapL P k w m L) (o:Obj):MapL P k (w.alloc o) m L:=h.keep (Below.heap_alloc w o m h.lt)
theorem MapL.made (w:World):MapL P k (w.alloc (.map #[] 0)) w.heap.size [] :=
 ⟨⟨#[],0,heap_alloc_new w _,rfl,List.Pairwise.nil,by simp⟩,by simp,by simp⟩
theorem MapL.unique {x u v:Value} (h:MapL P k w m L) (hu:(x,u)∈L) (hv:(x,v)∈L):u=v:=by
 have hn:=h.nodup;clear h
 induction L with
 | nil=>cases hu
 | cons p L ih =>
  simp only[List.map_cons,List.nodup_cons]at hn;rcases List.mem_cons.1 hu with h1 | h1 <;> rcases List.mem_cons.1 hv with h2 | h2
  ·rw[<-h1]at h2;exact(Prod.mk.inj h2).2.symm
  ·exfalso;apply hn.1;rw[<-h1];exact List.mem_map.2 ⟨_,h2,rfl⟩
  ·exfalso;apply hn.1;rw[<-h2];exact List.mem_map.2 ⟨_,h1,rfl⟩
  ·exact ih h1 h2 hn.2
theorem MapL.find (h:MapL P k w m L) (K:Keyed P k) {x:Value} {l:Lit} (hx:keyOf P k x=some l) {es:Array MapEntry} {cl:Nat} (hb:w.heap[m]? = some (.map es cl)) (W:World) :
 ((Instr.findKey k x es.toList).run P W = .ok none W/\∀p∈L,p.1≠x) \/
 ∃j e,(Instr.findKey k x es.toList).run P W = .ok (some (j,e.val)) W/\es[j]? = some e/\e.key=x/\(x,e.val)∈L:=by
 obtain⟨⟨es',cl',h1,h2,_⟩,h3,_⟩:=h;rw[hb]at h1;cases h1;have hk:∀e∈es.toList,∃l,keyOf P k e.key=some l:=fun e he=>h3 (e.key,e.val) (by rw[<-h2];exact List.mem_map.2 ⟨e,he,rfl⟩);rcases K.find W hx es.toList hk with ⟨hr,h0⟩ | ⟨j,e,hr,hj,he⟩
 ·refine .inl ⟨hr,fun p hp=>?_⟩;rw[<-h2]at hp;obtain⟨e,he,rfl⟩:=List.mem_map.1 hp;exact h0 e he
 ·refine .inr ⟨j,e,hr,by simpa using hj,he,?_⟩;rw[<-h2];exact List.mem_map.2 ⟨e,List.mem_of_getElem? hj,by rw[he]⟩
theorem MapL.look (h:MapL P k w m L) (K:Keyed P k) {t E:TypeId} (ht:P.underlying t=some (.map k E)) {x z:Value} {l:Lit} (hx:keyOf P k x=some l) (hz:(zeroValue E).run P w = .ok z w) (ok:Bool) :
 (∃v,(x,v)∈L/\(Instr.lookup t (.map (some m)) x ok).run P w = .ok (if ok then .tuple #[v,.bool true] else v) w) \/
 ((∀p∈L,p.1≠x)/\(Instr.lookup t (.map (some m)) x ok).run P w = .ok (if ok then .tuple #[z,.bool false] else z) w):=by
 obtain⟨es,cl,hb,_⟩:=h.ex;have hg:(getObj m).run P w = .ok (.map es cl) w:=by simp[getObj,Sem.run,hb]
 rcases h.find K hx hb w with ⟨hr,h0⟩ | ⟨j,e,hr,hj,he,hm⟩
 ·refine .inr ⟨h0,?_⟩;simp only[Instr.lookup,Sem.run_bind,run_underlying ht,Result.andThen_ok,hg,Sem.run_pure,K.check w es.isEmpty hx,hr,hz]
 ·refine .inl ⟨e.val,hm,?_⟩;simp only[Instr.lookup,Sem.run_bind,run_underlying ht,Result.andThen_ok,hg,Sem.run_pure,K.check w es.isEmpty hx,hr]
structure Put (L:List (Value×Value)) (x v:Value) (L':List (Value×Value)):Prop where
  mem:∀p,p∈L'↔p=(x,v)\/(p∈L/\p.1≠x)
  len:(∃u,(x,u)∈L)/\L'.length=L.length\/(∀p∈L,p.1≠x)/\L'.length=L.length+1
theorem ZAg {es:Array MapEntry} {cl:Nat} (hb:w.heap[m]? = some (.map es cl)) (o:Obj):(setObj m o).run P w = .ok () { w with heap:=w.heap.setIfInBounds m o }:=by
 simp[setObj,Sem.run,hb]
theorem Z8 {o:Obj} (h0:m<w.heap.size):({ w with heap:=w.heap.setIfInBounds m o }:World).heap[m]? = some o:=by
 simp[h0]
theorem Zz (o : Obj) : w.grownBy { w with heap := w.heap.setIfInBounds m o } (some m) :=
  ⟨rfl, rfl, rfl, by simp, fun i _ hi => by
    have : m ≠ i := fun e => hi (by rw [e])
    simp [Array.getElem?_setIfInBounds_ne this]⟩
theorem ZAs {es:Array MapEntry} {j:Nat} {e0:MapEntry} (hj:es[j]? = some e0) (f:MapEntry->MapEntry) (e:MapEntry) :
 e∈(es.modify j f).toList↔e=f e0\/∃i,i≠j/\es[i]? = some e:=by
 have h0:j<es.size:=(Array.getElem?_eq_some_iff.1 hj).1;constructor
 ·intro h;obtain⟨i,hi⟩:=List.mem_iff_getElem?.1 h;rw[Array.getElem?_toList,Array.getElem?_modify]at hi;split at hi
  ·rename_i he;subst he;rw[hj]at hi;exact .inl (Option.some.inj hi).symm
  ·rename_i he;exact .inr ⟨i,fun h=>he h.symm,hi⟩
 ·rintro(rfl | ⟨i,hi,he⟩)
  ·refine List.mem_iff_getElem?.2 ⟨j,?_⟩;rw[Array.getElem?_toList,Array.getElem?_modify,if_pos rfl,hj];rfl
  ·refine List.mem_iff_getElem?.2 ⟨i,?_⟩;rw[Array.getElem?_toList,Array.getElem?_modify,if_neg (fun h=>hi h.symm)];exact he
theorem ZEJ {es:Array MapEntry} {j:Nat} {β:Type} (f:MapEntry->MapEntry) (g:MapEntry->β) (hg:∀e,es[j]? = some e->g (f e)=g e):(es.modify j f).toList.map g=es.toList.map g:=by
 refine List.ext_getElem? fun i=>?_;rw[List.getElem?_map,List.getElem?_map,Array.getElem?_toList,Array.getElem?_toList,Array.getElem?_modify];split
 ·rename_i h;subst h;cases he:es[j]? with
  | none=>rfl
  | some e=>simp[hg e he]
 ·rfl
theorem ZIW {es:Array MapEntry} (hn:(es.toList.map (·.key)).Nodup) {i j:Nat} {a b:MapEntry} (hi:es[i]? = some a) (hj:es[j]? = some b) (hk:a.key=b.key):i=j:=by
 have h1:(es.toList.map (·.key))[i]? = some a.key:=by simp[hi]
 have h2:(es.toList.map (·.key))[j]? = some b.key:=by simp[hj]
 have h0:i<(es.toList.map (·.key)).length:=(List.getElem?_eq_some_iff.1 h1).1;exact(List.getElem?_inj h0 hn).1 (by rw[h1,h2,hk])
theorem ZLZ {es:Array MapEntry} (hn:es.toList.Pairwise (fun a b=>a.born≠b.born)) {i j:Nat} {a b:MapEntry} (hi:es[i]? = some a) (hj:es[j]? = some b) (hk:a.born=b.born):i=j:=by
 have q0:(es.toList.map (·.born)).Nodup:=by rw[List.nodup_iff_pairwise_ne,List.pairwise_map];exact hn
 have h1:(es.toList.map (·.born))[i]? = some a.born:=by simp[hi]
 have h2:(es.toList.map (·.born))[j]? = some b.born:=by simp[hj]
 have h0:i<(es.toList.map (·.born)).length:=(List.getElem?_eq_some_iff.1 h1).1;exact(List.getElem?_inj h0 q0).1 (by rw[h1,h2,hk])
theorem MapL.modify (h:MapL P k w m L) {es:Array MapEntry} {cl:Nat} (hb:w.heap[m]? = some (.map es cl)) {j:Nat} {e0:MapEntry} (hj:es[j]? = some e0) (v:Value) {f:MapEntry->MapEntry}
 (q0:(f e0).key=e0.key) (p0:(f e0).val=v) (k0:(f e0).born=e0.born) (hw:w1.heap[m]? = some (.map (es.modify j f) cl)):∃L',MapL P k w1 m L'/\Put L e0.key v L':=by
 obtain⟨⟨es',cl',h1,h2,h4,h5⟩,h3,h6⟩:=h;rw[hb]at h1;cases h1;have h0:(es.toList.map (·.key)).Nodup:=by
  rw[<-h2,List.map_map]at h6;exact h6
 refine⟨(es.modify j f).toList.map (fun e=>(e.key,e.val)),⟨⟨es.modify j f,cl,hw,rfl,?_,fun e he=>?_⟩,fun p hp=>?_,?_⟩,fun p=>?_,.inl ⟨⟨e0.val,?_⟩,?_⟩⟩
 ·have g0:(es.modify j f).toList.map (·.born)=es.toList.map (·.born):=ZEJ f (·.born) (fun e he=>by rw[hj]at he;cases he;exact k0);have hn:(es.toList.map (·.born)).Nodup:=by rw[List.nodup_iff_pairwise_ne,List.pairwise_map];exact h4
  rw[<-g0,List.nodup_iff_pairwise_ne,List.pairwise_map]at hn;exact hn
 ·rcases (ZAs hj f e).1 he with rfl | ⟨i,_,hi⟩
  ·rw[k0];exact h5 e0 (by simpa using Array.mem_of_getElem? hj)
  ·exact h5 e (by simpa using Array.mem_of_getElem? hi)
 ·obtain⟨e,he,rfl⟩:=List.mem_map.1 hp;rcases (ZAs hj f e).1 he with rfl | ⟨i,_,hi⟩
  ·rw[q0];exact h3 (e0.key,e0.val) (by rw[<-h2];exact List.mem_map.2 ⟨e0,by simpa using Array.mem_of_getElem? hj,rfl⟩)
  ·exact h3 (e.key,e.val) (by rw[<-h2];exact List.mem_map.2 ⟨e,by simpa using Array.mem_of_getElem? hi,rfl⟩)
 ·rw[List.map_map];have:(es.modify j f).toList.map (Prod.fst∘fun e=>(e.key,e.val))=es.toList.map (·.key):=ZEJ f _ (fun e he=>by rw[hj]at he;cases he;exact q0);rw[this];exact h0
 ·constructor
  ·intro hp;obtain⟨e,he,rfl⟩:=List.mem_map.1 hp;rcases (ZAs hj f e).1 he with rfl | ⟨i,hi,j0⟩
   ·exact .inl (by rw[q0,p0])
   ·refine .inr ⟨by rw[<-h2];exact List.mem_map.2 ⟨e,by simpa using Array.mem_of_getElem? j0,rfl⟩,fun hk=>hi (ZIW h0 j0 hj hk)⟩
  ·rintro(rfl | ⟨hp,t0⟩)
   ·exact List.mem_map.2 ⟨f e0,(ZAs hj f _).2 (.inl rfl),by rw[q0,p0]⟩
   ·rw[<-h2]at hp;obtain⟨e,he,rfl⟩:=List.mem_map.1 hp;obtain⟨i,hi⟩:=List.mem_iff_getElem?.1 he;rw[Array.getElem?_toList]at hi;exact List.mem_map.2 ⟨e,(ZAs hj f e).2 (.inr ⟨i,fun m0=>t0 (by subst m0;rw[hj]at hi;cases hi;rfl),hi⟩),rfl⟩
 ·rw[<-h2];exact List.mem_map.2 ⟨e0,by simpa using Array.mem_of_getElem? hj,rfl⟩
 ·rw[<-h2];simp
theorem MapL.push (h:MapL P k w m L) {es:Array MapEntry} {cl:Nat} (hb:w.heap[m]? = some (.map es cl)) {x v:Value} {l:Lit} (hx:keyOf P k x=some l) (q0:∀p∈L,p.1≠x)
 (hw:w1.heap[m]? = some (.map (es.push { key:=x,val:=v,born:=cl }) (cl+1))):∃L',MapL P k w1 m L'/\Put L x v L':=by
 obtain⟨⟨es',cl',h1,h2,h4,h5⟩,h3,h6⟩:=h;rw[hb]at h1;cases h1;refine⟨L ++ [(x,v)],⟨⟨_,_,hw,by simp[h2],?_,fun e he=>?_⟩,fun p hp=>?_,?_⟩,fun p=>?_,.inr ⟨q0,by simp⟩⟩
 ·simp only[Array.toList_push];rw[List.pairwise_append];exact⟨h4,List.pairwise_singleton ..,fun a ha b h0=>by
   obtain rfl:=List.mem_singleton.1 h0;have:=h5 a ha;simp only;omega⟩
 ·simp only[Array.toList_push]at he;rcases List.mem_append.1 he with he | he
  ·have:=h5 e he;omega
  ·obtain rfl:=List.mem_singleton.1 he;simp only;omega
 ·rcases List.mem_append.1 hp with hp | hp
  ·exact h3 p hp
  ·obtain rfl:=List.mem_singleton.1 hp;exact⟨l,hx⟩
 ·rw[List.map_append,List.nodup_append];refine⟨h6,by simp,fun a ha b h0=>?_⟩;simp at h0;obtain⟨p,hp,rfl⟩:=List.mem_map.1 ha;rw[h0];exact q0 p hp
 ·constructor
  ·intro hp;rcases List.mem_append.1 hp with hp | hp
   ·exact .inr ⟨hp,q0 p hp⟩
   ·exact .inl (List.mem_singleton.1 hp)
  ·rintro(rfl | ⟨hp,_⟩)
   ·simp
   ·exact List.mem_append_left _ hp
theorem MapL.update (h:MapL P k w m L) (K:Keyed P k) {t E:TypeId} (ht:P.underlying t=some (.map k E)) {x:Value} {l:Lit} (hx:keyOf P k x=some l) (v:Value) :
 ∃w' L',(Instr.mapUpdate t (.map (some m)) x v).run P w = .ok () w'/\MapL P k w' m L'/\Put L x v L'/\w.grownBy w' (some m)/\w'.heap.size=w.heap.size:=by
 obtain⟨es,cl,hb,_⟩:=h.ex;have hg:(getObj m).run P w = .ok (.map es cl) w:=by simp[getObj,Sem.run,hb]
 rcases h.find K hx hb w with ⟨hr,h0⟩ | ⟨j,e,hr,hj,he,hm⟩
 ·obtain⟨L',h1,h2⟩:=h.push (w1:= { w with heap:=w.heap.setIfInBounds m (.map (es.push { key:=x,val:=v,born:=cl }) (cl+1)) }) hb hx h0 (Z8 h.lt);refine⟨_,L',?_,h1,h2,Zz _,by simp⟩;simp only[Instr.mapUpdate,Sem.run_bind,run_underlying ht,Result.andThen_ok,hg,K.check w false hx,hr,ZAg hb]
 ·subst he;obtain⟨L',h1,h2⟩:=h.modify (w1:= { w with heap:=w.heap.setIfInBounds m (.map (es.modify j fun e'=> { e' with key:=e.key,val:=v }) cl) }) hb hj v (f:=fun e'=> { e' with key:=e.key,val:=v }) rfl rfl rfl (Z8 h.lt);refine⟨_,L',?_,h1,h2,Zz _,by simp⟩;simp only[Instr.mapUpdate,Sem.run_bind,run_underlying ht,Result.andThen_ok,hg,K.check w false hx,hr,hj,Option.map_some,Option.getD_some,K.stays w hx,ZAg hb]
theorem MapL.entry (h:MapL P k w m L) (K:Keyed P k) {t E:TypeId} (ht:P.underlying t=some (.map k E)) {x z:Value} {l:Lit} (hx:keyOf P k x=some l) (hz:(zeroValue E).run P w = .ok z w) :
 ∃w' v n,(Instr.mapEntry t (.map (some m)) x).run P w = .ok (.tuple #[v,.int .i64 n]) w'/\((x,v)∈L\/(∀p∈L,p.1≠x)/\v=z)/\w.grownBy w' (some m)/\w'.heap.size=w.heap.size/\(∃L1,MapL P k w' m L1) /\
  ∀(w2:World) (u:Value),w2.heap[m]? = w'.heap[m]? ->
   ∃w3 L',(Instr.entryStore t (.map (some m)) (.int .i64 n) u).run P w2 = .ok () w3/\MapL P k w3 m L'/\Put L x u L'/\w2.grownBy w3 (some m)/\w3.heap.size=w2.heap.size:=by
 obtain⟨es,cl,hb,_,j0,f0⟩:=h.ex;have hg:(getObj m).run P w = .ok (.map es cl) w:=by simp[getObj,Sem.run,hb]
 have back:∀(es2:Array MapEntry) (cl2 j:Nat) (e0:MapEntry) (w2:World) (u:Value),w2.heap[m]? = some (.map es2 cl2)->es2[j]? = some e0->es2.toList.Pairwise (fun a b=>a.born≠b.born) ->
  (Instr.entryStore t (.map (some m)) (.int .i64 (e0.born:Int)) u).run P w2 = .ok () { w2 with heap:=w2.heap.setIfInBounds m (.map (es2.modify j fun e=> { e with val:=u }) cl2) }:=by
  intro es2 cl2 j e0 w2 u q0 t0 c0;have b0:(getObj m).run P w2 = .ok (.map es2 cl2) w2:=by simp[getObj,Sem.run,q0]
  have h0:j<es2.size:=(Array.getElem?_eq_some_iff.1 t0).1;have a0:es2.findIdx? (fun e=>(e.born:Int)==(e0.born:Int))=some j:=by
   rw[Array.findIdx?_eq_some_iff_getElem];refine⟨h0,?_,fun i hi=>?_⟩
   ·have:es2[j]=e0:=by
     have:=Array.getElem?_eq_getElem h0;rw[t0]at this;exact(Option.some.inj this).symm
    simp[this]
   ·have g0:es2[i].born≠e0.born:=fun he=>by
     have:=ZLZ c0 (Array.getElem?_eq_getElem (by omega:i<es2.size)) t0 he;omega
    simp;omega
  simp only[Instr.entryStore,Sem.run_bind,b0,Result.andThen_ok,asInt,asIntOf,Sem.run_pure,a0,ZAg q0]
 rcases h.find K hx hb w with ⟨hr,m0⟩ | ⟨j,e,hr,hj,he,hm⟩
 ·let w':World:= { w with heap:=w.heap.setIfInBounds m (.map (es.push { key:=x,val:=z,born:=cl }) (cl+1)) }
  have p0:w'.heap[m]? = some (.map (es.push { key:=x,val:=z,born:=cl }) (cl+1)):=Z8 h.lt;obtain⟨L1,h1,h2⟩:=h.push (w1:=w') hb hx m0 p0;refine⟨w',z,(cl:Int),?_,.inr ⟨m0,rfl⟩,Zz _,by simp[w'],⟨L1,h1⟩,fun w2 u q0=>?_⟩
  ·simp only[Instr.mapEntry,Sem.run_bind,run_underlying ht,Result.andThen_ok,hg,K.check w false hx,hr,hz,ZAg hb,Sem.run_pure,goInt];rfl
  ·have x0:(es.push { key:=x,val:=z,born:=cl })[es.size]? = some { key:=x,val:=z,born:=cl }:=by simp
   obtain⟨⟨es1,cl1,y0,_,z0,_⟩,_⟩:=id h1;rw[p0]at y0;cases y0;have u0:=back _ _ _ _ w2 u (q0.trans p0) x0 z0;have h0:m<w2.heap.size:=(Array.getElem?_eq_some_iff.1 (q0.trans p0)).1;obtain⟨L2,h3,h4⟩:=(h1.keep q0).modify (w1:= { w2 with heap:=w2.heap.setIfInBounds m (.map ((es.push { key:=x,val:=z,born:=cl }).modify es.size fun e=> { e with val:=u }) (cl+1)) }) (q0.trans p0) x0 u (f:=fun e=> { e with val:=u }) rfl rfl rfl (Z8 h0);refine⟨_,L2,u0,h3,⟨fun p=>?_,?_⟩,Zz _,by simp⟩
   ·rw[h4.mem p];constructor
    ·rintro(rfl | ⟨hp,g0⟩)
     ·exact .inl rfl
     ·rcases (h2.mem p).1 hp with rfl | hp
      ·exact absurd rfl g0
      ·exact .inr hp
    ·rintro(rfl | ⟨hp,g0⟩)
     ·exact .inl rfl
     ·exact .inr ⟨(h2.mem p).2 (.inr ⟨hp,g0⟩),g0⟩
   ·refine .inr ⟨m0,?_⟩;rcases h2.len with ⟨⟨u',d0⟩,_⟩ | ⟨_,hl⟩
    ·exact absurd rfl (m0 _ d0)
    ·rcases h4.len with ⟨_,i0⟩ | ⟨v0,_⟩
     ·omega
     ·exact absurd rfl (v0 (x,z) ((h2.mem _).2 (.inl rfl)))
 ·subst he
  let w':World:= { w with heap:=w.heap.setIfInBounds m (.map (es.modify j fun e'=> { e' with key:=e.key }) cl) }
  have l0:j<es.size:=(Array.getElem?_eq_some_iff.1 hj).1;have k0:es.modify j (fun e'=> { e' with key:=e.key })=es:=by
   apply Array.ext_getElem?;intro i;rw[Array.getElem?_modify];split
   ·rename_i hi;subst hi;rw[hj];rfl
   ·rfl
  have p0:w'.heap[m]? = some (.map es cl):=by
   have:=Z8 (w:=w) (m:=m) (o:= .map (es.modify j fun e'=> { e' with key:=e.key }) cl) h.lt;rw[k0]at this;simpa [w',k0]using this
  refine⟨w',e.val,(e.born:Int),?_,.inl hm,Zz _,by simp[w'],⟨L,h.keep (p0.trans hb.symm)⟩,fun w2 u q0=>?_⟩
  ·simp only[Instr.mapEntry,Sem.run_bind,run_underlying ht,Result.andThen_ok,hg,K.check w false hx,hr,hj,Option.map_some,Option.getD_some,K.stays w hx,ZAg hb,Sem.run_pure,goInt];rfl
  ·have u0:=back es cl j e w2 u (q0.trans p0) hj j0;have h0:m<w2.heap.size:=(Array.getElem?_eq_some_iff.1 (q0.trans p0)).1;obtain⟨L2,h3,h4⟩:=(h.keep ((q0.trans p0).trans hb.symm)).modify (w1:= { w2 with heap:=w2.heap.setIfInBounds m (.map (es.modify j fun e=> { e with val:=u }) cl) }) (q0.trans p0) hj u (f:=fun e=> { e with val:=u }) rfl rfl rfl (Z8 h0);exact⟨_,L2,u0,h3,h4,Zz _,by simp⟩
end
end
section
open Go.RowKit
attribute [local go_sem] Oper.semAt_some Za ZAw
def KpT (B:Nat) (W W':World):Prop:=(∀w0:World,w0.heap.size<=B->Ext w0 W->Ext w0 W')/\∀g t cs,t≠148->t≠150->Row W g t cs->Row W' g t cs
theorem KpT.trans (B:Nat) (A C D:World) (h:KpT B A C) (k:KpT B C D):KpT B A D:=⟨fun w0 h0 he=>k.1 w0 h0 (h.1 w0 h0 he),fun g t cs h1 h2 hr=>k.2 g t cs h1 h2 (h.2 g t cs h1 h2 hr)⟩
theorem KpT.alike {B X:Nat} (hX:B<=X) (A C:World) (h:Alike X A C):KpT B A C:=⟨fun _ hs he=>h.ext he (by omega),fun _ _ _ _ _ hr=>h.row hr⟩
theorem KpT.ext {B:Nat} {A C:World} (h:Ext A C):KpT B A C:=⟨fun _ _ he=>he.trans h,fun _ _ _ _ _ hr=>hr.ext h⟩
def fdV (f:Fd):Value:= .agg #[.string ⟨f.1.toArray⟩,.string ⟨f.2.toArray⟩]
def BsIter (fs:List Fd) (B b0:Nat) (w:World):Prop :=
 Iter Tryz.prog 175 #[.pointer (some ⟨b0,0,none⟩)] (fun x:Nat×Fd=>#[.int .i64 (x.1:Int),fdV x.2]) Ext (fun pre x _=>fs[pre.length]? = some x.2/\x.1=baseT 0 (fs.take pre.length)) (KpT B) (fun xs A C=>xs.length=fs.length/\Ext A C) w
theorem ZLW (at_:Int) (A:Option Addr) (n c:Nat) (w:World) :
 Calls Tryz.prog 134 #[.agg #[.int .i64 at_,.slice A n c]] w fun e w'=>∃b0,e = .returned (.func (.func 175) #[] #[.pointer (some ⟨b0,0,none⟩)])/\Row w' b0 37 #[.int .i64 at_,.slice A n c]/\w.heap.size<=b0/\Ext w w':=by
 go_enter Tryz.func134,Tryz.ntmps134;go_wp2_with fail;go_ret;exact⟨w.heap.size,rfl,Row.new w _ _,Nat.le_refl _,(Ext.refl w).alloc _⟩
theorem ZIw (at_:Int) (fs:List Fd) (A:Option Addr) (n c b0 B:Nat) (w0 w:World) (hn:n=fs.length) (hc:Cells w0 A (fcells fs)) (hB:w0.heap.size<=B) (hw:Ext w0 w) (g1:n<=1000) (a0:∀f∈fs,f.2.length<=1000000)
 (m0:Row w b0 37 #[.int .i64 at_,.slice A n c]):BsIter fs B b0 w:=by
 intro l J W hE y0 hY h0;have s0:=ZA (fun l W h=>ZEv l W h);replace m0:=ZA (m0.ext hE);replace hw:=ZA (hw.trans hE);clear hE;replace hY:=ZA hY;replace y0:=ZA y0;replace h0:=ZA h0;replace hn:=ZA hn;replace hc:=ZA hc;replace a0:=ZA a0;refine(callsIn_wide (n:=0)).1 ?_;refine callsIn_of_wp Tryz.func175 rfl trivial ?_;simp only[Tryz.ntmps175,List.size_toArray,List.length_cons,List.length_nil,Nat.reduceAdd,Nat.reduceSub,Array.replicate_succ,Array.replicate_zero,List.push_toArray,List.append_toArray,List.nil_append,List.cons_append];have k0:=m0.out.cell 0 rfl;have k1:=m0.out.cell 1 rfl;gi_wp2_with fail
 gi_loopw [3,9] (fun s3 s9 wr=>∃(i bs:Nat) (pre:List (Nat×Fd)),s3 = .int .i64 (bs:Int)/\s9 = .int .i64 (i:Int)/\i<=n/\bs<=i*1000100/\Hid (pre.length=i)/\Hid (bs=baseT 0 (fs.take i))/\Hid (J pre wr)/\Hid (Ext w0 wr)) (fun _ s9 _=>n - (intOf s9).toNat)
 case atStart=>exact⟨0,0,[],rfl,rfl,by omega,by omega,ZA rfl,ZA rfl,h0,hw⟩
 case round =>
  obtain⟨i,bs,pre,rfl,rfl,hi,j1,u0,e0,hJ,hE⟩:=hrel;by_cases r0:i<n
  ·obtain⟨f,hf⟩:∃f,fs[i]? = some f:=⟨_,List.getElem?_eq_getElem (by rw[<-hn.out];exact r0)⟩
   obtain⟨g,o,hA,x0,x1⟩:=Zu (hc.out.ext hE.out) hf;subst hA;have o0:=a0.out f (List.mem_of_getElem? hf);obtain⟨W2,q0⟩:∃W2,W2=wr.alloc (.cells #[.string ⟨f.1.toArray⟩,.string ⟨f.2.toArray⟩] 105):=⟨_,rfl⟩
   have g0:Ext wr W2:=by rw[q0];exact(Ext.refl wr).alloc _
   have r2:Row W2 wr.heap.size 105 #[.string ⟨f.1.toArray⟩,.string ⟨f.2.toArray⟩]:=by rw[q0];exact Row.new wr _ _
   obtain⟨gd,t0⟩:∃gd,gd=wr.heap.size:=⟨_,rfl⟩
   rw[<-t0]at r2;have p0:=r2.cell 0 rfl;have p1:=r2.cell 1 rfl;have h1:=hY.out pre (bs,f) W2 (y0.out _ _ _ hJ.out g0) ⟨by rw[u0.out];exact hf,by rw[u0.out];exact e0.out⟩;obtain⟨fn,tmps,assign,body,hy,d0⟩:=h1;simp only[fdV]at hy d0;have i0:=ZA4 f.2;have j0:baseT 0 (fs.take (i+1))=bs+(64+(tokL f.2).length):=by
    rw[List.take_add_one,hf,ZDr,<-e0.out];rfl
   obtain⟨nm,tx⟩:=f;simp only at x0 x1 o0 q0 r2 p0 p1 hy i0 j0;unfold strV at x0 x1;obtain⟨nt,v0⟩:∃nt,nt=(tokL tx).length:=⟨_,rfl⟩
   rw[<-v0]at i0 j0;rw[q0]at hy;replace hf:=ZA hf;replace q0:=ZA q0;replace t0:=ZA t0;replace r2:=ZA r2;replace g0:=ZA (hE.out.trans g0);replace v0:=ZA v0;replace j0:=ZA j0;clear hY;gi_wp2_with fail;rw[<-q0.out,<-t0.out];refine d0.mono ?_;rintro e W3 ⟨rfl,z0,f0⟩;have r3:=f0.2 _ _ _ (by decide) (by decide) r2.out;have q1:=r3.cell 1 rfl;have l0:=ZA (f0.1 w0 hB g0.out);have n0:=ZA (s0.out tx W3 (by omega));replace z0:=ZA z0;gi_wp2_with fail;refine(callsIn_wide.2 n0.out).mono ?_;rintro e w4 hT;obtain⟨A4,c4,rfl,_,c0⟩:=hT;rw[<-v0.out];gi_wp2_with fail;exact⟨⟨i+1,bs+(64+nt),pre ++ [(bs,(nm,tx))],by first | rfl | (congr 1;omega),by go_num,by omega,by omega,ZA (by rw[List.length_append,u0.out];rfl),ZA j0.out.symm,ZA (y0.out _ _ _ z0.out c0),ZA (l0.out.trans c0)⟩,by simp only[intOf];omega⟩
  ·gi_wp2_with fail
   go_end0
   exact⟨⟨_,rfl⟩,pre,_,hJ.out,by rw[u0.out,<-hn.out];omega,Ext.refl _⟩
end
section
open Go.RowKit
section
variable {β:Type}
def Srt (l:List (List UInt8×β)):Prop:=l.Pairwise fun x y=>¬ y.1<x.1
structure Stb (l m:List (List UInt8×β)):Prop where
  perm:m.Perm l
  vals:∀s,valsOf m s=valsOf l s
theorem Stb.refl (l:List (List UInt8×β)):Stb l l:=⟨List.Perm.refl _,fun _=>rfl⟩
variable {l m k A B A1 A2 B1 B2 M1 M2:List (List UInt8×β)}
theorem Stb.trans (h:Stb l m) (h2:Stb m k):Stb l k:=⟨h2.perm.trans h.perm,fun s=>(h2.vals s).trans (h.vals s)⟩
theorem Stb.app (h:Stb A M1) (h2:Stb B M2):Stb (A++B) (M1++M2):=⟨h.perm.append h2.perm,fun s=>by rw[ZW,ZW,h.vals,h2.vals]⟩
theorem Stb.mem (h:Stb l m) {x:List UInt8×β} (hx:x∈m):x∈l:=h.perm.mem_iff.1 hx
theorem Stb.len (h:Stb l m):m.length=l.length:=h.perm.length_eq
theorem ZBG {l:List (List UInt8×β)} {s:List UInt8} (h:∀x∈l,¬ x.1=s):valsOf l s = []:=by
 unfold valsOf;rw[List.filter_eq_nil_iff.2 fun x hx=>by simpa using h x hx];rfl
theorem Stb.swap (h:∀x∈A,∀y∈B,¬ x.1=y.1):Stb (A++B) (B++A):=by
 refine⟨List.perm_append_comm,fun s=>?_⟩;rw[ZW,ZW];by_cases hA:∃x∈A,x.1=s
 ·obtain⟨x,hx,rfl⟩:=hA;rw[ZBG fun y hy e=>h x hx y hy e.symm,List.nil_append,List.append_nil]
 ·rw[ZBG fun x hx e=>hA ⟨x,hx,e⟩,List.nil_append,List.append_nil]
theorem ZA8 {a b c:List UInt8} (h:¬ b<a) (k:¬ c<b):¬ c<a:=fun hh=>h (by
 by_cases e:c=b
 ·rw[<-e];exact hh
 ·exact List.lt_trans (ZDP k e) hh)
theorem ZM5 {a b c:List UInt8} (h:a<b) (k:¬ c<b):a<c:=by
 by_cases e:c=b
 ·rw[e];exact h
 ·exact List.lt_trans h (ZDP k e)
theorem ZM8 {a b c:List UInt8} (h:¬ b<a) (k:b<c):a<c:=by
 by_cases e:b=a
 ·rw[<-e];exact k
 ·exact List.lt_trans (ZDP h e) k
theorem ZOC {a b:List UInt8} (h:a<b):¬ b<a:=fun k=>List.lt_irrefl _ (List.lt_trans h k)
theorem Srt.left (h:Srt (A++B)):Srt A:=(List.pairwise_append.1 h).1
theorem Srt.right (h:Srt (A++B)):Srt B:=(List.pairwise_append.1 h).2.1
theorem ZE4 (hA:Srt (A1++A2)) (hB:Srt (B1++B2)) (h1:∀x∈A1,∀y∈B2,¬ y.1<x.1) (h2:∀x∈B1,∀y∈A2,x.1<y.1) (s1:Stb (A1++B1) M1) (r1:Srt M1) (s2:Stb (A2++B2) M2) (r2:Srt M2) :
 Srt (M1++M2)/\Stb ((A1++A2)++(B1++B2)) (M1++M2):=by
 constructor
 ·refine List.pairwise_append.2 ⟨r1,r2,fun x hx y hy=>?_⟩;have hx:=List.mem_append.1 (s1.mem hx);have hy:=List.mem_append.1 (s2.mem hy);rcases hx with hx | hx
  ·rcases hy with hy | hy
   ·exact(List.pairwise_append.1 hA).2.2 x hx y hy
   ·exact h1 x hx y hy
  ·rcases hy with hy | hy
   ·exact ZOC (h2 x hx y hy)
   ·exact(List.pairwise_append.1 hB).2.2 x hx y hy
 ·have hs:Stb (A2++B1) (B1++A2):=Stb.swap fun x hx y hy e=>by
   have:=h2 y hy x hx;rw[e]at this;exact List.lt_irrefl _ this
  have h3:Stb ((A1++A2)++(B1++B2)) ((A1++B1)++(A2++B2)):=by
   have:=((Stb.refl A1).app hs).app (Stb.refl B2);simpa only[List.append_assoc]using this
  exact h3.trans (s1.app s2)
theorem Srt.take_le (h:Srt l) {i:Nat} {z:List UInt8×β} (hz:l[i]? = some z):∀x∈l.take (i+1),¬ z.1<x.1:=by
 intro x hx;obtain⟨j,hj⟩:=List.getElem?_of_mem hx;rw[List.getElem?_take]at hj;split at hj
 ·rename_i k0;obtain⟨hi,h0⟩:=List.getElem?_eq_some_iff.1 hz;obtain⟨p0,q0⟩:=List.getElem?_eq_some_iff.1 hj;by_cases e:j=i
  ·subst e;rw[<-h0,<-q0];exact List.lt_irrefl _
  ·have:=List.pairwise_iff_getElem.1 h j i p0 hi (by omega);rw[q0,h0]at this;exact this
 ·cases hj
theorem Srt.drop_ge (h:Srt l) {i:Nat} {z:List UInt8×β} (hz:l[i]? = some z):∀x∈l.drop i,¬ x.1<z.1:=by
 intro x hx;obtain⟨j,hj⟩:=List.getElem?_of_mem hx;rw[List.getElem?_drop]at hj;obtain⟨hi,h0⟩:=List.getElem?_eq_some_iff.1 hz;obtain⟨p0,q0⟩:=List.getElem?_eq_some_iff.1 hj;by_cases e:j=0
 ·subst e;rw[<-h0,<-q0];exact List.lt_irrefl _
 ·have:=List.pairwise_iff_getElem.1 h i (i+j) hi p0 (by omega);rw[q0,h0]at this;exact this
structure CutP (A B:List (List UInt8×β)) (i j:Nat):Prop where
  ile:i<=A.length
  jle:j<=B.length
  lo:i=0\/j=B.length\/∃x y,A[i - 1]? = some x/\B[j]? = some y/\¬ y.1<x.1
  hi:i=A.length\/j=0\/∃x y,A[i]? = some x/\B[j - 1]? = some y/\y.1<x.1
theorem CutP.le {i j:Nat} (h:CutP A B i j) (hA:Srt A) (hB:Srt B):(∀x∈A.take i,∀y∈B.drop j,¬ y.1<x.1)/\(∀x∈B.take j,∀y∈A.drop i,x.1<y.1):=by
 constructor
 ·intro x hx y hy;rcases h.lo with e | e | ⟨u,v,hu,hv,h0⟩
  ·rw[e]at hx;cases hx
  ·rw[e,List.drop_length]at hy;cases hy
  ·by_cases e:i=0
   ·rw[e]at hx;cases hx
   ·have h1:=hA.take_le hu x (by rw[show i - 1+1=i by omega];exact hx);have h2:=hB.drop_ge hv y hy;exact ZA8 h1 (ZA8 h0 h2)
 ·intro x hx y hy;rcases h.hi with e | e | ⟨u,v,hu,hv,h0⟩
  ·rw[e,List.drop_length]at hy;cases hy
  ·rw[e]at hx;cases hx
  ·by_cases e:j=0
   ·rw[e]at hx;cases hx
   ·have h1:=hB.take_le hv x (by rw[show j - 1+1=j by omega];exact hx);have h2:=hA.drop_ge hu y hy;exact ZM8 h1 (ZM5 h0 h2)
def Mrg (A B M:List (List UInt8×β)):Prop:=Srt M/\Stb (A++B) M
theorem CutP.mrg {i j:Nat} (h:CutP A B i j) (hA:Srt A) (hB:Srt B) (m1:Mrg (A.take i) (B.take j) M1) (m2:Mrg (A.drop i) (B.drop j) M2):Mrg A B (M1++M2):=by
 have p0:=h.le hA hB;have h0:=hA;have q0:=hB;rw[<-List.take_append_drop i A]at h0;rw[<-List.take_append_drop j B]at q0;have:=ZE4 h0 q0 p0.1 p0.2 m1.2 m1.1 m2.2 m2.1;rw[List.take_append_drop,List.take_append_drop]at this;exact this
theorem Mrg.nil_left (hB:Srt B):Mrg [] B B:=⟨hB,Stb.refl _⟩
theorem Mrg.nil_right (hA:Srt A):Mrg A [] A:=⟨hA,by rw[List.append_nil];exact Stb.refl _⟩
theorem ZMm {i:Nat} {x:List UInt8×β} (hB:Srt B) (p0:∀y∈B.take i,y.1<x.1) (q0:∀y∈B.drop i,¬ y.1<x.1):Mrg [x] B (B.take i++x::B.drop i):=by
 have h0:=hB;rw[<-List.take_append_drop i B]at h0;have hs:Srt ([] ++ [x]:List (List UInt8×β)):=List.pairwise_singleton ..;have:=ZE4 (A1:= []) (A2:= [x]) hs h0 (by simp) (fun y hy z hz=>by rw[List.mem_singleton.1 hz];exact p0 y hy) (M1:=B.take i) (by rw[List.nil_append];exact Stb.refl _) h0.left (M2:=x::B.drop i) (Stb.refl _)
  (List.pairwise_cons.2 ⟨fun y hy=>q0 y hy,h0.right⟩)
 rw[List.take_append_drop]at this;exact this
theorem ZGs {i:Nat} {y:List UInt8×β} (hA:Srt A) (p0:∀x∈A.take i,¬ y.1<x.1) (q0:∀x∈A.drop i,y.1<x.1):Mrg A [y] (A.take i++y::A.drop i):=by
 have h0:=hA;rw[<-List.take_append_drop i A]at h0;have hs:Srt ([y] ++ []:List (List UInt8×β)):=List.pairwise_singleton ..;have:=ZE4 (B1:= [y]) (B2:= []) h0 hs (by simp) (fun x hx z hz=>by rw[List.mem_singleton.1 hx];exact q0 z hz) (M1:=A.take i ++ [y]) (Stb.refl _)
  (List.pairwise_append.2 ⟨h0.left,List.pairwise_singleton ..,fun x hx z hz=>by rw[List.mem_singleton.1 hz];exact p0 x hx⟩) (M2:=A.drop i) (by rw[List.append_nil];exact Stb.refl _) h0.right
 rw[List.take_append_drop]at this;unfold Mrg;simpa only[List.append_assoc,List.singleton_append]using this
def Std (l m:List (List UInt8×β)):Prop:=Srt m/\Stb l m
theorem Std.mrg {l l' A B M:List (List UInt8×β)} (h:Std l A) (h2:Std l' B) (hm:Mrg A B M):Std (l++l') M:=⟨hm.1,(h.2.app h2.2).trans hm.2⟩
end
end
section
open Go.RowKit
abbrev TmV:=List UInt8×(Option Addr×Nat×Nat)
def tcell (x:TmV):List Value:= [.string ⟨x.1.toArray⟩,.slice x.2.1 x.2.2.1 x.2.2.2]
def tcs (D:List TmV):List Value:=D.flatMap tcell
theorem ZDj (D:List TmV):(tcs D).length=D.length*2:=Ze (cellsA:=tcell) (k:=2) (fun _=>rfl) D
theorem ZBh {D:List TmV} {i:Nat} {x:TmV} (h:D[i]? = some x) {j:Nat} (hj:j<2):(tcs D)[i*2+j]? = (tcell x)[j]? :=Zj (cellsA:=tcell) (k:=2) (fun _=>rfl) D i x j h hj
def TR (w:World) (g:Nat) (D:List TmV):Prop:=∃cs:Array Value,Row w g 150 cs/\∀(i:Nat) (v:Value),(tcs D)[i]? = some v->cs[i]? = some v
section
variable {w w1:World} {g:Nat} {D:List TmV}
theorem TR.lt (h:TR w g D):g<w.heap.size:=by obtain⟨cs,hr,_⟩:=h;exact hr.lt
theorem TR.free (h:TR w g D) (i:Nat):w.frozen? ⟨g,i,none⟩=false:=by obtain⟨cs,hr,_⟩:=h;exact hr.free i
theorem TR.at_ (h:TR w g D) {i:Nat} {x:TmV} (hx:D[i]? = some x):w.cell? ⟨g,i*2,none⟩=some (.string ⟨x.1.toArray⟩)/\w.cell? ⟨g,i*2+1,none⟩=some (.slice x.2.1 x.2.2.1 x.2.2.2):=by
 obtain⟨cs,hr,hc⟩:=h;exact⟨hr.cell (i*2) (hc _ _ (by have:=ZBh hx (j:=0) (by omega);rw[Nat.add_zero]at this;rw[this];rfl)),hr.cell (i*2+1) (hc _ _ (by rw[ZBh hx (j:=1) (by omega)];rfl))⟩
theorem TR.ext (h:TR w g D) (hE:Ext w w1):TR w1 g D:=by obtain⟨cs,hr,hc⟩:=h;exact⟨cs,hr.ext hE,hc⟩
theorem TR.drew (h:TR w g D):TR w.drew g D:=h.ext (Ext.refl w).drew
theorem ZNR (D:List TmV) (i:Nat) (y:TmV) (hi:i<D.length) (k:Nat):(tcs (D.set i y))[k]? = if k=i*2 then some (.string ⟨y.1.toArray⟩) else if k=i*2+1 then some (.slice y.2.1 y.2.2.1 y.2.2.2) else (tcs D)[k]? :=by
 have hk:k=k / 2*2+k%2:=by omega
 by_cases q0:k / 2<D.length
 ·have hx:D[k / 2]? = some D[k / 2]:=List.getElem?_eq_getElem q0;by_cases he:k / 2=i
  ·have h1:(D.set i y)[k / 2]? = some y:=by rw[List.getElem?_set,if_pos he.symm,if_pos (by omega)]
   rw[hk,ZBh h1 (Nat.mod_lt _ (by omega))];rcases Nat.mod_two_eq_zero_or_one k with h0 | h0
   ·rw[h0,if_pos (by omega)];rfl
   ·rw[h0,if_neg (by omega),if_pos (by omega)];rfl
  ·have h1:(D.set i y)[k / 2]? = some D[k / 2]:=by rw[List.getElem?_set,if_neg (fun e=>he e.symm),hx]
   rw[hk,ZBh h1 (Nat.mod_lt _ (by omega)),ZBh hx (Nat.mod_lt _ (by omega)),if_neg (by omega),if_neg (by omega)]
 ·rw[if_neg (by omega),if_neg (by omega),List.getElem?_eq_none (by rw[ZDj,List.length_set];omega),List.getElem?_eq_none (by rw[ZDj];omega)]
abbrev setT (w:World) (g i:Nat) (y:TmV):World:=(w.setCell ⟨g,i*2,none⟩ (.string ⟨y.1.toArray⟩)).setCell ⟨g,i*2+1,none⟩ (.slice y.2.1 y.2.2.1 y.2.2.2)
theorem TR.put (h:TR w g D) {i:Nat} (hi:i<D.length) (y:TmV):TR (setT w g i y) g (D.set i y):=by
 obtain⟨cs,hr,hc⟩:=h;refine⟨_,(hr.put (i*2) _).put (i*2+1) _,fun k v hv=>?_⟩;have hx:D[i]? = some D[i]:=List.getElem?_eq_getElem hi;have q0:i*2<cs.size:=by
  have h0:=hc (i*2) _ (by have:=ZBh hx (j:=0) (by omega);rw[Nat.add_zero]at this;exact this);exact(Array.getElem?_eq_some_iff.1 h0).1
 have p0:i*2+1<cs.size:=(Array.getElem?_eq_some_iff.1 (hc (i*2+1) _ (ZBh hx (j:=1) (by omega)))).1;rw[ZNR D i y hi]at hv;rw[Array.getElem?_setIfInBounds,Array.getElem?_setIfInBounds];split at hv
 ·rename_i he;subst he;rw[if_neg (by omega),if_pos rfl,if_pos q0];exact hv
 ·split at hv
  ·rename_i k0 he;subst he;rw[if_pos rfl,if_pos (by rw[Array.size_setIfInBounds];exact p0)];exact hv
  ·rename_i h1 h2;rw[if_neg (by omega),if_neg (by omega)];exact hc k v hv
theorem ZAb (w:World) (g i:Nat) (y:TmV):Chg (fun k=>k=g) w (setT w g i y) :=
 (Chg.of_set (S:=fun k=>k=g) w (a:=⟨g,i*2,none⟩) _ rfl).trans (Chg.of_set (S:=fun k=>k=g) _ (a:=⟨g,i*2+1,none⟩) _ rfl) fun _ _ h=>h
end
def SwK (D D':List TmV) (a b k:Nat):Prop:=D'.length=D.length/\∀i,D'[i]? = if a<=i/\i<a+k then D[i - a+b]? else if b<=i/\i<b+k then D[i - b+a]? else D[i]?
theorem SwK.zero (D:List TmV) (a b:Nat):SwK D D a b 0:=⟨rfl,fun i=>by rw[if_neg (by omega),if_neg (by omega)]⟩
theorem SwK.next {D D':List TmV} {a b k n:Nat} {x y:TmV} (h:SwK D D' a b k) (hk:k<n) (hab:a+n<=b) (hx:D'[a+k]? = some x) (hy:D'[b+k]? = some y):SwK D ((D'.set (a+k) y).set (b+k) x) a b (k+1):=by
 obtain⟨hl,hg⟩:=h;refine⟨by rw[List.length_set,List.length_set,hl],fun i=>?_⟩;have ha:=hg (a+k);rw[if_neg (by omega),if_neg (by omega),hx]at ha;have hb:=hg (b+k);rw[if_neg (by omega),if_neg (by omega),hy]at hb;have h0:=(List.getElem?_eq_some_iff.1 hx).1;have q0:=(List.getElem?_eq_some_iff.1 hy).1;rw[List.getElem?_set,List.getElem?_set,List.length_set];by_cases e1:b+k=i
 ·subst e1;rw[if_pos rfl,if_pos q0,if_neg (by omega),if_pos (by omega),show b+k - b+a=a+k by omega];exact ha
 ·rw[if_neg e1];by_cases e2:a+k=i
  ·subst e2;rw[if_pos rfl,if_pos h0,if_pos (by omega),show a+k - a+b=b+k by omega];exact hb
  ·rw[if_neg e2,hg i];by_cases c1:a<=i/\i<a+k
   ·rw[if_pos c1,if_pos (show a<=i/\i<a+(k+1)by omega)]
   ·rw[if_neg c1,if_neg (show ¬ (a<=i/\i<a+(k+1))by omega)];by_cases c2:b<=i/\i<b+k
    ·rw[if_pos c2,if_pos (show b<=i/\i<b+(k+1)by omega)]
    ·rw[if_neg c2,if_neg (show ¬ (b<=i/\i<b+(k+1))by omega)]
theorem ZFk (g c a b n:Nat) (D:List TmV) (f:Value) (w:World) (h:TR w g D) (hab:a+n<=b) (hb:b+n<=D.length) (hD:D.length<=1073741824) :
 Calls Tryz.prog 226 #[.slice (some ⟨g,0,none⟩) D.length c,.int .i64 (a:Int),.int .i64 (b:Int),.int .i64 (n:Int),f] w fun e w'=>e = .returned (.tuple #[])/\∃D',SwK D D' a b n/\TR w' g D'/\Chg (fun k=>k=g) w w':=by
 obtain⟨dl,h0⟩:∃n,n=D.length:=⟨_,rfl⟩
 rw[<-h0]at hb hD ⊢;replace h:=ZA h;replace h0:=ZA h0;go_enter Tryz.func226,Tryz.ntmps226;go_wp2_with fail
 go_loopw [10] (fun s10 wr=>∃(k:Nat) (E:List TmV),s10 = .int .i64 (k:Int)/\k<=n/\Hid (SwK D E a b k/\TR wr g E/\Chg (fun k=>k=g) w wr)) (fun s10 _=>n - (intOf s10).toNat)
 case atStart=>exact⟨0,D,rfl,by omega,ZA ⟨SwK.zero D a b,h.out,Chg.refl _ _⟩⟩
 case round =>
  obtain⟨k,E,rfl,hk,hI⟩:=hrel;by_cases m0:k<n
  ·have hl:=hI.out.1.1;have q0:=h0.out;obtain⟨x,hx⟩:∃x,E[a+k]? = some x:=⟨_,List.getElem?_eq_getElem (by omega)⟩
   obtain⟨y,hy⟩:∃y,E[b+k]? = some y:=⟨_,List.getElem?_eq_getElem (by omega)⟩
   have p0:=hI.out.2.1.at_ hx;have k0:=hI.out.2.1.at_ hy;have x0:=p0.1;have x1:=p0.2;have y0:=k0.1;have y1:=k0.2;have fr:=hI.out.2.1.free;clear hl q0 p0 k0;replace hx:=ZA hx;replace hy:=ZA hy;go_wp2_with fail;refine ZB follows (by kernel_rfl) (by kernel_rfl) (fun K hK=>?_);go_wp2_with fail;refine⟨by kernel_rfl,?_⟩;go_wp2_with fail;have j0:=hx.out;have g0:=hy.out;have hN:=hI.out.1.next m0 hab j0 g0;have h1:=hI.out.2.1.put (i:=a+k) (List.getElem?_eq_some_iff.1 j0).1 y;have h2:=h1.put (i:=b+k) (by rw[List.length_set];exact(List.getElem?_eq_some_iff.1 g0).1) x;have hc:=(hI.out.2.2.trans (ZAb wr g (a+k) y) fun _ _ h=>h).trans (ZAb _ g (b+k) x) fun _ _ h=>h;go_roundw
   case rel=>exact⟨k+1,_,by go_num,by omega,ZA ⟨hN,h2.drew,hc.trans (Chg.of_ext (Ext.refl _).drew _) fun _ _ h=>h⟩⟩
   case measure=>simp[intOf];omega
  ·go_wp2_with fail
   go_end0
   obtain rfl:k=n:=by omega
   exact⟨rfl,E,hI.out⟩
end
section
open Go.RowKit
theorem ZKl {E E' P X Y Z Q:List TmV} {a b n:Nat} (h:SwK E E' a b n) (hE:E=P++(X++(Y++(Z++Q)))) (hX:X.length=n) (hZ:Z.length=n) (ha:a=P.length) (hb:b=P.length+X.length+Y.length):E'=P++(Z++(Y++(X++Q))):=by
 refine List.ext_getElem? fun i=>?_;rw[h.2 i,hE];simp only[List.getElem?_append];subst ha hb;by_cases h1:i<P.length
 ·rw[if_neg (show ¬ (P.length<=i/\i<P.length+n)by omega),if_neg (show ¬ (P.length+X.length+Y.length<=i/\i<P.length+X.length+Y.length+n)by omega)];simp only[if_pos h1]
 ·by_cases h2:i - P.length<n
  ·rw[if_pos (show P.length<=i/\i<P.length+n by omega)];simp only[if_neg h1,hX,hZ,if_pos h2];rw[if_neg (by omega),if_neg (by omega),if_neg (by omega),if_pos (by omega)];congr 1;omega
  ·rw[if_neg (show ¬ (P.length<=i/\i<P.length+n)by omega)];by_cases h3:i - P.length - n<Y.length
   ·rw[if_neg (show ¬ (P.length+X.length+Y.length<=i/\i<P.length+X.length+Y.length+n)by omega)];simp only[if_neg h1,hX,hZ,if_neg h2,if_pos h3]
   ·by_cases h4:i - P.length - n - Y.length<n
    ·rw[if_pos (show P.length+X.length+Y.length<=i/\i<P.length+X.length+Y.length+n by omega)];simp only[if_neg h1,hX,hZ,if_neg h2,if_neg h3,if_pos h4];rw[if_neg (by omega),if_pos (by omega)];congr 1;omega
    ·rw[if_neg (show ¬ (P.length+X.length+Y.length<=i/\i<P.length+X.length+Y.length+n)by omega)];simp only[if_neg h1,hX,hZ,if_neg h2,if_neg h3,if_neg h4]
structure RotI (T E:List TmV) (m i j:Nat):Prop where
  ex:∃P U V Q:List TmV,E=P++(U++(V++Q))/\P.length+i=m/\U.length=i/\V.length=j/\T=P++(V++(U++Q))
  i0:0<i
  j0:0<j
theorem RotI.len {T E:List TmV} {m i j:Nat} (h:RotI T E m i j):i<=m/\m+j<=E.length/\E.length=T.length:=by
 obtain⟨P,U,V,Q,hE,hP,hU,hV,hT⟩:=h.ex;rw[hE,hT];simp only[List.length_append];omega
theorem RotI.left {T E E':List TmV} {m i j:Nat} (h:RotI T E m i j) (q0:j<i) (hs:SwK E E' (m - i) m j):RotI T E' m (i - j) j:=by
 obtain⟨P,U,V,Q,hE,hP,hU,hV,hT⟩:=h.ex;have h0:=ZKl (P:=P) (X:=U.take j) (Y:=U.drop j) (Z:=V) (Q:=Q) hs (by rw[hE,<-List.append_assoc (U.take j),List.take_append_drop]) (by rw[List.length_take];omega) hV (by omega) (by rw[List.length_take,List.length_drop];omega);refine⟨⟨P++V,U.drop j,U.take j,Q,?_,?_,?_,?_,?_⟩,by omega,h.j0⟩
 ·rw[h0];simp only[List.append_assoc]
 ·rw[List.length_append];omega
 ·rw[List.length_drop];omega
 ·rw[List.length_take];omega
 ·rw[hT,List.append_assoc,<-List.append_assoc (U.take j),List.take_append_drop]
theorem RotI.right {T E E':List TmV} {m i j:Nat} (h:RotI T E m i j) (q0:i<j) (hs:SwK E E' (m - i) (m+j - i) i):RotI T E' m i (j - i):=by
 obtain⟨P,U,V,Q,hE,hP,hU,hV,hT⟩:=h.ex;have h0:=ZKl (P:=P) (X:=U) (Y:=V.take (j - i)) (Z:=V.drop (j - i)) (Q:=Q) hs (by rw[hE,<-List.append_assoc (V.take (j - i)),List.take_append_drop]) hU (by rw[List.length_drop];omega) (by omega) (by rw[List.length_take];omega);refine⟨⟨P,V.drop (j - i),V.take (j - i),U++Q,?_,hP,?_,?_,?_⟩,h.i0,by omega⟩
 ·rw[h0]
 ·rw[List.length_drop];omega
 ·rw[List.length_take];omega
 ·rw[hT,<-List.append_assoc (V.take (j - i)),List.take_append_drop]
theorem RotI.last {T E E':List TmV} {m i:Nat} (h:RotI T E m i i) (hs:SwK E E' (m - i) m i):E'=T:=by
 obtain⟨P,U,V,Q,hE,hP,hU,hV,hT⟩:=h.ex;have h0:=ZKl (P:=P) (X:=U) (Y:= []) (Z:=V) (Q:=Q) hs (by rw[hE];rfl) hU hV (by omega) (by simp;omega);rw[h0,hT];rfl
theorem ZJf (g c a m b:Nat) (D T:List TmV) (f:Value) (w:World) (h:TR w g D) (hR:RotI T D m (m - a) (b - m)) (y0:a<m) (c0:m<b) (hD:D.length<=1073741824) :
 Calls Tryz.prog 218 #[.slice (some ⟨g,0,none⟩) D.length c,.int .i64 (a:Int),.int .i64 (m:Int),.int .i64 (b:Int),f] w fun e w'=>e = .returned (.tuple #[])/\TR w' g T/\Chg (fun k=>k=g) w w':=by
 have hlen:=hR.len;obtain⟨dl,t0⟩:∃n,n=D.length:=⟨_,rfl⟩
 rw[<-t0]at hD hlen ⊢;have g0:∀(a b n:Nat) (E:List TmV) (x:World),TR x g E->E.length=dl->a+n<=b->b+n<=dl->Calls Tryz.prog 226 #[.slice (some ⟨g,0,none⟩) dl c,.int .i64 (a:Int),.int .i64 (b:Int),.int .i64 (n:Int),f] x fun e w'=>e = .returned (.tuple #[])/\∃D',SwK E D' a b n/\TR w' g D'/\Chg (fun k=>k=g) x w':=fun a b n E x hx hE hab hb=>by
  have:=ZFk g c a b n E f x hx hab (by omega) (by omega);rw[hE]at this;exact this
 have hT:T.length=dl:=hlen.2.2.symm;have d0:m<=1073741824:=by omega
 have z0:b<=1073741824:=by omega
 have m0:((b:Int) - (m:Int))=((b - m:Nat):Int):=by omega
 have v0:((m:Int) - (a:Int))=((m - a:Nat):Int):=by omega
 replace h:=ZA h;replace hR:=ZA hR;replace g0:=ZA g0;replace t0:=ZA t0;replace hlen:=ZA hlen;replace hT:=ZA hT;replace m0:=ZA m0;replace v0:=ZA v0;go_enter Tryz.func218,Tryz.ntmps218;go_wp2_with fail;rw[v0.out,m0.out]
 go_loopw [10,11] (fun s10 s11 wr=>∃(i j:Nat) (E:List TmV),s10 = .int .i64 (i:Int)/\s11 = .int .i64 (j:Int)/\i<=1073741824/\j<=1073741824/\Hid (RotI T E m i j/\TR wr g E/\Chg (fun k=>k=g) w wr)) (fun s10 s11 _=>(intOf s10).toNat+(intOf s11).toNat)
 case atStart=>exact⟨m - a,b - m,D,rfl,rfl,by omega,by omega,ZA ⟨hR.out,h.out,Chg.refl _ _⟩⟩
 case round =>
  obtain⟨i,j,E,rfl,rfl,hi,hj,hI⟩:=hrel;have hl:=hI.out.1.len;have a0:=hI.out.1.i0;have b0:=hI.out.1.j0;have q0:E.length=dl:=by have:=hT.out;omega
  have p0:((m:Int) - (i:Int))=((m - i:Nat):Int):=by omega
  have k0:((m:Int)+(j:Int) - (i:Int))=((m+j - i:Nat):Int):=by omega
  by_cases u0:i=j
  ·subst u0;have hs:=ZA (g0.out (m - i) m i E wr hI.out.2.1 q0 (by omega) (by omega));replace p0:=ZA p0;replace k0:=ZA k0;replace q0:=ZA q0;go_wp2_with fail;rw[p0.out];refine hs.out.mono ?_;rintro e w1 ⟨rfl,E',hk,hr,hc⟩;obtain rfl:=hI.out.1.last hk;go_wp2_with fail
   go_end0
   exact⟨rfl,hr,hI.out.2.2.trans hc fun _ _ h=>h⟩
  ·have e0:¬ (i:Int)=(j:Int):=by omega
   by_cases x0:j<i
   ·have hs:=ZA (g0.out (m - i) m j E wr hI.out.2.1 q0 (by omega) (by omega));have h0:((i:Int) - (j:Int))=((i - j:Nat):Int):=by omega
    replace p0:=ZA p0;replace k0:=ZA k0;replace q0:=ZA q0;replace h0:=ZA h0;go_wp2_with fail;rw[p0.out];refine hs.out.mono ?_;rintro e w1 ⟨rfl,E',hk,hr,hc⟩;have hN:=hI.out.1.left x0 hk;replace hk:=ZA hk;go_wp2_with fail;go_roundw
    case rel=>exact⟨i - j,j,E',by rw[h0.out],rfl,by omega,hj,ZA ⟨hN,hr,hI.out.2.2.trans hc fun _ _ h=>h⟩⟩
    case measure=>simp[intOf];omega
   ·have hs:=ZA (g0.out (m - i) (m+j - i) i E wr hI.out.2.1 q0 (by omega) (by omega));have h0:((j:Int) - (i:Int))=((j - i:Nat):Int):=by omega
    replace p0:=ZA p0;replace k0:=ZA k0;replace q0:=ZA q0;replace h0:=ZA h0;go_wp2_with fail;rw[p0.out,k0.out];refine hs.out.mono ?_;rintro e w1 ⟨rfl,E',hk,hr,hc⟩;have hN:=hI.out.1.right (by omega) hk;replace hk:=ZA hk;go_wp2_with fail;go_roundw
    case rel=>exact⟨i,j - i,E',rfl,by rw[h0.out],hi,by omega,ZA ⟨hN,hr,hI.out.2.2.trans hc fun _ _ h=>h⟩⟩
    case measure=>simp[intOf];omega
theorem ZLA:∀(a b:List UInt8),(Lib.compareBytes a b<0↔a<b) /\ -1<=Lib.compareBytes a b/\Lib.compareBytes a b<=1
 | [],[]=>⟨by simp[Lib.compareBytes],by simp[Lib.compareBytes],by simp[Lib.compareBytes]⟩
 | [],_::_=>⟨by simp[Lib.compareBytes],by simp[Lib.compareBytes],by simp[Lib.compareBytes]⟩
 | _::_,[]=>⟨by simp[Lib.compareBytes],by simp[Lib.compareBytes],by simp[Lib.compareBytes]⟩
 | x::xs,y::ys=>by
  have ih:=ZLA xs ys;rw[Lib.compareBytes,List.cons_lt_cons_iff];by_cases h1:x<y
  ·rw[if_pos h1];exact⟨⟨fun _=> .inl h1,fun _=>by decide⟩,by decide,by decide⟩
  ·rw[if_neg h1];by_cases h2:y<x
   ·rw[if_pos h2];refine⟨⟨fun h=>absurd h (by decide),fun h=>?_⟩,by decide,by decide⟩;rcases h with h | ⟨h,_⟩
    ·exact absurd h h1
    ·rw[h]at h2;exact absurd h2 (UInt8.lt_irrefl _)
   ·rw[if_neg h2];have he:x=y:=UInt8.le_antisymm (UInt8.not_lt.1 h2) (UInt8.not_lt.1 h1);refine⟨⟨fun h=> .inr ⟨he,ih.1.1 h⟩,fun h=>?_⟩,ih.2⟩;rcases h with h | ⟨_,h⟩
    ·exact absurd h h1
    ·exact ih.1.2 h
def tagg (x:TmV):Value:= .agg #[.string ⟨x.1.toArray⟩,.slice x.2.1 x.2.2.1 x.2.2.2]
def cmpV:Value:= .func (.func 137) #[] #[]
def CmpP (x y:TmV) (w:World) (e:Ending) (w':World):Prop:=∃z:Int,e = .returned (.int .i64 z)/\(z<0↔x.1<y.1) /\ -1<=z/\z<=1/\Ext w w'
theorem ZCw (x y:TmV) (w:World):Calls Tryz.prog 137 #[tagg x,tagg y] w (CmpP x y w):=by
 have h0:=ZA (fun W=>Tryz.strings_Compare ⟨x.1.toArray⟩ ⟨y.1.toArray⟩ W);unfold tagg;go_enter Tryz.func137,Tryz.ntmps137;go_wp2_with fail;refine(h0.out _).mono ?_;rintro e w1 ⟨rfl,rfl⟩;go_wp2_with fail;go_ret;have h:=ZLA x.1 y.1;exact⟨_,rfl,h.1,h.2.1,h.2.2,((Ext.refl w).alloc _).alloc _⟩
structure InsI (D E P X Q:List TmV) (i:Nat):Prop where
  hi:P.length<=i/\i<=P.length+X.length
  ex:∃S,E=P++(S++(X.drop (i - P.length)++Q))/\Std (X.take (i - P.length)) S
structure InsJ (E P S R:List TmV) (z:TmV) (k:Nat):Prop where
  hk:k<=S.length
  eq:E=P++(S.take k++z::(S.drop k++R))
  gt:∀y∈S.drop k,z.1<y.1
theorem InsJ.len {E P S R:List TmV} {z:TmV} {k:Nat} (h:InsJ E P S R z k):E.length=P.length+S.length+1+R.length:=by
 rw[h.eq];simp only[List.length_append,List.length_cons,List.length_take,List.length_drop];have:=h.hk;omega
theorem InsJ.here {E P S R:List TmV} {z:TmV} {k:Nat} (h:InsJ E P S R z k):E[P.length+k]? = some z:=by
 have:=h.hk;rw[h.eq,List.getElem?_append_right (by omega),List.getElem?_append_right (by rw[List.length_take];omega),List.length_take,show P.length+k - P.length - min k S.length=0 by omega];rfl
theorem InsJ.ahead {E P S R:List TmV} {z:TmV} {k:Nat} (h:InsJ E P S R z (k+1)):∃y,E[P.length+k]? = some y/\S[k]? = some y:=by
 have:=h.hk;obtain⟨y,hy⟩:∃y,S[k]? = some y:=⟨_,List.getElem?_eq_getElem (by omega)⟩
 refine⟨y,?_,hy⟩;rw[h.eq,List.getElem?_append_right (by omega),List.getElem?_append_left (by rw[List.length_take];omega),show P.length+k - P.length=k by omega,List.getElem?_take,if_pos (by omega)];exact hy
theorem ZFK {α:Type} (y z:α) (B:List α):∀A:List α,((A++y::z::B).set (A.length+1) y).set A.length z=A++z::y::B
 | []=>rfl
 | a::A=>by simp[ZFK y z B A]
theorem InsJ.next {E P S R:List TmV} {z y:TmV} {k:Nat} (h:InsJ E P S R z (k+1)) (hy:S[k]? = some y) (h0:z.1<y.1):InsJ ((E.set (P.length+(k+1)) y).set (P.length+k) z) P S R z k:=by
 have hk:=h.hk;have hd:S.drop k=y::S.drop (k+1):=by
  obtain⟨hl,he⟩:=List.getElem?_eq_some_iff.1 hy;rw[List.drop_eq_getElem_cons hl,he]
 have ht:S.take (k+1)=S.take k ++ [y]:=by rw[List.take_succ_eq_append_getElem (by omega)];congr 2;exact(List.getElem?_eq_some_iff.1 hy).2
 refine⟨by omega,?_,?_⟩
 ·have hl:(P++S.take k).length=P.length+k:=by rw[List.length_append,List.length_take];omega
  have:=ZFK y z (S.drop (k+1)++R) (P++S.take k);rw[hl]at this;rw[h.eq,ht,hd,show P++(S.take k ++ [y]++z::(S.drop (k+1)++R))=(P++S.take k)++y::z::(S.drop (k+1)++R)by simp,<-Nat.add_assoc,this];simp
 ·rw[hd];intro x hx;rcases List.mem_cons.1 hx with rfl | hx
  ·exact h0
  ·exact h.gt x hx
theorem InsJ.start {D E P X Q S:List TmV} {i:Nat} {z:TmV} (hE:E=P++(S++(X.drop (i - P.length)++Q))) (hS:Std (X.take (i - P.length)) S) (hz:X[i - P.length]? = some z):InsJ E P S (X.drop (i - P.length+1)++Q) z S.length:=by
 obtain⟨hl,he⟩:=List.getElem?_eq_some_iff.1 hz;refine⟨Nat.le_refl _,?_,by rw[List.drop_length];nofun⟩;rw[hE,List.take_length,List.drop_length,List.nil_append,List.drop_eq_getElem_cons hl,he];rfl
theorem InsJ.done {D E P X Q S:List TmV} {i k:Nat} {z:TmV} (h:InsJ E P S (X.drop (i - P.length+1)++Q) z k) (hS:Std (X.take (i - P.length)) S) (hz:X[i - P.length]? = some z) (p0:P.length<=i) (h0:k=0\/∃y,S[k - 1]? = some y/\¬ z.1<y.1):InsI D E P X Q (i+1):=by
 obtain⟨hl,he⟩:=List.getElem?_eq_some_iff.1 hz;refine⟨⟨by omega,by omega⟩,S.take k++z::S.drop k,?_,?_⟩
 ·rw[h.eq,show i+1 - P.length=i - P.length+1 by omega];simp only[List.append_assoc,List.cons_append]
 ·rw[show i+1 - P.length=i - P.length+1 by omega,List.take_succ_eq_append_getElem hl,he];have h1:Std [z] [z]:=⟨List.pairwise_singleton ..,Stb.refl _⟩
  refine hS.mrg h1 (ZGs hS.1 (fun x hx=>?_) h.gt);rcases h0 with rfl | ⟨y,hy,q0⟩
  ·cases hx
  ·by_cases e:k=0
   ·rw[e]at hx;cases hx
   ·exact ZA8 (hS.1.take_le hy x (by rw[show k - 1+1=k by omega];exact hx)) q0
end
end Go.Proofs.YtkdcnhnaiknaaaaGreat
