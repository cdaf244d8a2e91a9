/- Texts of one proof, joined. -/
import Derived.Test.YtfifdilapbeiiaaGreatPY13
set_option linter.unusedSimpArgs false
set_option linter.unusedVariables false
set_option maxRecDepth 100000
set_option maxHeartbeats 16000000
namespace Go.Proofs.YtfifdilapbeiiaaGreat
open _root_.Go.Proofs.Tryz
variable {la la0:Int} {L l r r1 r2:List UInt8} {xs1 xs2:List Value} {b1 b2 c d e1 e2 i k m n n1 n2 s1 s2 x:Nat} {A:Option Addr} {v1 v2:Value} {w w1:World}
section
open Go.RowKit Go.Maps
theorem Ek (ds:List DocC) (A:Option Addr) (n c:Nat) (w:World) (hn:n=ds.length) (h:DocsOk w A ds) (i1:okDs (dcs ds)=true) (z6:(blockD 0 (dcs ds)).length<=50000000) :
 Calls prog 61 #[.slice A n c] w fun e w'=>OkB w (encDs (dcs ds)) e w':=by
 have p0:(dcs ds).length=n:=by unfold dcs;rw[List.length_map,hn]
 have z8:n<=65536:=by
  have h1:=i1;unfold okDs at h1;rw[Bool.and_eq_true]at h1;have:=of_decide_eq_true h1.1;omega
 have x1:=IW ds A n c w hn h (by omega);rw[i1]at x1;obtain⟨P,hP⟩:=Ab (dcs ds);rw[<-hP]at i1 z6 p0 ⊢;have m7:=Aa (fun r (hr:r*16<P.length)=>Ho i1 z6 hr);have z5:=Aa (fun r (hr:P.length<=r*16)=>Ir P r hr);have x2:=Aa (fun A n c l x base W (hn:n=l.length) (hb:Buf W base 5 A n c (l.map B8)) (f4:base<=W.heap.size) (hx:0<=x) (z7:x<=9223372036854775807) (g7:n<=1000000000)=>Hj A n c l x base W hn hb f4 hx z7 g7);have g8:=Ag (n:=n) (by omega);replace x1:=Aa x1;replace hP:=Aa hP;replace hn:=Aa hn;replace h:=Aa h;replace p0:=Aa p0;clear i1
 go_in
 go_wp2_with fail;refine x1.out.mono ?_;rintro e w1 ⟨rfl,z4⟩;have o1:=x2.out none 0 0 [] (n:Int) w.heap.size w1 rfl (Buf.nil _ _ _) z4.size (by omega) (by omega) (by omega);rw[List.nil_append,Int.toNat_natCast]at o1;replace o1:=Aa o1;go_wp2_with fail;refine o1.out.mono ?_;rintro e w2 ⟨H2,m2,d2,rfl,f1,m3,v4⟩;have e0:=Aa (v4.ext z4 nofun);replace f1:=Aa f1;replace m3:=Aa m3;clear o1 x1 v4 z4;go_wp2_with fail
 go_loopw [4,5,6,7] (fun s4 s5 s6 s7 wr=>∃(r mh dh mb db:Nat) (Hd Bd:Option Addr) (a:Int),s4 = .slice Hd mh dh/\s5 = .slice Bd mb db/\s6 = .int .i64 a/\s7 = .int .i64 ((r*16:Nat):Int)/\r*16<=n+15/\mh<=10+20*r/\mb<=50000000/\Hid (a=lastD 0 (P.take (r*16)))/\Hid (mh=(vb n++headD 0 ((chunkL 16 P).take r)).length)/\Hid (Buf wr w.heap.size 5 Hd mh dh ((vb n++headD 0 ((chunkL 16 P).take r)).map B8))/\Hid (mb=(blockD 0 (P.take (r*16))).length)/\Hid (Buf wr w.heap.size 5 Bd mb db ((blockD 0 (P.take (r*16))).map B8))/\Hid (Apart Hd Bd)/\Hid (Ext w wr)) (fun _ _ _ s7 _=>n+15 - (intOf s7).toNat)
 case atStart =>
  refine⟨0,m2,d2,0,0,H2,none,0,rfl,rfl,rfl,rfl,by omega,by rw[f1.out];omega,by omega,Aa rfl,Aa ?_,Aa ?_,Aa rfl,Aa (Buf.nil _ _ _),Aa nofun,e0⟩
  ·rw[List.take_zero];show m2=(vb n ++ []).length;rw[List.append_nil];exact f1.out
  ·rw[List.take_zero];show Buf _ _ _ _ _ _ ((vb n ++ []).map B8);rw[List.append_nil];exact m3.out
 case round =>
  clear f1 m3 e0;obtain⟨r,mh,dh,mb,db,Hd,Bd,a,rfl,rfl,rfl,rfl,hr,k8,p8,ha,i3,y3,f3,i4,a5,hE⟩:=hrel;by_cases y6:r*16<n
  ·have q5:=m7.out r (by rw[p0.out];exact y6);rw[<-ha.out]at q5;obtain⟨f,hf⟩:=Ab (r*16);obtain⟨bP,p1⟩:=Ab ((P.drop (r*16)).take 16);rw[<-p1]at q5;obtain⟨h1,h2,h3,h4,h5,h6,h7,h8,h9,l6,f2,n6,o6⟩:=q5;have v0:bP.length=min (n - f) 16:=by rw[p1,List.length_take,List.length_drop,p0.out,hf];omega
   have l4:∀j,j<bP.length->bP[j]? = P[f+j]? :=fun j hj=>by rw[p1,List.getElem?_take,if_pos (by omega),List.getElem?_drop,hf]
   have t7:=Aa (fun k x (h:(bP.map (·.1))[k]? = some x)=>Ef h4 k x h);have y7:=Aa (fun k=>Nl bP k a);have j1:r*16=f:=hf.symm;have n4:(r+1)*16=f+16:=by omega
   have l7:f<=65536:=by omega
   have x3:=Aa y3.out.below;have i5:=Aa i4.out.below;obtain⟨a2,j3⟩:=Ab (lastD a bP);obtain⟨XL,o0⟩:=Ab (blockD a bP);rw[<-j3]at h6 h7 h8 f2;rw[<-o0]at h8 h9 n6;have q7:XL.length<=50000000:=by omega
   rw[j1];rw[j1]at y6;replace v0:=Aa v0;replace l4:=Aa l4;replace p1:=Aa p1;replace j3:=Aa j3;replace o0:=Aa o0;replace h5:=Aa h5;replace h8:=Aa h8;replace h9:=Aa h9;replace f2:=Aa f2;replace n4:=Aa n4;replace j1:=Aa j1;clear hf h1 h4 l6 o6 ha;go_wp2_with fail;obtain⟨wo,rfl⟩:=Ab wr
   go_loopw [6,8,9] (fun s6 s8 s9 wr=>∃(j k mx dx:Nat) (X:Option Addr) (la:Int),s6 = .int .i64 la/\s8 = .slice X mx dx/\s9 = .int .i64 (k:Int)/\k<=n/\j<=16/\Hid (k=f+j)/\0<=la/\la<1099511627777/\mx<=50000000/\Hid (la=lastD a (bP.take j))/\Hid (mx=(blockD a (bP.take j)).length)/\Hid (Buf wr wo.heap.size 5 X mx dx ((blockD a (bP.take j)).map B8))/\Hid (Ext wo wr)) (fun _ _ s9 _=>n - (intOf s9).toNat)
   case atStart=>exact⟨0,f,0,0,none,a,rfl,rfl,rfl,by omega,by omega,Aa rfl,h2,h3,by omega,Aa rfl,Aa rfl,Aa (Buf.nil _ _ _),Aa (Ext.refl _)⟩
   case round =>
    obtain⟨j,k,mx,dx,X,la,rfl,rfl,rfl,x8,n7,r4,o7,r7,j8,y0,Y,x0,G⟩:=hrel;have a1:=r4.out;by_cases j7:k<n/\k<f+16
    ·obtain⟨r5,v8⟩:=j7;have y1:j<bP.length:=by have:=v0.out;omega
     obtain⟨x,hx⟩:∃x,ds[k]? = some x:=⟨_,List.getElem?_eq_getElem (by rw[<-hn.out];exact r5)⟩
     have y2:bP[j]? = some x.dc:=by rw[l4.out j y1,<-a1,hP.out];unfold dcs;rw[List.getElem?_map,hx];rfl
     obtain⟨j5,a6,b7⟩:=h.out.each x (List.mem_of_getElem? hx);have o3:=of_decide_eq_true (h5.out _ (List.mem_of_getElem? y2));obtain⟨v6,_,x6⟩:=t7.out j x.seq (by rw[List.getElem?_map,y2];rfl);rw[<-List.map_take,<-EC,<-y0.out]at v6;have H:=JQ y2 a;rw[<-y0.out]at H;have a3:lastD a (bP.take (j+1))=x.seq:=by
      rw[EC,List.map_take];exact Ec (by rw[List.getElem?_map,y2];rfl)
     have t0:=y7.out (j+1);rw[<-o0.out]at t0;obtain⟨g,o,hA,_,_,_⟩:=AR h.out.cells hx;have T:∀W,Ext wo W->W.cell? ⟨g,o+k*3,none⟩=some (.int .i64 x.seq)/\W.cell? ⟨g,o+k*3+1,none⟩=some (.int .i64 x.e.at_)/\W.cell? ⟨g,o+k*3+2,none⟩=some (.slice x.A x.e.fs.length x.c)/\Ext wo W:=fun W e0=>by
      obtain⟨g2,o2,q3,l0,l1,l2⟩:=AR (h.out.cells.ext (hE.out.trans e0)) hx;rw[hA]at q3;injection q3 with q3;injection q3 with e1 e2;subst e1 e2;exact⟨l0,l1,l2,e0⟩
     obtain⟨sq,⟨at_,fs⟩,xA,xc⟩:=x;unfold DocC.dc at H o3;unfold oneD at H;simp only at j5 a6 b7 o3 v6 x6 H a3 T;obtain⟨fl,o4⟩:=Ab fs.length;rw[<-o4]at T;have k2:=fun x (hT:x.cell? ⟨g,o+k*3,none⟩=some (.int .i64 sq)/\x.cell? ⟨g,o+k*3+1,none⟩=some (.int .i64 at_)/\x.cell? ⟨g,o+k*3+2,none⟩=some (.slice xA fl xc)/\Ext wo x) (hb:Buf x wo.heap.size 5 X mx dx ((blockD a (bP.take j)).map B8))=>Oq wo g o k fl xc sq at_ xA T wo.heap.size (Nat.le_refl _) X mx dx _ (sq - la - 1) Y.out (by omega) (by omega) (by omega) x hT.2.2.2 hb hT.2.2.2.size;have j2:=fun x (hT:x.cell? ⟨g,o+k*3,none⟩=some (.int .i64 sq)/\x.cell? ⟨g,o+k*3+1,none⟩=some (.int .i64 at_)/\x.cell? ⟨g,o+k*3+2,none⟩=some (.slice xA fl xc)/\Ext wo x)=>PZ wo g o k fl xc sq at_ xA T fs o4 o3 a6 (j5.ext hE.out) x hT.2.2.2;obtain⟨L0,x5⟩:=Ab (blockD a (bP.take j));obtain⟨L2,i0⟩:=Ab (blockD a (bP.take (j+1)));obtain⟨V,hV⟩:=Ab (vb (sq - la - 1).toNat);obtain⟨EB,v5⟩:=Ab (putE ⟨at_,fs⟩);obtain⟨ne,c0⟩:=Ab EB.length;rw[<-x5]at k2 Y x0 H;rw[<-i0]at H t0;rw[<-hV]at k2 H;rw[<-v5]at j2 H;rw[<-c0]at j2;have k0:L2.length=L0.length+(V.length+ne):=by rw[H,List.length_append,List.length_append,<-c0]
     have t4:=Y.out;have p3:wr.cell? ⟨g,o+k*3,none⟩=some (.int .i64 sq)/\wr.cell? ⟨g,o+k*3+1,none⟩=some (.int .i64 at_)/\wr.cell? ⟨g,o+k*3+2,none⟩=some (.slice xA fl xc)/\Ext wo wr:=T wr G.out;have k3:wr.drew.cell? ⟨g,o+k*3,none⟩=some (.int .i64 sq)/\wr.drew.cell? ⟨g,o+k*3+1,none⟩=some (.int .i64 at_)/\wr.drew.cell? ⟨g,o+k*3+2,none⟩=some (.slice xA fl xc)/\Ext wo wr.drew:=T wr.drew G.out.drew;have r3:∀x,(x.cell? ⟨g,o+k*3,none⟩=some (.int .i64 sq)/\x.cell? ⟨g,o+k*3+1,none⟩=some (.int .i64 at_)/\x.cell? ⟨g,o+k*3+2,none⟩=some (.slice xA fl xc)/\Ext wo x)->Ext wo x:=fun x h=>h.2.2.2;have hX:Hid (Ext wr wr):=Aa (Ext.refl _);have m6:=Aa T;have i7:L2.length<=50000000:=Nat.le_trans t0 q7;have d8:wo.heap.size<=wr.heap.size:=G.out.size;have g4:=Aa (fun W (hE:Ext wr W)=>x0.out.ext hE);have k7:(EB.map B8).length=ne:=by rw[List.length_map,c0]
     subst hA;replace k2:=Aa k2;replace j2:=Aa j2;replace H:=Aa H;replace a3:=Aa a3;replace k0:=Aa k0;replace p3:=Aa p3;replace k3:=Aa k3;replace r3:=Aa r3;replace c0:=Aa c0;replace i0:=Aa i0;replace t4:=Aa t4;have q6:(k:Int)<(f:Int)+16:=by omega
     have i8:IntKind.i64.wrap (sq - la)=sq - la:=BP (by omega) (by omega);have l8:IntKind.i64.wrap (sq - la - 1)=sq - la - 1:=BP (by omega) (by omega);clear hx y2 j5 o3 o4 x5 hV v5 T y0 t0 a1;go_wp2_with fail
     go_region_held3 (fun x=>x.cell? ⟨g,o+k*3,none⟩=some (.int .i64 sq)/\x.cell? ⟨g,o+k*3+1,none⟩=some (.int .i64 at_)/\x.cell? ⟨g,o+k*3+2,none⟩=some (.slice xA fl xc)/\Ext wo x) (first | exact k3.out | exact p3.out | exact n0 | exact ‹_›)
      (first
      | (go_at_call 103;refine(k2.out _ ‹_› (g4.out _ (hX.out.trans (by(first | with_reducible exact Ext.refl _ | with_reducible exact Ext.drew (Ext.refl _) | with_reducible exact Ext.alloc (Ext.refl _) _ | with_reducible exact Ext.drew (Ext.alloc (Ext.refl _) _) | with_reducible exact Ext.alloc (Ext.drew (Ext.refl _)) _))))).mono ?_;rintro e w9 ⟨X1,m1,d1,rfl,b3,I,n0,t6⟩;(try replace q0:=Aa ((q0.out.ext (by(first | with_reducible exact Ext.refl _ | with_reducible exact Ext.drew (Ext.refl _) | with_reducible exact Ext.alloc (Ext.refl _) _ | with_reducible exact Ext.drew (Ext.alloc (Ext.refl _) _) | with_reducible exact Ext.alloc (Ext.drew (Ext.refl _)) _))).push t6 c5.out));have k6:m1+ne<=50000000:=(by have:=k0.out;rw[b3,List.length_append];omega);replace I:=Aa I;replace b3:=Aa b3;clear t6)
      | (go_at_call 104;refine(j2.out _ ‹_›).mono ?_;rintro e w9 ⟨E1,dE,rfl,q0,n0,b4⟩;(try (have c5:Hid (Apart X E1):=Aa (fun a b ha hb=>(by have q1:=(g4.out _ (hX.out.trans (by(first | with_reducible exact Ext.refl _ | with_reducible exact Ext.drew (Ext.refl _) | with_reducible exact Ext.alloc (Ext.refl _) _ | with_reducible exact Ext.drew (Ext.alloc (Ext.refl _) _) | with_reducible exact Ext.alloc (Ext.drew (Ext.refl _)) _)))).below a ha;have q2:=q0.base b hb;omega))));(try replace hX:=Aa (hX.out.trans (Ext.trans (by(first | with_reducible exact Ext.refl _ | with_reducible exact Ext.drew (Ext.refl _) | with_reducible exact Ext.alloc (Ext.refl _) _ | with_reducible exact Ext.drew (Ext.alloc (Ext.refl _) _) | with_reducible exact Ext.alloc (Ext.drew (Ext.refl _)) _)) b4)));(try replace I:=Aa (I.out.ext (Ext.trans (by(first | with_reducible exact Ext.refl _ | with_reducible exact Ext.drew (Ext.refl _) | with_reducible exact Ext.alloc (Ext.refl _) _ | with_reducible exact Ext.drew (Ext.alloc (Ext.refl _) _) | with_reducible exact Ext.alloc (Ext.drew (Ext.refl _)) _)) b4)));replace q0:=Aa q0;clear b4)
      | (refine Hz Aw rfl (I.out.ext (by(first | with_reducible exact Ext.refl _ | with_reducible exact Ext.drew (Ext.refl _) | with_reducible exact Ext.alloc (Ext.refl _) _ | with_reducible exact Ext.drew (Ext.alloc (Ext.refl _) _) | with_reducible exact Ext.alloc (Ext.drew (Ext.refl _)) _))) (Buf.cells (q0.out.ext (by(first | with_reducible exact Ext.refl _ | with_reducible exact Ext.drew (Ext.refl _) | with_reducible exact Ext.alloc (Ext.refl _) _ | with_reducible exact Ext.drew (Ext.alloc (Ext.refl _) _) | with_reducible exact Ext.alloc (Ext.drew (Ext.refl _)) _)))) (.tmp 44) (.tmp 50) rfl rfl rfl k7 (Ai _) (by omega) (Ext.size (r3.out _ ‹_›)) (fun A8 c8 w8 e4 o5=>?_);have n0:=m6.out w8 ((r3.out _ n0).grown o5 (Buf.own_base (I.out.ext (by(first | with_reducible exact Ext.refl _ | with_reducible exact Ext.drew (Ext.refl _) | with_reducible exact Ext.alloc (Ext.refl _) _ | with_reducible exact Ext.drew (Ext.alloc (Ext.refl _) _) | with_reducible exact Ext.alloc (Ext.drew (Ext.refl _)) _)))));replace e4:=Aa e4;clear o5))
     obtain⟨l0,_,_,a4⟩:=n0;have a4:=Aa a4;clear p3 k3 hX I q0;go_wp2_with fail;go_roundw
     case rel =>
      refine⟨j+1,k+1,m1+ne,c8,A8,sq,rfl,rfl,by go_num,by omega,by have:=r4.out;omega,Aa (by rw[r4.out,Nat.add_assoc]),by omega,x6,k6,Aa a3.out.symm,Aa ?_,Aa ?_,a4⟩
      ·rw[<-i0.out,H.out,b3.out];simp only[List.length_append];rw[<-c0.out];omega
      ·rw[<-i0.out,H.out,<-List.append_assoc,List.map_append];exact e4.out
     case measure=>simp only[intOf];omega
    ·have y1:j=bP.length:=by have:=v0.out;omega
     have p5:bP.take j=bP:=by rw[y1,List.take_length]
     rw[p5,<-j3.out]at y0;rw[p5,<-o0.out]at Y x0;have p6:=y0.out;subst p6;have p4:=Aa (hE.out.trans G.out);have e8:=Ag (n:=la.toNat) (by omega);have f8:=Ag (n:=mx) (by omega);have j4:Apart Hd X:=fun p q hp hq=>by
      have h1:=x3.out p hp;have h2:=x0.out.base q hq;omega
     have l3:=x2.out Hd mh dh _ la w.heap.size wr i3.out (y3.out.ext G.out) p4.out.size h7 (by omega) (by omega);have g0:=i4.out.ext G.out;have k1:=y3.out.ext G.out;replace l3:=Aa l3;replace g0:=Aa g0;replace k1:=Aa k1;clear p5 y0;by_cases y8:k<n
     case' pos=>have q6:¬ (k:Int)<(f:Int)+16:=by omega
     all_goals
      replace y1:=Aa y1;clear a1;go_wp2_with fail;refine l3.out.mono ?_;rintro e w4 ⟨H4,m4,d4,rfl,d3,r0,J⟩;have w3:=Aa (J.ext p4.out k1.out.base);have m0:=x0.out.push J j4;have U:=g0.out.push J a5.out;have k4:=J.apart g0.out.below a5.out;have c4:=J.apart x0.out.below j4;have w7:m4<=mh+10:=by rw[d3,List.length_append,<-i3.out];omega
      have p2:=x2.out H4 m4 d4 _ (mx:Int) w.heap.size w4 d3 r0 w3.out.size (by omega) (by omega) (by omega);rw[Int.toNat_natCast,Y.out,List.append_assoc,List.append_assoc,<-h8.out,<-Y.out]at p2;replace p2:=Aa p2;replace m0:=Aa m0;replace U:=Aa U;replace r0:=Aa r0;replace d3:=Aa d3;clear J l3;go_wp2_with fail;refine p2.out.mono ?_;rintro e w5 ⟨H5,m5,d5,rfl,e3,t3,Z⟩;have q4:=Aa (Z.ext w3.out r0.out.base);have n5:=(m0.out.push Z c4).cells;have e5:=U.out.push Z k4;have j0:=Z.apart U.out.below k4;have q8:m5<=mh+20:=by
       have h1:=congrArg List.length h8.out;simp only[List.length_append]at h1;have h2:=i3.out;rw[List.length_append]at h2;rw[e3,List.length_append,h1,<-Y.out];omega
      have v7:=q4.out.size;have a7:(XL.map B8).length=mx:=by rw[List.length_map,Y.out]
      have g6:mb+mx<=50000000:=by have:=f3.out;have:=Y.out;omega
      replace e3:=Aa e3;replace t3:=Aa t3;replace j0:=Aa j0;clear Z p2 m0 U r0;go_wp2_with (at_builtin;refine Al Aw e5 n5 (.tmp 63) (.tmp 64) rfl rfl rfl rfl rfl a7 (Ai _) (by omega) v7 (fun B6 d6 w6 h0 z3 f0 i2=>?_);have x4:=Push.grow z3 i2;replace h0:=Aa h0;have d0:=Aa (f0 w q4.out (Nat.le_refl _));clear z3 f0 i2);have l5:=t3.out.push x4 j0.out.symm;have b5:=(x4.apart t3.out.below j0.out.symm).symm;have j6:mb+mx=(blockD 0 (P.take ((r+1)*16))).length:=by rw[h9.out,List.length_append,<-f3.out,<-Y.out]
      have f5:Buf w6 w.heap.size 5 B6 (mb+mx) d6 ((blockD 0 (P.take ((r+1)*16))).map B8):=by rw[h9.out,List.map_append];exact h0.out
      go_roundw
      case rel=>exact⟨r+1,m5,d5,mb+mx,d6,H5,B6,la,rfl,rfl,rfl,by rw[n4.out];go_num,by have:=j1.out;omega,by omega,g6,Aa f2.out.symm,e3,Aa l5,Aa j6,Aa f5,Aa b5,d0⟩
      case measure=>simp only[intOf];omega
  ·have O:=z5.out r (by rw[p0.out];omega);rw[p0.out]at O;have hlen:=congrArg List.length O;rw[List.length_append,<-i3.out,<-f3.out]at hlen;have p7:=i4.out.cells;have x7:=hE.out.size;have v0:((blockD 0 (P.take (r*16))).map B8).length=mb:=by rw[List.length_map,f3.out]
   replace O:=Aa O;replace hlen:=Aa hlen;go_wp2_with (at_builtin;refine Al Aw y3.out p7 (.tmp 66) (.tmp 67) rfl rfl rfl rfl rfl v0 (Ai _) (by omega) x7 (fun B6 d6 w6 h0 z3 f0 i2=>?_);replace h0:=Aa h0;have d0:=Aa (f0 w hE.out (Nat.le_refl _));clear z3 f0 i2);go_ret2;refine⟨B6,d6,by rw[hlen.out];rfl,⟨rfl,?_⟩,d0.out⟩;rw[hlen.out,O.out,List.map_append];exact h0.out
end
section
open Go.RowKit
theorem Mj (B:Option Addr) (m d:Nat) (p:List UInt8) (w:World) (hp:In8 w B m d p) (hm:m<=16777216) :
 Calls prog 112 #[.slice B m d] w fun e w'=>NewB w (frameL p) e w':=by
 have c0:=Aa (rbytes m w (by omega));have j:=hp.len;have r0:=Ag (n:=m) (by omega);have h2:=Dg (m:=m) (by omega);obtain⟨V,hV⟩:=Ab (vb m);rw[<-hV]at c0 r0;have h0:frameL p=V++be4 (cnext 0 (V++p))++p:=by unfold frameL;rw[<-j,<-hV]
 have d0:=EP 0 (V++p);have Y:=fun A n c (w0 w:World) (h:In8 w0 A n c (V++p)) hw m1=>RO A n c (V++p) w0 w h hw m1;obtain⟨s,hs⟩:=Ab (cnext 0 (V++p));rw[<-hs]at h0 d0 Y;rw[h0];have H:=OZ d0;have b:(be4 s).length=4:=rfl;obtain⟨F4,T⟩:=Ab (be4 s);rw[<-T]at H b ⊢;replace j:=Aa j;replace hV:=Aa hV;replace Y:=Aa Y;replace T:=Aa T;replace H:=Aa H;replace b:=Aa b;clear hs h0
 go_in
 go_wp2_with fail;refine c0.out.mono ?_;rintro e w1 ⟨A1,c1,rfl,x0,q0⟩;obtain⟨w2,J⟩:=Ab (w1.alloc (.cells #[] 5));have O:Ext w1 w2:=by rw[J];exact(Ext.refl w1).alloc _
 have v0:Buf w2 w1.heap.size 5 (some ⟨w1.heap.size,0,none⟩) 0 0 []:=by rw[J];exact EO w1 [] 5 (by simp)
 have f0:w1.heap.size<=w2.heap.size:=O.size;have l0:=(x0.ext O).cells;have y1:=hp.ext q0;have n0:=Aa J;clear J;go_wp2_with (first | (at_builtin;rw[<-n0.out];refine Al Aw v0 l0 (.tmp 9) (.tmp 10) rfl rfl rfl rfl rfl (by rw[List.length_map]) (Ai _) (by omega) f0 (fun A3 c3 w3 G k1 p0 _=>?_);rw[Nat.zero_add,List.nil_append]at G;have a:=p0 w1 O (Nat.le_refl _);have i0:=a.size;have e0:=(y1.ext a).bytes;clear p0) | (at_builtin;refine Al Aw G e0 (.tmp 11) (.tmp 12) rfl rfl rfl rfl rfl (by rw[List.length_map];exact j.out.symm) (Ai _) (by omega) i0 (fun A4 c4 w4 y0 j1 k0 _=>?_);have t0:=k0 w1 a (Nat.le_refl _);clear k0));have U:In8 w4 A4 (V.length+m) c4 (V++p):=by
  refine Buf.in8 (base:=w1.heap.size) (e:=5) ?_;rw[List.map_append];simpa using y0
 refine(Y.out A4 (V.length+m) c4 w4 w4 U (Ext.refl _) (by omega)).mono ?_;rintro e w5 ⟨rfl,rfl⟩;have q1:=x0.ext t0;have j0:=q0.trans t0;have d1:=j0.size;clear G k1 j1 a i0 e0 U v0 l0 f0;go_wp2_with (first | (at_builtin;refine Au (us:= [.int .u8 ((s:Int) / 16777216),.int .u8 ((s:Int) / 65536%256),.int .u8 ((s:Int) / 256%256),.int .u8 ((s:Int)%256)]) Aw q1 (.tmp 15) (.tmp 27) rfl rfl rfl rfl (by simp[Value.oneCell']) (by simp;omega) d1 (fun A6 c6 w6 p1 g0=>?_);have Z:=g0 w j0 (Nat.le_refl _);have f1:=Z.size;have a1:=(hp.ext Z).bytes;clear g0) | (at_builtin;refine Al Aw p1 a1 (.tmp 29) (.tmp 30) rfl rfl rfl rfl rfl (by rw[List.length_map];exact j.out.symm) (Ai _) (by simp;omega) f1 (fun A7 c7 w7 I i1 m0 _=>?_);have h1:=m0 w Z (Nat.le_refl _);clear m0));go_ret;rw[H.out]at I;refine⟨A7,c7,Cy (by have:=b.out;have:=j.out;simp;omega),?_,h1⟩;have e:(V++F4++p).length=V.length+4+m:=by rw[List.length_append,List.length_append,b.out,<-j.out]
 rw[e,List.map_append,List.map_append];rw[List.length_map,b.out]at I;exact I
end
section
open Go.RowKit Go.Maps
theorem Oj (B:Option Addr) (k c2:Nat) (ps:List (Option Addr×Nat×List UInt8)) (w:World) (hk:k=ps.length) (hB:Cells w B (ps.map fun p=> .slice p.1 p.2.2.length p.2.1)) (Y:∀p∈ps,In8 w p.1 p.2.2.length p.2.1 p.2.2/\p.2.2.length<=16777216) (x1:k<=50) :
 Calls prog 66 #[.slice B k c2] w fun e w'=>OkB' w (joinL (ps.map (·.2.2))) e w':=by
 have n0:=Aa (fun A n c l W (h:In8 W A n c l) (hm:n<=16777216)=>Mj A n c l W h hm);obtain⟨P,hP⟩:=Ab (ps.map (·.2.2));rw[<-hP];have g0:∀p∈P,p.length<=16777216:=fun p hp=>by
  rw[hP]at hp;obtain⟨q,hq,rfl⟩:=List.mem_map.1 hp;exact(Y q hq).2
 have O:P.length=k:=by rw[hP,List.length_map,hk]
 replace hk:=Aa hk;replace hB:=Aa hB;replace Y:=Aa Y;replace hP:=Aa hP;replace g0:=Aa g0;replace O:=Aa O
 go_in
 go_wp2_with fail
 go_loopw [4,5] (fun s4 s5 wr=>∃(i n c:Nat) (A:Option Addr),s4 = .slice A n c/\s5 = .int .i64 (i:Int)/\i<=k/\n<=16777236*i/\Hid (n=(joinL (P.take i)).length)/\Hid (Buf wr w.heap.size 5 A n c ((joinL (P.take i)).map B8))/\Hid (Ext w wr)) (fun _ s5 _=>k - (intOf s5).toNat)
 case atStart=>exact⟨0,0,0,none,rfl,rfl,by omega,by omega,Aa rfl,Aa (Buf.nil _ _ _),Aa (Ext.refl w)⟩
 case round =>
  obtain⟨i,n,c,A,rfl,rfl,hi,hn,h0,hb,hE⟩:=hrel;by_cases r0:i<k
  ·obtain⟨x,hx⟩:∃x,ps[i]? = some x:=⟨_,List.getElem?_eq_getElem (by rw[<-hk.out];exact r0)⟩
   obtain⟨g,o,hA,m0⟩:=hB.out.at_ (by rw[List.length_map,<-hk.out];omega);subst hA;have I:=hE.out.cell (m0 i _ (by rw[List.getElem?_map,hx];rfl));have b:=Y.out x (List.mem_of_getElem? hx);have T:P[i]? = some x.2.2:=by rw[hP.out,List.getElem?_map,hx];rfl
   have a:=GT T;obtain⟨XA,xc,xl⟩:=x;simp only at I b a;have G:=Et b.2;obtain⟨m,hm⟩:=Ab xl.length;have j:=n0.out XA xl.length xc xl wr (b.1.ext hE.out) b.2;have h1:=b.2;rw[<-hm]at j I h1;obtain⟨F,hF⟩:=Ab (frameL xl);rw[<-hF]at j a G;have q1:decide (16777216<(m:Int))=false:=decide_eq_false (by omega);unfold NewB at j;obtain⟨nf,H⟩:=Ab F.length;rw[<-H]at j G;have k1:nf<=16777236:=by omega
   have f0:(F.map B8).length=nf:=by rw[List.length_map,H]
   replace j:=Aa j;replace hm:=Aa hm;replace hx:=Aa hx;replace b:=Aa b;replace T:=Aa T;replace a:=Aa a;replace hF:=Aa hF;replace H:=Aa H;clear m0 G;go_wp2_with fail;refine j.out.mono ?_;rintro e w2 ⟨A2,c3,rfl,p0,U⟩;have J:=Aa (hE.out.trans U);have v0:=J.out.size;have i0:=hb.out.ext U;have l0:=p0.cells;clear I U p0;go_wp2_with (at_builtin;refine Al Aw i0 l0 (.tmp 18) (.tmp 23) rfl rfl rfl rfl rfl f0 (Ai _) (by omega) v0 (fun B6 d6 w6 Z o0 j0 c0=>?_);replace Z:=Aa Z;have k0:=Aa (j0 w J.out (Nat.le_refl _));clear o0 j0 c0);exact⟨⟨i+1,n+nf,d6,B6,rfl,by go_num,by omega,by omega,Aa (by rw[a.out,List.length_append,<-h0.out,<-H.out]),Aa (by rw[a.out,List.map_append];exact Z.out),k0⟩,by simp only[intOf];omega⟩
  ·obtain rfl:i=k:=by omega
   have p1:P.take i=P:=List.take_of_length_le (by rw[O.out];exact Nat.le_refl _);rw[p1]at h0 hb;go_wp2_with fail;go_ret2;have hl:=h0.out;subst hl;exact⟨A,c,rfl,⟨rfl,hb.out⟩,hE.out⟩
end
section
open Go.RowKit Go.Maps
theorem KK (s:List UInt8) (w:World) (hs:s.length<=9223372036854775807):Calls prog 217 #[.string ⟨s.toArray⟩] w fun e w'=>e = .returned (.int .u64 (fnv s:Int))/\w'=w:=by
 obtain⟨n,hn⟩:=Ab s.length;have t0:(⟨s.toArray⟩:ByteArray).size=n:=by rw[hn];exact ByteArray.size_mk_toArray s
 rw[<-hn]at hs;obtain⟨h0,j⟩:=Ab (14695981039346656037:Nat);have Y:h0<18446744073709551616:=by omega
 have H:h0=fnv []:=j;obtain⟨R,I⟩:=Ab (fnv s);rw[<-I];replace I:=Aa I;replace hn:=Aa hn;replace j:=Aa j;replace H:=Aa H
 go_in
 go_wp2_with fail
 go_loopw [3,4] (fun s3 s4 wr=>∃(i h:Nat),s3 = .int .u64 (h:Int)/\s4 = .int .i64 (i:Int)/\i<=n/\h<18446744073709551616/\Hid (h=fnv (s.take i))/\wr=w) (fun _ s4 _=>n - (intOf s4).toNat)
 case atStart=>exact⟨0,h0,by rw[j.out];rfl,rfl,by omega,Y,H,rfl⟩
 case round =>
  obtain⟨i,h,rfl,rfl,hi,hh,hf,rfl⟩:=hrel;by_cases J:i<n
  ·have m0:i<s.length:=by rw[<-hn.out];exact J
   obtain⟨x,hx⟩:=Ab (s[i]);have T:s[i]? = some x:=by rw[hx];exact List.getElem?_eq_getElem m0
   have a:fnv (s.take (i+1))=fnvS h x:=by rw[List.take_add_one,T,hf.out];exact Kb _ x
   obtain⟨y,G⟩:=Ab x.toNat;have v0:((⟨s.toArray⟩:ByteArray)[i]'(by rw[t0];exact J)).toNat=y:=by rw[G,hx];rfl
   have y0:y<256:=by rw[G];exact x.toNat_lt
   have Z:=u64_xor_nat h y hh (by omega);obtain⟨z,hz⟩:=Ab (h ^^^ y);rw[<-hz]at Z;have O:IntKind.u64.wrap ((z:Int)*1099511628211)=((fnvS h x:Nat):Int):=by
    rw[Dd];unfold fnvS;rw[<-G,<-hz];omega
   obtain⟨h2,b⟩:=Ab (fnvS h x);have U:h2<18446744073709551616:=by rw[b];exact Jk h x
   rw[<-b]at O a;replace a:=Aa a.symm;replace b:=Aa b;replace hz:=Aa hz;replace G:=Aa G;replace hx:=Aa hx;replace hf:=Aa hf;clear T;go_wp2_with fail;go_roundw
   case rel=>exact⟨i+1,h2,rfl,by go_num,by omega,U,a,trivial⟩
   case measure=>simp only[intOf];omega
  ·obtain rfl:i=n:=by omega
   have g0:h=R:=by rw[hf.out,I.out,List.take_of_length_le (by rw[<-hn.out];exact Nat.le_refl _)]
   subst g0;go_wp2_with fail;go_ret;exact⟨rfl,rfl⟩
theorem Kz (s:List UInt8) (A:Option Addr) (n c i:Nat) (w:World) (hs:s.length<=9223372036854775807) (hn:0<n) (i0:n<=131072) (hi:i<4) :
 Calls prog 186 #[.agg #[.slice A n c],.string ⟨s.toArray⟩,.int .i64 (i:Int)] w fun e w'=>e = .returned (.int .i64 (fpl s (8*n) i:Int))/\Ext w w':=by
 have k0:=RC s;obtain⟨h,G⟩:=Ab (fnv s);have U:=fun W=>KK s W hs;rw[<-G]at k0 U;obtain⟨fs,J⟩:=Ab (h%4294967296);obtain⟨d,hd⟩:=Ab (h / 4294967296);obtain⟨sd,H⟩:=Ab (d ||| 1);have v0:d<4294967296:=by omega
 have j:sd=if d%2=0 then d+1 else d:=by
  have h1:(d ||| 1) / 2=d / 2:=by rw[Nat.or_div_two];simp
  have h2:(d ||| 1)%2=1:=Nat.or_mod_two_eq_one.2 (.inr rfl);rw[H];split <;> omega
 have y0:(h:Int)%4294967296=(fs:Int):=by omega
 have x0:(h:Int) / 4294967296=(d:Int):=by omega
 have a:fpl s (8*n) i=(fs+i*sd)%(8*n):=by unfold fpl;rw[<-G,<-J,<-hd,<-H]
 have t0:sd<4294967296:=by rw[j];split <;> omega
 have T:IntKind.u64.wrap ((i:Int)*(sd:Int))=((i*sd:Nat):Int):=by
  rw[Dd,<-Int.natCast_mul];have:i*sd<=3*4294967296:=Nat.mul_le_mul (by omega) (by omega);omega
 obtain⟨isd,b⟩:=Ab (i*sd);have p0:isd<=12884901888:=by rw[b];exact Nat.mul_le_mul (show i<=3 by omega) (show sd<=4294967296 by omega)
 rw[<-b]at T a;have O:IntKind.u64.wrap ((fs:Int)+(isd:Int))=((fs+isd:Nat):Int):=by rw[Dd];omega
 obtain⟨q,hq⟩:=Ab (fs+isd);obtain⟨m,hm⟩:=Ab (8*n);rw[<-hq]at O a;rw[<-hm]at a ⊢;have e0:IntKind.i64.wrap (8*(n:Int))=(m:Int):=by rw[BP (by omega) (by omega)];omega
 have f0:IntKind.u64.wrap (m:Int)=(m:Int):=CA (by omega);have c0:IntKind.u64.wrap (i:Int)=(i:Int):=CA (by omega);obtain⟨r,I⟩:=Ab (q%m);have l0:(q:Int)%(m:Int)=(r:Int):=by omega
 have d0:((m:Int)==0)=false:=by simp;omega
 have n0:r<m:=by rw[I];exact Nat.mod_lt _ (by omega)
 have o0:IntKind.i64.wrap (r:Int)=(r:Int):=BP (by omega) (by omega);rw[a,<-I];have Z:=Row.new w 134 #[.slice A n c];have k1:(w.alloc (.cells #[.slice A n c] 134)).cell? ⟨w.heap.size,0,none⟩=some (.slice A n c):=Z.cell 0 rfl;have Y:Ext w (w.alloc (.cells #[.slice A n c] 134)):=(Ext.refl w).alloc _;have g0:=Aa (U (w.alloc (.cells #[.slice A n c] 134)));replace I:=Aa I;replace hm:=Aa hm;replace hq:=Aa hq;replace b:=Aa b;replace H:=Aa H;replace hd:=Aa hd;replace J:=Aa J;replace G:=Aa G;replace Y:=Aa Y;clear a Z U;by_cases h2:d%2=0
 case' pos =>
  rw[if_pos h2]at j;have h0:((d:Int)%2==0)=true:=by simp;omega
  have q0:IntKind.u64.wrap ((d:Int)+1)=(sd:Int):=by rw[Dd];omega
 case' neg =>
  rw[if_neg h2]at j;have h0:((d:Int)%2==0)=false:=by simp;omega
  have q0:(d:Int)=(sd:Int):=by omega
 all_goals
  replace j:=Aa j
  go_in
  go_wp2_with fail;refine g0.out.mono ?_;rintro e w1 ⟨rfl,rfl⟩;go_wp2_with fail;go_ret;exact⟨rfl,Y.out⟩
end
section
open Go.RowKit Go.Maps
theorem KC (f:List UInt8) (A:Option Addr) (n c k:Nat) (w:World) (hn:n=f.length) (hb:Bs w A f) (hk:k<8*n) (k0:n<=131072) :
 Calls prog 187 #[.agg #[.slice A n c],.int .i64 (k:Int)] w fun e w'=>e = .returned (.bool (hasB f k))/\Ext w w':=by
 obtain⟨b,o,hA,I⟩:=hb.at_ (by omega);have a:k / 8<f.length:=by omega
 have h:=I (k / 8) a;have Y:=C2 a;have H:hasB f k=decide ((f[k / 8].toNat / 2^(k%8)%2=1)):=by unfold hasB;rw[Y]
 obtain⟨x,O⟩:=Ab (f[k / 8].toNat);have g0:x<256:=by rw[O];exact f[k / 8].toNat_lt
 rw[<-O]at h H;rw[H];obtain⟨q,G⟩:=Ab (k / 8);obtain⟨m,Z⟩:=Ab (k%8);rw[<-G]at h a;rw[<-Z];have q0:m<8:=by omega
 have j0:(k:Int) / 8=(q:Int):=by omega
 have p0:(k:Int)%8=(m:Int):=by omega
 have j:Ext w (w.alloc (.cells #[.slice A n c] 134)):=(Ext.refl w).alloc _;have J:Row (w.alloc (.cells #[.slice A n c] 134)) w.heap.size 134 #[.slice A n c]:=Row.new w _ _;have y0:(w.alloc (.cells #[.slice A n c] 134)).cell? ⟨w.heap.size,0,none⟩=some (.slice A n c):=J.cell 0 rfl;have y1:=j.cell h;rw[<-hn]at a;subst hA;obtain⟨v,U⟩:=Ab (decide (x / 2^m%2=1):Bool);rw[<-U];replace hn:=Aa hn;replace G:=Aa G;replace Z:=Aa Z;replace O:=Aa O;replace j:=Aa j;clear H Y I h J hb;have T:m=0\/m=1\/m=2\/m=3\/m=4\/m=5\/m=6\/m=7:=by omega
 rcases T with rfl | rfl | rfl | rfl | rfl | rfl | rfl | rfl
 all_goals
  replace U:=Aa U
  go_in
  go_wp2_with fail;go_ret;refine⟨Bf ?_,j.out⟩;rw[U.out,Bool.eq_iff_iff];simp only[beq_iff_eq,decide_eq_true_iff];omega
end
section
open Go.RowKit Go.Maps
def setN (f:List UInt8) (s:List UInt8):Nat->List UInt8
 | 0=>f
 | i+1=>setB (setN f s i) (fpl s (8*f.length) i)
theorem KY (f s:List UInt8):∀i,(setN f s i).length=f.length
 | 0=>rfl
 | i+1=>by rw[setN,Ce,KY f s i]
theorem Ri (H:x<256) (j:m<8) (h:¬ x / 2^m%2=1):x+2^m=x ||| 2^m:=by
 have key:∀(a:Fin 256) (b:Fin 8),¬ a.val / 2^b.val%2=1->a.val+2^b.val=a.val ||| 2^b.val:=by decide +kernel
 exact key ⟨x,H⟩ ⟨m,j⟩ h
theorem Ni (y:Int):IntKind.u8.wrap y=y%256:=by simp[IntKind.wrap,IntKind.bits,IntKind.signed]
def AddF (w:World) (F:List UInt8) (n:Nat) (e:Ending) (w':World):Prop:=∃(A:Option Addr) (c:Nat) (k:Int),e = .returned (.tuple #[.agg #[.slice A n c],.int .i64 k])/\0<=k/\k<=4/\Buf w' w.heap.size 5 A n c (F.map B8)/\Ext w w'
theorem PQ (f s:List UInt8) (A:Option Addr) (n c:Nat) (w:World) (hn:n=f.length) (hb:Bs w A f) (hs:s.length<=9223372036854775807) (h0:0<n) (i2:n<=131072) :
 Calls prog 160 #[.agg #[.slice A n c],.string ⟨s.toArray⟩] w fun e w'=>AddF w (addB f s) n e w':=by
 have p0:Ext w ((w.alloc (.cells #[.slice A n c] 134)).alloc (.cells #[.slice none 0 0] 134)):=((Ext.refl w).alloc _).alloc _;have k0:Ext w ((((w.alloc (.cells #[.slice A n c] 134)).alloc (.cells #[.slice none 0 0] 134))).alloc (.cells #[] 5)):=p0.alloc _;have r1:Row ((w.alloc (.cells #[.slice A n c] 134)).alloc (.cells #[.slice none 0 0] 134)) w.heap.size 134 #[.slice A n c]:=(Row.new w _ _).alloc _;have r2:Row ((w.alloc (.cells #[.slice A n c] 134)).alloc (.cells #[.slice none 0 0] 134)) (w.heap.size+1) 134 #[.slice none 0 0]:=by
  have h:=Row.new (w.alloc (.cells #[.slice A n c] 134)) 134 #[.slice none 0 0];simpa using h
 have y0:(((((w.alloc (.cells #[.slice A n c] 134)).alloc (.cells #[.slice none 0 0] 134))).alloc (.cells #[] 5))).cell? ⟨w.heap.size,0,none⟩=some (.slice A n c):=(r1.alloc _).cell 0 rfl;have j1:Buf ((((w.alloc (.cells #[.slice A n c] 134)).alloc (.cells #[.slice none 0 0] 134))).alloc (.cells #[] 5)) (((w.alloc (.cells #[.slice A n c] 134)).alloc (.cells #[.slice none 0 0] 134))).heap.size 5 (some ⟨(((w.alloc (.cells #[.slice A n c] 134)).alloc (.cells #[.slice none 0 0] 134))).heap.size,0,none⟩) 0 0 []:=EO ((w.alloc (.cells #[.slice A n c] 134)).alloc (.cells #[.slice none 0 0] 134)) [] 5 (by simp);have f3:=hb.ext k0;have o3:(f.map B8).length=n:=by rw[List.length_map,hn]
 have k3:(((w.alloc (.cells #[.slice A n c] 134)).alloc (.cells #[.slice none 0 0] 134))).heap.size<=(((((w.alloc (.cells #[.slice A n c] 134)).alloc (.cells #[.slice none 0 0] 134))).alloc (.cells #[] 5))).heap.size:=((Ext.refl ((w.alloc (.cells #[.slice A n c] 134)).alloc (.cells #[.slice none 0 0] 134))).alloc _).size;have U:=r1.alloc (.cells #[] 5);have O:=r2.alloc (.cells #[] 5);have j3:=p0.size;have d0:(((w.alloc (.cells #[.slice A n c] 134)).alloc (.cells #[.slice none 0 0] 134))).heap.size=w.heap.size+2:=by simp
 rw[d0]at j1;replace d0:=Aa d0;replace hn:=Aa hn;replace p0:=Aa p0;replace k0:=Aa k0;replace U:=Aa U;replace O:=Aa O;replace r1:=Aa r1;replace r2:=Aa r2;clear hb
 go_in
 go_wp2_with (at_builtin;refine Al Aw j1 f3 (.tmp 9) (.tmp 11) rfl rfl rfl rfl rfl o3 (Ai _) (by omega) (by simp) (fun A3 c3 w3 Y m1 i1 a3=>?_);rw[Nat.zero_add,List.nil_append]at Y;have e0:=Aa (i1 w k0.out (by omega));have r13:=U.out.grown m1 (by simp[Value.ownBlock]);have r23:=O.out.grown m1 (by simp[Value.ownBlock]);have z0:=r13.cell 0 rfl;have zf:=r13.free 0;replace Y:=Aa Y;replace r13:=Aa r13;replace r23:=Aa r23;clear m1 i1 a3 y0 j1);obtain⟨W4,H⟩:=Ab (w3.setCell ⟨w.heap.size,0,none⟩ (.slice A3 n c3));rw[<-H];obtain⟨gb,T⟩:=Ab w.heap.size;rw[<-T]at H r13 r23 Y ⊢;have r14:Row W4 gb 134 #[.slice A3 n c3]:=by rw[H];exact r13.out.put 0 _
 have r24:Row W4 (gb+1) 134 #[.slice none 0 0]:=by rw[H];exact r23.out.away (p:=⟨gb,0,none⟩) (by simp) _
 have i3:Buf W4 (gb+2) 5 A3 n c3 (f.map B8):=by rw[H];exact Y.out.setCell (Y.out.unlike r13.out (by decide)) _
 have f0:Ext w W4:=by rw[H];exact e0.out.setCell (p:=⟨gb,0,none⟩) (by simp only;omega) _
 obtain⟨_,q4,⟨h9,m4⟩ | ⟨b,cur0,b3,l3,h3,x2,m3⟩⟩:=i3
 ·omega
 subst b3;have j2:=Aa (fun(i:Nat) (hi:i<4) W=>Kz s (some ⟨b,0,none⟩) n c3 i W hs h0 i2 hi);have f2:=Aa (fun(F:List UInt8) k W (hF:n=F.length) (hB:Bs W (some ⟨b,0,none⟩) F) (hk:k<8*n)=>KC F (some ⟨b,0,none⟩) n c3 k W hF hB hk i2);replace H:=Aa H;replace T:=Aa T;clear z0 zf r13 r23 Y e0 U O r1 r2 d0 k3 j3
 go_loopw [6,7] (fun s6 s7 wr=>∃(i:Nat) (cnt:Int) (F:List UInt8) (cur:Array Value),s6 = .int .i64 cnt/\s7 = .int .i64 (i:Int)/\i<=4/\0<=cnt/\cnt<=i/\Hid (F=setN f s i)/\Hid (Row wr gb 134 #[.slice (some ⟨b,0,none⟩) n c3])/\Hid (Row wr (gb+1) 134 #[.slice none 0 0])/\Hid (Row wr b 5 cur)/\Hid (c3<=cur.size/\cur.toList.take n=F.map B8)/\Hid (Ext w wr)) (fun _ s7 _=>4 - (intOf s7).toNat)
 case atStart=>exact⟨0,0,f,cur0,rfl,rfl,by omega,by omega,by omega,Aa rfl,Aa r14,Aa r24,Aa h3,Aa ⟨x2,m3⟩,Aa f0⟩
 case round =>
  clear r14 r24 h3 x2 m3 f0;obtain⟨i,cnt,F,cur,rfl,rfl,hi,m2,x4,hF,r1,r2,rb,J,hE⟩:=hrel;have y0:wr.cell? ⟨gb,0,none⟩=some (.slice (some ⟨b,0,none⟩) n c3):=r1.out.cell 0 rfl;by_cases r3:i<4
  ·have Z:n=F.length:=by rw[hF.out,KY,<-hn.out]
   obtain⟨k,hk⟩:=Ab (fpl s (8*n) i);have h4:k<8*n:=by rw[hk];exact FC s i (by omega)
   have m0:=j2.out i r3 wr;rw[<-hk]at m0;have g0:setB F k=setN f s (i+1):=by rw[setN,<-hF.out,<-hn.out,<-hk]
   have l0:∀W,Ext wr W->Bs W (some ⟨b,0,none⟩) F:=fun W e3=> .inr ⟨b,0,rfl,fun j v hj=>by
    have h1:=(rb.out.ext e3).get j;rw[Nat.zero_add,h1];have h2:=J.out.2;rw[<-h2,List.getElem?_take]at hj;split at hj
    ·simpa using hj
    ·cases hj⟩
   have x0:k / 8<F.length:=by omega
   replace hk:=Aa hk;replace m0:=Aa m0;replace g0:=Aa g0;replace Z:=Aa Z;replace l0:=Aa l0;go_wp2_with fail;refine m0.out.mono ?_;rintro e w5 ⟨rfl,j0⟩;have y0:=j0.cell y0;have hh:=f2.out F k w5 Z.out (l0.out w5 j0) h4;cases hv:hasB F k with
   | true =>
    rw[hv]at hh;have a1:=KX x0 hv;replace hh:=Aa hh;replace hv:=Aa hv;replace a1:=Aa a1;go_wp2_with fail;refine hh.out.mono ?_;rintro e w6 ⟨rfl,n0⟩;have a:=j0.trans n0;have q1:=Aa (r1.out.ext a);have q2:=Aa (r2.out.ext a);have q3:=Aa (rb.out.ext a);have o0:=Aa (hE.out.trans a);clear a y0;go_wp2_with fail;go_roundw
    case rel=>exact⟨i+1,cnt,F,cur,rfl,by go_num,by omega,m2,by omega,Aa (by rw[<-g0.out,a1.out]),q1,q2,q3,J,o0⟩
    case measure=>simp only[intOf];omega
   | false =>
    rw[hv]at hh;replace hh:=Aa hh;go_wp2_with fail;refine hh.out.mono ?_;rintro e w6 ⟨rfl,n0⟩;have a:=j0.trans n0;have q1:=r1.out.ext a;have q2:=r2.out.ext a;have q3:=rb.out.ext a;have o0:=Aa (hE.out.trans a);have y0:w6.cell? ⟨gb,0,none⟩=some (.slice (some ⟨b,0,none⟩) n c3):=q1.cell 0 rfl;have x1:=C2 x0;obtain⟨x,hx⟩:=Ab (F[k / 8].toNat);have t3:x<256:=by rw[hx];exact F[k / 8].toNat_lt
    have y2:cur[k / 8]? = some (.int .u8 (x:Int)):=by
     have h1:(cur.toList.take n)[k / 8]? = some (B8 F[k / 8]):=by rw[J.out.2,List.getElem?_map,List.getElem?_eq_getElem x0];rfl
     rw[List.getElem?_take,if_pos (by rw[Z.out];exact x0)]at h1;unfold B8 at h1;rw[<-hx]at h1;simpa using h1
    have d1:¬ x / 2^(k%8)%2=1:=by
     unfold hasB at hv;rw[x1,<-hx]at hv;exact of_decide_eq_false hv
    obtain⟨q,hq⟩:=Ab (k / 8);obtain⟨m,hm⟩:=Ab (k%8);have y1:m<8:=by omega
    rw[<-hm]at d1;have k1:=Ri t3 y1 d1;have o2:=Rg t3 y1;have b4:(k:Int) / 8=(q:Int):=by omega
    have y4:(k:Int)%8=(m:Int):=by omega
    have c4:(q:Int)<n:=by have:=Z.out;omega
    have r1c:w6.cell? ⟨b,q,none⟩=some (.int .u8 (x:Int)):=q3.cell q (by rw[hq];exact y2);have r1f:=q3.free q;have a4:(2:Int)^m%256=((2^m:Nat):Int):=by
     have:∀k:Fin 8,(2:Int)^k.val%256=((2^k.val:Nat):Int):=by decide
     exact this ⟨m,y1⟩
    have G:IntKind.u8.wrap ((x:Int)+((2^m:Nat):Int))=((x ||| 2^m:Nat):Int):=by rw[Ni,<-k1];omega
    have t0:B8 (UInt8.ofNat ((F.getD (k / 8) 0).toNat ||| 2^(k%8))) = .int .u8 ((x ||| 2^m:Nat):Int):=by
     unfold B8;rw[x1,<-hx,<-hm,UInt8.toNat_ofNat',Nat.mod_eq_of_lt o2]
    obtain⟨y,hy⟩:=Ab (x ||| 2^m);rw[<-hy]at G t0;have v4:b≠gb:=by omega
    have j4:((x:Int)+2^m)%256=(y:Int):=by
     rw[Ni]at G;rw[<-G];simp
    replace q1:=Aa q1;replace q2:=Aa q2;replace q3:=Aa q3;replace hq:=Aa hq;replace hm:=Aa hm;replace hx:=Aa hx;replace hy:=Aa hy;replace t0:=Aa t0;replace k1:=Aa k1;clear a x1 y2 d1 o2 hv;go_wp2_with fail;refine AE (fun K hK=>?_);go_wp2_with fail;refine⟨by kernel_rfl,?_⟩;go_wp2_with fail;have d2:=T.out;have p1:=Row.drew (q1.out.away (p:=⟨b,q,none⟩) (by simp only;omega) (.int .u8 (y:Int)));have p2:=Row.drew (q2.out.away (p:=⟨b,q,none⟩) (by simp only;omega) (.int .u8 (y:Int)));have p3:=Row.drew (q3.out.put q (.int .u8 (y:Int)));have r0:=Ext.drew (o0.out.setCell (p:=⟨b,q,none⟩) (by simp only;omega) (.int .u8 (y:Int)));replace d2:=Aa d2;replace p1:=Aa p1;replace p2:=Aa p2;replace p3:=Aa p3;replace r0:=Aa r0;have a2:c3<=(cur.setIfInBounds q (.int .u8 (y:Int))).size/\(cur.setIfInBounds q (.int .u8 (y:Int))).toList.take n=(setB F k).map B8:=by
     refine⟨by rw[Array.size_setIfInBounds];exact J.out.1,?_⟩;unfold setB;rw[Array.toList_setIfInBounds,List.take_set,J.out.2,List.map_set,t0.out,hq.out]
    exact⟨⟨i+1,cnt+1,setB F k,cur.setIfInBounds q (.int .u8 (y:Int)),rfl,by go_num,by omega,by omega,by omega,g0,p1,p2,p3,Aa a2,r0⟩,by simp only[intOf];omega⟩
  ·obtain rfl:i=4:=by omega
   have I:F=addB f s:=hF.out;have q0:n=(addB f s).length:=by rw[EL,<-hn.out]
   have z0:=r2.out.cell 0 rfl;have zf:=r2.out.free 0;have v0:Buf wr (gb+2) 5 (some ⟨b,0,none⟩) n c3 ((addB f s).map B8):=⟨by rw[List.length_map];exact q0.symm,q4,.inr ⟨b,cur,rfl,l3,rb.out,J.out.1,by rw[J.out.2,I]⟩⟩
   have z4:b≠gb+1:=by omega
   replace I:=Aa I;replace q0:=Aa q0;replace v0:=Aa v0;go_wp2_with fail;have p4:=r2.out.put 0 (.slice (some ⟨b,0,none⟩) n c3);have k2:=v0.out.setCell (p:=⟨gb+1,0,none⟩) (v0.out.unlike r2.out (by decide)) (.slice (some ⟨b,0,none⟩) n c3);refine bodyPost_ret (Av rfl _ _ (gb+1) #[.slice (some ⟨b,0,none⟩) n c3] rfl (run_loadVar_row _ (gb+1) 134 134 _ (0,0) _ p4 underlying134 rfl (by kernel_rfl))) rfl ⟨some ⟨b,0,none⟩,c3,cnt,rfl,m2,by omega,k2.lower (by have:=T.out;omega),hE.out.setCell (p:=⟨gb+1,0,none⟩) (by have:=T.out;simp only;omega) _⟩
end
section
open Go.RowKit Go.Maps
def AddFs (w:World) (F:List UInt8) (n:Nat) (e:Ending) (w':World):Prop:=∃(A:Option Addr) (c:Nat) (k:Int),e = .returned (.tuple #[.agg #[.slice A n c],.int .i64 k])/\In8 w' A n c F/\Ext w w'
theorem Ix:∀(l:List (List UInt8)) (f:List UInt8),(l.foldl addB f).length=f.length
 | [],f=>rfl
 | c::l,f=>by rw[List.foldl_cons,Ix l,EL]
theorem E3 {A B:Option Addr} {p:Addr} (h:In8 w A n c l) (b:w.cell? p=some (.slice B m d)) (v:Value):In8 (w.setCell p v) A n c l :=
 ⟨h.len,Ik h.bytes b (fun u H e=>by
  obtain⟨x,_,rfl⟩:=List.mem_map.1 H;cases e) v,h.cap,h.nil_,fun a j=>⟨(h.at_ a j).1,by rw[World.size_setCell];exact(h.at_ a j).2⟩⟩
theorem Kx (f : List UInt8) (ts : List (List UInt8)) (A B : Option Addr) (n c k c2 : Nat) (w : World) (hf : In8 w A n c f) (hk : k = ts.length) (hB : Cells w B (ts.map strV)) (hs : ∀ s ∈ ts, s.length ≤ 9223372036854775807) (h0 : 0 < n) (a1 : n ≤ 131072) (y2 : k ≤ 1000000000) :
    Calls prog 114 #[.agg #[.slice A n c], .slice B k c2] w fun e w' => AddFs w (ts.foldl addB f) n e w' := by
  have O : Ext w ((w.alloc (.cells #[.slice A n c] 134)).alloc (.cells #[.slice none 0 0] 134)) := ((Ext.refl w).alloc _).alloc _
  have r1 : Row ((w.alloc (.cells #[.slice A n c] 134)).alloc (.cells #[.slice none 0 0] 134)) w.heap.size 134 #[.slice A n c] := (Row.new w _ _).alloc _
  have r2 : Row ((w.alloc (.cells #[.slice A n c] 134)).alloc (.cells #[.slice none 0 0] 134)) (w.heap.size + 1) 134 #[.slice none 0 0] := by
    have h := Row.new (w.alloc (.cells #[.slice A n c] 134)) 134 #[.slice none 0 0]
    simpa using h
  have t0 := hf.ext O
  have x0 := hf.len
  have d0 := Aa (fun F s A c W (hn : n = F.length) (hb : Bs W A F) (hs : s.length ≤ 9223372036854775807) => PQ F s A n c W hn hb hs h0 a1)
  have x1 := Aa (fun i => (show n = ((ts.take i).foldl addB f).length by rw [Ix, x0]))
  replace x0 := Aa x0
  replace hk := Aa hk
  replace hB := Aa hB
  replace hs := Aa hs
  clear hf
  go_in
  go_wp2_with fail
  obtain ⟨W1, k0⟩ := Ab (((w.alloc (.cells #[.slice A n c] 134)).alloc (.cells #[.slice none 0 0] 134)))
  obtain ⟨gb, Y⟩ := Ab w.heap.size
  rw [← k0] at O r1 r2 t0 ⊢
  rw [← Y] at r1 r2 ⊢
  replace k0 := Aa k0
  replace Y := Aa Y
  go_loopw [6, 7] (fun s6 s7 wr => ∃ (i : Nat) (al : Int) (A : Option Addr) (c : Nat), s6 = .int .i64 al ∧ s7 = .int .i64 (i : Int) ∧ i ≤ k ∧ 0 ≤ al ∧ al ≤ 4 * i ∧ Hid (Row wr gb 134 #[.slice A n c]) ∧ Hid (Row wr (gb + 1) 134 #[.slice none 0 0]) ∧ Hid (In8 wr A n c ((ts.take i).foldl addB f)) ∧ Hid (Ext w wr)) (fun _ s7 _ => k - (intOf s7).toNat)
  case atStart => exact ⟨0, 0, A, c, rfl, rfl, by omega, by omega, by omega, Aa r1, Aa r2, Aa t0, Aa O⟩
  case round =>
    clear r1 r2 t0 O
    obtain ⟨i, al, A, c, rfl, rfl, hi, k2, j2, r1, r2, n0, hE⟩ := hrel
    have y0 : wr.cell? ⟨gb, 0, none⟩ = some (.slice A n c) := r1.out.cell 0 rfl
    by_cases y1 : i < k
    · obtain ⟨s, I⟩ : ∃ s, ts[i]? = some s := ⟨_, List.getElem?_eq_getElem (by rw [← hk.out]; exact y1)⟩
      obtain ⟨g, o, k1, i0⟩ := hB.out.at_ (by rw [List.length_map, ← hk.out]; omega)
      have l0 : wr.cell? ⟨g, o + i, none⟩ = some (.string ⟨s.toArray⟩) := hE.out.cell (i0 i _ (by rw [List.getElem?_map, I]; rfl))
      have e0 := Aa (fun W (hW : Ext wr W) => d0.out _ s A c W (x1.out i) (n0.out.ext hW).bytes (hs.out s (List.mem_of_getElem? I)))
      have r0 : (ts.take (i + 1)).foldl addB f = addB ((ts.take i).foldl addB f) s := by rw [List.take_add_one, I, List.foldl_append]; rfl
      obtain ⟨F2, Z⟩ := Ab ((ts.take (i + 1)).foldl addB f)
      rw [← r0, ← Z] at e0
      subst k1
      replace Z := Aa Z
      clear I i0 r0
      go_upto_region 5 with fail
      go_cut [8, 9] (fun s8 s9 wy => ∃ (g8 c3 : Nat) (A3 : Option Addr) (cnt : Int), s8 = .pointer (some ⟨g8, 0, none⟩) ∧ s9 = .int .i64 cnt ∧ 0 ≤ cnt ∧ cnt ≤ 4 ∧ wr.heap.size ≤ g8 ∧ Hid (Row wy g8 134 #[.slice A3 n c3]) ∧ Hid (In8 wy A3 n c3 F2) ∧ Hid (Ext wr wy))
      case first =>
        have a : Ext wr wr.drew := (Ext.refl wr).drew
        have H : Ext wr (wr.alloc (.cells #[.slice none 0 0] 134)).drew := ((Ext.refl wr).alloc _).drew
        have U : Row (wr.alloc (.cells #[.slice none 0 0] 134)).drew wr.heap.size 134 #[.slice none 0 0] := (Row.new wr _ _).drew
        have y0e := H.cell y0
        have l0e := H.cell l0
        have y0d := a.cell y0
        have l0d := a.cell l0
        have x2 : (0 : Int) ≤ i := by omega
        have hi1 : (i : Int) < k := by omega
        replace U := Aa U
        replace a := Aa a
        replace H := Aa H
        go_region_with ((go_at_call 160; refine (e0.out _ (by first | exact a.out | exact H.out)).mono ?_; rintro e w6 ⟨A3, c3, cnt, rfl, g0, m0, j0, T⟩; (first | (have r6 := U.out.ext T; have c0 := r6.get; have f0 := r6.free; have j := Aa (H.out.trans T); have G := Aa (j0.lower (Nat.le_refl _)); replace r6 := Aa r6) | (have j := Aa (a.out.trans T); have G := Aa (j0.lower (Nat.le_refl _)))); clear j0 T))
        all_goals
          go_wp2_with fail
          go_meet
          case rel =>
            first
            | (have r6' := r6.out
               have f1 : Row (w6.setCell ⟨wr.heap.size, 0, none⟩ (.slice A3 n c3)) wr.heap.size 134 #[.slice A3 n c3] := r6'.put 0 (.slice A3 n c3)
               have j1 := G.out.setCell (p := ⟨wr.heap.size, 0, none⟩) (G.out.unlike r6' (by decide)) (.slice A3 n c3)
               exact ⟨wr.heap.size, c3, A3, cnt, rfl, rfl, g0, m0, Nat.le_refl _, Aa f1, Aa j1.in8, Aa (j.out.setCell (p := ⟨wr.heap.size, 0, none⟩) (Nat.le_refl _) _)⟩)
            | exact ⟨w6.heap.size, c3, A3, cnt, rfl, rfl, g0, m0, j.out.size, Aa (Row.new w6 _ _), Aa (G.out.in8.ext ((Ext.refl w6).alloc _)), Aa (j.out.alloc _)⟩
      case rest =>
        obtain ⟨g8, c3, A3, cnt, rfl, rfl, g0, m0, m2, r8, o0, q0⟩ := hcut
        have u0 : wc.cell? ⟨g8, 0, none⟩ = some (.slice A3 n c3) := r8.out.cell 0 rfl
        have u1 := r1.out.ext q0.out
        have u2 := r2.out.ext q0.out
        have z0 := u1.cell 0 rfl
        have zf := u1.free 0
        have o1 := hE.out.size
        have p1 := u1.put 0 (.slice A3 n c3)
        have p2 := u2.away (p := ⟨gb, 0, none⟩) (by simp) (.slice A3 n c3)
        have p0 := (hE.out.trans q0.out).setCell (p := ⟨gb, 0, none⟩) (by have := Y.out; simp only; omega) (.slice A3 n c3)
        replace p1 := Aa p1
        replace p2 := Aa p2
        replace p0 := Aa p0
        have J := Aa (show In8 (wc.setCell ⟨gb, 0, none⟩ (.slice A3 n c3)) A3 n c3 ((ts.take (i + 1)).foldl addB f) from by
          rw [← Z.out]
          exact E3 o0.out z0 _)
        go_wp2_with fail
        go_roundw
        case rel => exact ⟨i + 1, al + cnt, A3, c3, rfl, by go_num, by omega, by omega, by omega, p1, p2, J, p0⟩
        case measure => simp only [intOf]; omega
    · obtain rfl : i = k := by omega
      have i1 : ts.take i = ts := List.take_of_length_le (by rw [← hk.out]; exact Nat.le_refl _)
      have b := n0.out
      rw [i1] at b
      have z0 := r2.out.cell 0 rfl
      have zf := r2.out.free 0
      have v0 := Y.out
      replace b := Aa b
      replace v0 := Aa v0
      go_wp2_with fail
      have d1 := r2.out.put 0 (.slice A n c)
      have J := E3 b.out (r2.out.cell 0 rfl) (.slice A n c)
      refine bodyPost_ret (Av rfl _ _ (gb + 1) #[.slice A n c] rfl (run_loadVar_row _ (gb + 1) 134 134 _ (0, 0) _ d1 underlying134 rfl (by kernel_rfl))) rfl ⟨A, c, al, rfl, J, hE.out.setCell (p := ⟨gb + 1, 0, none⟩) (by have := v0.out; simp only; omega) _⟩
end
section
open Go.RowKit Go.Maps
theorem Ia (n:Nat) (w:World) (hn:n<=262144):Calls prog 159 #[.int .i64 (n:Int)] w fun e w'=>e = .returned (.int .i64 (filL n:Int))/\w'=w:=by
 obtain⟨x,b⟩:∃x:Nat,(x:Int)=max (10*(n:Int)) 64:=⟨max (10*n) 64,by omega⟩
 obtain⟨y,a⟩:∃y:Nat,(y:Int)=min (x:Int) 1048576:=⟨min x 1048576,by omega⟩
 have H:=fun(W:World)=>Eg (P:=prog) #[3,3] 3 b W;have Y:=fun(W:World)=>AQ (P:=prog) #[3,3] 3 a W;obtain⟨k,hk⟩:=Ab ((y+7) / 8);have h:k=filL n:=by unfold filL;omega
 have J:y<=1048576:=by omega
 have j:((y:Int)+7) / 8=(k:Int):=by omega
 rw[<-h];replace b:=Aa b;replace a:=Aa a;replace hk:=Aa hk;replace h:=Aa h
 go_in
 go_wp2_with fail;go_ret;exact⟨Fb j,rfl⟩
def NewQ (w:World) (n:Nat) (e:Ending) (w':World):Prop:=∃(A:Option Addr) (c:Nat),e = .returned (.tuple #[.agg #[.slice A n c],.int .i64 0])/\In8 w' A n c (List.replicate n 0)/\Ext w w'
theorem PU (n:Nat) (w:World) (hn:n<=262144):Calls prog 113 #[.int .i64 (n:Int)] w (NewQ w (filL n)):=by
 have j:=Ia n (w.alloc (.cells #[.slice none 0 0] 134)) hn;obtain⟨k,hk⟩:=Ab (filL n);have H:k<=131072:=by rw[hk];exact(EU n).2
 rw[<-hk]at j ⊢;have Y:∀W:World,(Instr.makeSlice 24 (.int .i64 (k:Int)) (.int .i64 (k:Int))).run prog W = .ok (.slice (some ⟨W.heap.size,0,none⟩) k k) (W.alloc (.cells (madeCells #[.int .u8 0] k) 5)):=fun W=>by
  have h:=run_make (P:=prog) W 24 5 _ _ underlying24 rfl rfl .i64 .i64 (k:Int) (k:Int) (by omega) (by omega) (by show (1:Int)*k<=_;omega) (by omega);rw[h];simp only[Int.toNat_natCast];show Result.ok _ (W.alloc (.cells (madeCells #[.int .u8 0] (k*1)) 5))=_;rw[Nat.mul_one]
 have r1:=Row.new w 134 #[.slice none 0 0];have r1':=r1.alloc (.cells (madeCells #[.int .u8 0] k) 5);have z0:=r1'.cell 0 rfl;have zf:=r1'.free 0;have r2:=Row.new (w.alloc (.cells #[.slice (some ⟨w.heap.size+1,0,none⟩) k k] 134)) 5 (madeCells #[.int .u8 0] k);have hb:Buf (((w.alloc (.cells #[.slice (some ⟨w.heap.size+1,0,none⟩) k k] 134))).alloc (.cells (madeCells #[.int .u8 0] k) 5)) ((w.alloc (.cells #[.slice (some ⟨w.heap.size+1,0,none⟩) k k] 134))).heap.size 5 (some ⟨((w.alloc (.cells #[.slice (some ⟨w.heap.size+1,0,none⟩) k k] 134))).heap.size,0,none⟩) k k ((List.replicate k (0:UInt8)).map B8) :=
  ⟨by simp,Nat.le_refl _,.inr ⟨_,_,rfl,Nat.le_refl _,r2,by rw[size_madeCells];exact Nat.le_refl _,by rw[toList_madeCells_one,List.take_of_length_le (by simp),List.map_replicate];rfl⟩⟩
 rw[World.size_alloc]at hb;have b:=(Row.new w 134 #[.slice (some ⟨w.heap.size+1,0,none⟩) k k]).alloc (.cells (madeCells #[.int .u8 0] k) 5);replace j:=Aa j;replace hk:=Aa hk;replace hb:=Aa hb;replace b:=Aa b;clear r1 r2 r1'
 go_in
 go_wp2_with fail;refine j.out.mono ?_;rintro e w1 ⟨rfl,a⟩;obtain rfl:=a.symm;go_wp2_with fail;exact bodyPost_ret (Av rfl _ _ w.heap.size #[.slice (some ⟨w.heap.size+1,0,none⟩) k k] rfl (run_loadVar_row _ w.heap.size 134 134 _ (0,0) _ b.out underlying134 rfl (by kernel_rfl))) rfl ⟨_,k,rfl,hb.out.in8,((Ext.refl w).alloc _).alloc _⟩
theorem Na (ts:List (List UInt8)) (B:Option Addr) (k c2:Nat) (w:World) (hk:k=ts.length) (hB:Cells w B (ts.map strV)) (hs:∀s∈ts,s.length<=9223372036854775807) (m0:k<=1000000000) :
 Calls prog 68 #[.slice B k c2] w fun e w'=>∃(A:Option Addr) (n c:Nat),e = .returned (.agg #[.slice A n c])/\In8 w' A n c (ofB ts)/\Ext w w':=by
 obtain⟨x,hx⟩:∃x:Nat,(x:Int)=min (k:Int) 262144:=⟨min k 262144,by omega⟩
 have c0:=fun(W:World)=>AQ (P:=prog) #[3,3] 3 hx W;have I:x=min ts.length 262144:=by omega
 have T:Ext w (w.alloc (.cells #[.slice none 0 0] 134)):=(Ext.refl w).alloc _;have r1:=Row.new w 134 #[.slice none 0 0];have a:=PU x (w.alloc (.cells #[.slice none 0 0] 134)) (by omega);obtain⟨n,hn⟩:=Ab (filL x);have t0:8<=n/\n<=131072:=by rw[hn];exact EU x
 rw[<-hn]at a;have g0:ts.foldl addB (List.replicate n 0)=ofB ts:=by unfold ofB;rw[hn,I]
 have J:=Aa (fun A c W (hE:Ext w W) (hf:In8 W A n c (List.replicate n 0))=>Kx (List.replicate n 0) ts A B n c k c2 W hf hk (hB.ext hE) hs (by omega) t0.2 m0);rw[g0]at J;replace a:=Aa a;replace hx:=Aa hx;replace I:=Aa I;replace hn:=Aa hn;replace r1:=Aa r1;replace T:=Aa T;clear g0 hk hB hs
 go_in
 go_wp2_with fail;refine a.out.mono ?_;rintro e w1 ⟨A1,c1,rfl,U,p0⟩;have r2:=Aa (r1.out.ext p0);have q0:=Aa (T.out.trans p0);have j:=U.ext ((Ext.refl w1).alloc (.cells #[.slice A1 n c1] 134));have r3:=Row.new w1 134 #[.slice A1 n c1];have y3:(w1.alloc (.cells #[.slice A1 n c1] 134)).cell? ⟨w1.heap.size,0,none⟩=some (.slice A1 n c1):=r3.cell 0 rfl;have h:=q0.out.alloc (.cells #[.slice A1 n c1] 134);have k0:=Aa (J.out A1 c1 _ h j);replace r3:=Aa r3;replace h:=Aa h;clear U j a;go_wp2_with fail;refine k0.out.mono ?_;rintro e w3 ⟨A3,c3,cnt,rfl,O,H⟩;have r33:=r3.out.ext H;have r23:=(r2.out.alloc (.cells #[.slice A1 n c1] 134)).ext H;have h0:=Aa (h.out.trans H);obtain⟨g3,G⟩:=Ab w1.heap.size;obtain⟨g2,Y⟩:=Ab w.heap.size;have y0:g2<g3:=by have:=r2.out.lt;omega
 rw[<-G]at r33 ⊢;rw[<-Y]at r23 ⊢;have z3:=r33.cell 0 rfl;have f3:=r33.free 0;have p3:=r33.put 0 (.slice A3 n c3);have p2:=r23.away (p:=⟨g3,0,none⟩) (by simp only;omega) (.slice A3 n c3);have b:=E3 O z3 (.slice A3 n c3);have Z:=h0.out.setCell (p:=⟨g3,0,none⟩) (by simp only;omega) (.slice A3 n c3);have y3:(w3.setCell ⟨g3,0,none⟩ (.slice A3 n c3)).cell? ⟨g3,0,none⟩=some (.slice A3 n c3):=p3.cell 0 rfl;have z2:=p2.cell 0 rfl;have f2:=p2.free 0;have f0:g2≠g3:=by omega
 replace r33:=Aa r33;replace r23:=Aa r23;replace G:=Aa G;replace Y:=Aa Y;replace p3:=Aa p3;replace p2:=Aa p2;replace b:=Aa b;replace Z:=Aa Z;clear O H k0;go_wp2_with fail;have p9:=p2.out.put 0 (.slice A3 n c3);have j0:=E3 b.out z2 (.slice A3 n c3);exact bodyPost_ret (results_cell_row rfl _ _ g2 134 #[.slice A3 n c3] (0,0) _ rfl p9 underlying134 rfl (by kernel_rfl)) rfl ⟨A3,n,c3,rfl,j0,Z.out.setCell (p:=⟨g2,0,none⟩) (by have:=Y.out;simp only;omega) _⟩
end
section
open Go.RowKit Go.Maps
theorem M6 (h1:w.ownsRow b1 e1 s1 v1 n1 xs1) (j:w.grownBy w1 v1.ownBlock) (h2:w.ownsRow b2 e2 s2 v2 n2 xs2) (h:e2≠e1):w1.ownsRow b2 e2 s2 v2 n2 xs2 :=
 (Chg.of_grown (S:=fun q=>v1.ownBlock=some q) j (fun _ _ e=>e)).owns h2 fun q b e=>by
  obtain⟨cu,a,_⟩:=Ae h1 e;exact Am h2 a h b
theorem QH (A:Option Addr) (n c:Nat) (W:World):(Instr.field 134 (.agg #[.slice A n c]) 0).run prog W = .ok (.slice A n c) W:=by
 unfold Instr.field;simp only[Sem.run_bind,run_underlying underlying134,Result.andThen_ok]
 kernel_rfl
theorem N3 {ds:List DocC} (Y:m=ds.length) (h:DocsOk w A ds) (U:0<m) (J:m<=1000000):∀x∈partD (dcs ds),I64ok' x:=by
 obtain⟨x0,b⟩:∃x,ds[0]? = some x:=⟨_,List.getElem?_eq_getElem (by omega)⟩
 obtain⟨xl,a⟩:∃x,ds[m - 1]? = some x:=⟨_,List.getElem?_eq_getElem (by omega)⟩
 have j:∀d∈dcs ds,I64ok' d.2.at_:=fun d hd=>by
  unfold dcs at hd;obtain⟨x,H,rfl⟩:=List.mem_map.1 hd;exact(h.each x H).2.1
 have q0:=(h.each x0 (List.mem_of_getElem? b)).2;have ql:=(h.each xl (List.mem_of_getElem? a)).2;rw[C7 Y b a];intro x H;simp only[List.mem_cons,List.not_mem_nil,or_false]at H;rcases H with rfl | rfl | rfl | rfl | rfl
 ·exact E5 _ _ q0.1 j
 ·exact Ea _ _ q0.1 j
 ·exact q0.2
 ·exact ql.2
 ·unfold I64ok';omega
theorem Jr (ds:List DocC) (A:Option Addr) (m c:Nat) (w:World) (H:m=ds.length) (h:DocsOk w A ds) (J:m<=1000000000) (a:okDs (dcs ds)=false\/m=0) :
 Calls prog 26 #[.slice A m c] w fun e w'=>e = .returned (.tuple #[.slice none 0 0,.int .i64 130])/\Ext w w':=by
 by_cases hk:okDs (dcs ds)=false
 ·have b:=Aa (Jq ds A m c w H h J hk);clear hk a H h
  go_in
  go_wp2_with fail;refine b.out.mono ?_;rintro e w1 ⟨rfl,j⟩;go_wp2_with fail;go_ret2;exact⟨rfl,j⟩
 ·have Y:m=0:=by
   rcases a with h1 | h1
   ·exact absurd h1 hk
   ·exact h1
  subst Y;obtain rfl:ds = []:=List.length_eq_zero_iff.1 H.symm;have b:=Aa (Ek [] A 0 c w rfl h rfl (by simp[dcs,blockD]));clear hk a H h
  go_in
  go_wp2_with fail;refine b.out.mono ?_;rintro e w1 ⟨B1,c1,rfl,_,j⟩;go_wp2_with fail;go_ret2;exact⟨rfl,j⟩
theorem H7 (ds:List DocC) (A:Option Addr) (m c:Nat) (w:World) (hm:m=ds.length) (h:DocsOk w A ds) (hs:SmP (dcs ds)) (h0:0<m) :
 Calls prog 26 #[.slice A m c] w fun e w'=>OkB w (segL (dcs ds)) e w':=by
 have hB:=hs.seg;have i4:(dcs ds).length=m:=by unfold dcs;rw[List.length_map,hm]
 have a8:m<=65536:=by rw[<-i4];exact hB.n
 have d3:=Ek ds A m c w hm h hs.ok (by have:=hs.sz;omega);have x6:=Aa (fun W (hE:Ext w W)=>IS ds A m c W hm (h.ext hE) (by omega) (by have:=hB.pairs;omega));have f6:=Aa (fun W (hE:Ext w W)=>Ga ds A m c W hm (h.ext hE) (by omega) h0);have i6:=Aa (fun W (hE:Ext w W)=>Mp ds A m c W hm (h.ext hE) (by omega));have b3:=N3 hm h h0 (by omega);obtain⟨P,hP⟩:=Ab (dcs ds);rw[<-hP]at hB d3 x6 f6 i6 b3;obtain⟨R,hR⟩:=Ab (rowsD P);have q6:=hB.rows;have q3:=hB.each;have k6:=hB.posts;rw[<-hR]at q6 q3 k6;have k3:∀r∈R,1<=r.1.length/\r.1.length<=65:=fun r hr=>DW (P:=P) (by rw[<-hR];exact hr);replace hB:=Aa hB;replace hP:=Aa hP;replace hR:=Aa hR;replace i4:=Aa i4;replace d3:=Aa d3;replace q3:=Aa q3;replace k3:=Aa k3;replace hm:=Aa hm;replace h:=Aa h;replace hs:=Aa hs;replace b3:=Aa b3;have z8:(m:Int)≠0:=by omega
 go_in
 go_wp2_with fail;refine d3.out.mono ?_;rintro e w1 ⟨B1,c1,rfl,h3,d5⟩;have q5:(encDs P).length<=16777216:=hB.out.docs;obtain⟨n1,x3⟩:=Ab ((encDs P).length);rw[<-x3]at h3 q5 ⊢;replace x3:=Aa x3;replace h3:=Aa h3;go_wp2_with fail;refine(x6.out w1 d5).mono ?_;rintro e w2 ⟨E,B2,n2,c2,rfl,O,d2⟩;have c0:n2=R.length:=by rw[O.len,<-Dn,O.rows,hR.out];rfl
 have d4:idR E=R:=by rw[O.rows,hR.out];rfl
 have h7:=Aa O.len;rw[<-c0]at q6;replace c0:=Aa c0;replace d4:=Aa d4;have x7:=Aa (Cells.of_own O.own);have n7:=Aa (fun x (hx:x∈E)=>And.intro (O.each x hx) (O.pos x hx));clear O;have h4:=Aa (d5.trans d2);replace d2:=Aa d2;have g8:decide (262144<n2)=false:=decide_eq_false (by omega);go_wp2_with fail;obtain⟨b2,Y⟩:=Ab w2.heap.size;have j8:w.heap.size<=b2:=by rw[Y];exact h4.out.size
 have l4:=Nat.le_of_eq Y;replace Y:=Aa Y
 go_loopw [7,8,9,10] (fun s7 s8 s9 s10 wr=>∃(i nB cB cE cT:Nat) (BA EA TA:Option Addr),s10 = .int .i64 (i:Int)/\s7 = .slice BA nB cB/\s8 = .slice EA i cE/\s9 = .slice TA i cT/\i<=n2/\nB<=5000000/\Hid (nB=(postB (R.take i)).length)/\Hid (Buf wr b2 5 BA nB cB ((postB (R.take i)).map B8))/\Hid (wr.ownsRow b2 100 4 (.slice EA i cE) i (encells (enOf 0 (R.take i))))/\Hid (wr.ownsRow b2 9 1 (.slice TA i cT) i (((R.take i).map (·.1)).map strV))/\Hid (Ext w2 wr)/\b2<=wr.heap.size) (fun _ _ _ s10 _=>n2 - (intOf s10).toNat)
 case atStart=>exact⟨0,0,0,0,0,none,none,none,rfl,rfl,rfl,rfl,by omega,by omega,Aa rfl,Aa (Buf.nil _ _ _),Aa (World.ownsRow_nil _ _ _ _),Aa (World.ownsRow_nil _ _ _ _),Aa (Ext.refl _),l4⟩
 case round =>
  obtain⟨i,nB,cB,cE,cT,BA,EA,TA,rfl,rfl,rfl,rfl,hi,x4,x1,f0,t0,p1,v0,v7⟩:=hrel;by_cases c7:i<n2
  ·obtain⟨x,hx⟩:∃x,E[i]? = some x:=⟨_,List.getElem?_eq_getElem (by rw[<-h7.out];exact c7)⟩
   have hr:R[i]? = some (x.s,psP x.ps):=by rw[<-d4.out];exact Eb hx
   have v5:=List.mem_of_getElem? hr;have U:=q3.out _ v5;have b6:=k3.out _ v5;simp only at U b6;obtain⟨g2,o2,b7,G⟩:=CC x7.out hx;obtain⟨f3,i3⟩:=n7.out x (List.mem_of_getElem? hx);have h2:=BN f3;have t5:PosOk w2 x.A x.ps:=⟨Cells.of_own f3,fun y hy=>⟨(i3 y hy).1.cells,(i3 y hy).2⟩⟩
   have I:x.ps.length=(psP x.ps).length:=by unfold psP;rw[List.length_map]
   obtain⟨l0,l1⟩:=G wr v0.out;obtain⟨rt,ps,xA,xc⟩:=x;simp only at hr U b6 G f3 i3 h2 t5 I l0 l1;obtain⟨rl,a1⟩:=Ab (psP ps);rw[<-a1]at hr U I;obtain⟨np,y3⟩:=Ab ps.length;rw[<-y3]at G h2 I l1;have a3:=HZ ps xA np xc wr y3 (t5.ext v0.out) h2.2 h2.1 (by rw[<-a1];exact U.1) (by rw[<-a1];exact U.2.2.2.1);rw[<-a1]at a3;have d1:postB (R.take (i+1))=postB (R.take i)++encPs rl:=by
    rw[List.take_add_one,hr,Cx];unfold postB;simp
   have h5:enOf 0 (R.take (i+1))=enOf 0 (R.take i) ++ [⟨rt,nB,(encPs rl).length,rl.length⟩]:=by
    rw[List.take_add_one,hr,GG,<-x1.out,Nat.zero_add];rfl
   have y5:((R.take (i+1)).map (·.1)).map strV=((R.take i).map (·.1)).map strV ++ [.string ⟨rt.toArray⟩]:=by
    rw[List.take_add_one,hr,List.map_append,List.map_append];rfl
   have f1:(postB (R.take (i+1))).length<=5000000:=by
    refine Nat.le_trans ?_ k6;have h1:=Cx (R.take (i+1)) (R.drop (i+1));rw[List.take_append_drop]at h1;rw[h1,List.length_append];omega
   have z7:=U.2.2.2.2;have v8:=U.2.2.1;rw[d1,List.length_append,<-x1.out]at f1;subst b7;replace d1:=Aa d1;replace h5:=Aa h5;replace y5:=Aa y5;replace a3:=Aa a3;replace y3:=Aa y3;replace hr:=Aa hr;replace I:=Aa I;replace G:=Aa G;clear v5 t5 U f3 i3 h2 a1;go_wp2_with fail;refine a3.out.mono ?_;rintro e w5 ⟨B5,c5,rfl,e4,g0⟩;obtain⟨n5,d0⟩:=Ab ((encPs rl).length);rw[<-d0]at e4 z7 f1 ⊢;have r0:=v0.out.trans g0;obtain⟨l0,l1⟩:=G.out w5.drew r0.drew;have H:=Aa ((g0.drew).owns t0.out);have j6:=Aa ((g0.drew).owns p1.out);have b5:=Aa (f0.out.ext g0.drew);have h8:=Aa (e4.2.drew);have z4:b2<=w5.drew.heap.size:=Nat.le_trans v7 g0.drew.size;have c4:=Aa r0.drew;replace d0:=Aa d0;have m1:((encPs rl).map B8).length=n5:=by rw[List.length_map];exact d0.out.symm
   have m8:np<=70000:=by have:=I.out;omega
   have o1:w2.heap.size<=b2:=by rw[Y.out];exact Nat.le_refl _
   replace m1:=Aa m1;clear r0 e4 g0 t0 p1 f0 v0;go_wp2_with fail;refine AE (fun K hK=>?_);go_wp2_with (at_builtin;refine AS (us:= [.string ⟨rt.toArray⟩,.int .i64 (nB:Int),.int .i64 (n5:Int),.int .i64 (np:Int)]) (m:=1) MR H.out rfl (.tmp 51) (.tmp 68) rfl rfl rfl rfl rfl (by simp[Value.oneCell']) (by omega) z4 (fun A8 c8 w8 g5 x0 d7=>?_);have t7:=Aa (Ci H.out x0 b5.out (by decide));have q1:=Aa (M6 H.out x0 j6.out (by decide));have q8:=Aa (Ci H.out x0 h8.out (by decide));have m0:=CX H.out x0 c4.out o1;have d6:=Nat.le_trans z4 x0.size;obtain⟨l0,l1⟩:=G.out w8 m0;replace m0:=Aa m0;replace g5:=Aa g5;clear x0 d7);refine⟨by kernel_rfl,?_⟩;go_wp2_with (first
    | (at_builtin;refine AS (us:= [.string ⟨rt.toArray⟩]) (m:=1) ER q1.out rfl (.tmp 70) (.tmp 76) rfl rfl rfl rfl rfl (by simp[Value.oneCell']) (by omega) d6 (fun A9 c9 w9 m5 y0 e7=>?_);have n4:=Aa (Ci q1.out y0 t7.out (by decide));have j7:=Aa (M6 q1.out y0 g5.out (by decide));have z5:=(Ci q1.out y0 q8.out (by decide)).cells;have Z:=CX q1.out y0 m0.out o1;have e6:=Nat.le_trans d6 y0.size;replace Z:=Aa Z;replace m5:=Aa m5;replace z5:=Aa z5;clear y0 e7)
    | (at_builtin;refine Al Aw n4.out z5.out (.tmp 78) (.tmp 79) rfl rfl rfl rfl rfl m1.out (Ai _) (by omega) e6 (fun AA cA wA o4 t3 l6 f7=>?_);have l7:=Aa (Gr n4.out t3 m5.out (by decide));have g7:=Aa (Gr n4.out t3 j7.out (by decide));have y7:=Aa (l6 _ Z.out o1);have o7:b2<=wA.heap.size:=Nat.le_trans e6 t3.size;replace o4:=Aa o4;clear t3 l6 f7))
   refine⟨⟨i+1,nB+n5,cA,c8,c9,AA,A8,A9,by go_num,rfl,rfl,rfl,by omega,f1,Aa ?_,Aa ?_,Aa ?_,Aa ?_,y7,o7⟩,by simp only[intOf];omega⟩
   ·rw[d1.out,List.length_append,<-x1.out,<-d0.out]
   ·rw[d1.out,List.map_append];exact o4.out
   ·rw[h5.out,Cj];rw[show (⟨rt,nB,(encPs rl).length,rl.length⟩:En).cells = [.string ⟨rt.toArray⟩,.int .i64 (nB:Int),.int .i64 (n5:Int),.int .i64 (np:Int)] by rw[<-d0.out,<-I.out];rfl];exact g7.out
   ·rw[y5.out];exact l7.out
  ·obtain rfl:i=n2:=by omega
   have j4:R.take i=R:=List.take_of_length_le (by rw[<-c0.out];exact Nat.le_refl _);rw[j4]at x1 f0 t0 p1;obtain⟨w3,r7⟩:=Ab wr;subst r7;have w4:=BN t0.out;have k1:=H3 (enOf 0 R) EA i cE w3 (by rw[Cc];exact c0.out) (Cells.of_own t0.out) w4.2 w4.1 (by rw[hR.out];exact hB.out.ens);have e5:=Aa (h4.out.trans v0.out);have v6:(encEs (enOf 0 R)).length<=16777216:=by rw[hR.out];exact hB.out.dic
   obtain⟨D6,j2⟩:=Ab (encEs (enOf 0 R));rw[<-j2]at k1 v6;have j5:decide (16777216<nB)=false:=decide_eq_false (by omega);replace j2:=Aa j2;replace k1:=Aa k1;clear w4 j4;go_wp2_with fail;refine k1.out.mono ?_;rintro e w6 ⟨B6,c6,rfl,r5,f2⟩;have o0:=Aa (e5.out.trans f2);have i1:=f6.out w6 o0.out;obtain⟨lo,b,fi,la,nn,z3⟩:=L9 P;have J:=b3.out;rw[z3]at i1 J;have a6:prtA [lo,b,fi,la,nn]=#[.int .i64 0,.int .i64 0,.int .i64 lo,.int .i64 b,.int .i64 fi,.int .i64 la,.int .i64 nn]:=rfl;rw[a6]at i1;have h6:=Aa r5.2;have l3:=Aa (h3.out.2.ext (d2.out.trans (v0.out.trans f2)));have o3:=Aa (f0.out.ext f2);have g6:=Aa ((Cells.of_own p1.out).ext f2);replace i1:=Aa i1;replace z3:=Aa z3;replace J:=Aa J;clear a6 r5 f0 p1 t0 k1;go_wp2_with fail;refine i1.out.mono ?_;rintro e w7 ⟨rfl,f5⟩;obtain⟨wx,T⟩:=Ab (w7.alloc (Obj.cells #[Value.int IntKind.i64 0,Value.int IntKind.i64 0,Value.int IntKind.i64 lo,Value.int IntKind.i64 b,Value.int IntKind.i64 fi,Value.int IntKind.i64 la,Value.int IntKind.i64 nn] 79));obtain⟨bp,m3⟩:=Ab w7.heap.size;have k4:Ext w7 wx:=by rw[T];exact(Ext.refl w7).alloc _
   have q0:Row wx bp 79 #[Value.int IntKind.i64 0,Value.int IntKind.i64 0,Value.int IntKind.i64 lo,Value.int IntKind.i64 b,Value.int IntKind.i64 fi,Value.int IntKind.i64 la,Value.int IntKind.i64 nn]:=by rw[T,m3];exact Row.new w7 _ _
   have p2:=q0.cell 2 rfl;have p3:=q0.cell 3 rfl;have p4:=q0.cell 4 rfl;have p5:=q0.cell 5 rfl;have p6:=q0.cell 6 rfl;have q4:=Aa (f5.trans k4);have k8:=Aa (o0.out.trans q4.out);have j3:=PW (some ⟨wx.heap.size,0,none⟩) 5 5 [lo,b,fi,la,nn] (wx.alloc (.cells #[.int .i64 lo,.int .i64 b,.int .i64 fi,.int .i64 la,.int .i64 nn] 3)) rfl (AN wx [.int .i64 lo,.int .i64 b,.int .i64 fi,.int .i64 la,.int .i64 nn] _) (by decide) J.out;obtain⟨DV,a2⟩:∃D,D=vall [lo,b,fi,la,nn]:=⟨_,rfl⟩
   have t4:(vall [lo,b,fi,la,nn]).length<=16777216:=Nat.le_trans (De [lo,b,fi,la,nn] J.out 5) (by decide);rw[<-a2]at j3 t4;replace j3:=Aa j3;replace a2:=Aa a2;replace q0:=Aa q0;replace T:=Aa T;replace m3:=Aa m3;clear f5 k4;go_upto_region 21 with fail;rw[<-T.out,<-m3.out];go_wp2_with fail;refine j3.out.mono ?_;rintro e w8 ⟨BV,cV,rfl,t6,m0⟩;have a:=Aa (q4.out.trans (((Ext.refl wx).alloc _).trans m0));have r3:=Aa (o0.out.trans a.out);obtain rfl:=x3.out;obtain rfl:=x1.out;have m4:(timesD 0 P).length<=16777216:=hB.out.times;have g4:8<=(ofB (R.map (·.1))).length/\(ofB (R.map (·.1))).length<=131072:=by rw[hR.out];exact hB.out.bits
   have e3:=i6.out w8 r3.out;have y4:=Aa (fun W (hE:Ext w8 W)=>Na (R.map (·.1)) TA i cT W (by rw[List.length_map];exact c0.out) (g6.out.ext (a.out.trans hE)) (fun s hs=>by obtain⟨r,hr,rfl⟩:=List.mem_map.1 hs;have:=(k3.out r hr).2;omega) (by omega));obtain⟨DT,y2⟩:∃D,D=timesD 0 P:=⟨_,rfl⟩
   obtain⟨D7,m2⟩:∃D,D=ofB (R.map (·.1)):=⟨_,rfl⟩
   obtain⟨D1,k2⟩:∃D,D=encDs P:=⟨_,rfl⟩
   obtain⟨DP,x2⟩:∃D,D=postB R:=⟨_,rfl⟩
   rw[<-y2]at m4 e3;rw[<-m2]at g4 y4;rw[<-k2]at l3 q5 ⊢;rw[<-x2]at o3 x4 j5 ⊢;obtain⟨JN,i2⟩:=Ab (joinL (framesD P));have p0:joinL [D1,DT,DP,D6,D7,DV]=JN:=by rw[i2,k2,y2,x2,j2.out,m2,a2.out,<-z3.out,hR.out];rfl
   have k0:segL P = [76,83,69,71]++JN:=by rw[i2];rfl
   have k7:JN.length<=100663416:=by
    rw[<-p0];exact Cv (ps:= [D1,DT,DP,D6,D7,DV]) (fun p hp=>by
     simp only[List.mem_cons,List.not_mem_nil,or_false]at hp;rcases hp with rfl | rfl | rfl | rfl | rfl | rfl <;> omega)
   replace e3:=Aa e3;replace i2:=Aa i2;replace p0:=Aa p0;replace k0:=Aa k0;replace y2:=Aa y2;replace m2:=Aa m2;replace k2:=Aa k2;replace x2:=Aa x2;clear p2 p3 p4 p5 p6;go_wp2_with fail;refine e3.out.mono ?_;rintro e w9 ⟨BT,cT2,rfl,m6,Z⟩;have z6:=Aa (y4.out w9 Z);go_wp2_with fail;refine z6.out.mono ?_;rintro e w10 ⟨AF,nF,cF,rfl,hF,n0⟩;obtain rfl:=hF.len;have j:=Z.trans n0;have j1:=Oj (some ⟨w10.heap.size,0,none⟩) 6 6 [(B1,c1,D1),(BT,cT2,DT),(BA,cB,DP),(B6,c6,D6),(AF,cF,D7),(BV,cV,DV)] (w10.alloc (.cells #[.slice B1 D1.length c1,.slice BT DT.length cT2,.slice BA DP.length cB,.slice B6 D6.length c6,.slice AF D7.length cF,.slice BV DV.length cV] 24)) rfl (AN w10 [.slice B1 D1.length c1,.slice BT DT.length cT2,.slice BA DP.length cB,.slice B6 D6.length c6,.slice AF D7.length cF,.slice BV DV.length cV] _) (Rf ⟨((l3.out.ext (a.out.trans j)).ext ((Ext.refl _).alloc _)).in8,q5⟩ ⟨((m6.ext n0).ext ((Ext.refl _).alloc _)).in8,m4⟩ ⟨((o3.out.ext (a.out.trans j)).ext ((Ext.refl _).alloc _)).in8,Nat.le_trans x4 (by decide)⟩ ⟨((h6.out.ext (a.out.trans j)).ext ((Ext.refl _).alloc _)).in8,v6⟩ ⟨hF.ext ((Ext.refl _).alloc _),Nat.le_trans g4.2 (by decide)⟩ ⟨((t6.ext j).ext ((Ext.refl _).alloc _)).in8,t4⟩) (by decide);have l5:joinL (List.map (fun(x:Option Addr×Nat×List UInt8)=>x.2.2) [(B1,c1,D1),(BT,cT2,DT),(BA,cB,DP),(B6,c6,D6),(AF,cF,D7),(BV,cV,DV)])=JN:=p0.out;rw[l5]at j1;have b4:=Aa (r3.out.trans j);replace j1:=Aa j1;have y8:=QH AF D7.length cF w10;clear m6 hF Z n0 j t6 l5 z6;go_wp2_with fail;refine j1.out.mono ?_;rintro e w11 ⟨AJ,cJ,rfl,f4,i5⟩;obtain⟨nJ,y1⟩:=Ab JN.length;rw[<-y1]at f4 k7 ⊢;have m7:Buf (w11.alloc (.cells #[.int .u8 76,.int .u8 83,.int .u8 69,.int .u8 71] 5)) w11.heap.size 5 (some ⟨w11.heap.size,0,none⟩) 4 4 [.int .u8 76,.int .u8 83,.int .u8 69,.int .u8 71] :=
    Buf.of_own ⟨rfl,.inr ⟨w11.heap.size,4,#[.int .u8 76,.int .u8 83,.int .u8 69,.int .u8 71],rfl,Nat.le_refl _,heap_alloc_new w11 _,Nat.le_refl _,by unfold maxLen;omega,rfl,rfl⟩⟩
   have p7:=(f4.2.ext ((Ext.refl w11).alloc (.cells #[.int .u8 76,.int .u8 83,.int .u8 69,.int .u8 71] 5))).cells;have o5:(JN.map B8).length=nJ:=by rw[List.length_map,y1]
   have i0:=Aa (b4.out.trans (((Ext.refl w10).alloc _).trans i5));have x5:w11.heap.size<=(w11.alloc (.cells #[.int .u8 76,.int .u8 83,.int .u8 69,.int .u8 71] 5)).heap.size:=((Ext.refl w11).alloc _).size;replace y1:=Aa y1;clear f4 i5 j1;go_wp2_with (at_builtin;refine Al Aw m7 p7 (.tmp 119) (.tmp 120) rfl rfl rfl rfl rfl o5 (Ai _) (by omega) x5 (fun AZ cZ wZ r4 a7 n6 i7=>?_);have r6:=Aa (n6 w11 ((Ext.refl w11).alloc _) (Nat.le_refl _));replace r4:=Aa r4;clear a7 n6 i7);go_ret2;have k5:(segL P).length=4+nJ:=by rw[k0.out,List.length_append,y1.out];rfl
   have y6:(segL P).map B8 = [.int .u8 76,.int .u8 83,.int .u8 69,.int .u8 71]++JN.map B8:=by rw[k0.out,List.map_append];rfl
   rw[hP.out]at k5 y6;refine⟨AZ,cZ,by rw[k5];rfl,⟨rfl,?_⟩,i0.out.trans r6.out⟩;rw[k5,y6];exact r4.out.lower i0.out.size
end
section
def skipC:Nat->List UInt8->Option (List UInt8)
 | 0,l=>some l
 | k+1,l=>match getV 0 l with
  | .error _=>none
  | .ok (n,r)=>if 1099511627776<n then none else match getV 0 r with
   | .error _=>none
   | .ok (m,r2)=>if 1099511627776<m then none else skipC k r2
def readC:Nat->Int->List UInt8->Option (List Dc)
 | 0,_,_=>some []
 | k+1,last,l=>match getV 0 l with
  | .error _=>none
  | .ok (s,r)=>if 1099511627776<s then none else match getE r with
   | none=>none
   | some (e,r2)=>match readC k (last+1+s) r2 with
    | none=>none
    | some ds=>some ((last+1+s,e)::ds)
def decC (b:List UInt8):Option (List Dc):=match getV 0 b with
 | .error _=>none
 | .ok (n,r)=>if 65536<n\/b.length<n then none else match skipC ((n+15) / 16) r with
  | none=>none
  | some r2=>match readC n 0 r2 with
   | none=>none
   | some ds=>if okDs ds=true/\encDs ds=b then some ds else none
theorem Sq:∀(k:Nat) (last:Int) (l:List UInt8) (ds:List Dc),readC k last l=some ds->(blockD last ds).length<=l.length/\ds.length=k/\(∀d∈ds,I64ok' d.2.at_/\checkE d.2.fs=0)
 | 0,last,l,ds,h=>by
  unfold readC at h;injection h with h;subst h;exact⟨Nat.zero_le _,rfl,nofun⟩
 | k+1,last,l,ds,h=>by
  unfold readC at h;split at h
  ·cases h
  ·rename_i s r h1;split at h
   ·cases h
   ·split at h
    ·cases h
    ·rename_i e r2 h2;split at h
     ·cases h
     ·rename_i ds2 j;injection h with h;subst h;obtain⟨i1,i2,i3⟩:=Sq k _ r2 ds2 j;obtain⟨j1,j2,j3⟩:=Pk h2;have b:=(DH l 0 s r h1).1;refine⟨?_,by rw[List.length_cons,i2],fun d hd=>?_⟩
      ·show (oneD last (last+1+s,e)++blockD (last+1+s) ds2).length<=_;unfold oneD;simp only;rw[show (last+1+(s:Int) - last - 1).toNat=s by omega,b,j1];simp only[List.length_append];omega
      ·rcases List.mem_cons.1 hd with rfl | hd
       ·exact⟨j2,j3⟩
       ·exact i3 d hd
theorem Sx:∀(bs:List (List Dc)) (lo:Int) (r:List UInt8),(∀k:Nat,lastD lo ((bs.take k).flatMap id)<=1099511627776/\(blockD lo ((bs.take k).flatMap id)).length<=1099511627776)->skipC bs.length (headD lo bs++r)=some r
 | [],lo,r,_=>rfl
 | b::bs,lo,r,h=>by
  have h1:=h 1;rw[List.take_succ_cons,List.take_zero,List.flatMap_cons,List.flatMap_nil,List.append_nil]at h1;simp only[id]at h1;have ih:=Sx bs (lastD lo b) r fun k=>by
   have:=h (k+1);rw[List.take_succ_cons,List.flatMap_cons,C4,Bj,List.length_append]at this;simp only[id]at this;exact⟨this.1,by omega⟩
  show skipC (bs.length+1) ((vb (lastD lo b).toNat++vb (blockD lo b).length++headD (lastD lo b) bs)++r)=_;rw[List.append_assoc,List.append_assoc];unfold skipC;rw[BD (by omega)];simp only;rw[if_neg (by omega),BD (by omega)];simp only;rw[if_neg (by omega)];exact ih
theorem Sr:∀(P:List Dc) (lo:Int),risB 1099511627777 lo (P.map (·.1))=true->0<=lo->(∀d∈P,I64ok' d.2.at_/\checkE d.2.fs=0)->readC P.length lo (blockD lo P)=some P
 | [],lo,_,_,_=>rfl
 | d::P,lo,h,H,a=>by
  rw[List.map_cons,risB,Bool.and_eq_true,Bool.and_eq_true]at h;have h1:=of_decide_eq_true h.1.1;have h2:=of_decide_eq_true h.1.2;obtain⟨j,b⟩:=a d (List.mem_cons_self ..);have ih:=Sr P d.1 h.2 (by omega) fun x Y=>a x (List.mem_cons_of_mem _ Y);show readC (P.length+1) lo (oneD lo d++blockD d.1 P)=_;unfold readC oneD;rw[List.append_assoc,BD (by omega)];simp only;rw[if_neg (by omega),Pm j b];simp only;rw[show lo+1+(((d.1 - lo - 1).toNat:Nat):Int)=d.1 by omega,ih]
theorem SA:∀(P:List Dc) (lo:Int),P.length<=(blockD lo P).length
 | [],_=>Nat.zero_le _
 | d::P,lo=>by
  have h1:=SA P d.1;have h2:=Qi (d.1 - lo - 1).toNat;show (d::P).length<=(oneD lo d++blockD d.1 P).length;unfold oneD;rw[List.length_cons,List.length_append,List.length_append];omega
theorem SW {P:List Dc} (h:okDs P=true) (O:∀d∈P,I64ok' d.2.at_) (G:(blockD 0 P).length<=50000000):decC (encDs P)=some P:=by
 have j:=h;unfold okDs at h;rw[Bool.and_eq_true,Bool.and_eq_true]at h;obtain⟨J,U,T⟩:=h;have J:=of_decide_eq_true J;have a:(chunkL 16 P).length=(P.length+15) / 16:=AO (by omega) P;have hk:∀k:Nat,lastD 0 (((chunkL 16 P).take k).flatMap id)<=1099511627776/\(blockD 0 (((chunkL 16 P).take k).flatMap id)).length<=1099511627776:=fun k=>by
  rw[BF (by omega)];have h1:=(Uy (l:=P.take (k*16)) (lo:=0) (n:=1099511627777) (by rw[List.map_take];exact Bp _ U) (by omega)).2;have h2:=CV P (k*16);omega
 have b:=Sx (chunkL 16 P) 0 (blockD 0 P) hk;have Y:=Sr P 0 U (by omega) fun d hd=>⟨O d hd,of_decide_eq_true (List.all_eq_true.1 T d hd)⟩
 rw[a]at b;have H:encDs P=vb P.length++(headD 0 (chunkL 16 P)++blockD 0 P):=by unfold encDs;rw[List.append_assoc]
 have Z:=SA P 0;have hlen:¬ (65536<P.length\/(encDs P).length<P.length):=by
  rw[H,List.length_append,List.length_append];omega
 unfold decC;rw[H]at hlen ⊢;rw[BD (by omega)];simp only;rw[if_neg hlen,b];simp only;rw[Y];simp only;rw[if_pos ⟨j,by rw[H]⟩]
theorem SO (b:List UInt8) (hb:b.length<=50000000):decC b=decDs b:=by
 cases h:decDs b with
 | some P =>
  have j:=Iq h;have h1:(blockD 0 P).length<=50000000/\∀d∈P,I64ok' d.2.at_:=by
   unfold decDs at h;split at h
   ·cases h
   ·rename_i n r e1;split at h
    ·cases h
    ·split at h
     ·cases h
     ·rename_i r2 e2;split at h
      ·cases h
      ·rename_i ds e3;split at h
       ·injection h with h;subst h;have q:=IT _ _ _ _ e3;refine⟨?_,fun d hd=>(q.2.2 d hd).1⟩;have:(encDs ds).length=b.length:=by rw[j.2]
        unfold encDs at this;rw[List.length_append]at this;omega
       ·cases h
  have h2:=SW j.1 h1.2 h1.1;rw[j.2]at h2;exact h2
 | none =>
  cases h2:decC b with
  | none=>rfl
  | some P =>
   unfold decC at h2;split at h2
   ·cases h2
   ·rename_i n r e1;split at h2
    ·cases h2
    ·split at h2
     ·cases h2
     ·rename_i r2 e2;split at h2
      ·cases h2
      ·rename_i ds e3;split at h2
       ·rename_i a;injection h2 with h2;subst h2;have q:=Sq _ _ _ _ e3;have hlen:(blockD 0 ds).length<=50000000:=by
         have:(encDs ds).length=b.length:=by rw[a.2]
         unfold encDs at this;rw[List.length_append]at this;omega
        have H:=J1 a.1 (fun d hd=>(q.2.2 d hd).1) hlen;rw[a.2,h]at H;cases H
       ·cases h2
def aheadO (read:List Dc):Option (List Dc)->Option (List Dc)
 | none=>none
 | some l=>some (read++l)
theorem Sy (k:Nat) (l:List UInt8):skipC (k+1) l=match getV 0 l with
 | .error _=>none
 | .ok (n,r)=>if 1099511627776<n then none else match getV 0 r with
  | .error _=>none
  | .ok (m,r2)=>if 1099511627776<m then none else skipC k r2:=rfl
theorem Sv (k:Nat) (last:Int) (l:List UInt8):readC (k+1) last l=match getV 0 l with
 | .error _=>none
 | .ok (s,r)=>if 1099511627776<s then none else match getE r with
  | none=>none
  | some (e,r2)=>match readC k (last+1+s) r2 with
   | none=>none
   | some ds=>some ((last+1+s,e)::ds):=rfl
theorem SN (h:skipC k L=skipC (k - i) r) (hi:i<k) (h1:getV 0 r = .ok (n,r1)) (hn:¬ 1099511627776<n) (h2:getV 0 r1 = .ok (m,r2)) (a:¬ 1099511627776<m):skipC k L=skipC (k - (i+1)) r2:=by
 obtain⟨j,b⟩:∃j,k - i=j+1:=⟨k - i - 1,by omega⟩
 rw[h,b,show k - (i+1)=j by omega];rw[Sy,h1];simp only;rw[if_neg hn,h2];simp only;rw[if_neg a]
theorem SI (h:skipC k L=skipC (k - i) r) (hi:i<k) (h1:∀n r1,getV 0 r = .ok (n,r1)->n<=1099511627776->∀m r2,getV 0 r1 = .ok (m,r2)->m<=1099511627776->False):skipC k L=none:=by
 obtain⟨j,b⟩:∃j,k - i=j+1:=⟨k - i - 1,by omega⟩
 rw[h,b,Sy];cases e1:getV 0 r with
 | error e=>rfl
 | ok p =>
  obtain⟨n,r1⟩:=p;simp only;by_cases hn:1099511627776<n
  ·rw[if_pos hn]
  ·rw[if_neg hn];cases e2:getV 0 r1 with
   | error e=>rfl
   | ok p =>
    obtain⟨m,r2⟩:=p;simp only;by_cases a:1099511627776<m
    ·rw[if_pos a]
    ·exact(h1 n r1 e1 (by omega) m r2 e2 (by omega)).elim
theorem SG {read:List Dc} (h:readC k la0 L=aheadO read (readC (k - i) la r)) (hi:i<k) (h1:∀s r1,getV 0 r = .ok (s,r1)->s<=1099511627776->getE r1=none):readC k la0 L=none:=by
 obtain⟨j,b⟩:∃j,k - i=j+1:=⟨k - i - 1,by omega⟩
 rw[h,b,Sv];cases e1:getV 0 r with
 | error e=>rfl
 | ok p =>
  obtain⟨s,r1⟩:=p;simp only;by_cases hn:1099511627776<s
  ·rw[if_pos hn];rfl
  ·rw[if_neg hn,h1 s r1 e1 (by omega)];rfl
theorem SK {read:List Dc} {s:Nat} {e:Ev} (h:readC k la0 L=aheadO read (readC (k - i) la r)) (hi:i<k) (h1:getV 0 r = .ok (s,r1)) (hs:¬ 1099511627776<s) (h2:getE r1=some (e,r2)):readC k la0 L=aheadO (read ++ [(la+1+s,e)]) (readC (k - (i+1)) (la+1+s) r2):=by
 obtain⟨j,b⟩:∃j,k - i=j+1:=⟨k - i - 1,by omega⟩
 rw[h,b,show k - (i+1)=j by omega];rw[Sv,h1];simp only;rw[if_neg hs,h2];simp only;cases readC j (la+1+s) r2 with
 | none=>rfl
 | some l=>show some _=some _;simp
theorem SQ {read:List Dc} (h:readC k la0 L=aheadO read (readC (k - i) la r)) (hi:k<=i):readC k la0 L=some read:=by
 rw[h,show k - i=0 by omega];show some (read ++ [])=_;rw[List.append_nil]
end
section
open Go.RowKit
def GotM (w0 w:World) (most:Nat) (l:List UInt8) (e:Ending) (w':World):Prop:=Ext w w' /\
 ((∃v r A c,getV 0 l = .ok (v,r)/\v<=most/\e = .returned (.tuple #[.int .i64 (v:Int),.slice A r.length c,.bool true])/\In8 w0 A r.length c r) \/
  ((∀v r,getV 0 l = .ok (v,r)->most<v)/\e = .returned (.tuple #[.int .i64 0,.slice none 0 0,.bool false])))
theorem SM (A:Option Addr) (n c:Nat) (l:List UInt8) (most:Int) (w0 w:World) (h:In8 w0 A n c l) (I:Ext w0 w) (J:n<=1000000000) (O:0<=most) (T:most<=1099511627776) :
 Calls prog 162 #[.slice A n c,.int .i64 most] w fun e w'=>GotM w0 w most.toNat l e w':=by
 have a:=Bq A n c l w0 w h I J;have Z:IntKind.u64.wrap most=most:=by simp[IntKind.wrap,IntKind.bits,IntKind.signed];omega
 cases H:getV 0 l with
 | error k =>
  rw[H]at a;have hk:=BK l 0 k H;have U:((k:Int) != 0)=true:=by simp;omega
  have b:=Aa (show ∀v r,getV 0 l = .ok (v,r)->most.toNat<v from fun v r e=>by rw[H]at e;cases e);replace a:=Aa a;clear H hk
  go_in
  go_wp2_with fail;refine a.out.mono ?_;rintro e w1 ⟨j,rfl⟩;go_wp2_with fail;go_ret3;exact⟨j,.inr ⟨b.out,rfl⟩⟩
 | ok p =>
  obtain⟨v,r⟩:=p;rw[H]at a;unfold Got at a;simp only at a;replace a:=Aa a;by_cases hq:most<v
  ·have b:=Aa (show ∀v r,getV 0 l = .ok (v,r)->most.toNat<v from fun v' r' e=>by rw[H]at e;cases e;omega);clear H
   go_in
   go_wp2_with fail;refine a.out.mono ?_;rintro e w1 ⟨j,A1,c1,rfl,hi1⟩;go_wp2_with fail;go_ret3;exact⟨j,.inr ⟨b.out,rfl⟩⟩
  ·have G:IntKind.i64.wrap (v:Int)=(v:Int):=BP (by omega) (by omega);have Y:=Aa (show v<=most.toNat by omega);replace H:=Aa H
   go_in
   go_wp2_with fail;refine a.out.mono ?_;rintro e w1 ⟨j,A1,c1,rfl,hi1⟩;go_wp2_with fail;go_ret3;exact⟨j,.inl ⟨v,r,A1,c1,H.out,Y.out,rfl,hi1⟩⟩
theorem LX (A:Option Addr) (n c:Nat) (bs:List UInt8) (w:World) (h:In8 w A n c bs) (x1:n<=50000000) :
 Calls prog 117 #[.slice A n c] w fun e w'=>SdecP w (decC bs) e w':=by
 have a5:bs.length<=50000000:=by rw[<-h.len];exact x1
 have x3:=Aa h.len;have m0:=Aa (fun A n c r most W (h:In8 w A n c r) (hw:Ext w W) (x1:n<=1000000000) (h0:0<=most) (h1:most<=1099511627776)=>SM A n c r most w W h hw x1 h0 h1);have r3:=Aa (m0.out A n c bs 65536 w h (Ext.refl w) (by omega) (by omega) (by omega));obtain⟨Z,T⟩:=Ab (decC bs);rw[<-T];unfold decC at T
 go_in
 go_wp2_with fail;refine r3.out.mono ?_;rintro e w1 ⟨r0,(⟨q,r,A1,c1,f1,hq,rfl,hi1⟩ | ⟨H,rfl⟩)⟩
 ·rw[f1]at T;simp only at T;have p5:q<=65536:=by omega
  by_cases a3:bs.length<q
  ·rw[if_pos (.inr a3)]at T;replace T:=Aa T;have b4:decide (n<q)=true:=decide_eq_true (by rw[x3.out];exact a3);have e4:=Cs f1;clear f1;go_wp2_with fail;go_ret2;exact SdecP.no r0 T.out
  ·rw[if_neg (by omega)]at T;have b4:decide (n<q)=false:=decide_eq_false (by rw[x3.out];exact a3);have e4:=Cs f1;obtain⟨K,hK⟩:=Ab ((q+15) / 16);rw[<-hK]at T;replace T:=Aa T;replace hK:=Aa hK;replace r0:=Aa r0;replace hi1:=Aa hi1;clear f1 r3;go_wp2_with fail
   go_loopw [5,7] (fun s5 s7 wr=>∃(i z:Nat) (rr:List UInt8) (A3:Option Addr) (c3:Nat),s7 = .int .i64 (z:Int)/\s5 = .slice A3 rr.length c3/\z<q+16/\Hid (z=i*16)/\rr.length<=50000000/\Hid (skipC K r=skipC (K - i) rr)/\Hid (In8 w A3 rr.length c3 rr)/\Hid (Ext w wr)) (fun _ s7 _=>q+16 - (intOf s7).toNat)
   case atStart=>exact⟨0,0,r,A1,c1,rfl,rfl,by omega,Aa rfl,by omega,Aa rfl,hi1,r0⟩
   case round =>
    obtain⟨i,z,rr,A3,c3,rfl,rfl,b5,hz,f4,d1,j1,hE⟩:=hrel;by_cases y5:z<q
    ·have d0:i<K:=by have:=hK.out;have:=hz.out;omega
     have r4:(z:Int)<q:=by omega
     have p3:=Aa (m0.out A3 rr.length c3 rr 1099511627776 wr j1.out hE.out (by omega) (by omega) (by omega));go_wp2_with fail;refine p3.out.mono ?_;rintro e w2 ⟨Y,(⟨v,r1,A4,c4,hv,l4,rfl,v4⟩ | ⟨H,rfl⟩)⟩
     ·have m3:=Cs hv;have b:=hE.out.trans Y;have k1:=Aa (m0.out A4 r1.length c4 r1 1099511627776 w2 v4 b (by omega) (by omega) (by omega));replace b:=Aa b;have p4:¬ 1099511627776<v:=by omega
      replace hv:=Aa hv;clear Y;go_wp2_with fail;refine k1.out.mono ?_;rintro e w3 ⟨J,(⟨m,r2,A5,c5,hm,a4,rfl,p2⟩ | ⟨H,rfl⟩)⟩
      ·have k2:=Cs hm;have l0:=Aa (SN d1.out d0 hv.out p4 hm (by omega));have j0:=Aa (b.out.trans J);clear hm;go_wp2_with fail;go_roundw
       case rel=>exact⟨i+1,z+16,r2,A5,c5,by go_num,rfl,by omega,Aa (by have:=hz.out;omega),by omega,l0,Aa p2,j0⟩
       case measure=>simp only[intOf];omega
      ·have G:=SI d1.out d0 fun v' r' e1 _ m' r'' e2 h3=>by
        rw[hv.out]at e1;cases e1;have:=H m' r'' e2;omega
       have a:Z=none:=by rw[T.out,G]
       replace a:=Aa a;clear G H;go_wp2_with fail;go_ret2;exact SdecP.no (b.out.trans J) a.out
     ·have G:=SI d1.out d0 fun v' r' e1 h2 _ _ _ _=>by
       have:=H v' r' e1;omega
      have a:Z=none:=by rw[T.out,G]
      replace a:=Aa a;have b:=hE.out.trans Y;have k1:=Aa (m0.out none 0 0 [] 1099511627776 w2 ⟨rfl,.inl rfl,Nat.le_refl _,fun _=>rfl,nofun⟩ b (by omega) (by omega) (by omega));replace b:=Aa b;clear G H Y;go_wp2_with fail;refine k1.out.mono ?_;rintro e w3 ⟨J,(⟨m,r2,A5,c5,hm,a4,rfl,p2⟩ | ⟨H,rfl⟩)⟩
      ·cases hm
      ·clear H;go_wp2_with fail;go_ret2;exact SdecP.no (b.out.trans J) a.out
    ·have d0:K<=i:=by have:=hK.out;have:=hz.out;omega
     have r4:¬ (z:Int)<q:=by omega
     have g0:skipC K r=some rr:=by
      rw[d1.out,show K - i=0 by omega];rfl
     have p0:=T.out;rw[g0]at p0;simp only at p0;replace p0:=Aa p0;clear g0 d1;go_wp2_with fail;have a2:=Aa (fun A n c r W (h:In8 w A n c r) (hw:Ext w W) (x1:n<=1000000000)=>SL A n c r w W h hw x1)
     go_loopw [5,14,15,16] (fun s5 s14 s15 s16 wr=>∃(j:Nat) (read:List DocC) (rr2:List UInt8) (A3 B:Option Addr) (c3 d:Nat) (la:Int),s16 = .int .i64 (j:Int)/\s5 = .slice A3 rr2.length c3/\s14 = .slice B j d/\s15 = .int .i64 la/\j<=q/\rr2.length<=50000000/\0<=la/\la<=1099511627777*j/\Hid (j=read.length)/\Hid (readC q 0 rr=aheadO (dcs read) (readC (q - j) la rr2))/\Hid (DocsOwn wr w.heap.size B d read)/\Hid (In8 w A3 rr2.length c3 rr2)/\Hid (Ext w wr)) (fun _ _ _ s16 _=>q - (intOf s16).toNat)
     case atStart=>exact⟨0,[],rr,A3,none,c3,0,0,rfl,rfl,rfl,rfl,by omega,f4,by omega,by omega,Aa rfl,Aa (by rw[Nat.sub_zero];show _=aheadO [] _;cases readC q 0 rr <;> rfl),Aa (DocsOwn.nil _ _),j1,hE⟩
     case round =>
      clear j1 hE;obtain⟨j,read,rr2,A4,B,c4,d,la,rfl,rfl,rfl,rfl,hj,k5,h5,q5,m1,a1,t0,j1,hE⟩:=hrel;by_cases j3:j<q
      ·have p3:=Aa (m0.out A4 rr2.length c4 rr2 1099511627776 wr j1.out hE.out (by omega) (by omega) (by omega));have z5:(j:Int)<q:=by omega
       go_wp2_with fail;refine p3.out.mono ?_;rintro e w2 ⟨Y,(⟨s,r1,A5,c5,hv,l4,rfl,p2⟩ | ⟨H,rfl⟩)⟩
       ·have m3:=Cs hv;have b:=hE.out.trans Y;have d3:=Aa Y;have U:=a2.out A5 r1.length c5 r1 w2 p2 b (by omega);replace b:=Aa b;have i4:¬ 1099511627776<s:=by omega
        cases x0:getE r1 with
        | none =>
         have G:=SG a1.out j3 fun s' r' e1 _=>by rw[hv]at e1;cases e1;exact x0
         have a:Z=none:=by rw[p0.out,G]
         replace a:=Aa a;rw[x0]at U;replace U:=Aa U;clear hv x0 G Y;go_wp2_with fail;refine U.out.mono ?_;rintro e w3 ⟨J,rfl⟩;have j0:=Aa (b.out.trans J);clear J;go_wp2_with fail;go_ret2;exact SdecP.no (j0.out.alloc _) a.out
        | some p =>
         obtain⟨ev,r2⟩:=p;have k2:=NP x0;have l0:=SK a1.out j3 hv i4 x0;obtain⟨sq,x2⟩:=Ab (la+1+s:Int);rw[<-x2]at l0;have j5:0<=sq:=by omega
         have g5:sq<=1099511627777*(j+1):=by omega
         replace l0:=Aa l0;replace x2:=Aa x2;rw[x0]at U;unfold GotE at U;simp only at U;replace U:=Aa U;clear hv x0 Y a1;go_wp2_with fail;refine U.out.mono ?_;rintro e w3 ⟨J,B4,d4,A6,c6,rfl,q1,k3,o2⟩;unfold Ev.val;obtain⟨at_,fs⟩:=ev;simp only;obtain⟨fl,q2⟩:=Ab fs.length;rw[<-q2];obtain⟨g,hg⟩:=Ab w3.heap.size;obtain⟨W4,v0⟩:=Ab (w3.alloc (.cells #[.int .i64 at_,.slice B4 fl d4] 69));have c0:Ext w3 W4:=by rw[v0];exact(Ext.refl w3).alloc _
         have m2:Row W4 g 69 #[.int .i64 at_,.slice B4 fl d4]:=by rw[v0,hg];exact Row.new w3 _ _
         have e0:=m2.cell 0 rfl;have e1:=m2.cell 1 rfl;rw[v0,hg]at e0 e1;have y2:=Aa ((b.out.trans J).trans c0);have I:=Aa (t0.out.ext ((d3.out.trans J).trans c0));have y1:=Aa (show Ev.Own ⟨at_,fs⟩ W4 w.heap.size B4 d4 from⟨c0.owns (AD q1.1 b.out.size),q1.2⟩);have O:W4.ownsRow w.heap.size 71 3 (.slice B j d) j (dcells read):=by have:=I.out.own;rw[<-m1.out]at this;exact this
         have i2:=y2.out.size;have m5:la+1+(s:Int)=sq:=x2.out.symm;rw[v0]at O i2;replace v0:=Aa v0;replace hg:=Aa hg;replace m2:=Aa m2;replace q2:=Aa q2;replace k3:=Aa k3;replace o2:=Aa o2;clear c0 q1;go_wp2_with (at_builtin;refine AS (us:= [.int .i64 sq,.int .i64 at_,.slice B4 fl d4]) (m:=1) MQ O (by simp) (.tmp 90) (.tmp 94) rfl rfl rfl rfl rfl (Az rfl) (by omega) i2 (fun A8 c8 w8 y3 p1 y4=>?_);rw[<-v0.out]at p1 O;replace y3:=Aa y3;replace p1:=Aa p1;have i0:=Aa O;clear O y4);have hlen:(read ++ [(⟨sq,⟨at_,fs⟩,B4,d4⟩:DocC)]).length=j+1:=by rw[List.length_append,<-m1.out];rfl
         have i3:Chg (fun k'=>(Value.slice B j d).ownBlock=some k') W4 w8:=Chg.of_grown p1.out fun k' _ x4=>x4;have q4:∀k cs,Row W4 k 91 cs->¬ (Value.slice B j d).ownBlock=some k:=fun k cs hr=>Am i0.out hr (by decide);have g4:Ext w w8:=y2.out.grown p1.out fun k hk=>by obtain⟨_,_,hb⟩:=Ae i0.out hk;omega
         refine⟨⟨j+1,read ++ [⟨sq,⟨at_,fs⟩,B4,d4⟩],r2,A6,A8,c6,c8,sq,by go_num,rfl,rfl,rfl,by omega,by omega,by omega,by omega,Aa hlen.symm,Aa (by rw[BJ];exact l0.out),Aa ⟨?_,?_,?_⟩,k3,Aa g4⟩,by simp only[intOf];omega⟩
         ·rw[hlen,FX];show w8.ownsRow _ _ _ _ _ (dcells read ++ [.int .i64 sq,.int .i64 at_,.slice B4 fs.length d4]);rw[<-q2.out];exact y3.out
         ·intro x hx;rcases List.mem_append.1 hx with hx | hx
          ·exact⟨i3.owns (I.out.each x hx).1 fun g' q3=>by obtain⟨cs,hr,_⟩:=Ae (I.out.each x hx).1 q3;exact q4 _ _ hr,(I.out.each x hx).2⟩
          ·rw[List.mem_singleton.1 hx];exact⟨i3.owns y1.out.1 fun g' q3=>by obtain⟨cs,hr,_⟩:=Ae y1.out.1 q3;exact q4 _ _ hr,y1.out.2⟩
         ·intro x hx;rcases List.mem_append.1 hx with hx | hx
          ·exact I.out.ints x hx
          ·rw[List.mem_singleton.1 hx];exact⟨o2.out,by show -9223372036854775808<=sq/\sq<=9223372036854775807;omega⟩
       ·have G:=SG a1.out j3 fun s' r' e1 h2=>by
         have:=H s' r' e1;omega
        have a:Z=none:=by rw[p0.out,G]
        replace a:=Aa a;have b:=hE.out.trans Y;have U:=a2.out none 0 0 [] w2 ⟨rfl,.inl rfl,Nat.le_refl _,fun _=>rfl,nofun⟩ b (by omega);have o3:getE []=none:=rfl;rw[o3]at U;replace U:=Aa U;replace b:=Aa b;clear G H Y o3;go_wp2_with fail;refine U.out.mono ?_;rintro e w3 ⟨J,rfl⟩;have j0:=Aa (b.out.trans J);clear J;go_wp2_with fail;go_ret2;exact SdecP.no (j0.out.alloc _) a.out
      ·obtain rfl:j=q:=by omega
       have g0:=SQ a1.out (Nat.le_refl _);have q0:=p0.out;rw[g0]at q0;simp only at q0;have z4:=(Sq _ _ _ _ g0).1;have w4:=t0.out.cap;obtain⟨P,hP⟩:=Ab (dcs read);have o1:=Ek read B j d wr m1.out t0.out.ok;have i1:=Jq read B j d wr m1.out t0.out.ok (by omega);rw[<-hP]at q0 o1 i1 z4;have m4:(blockD 0 P).length<=50000000:=by omega
       cases j2:okDs P with
       | false =>
        have a:Z=none:=by rw[q0,j2];simp
        have l3:=Aa (i1 j2);replace a:=Aa a;clear o1 i1 q0 p0 T;go_wp2_with fail;refine l3.out.mono ?_;rintro e w2 ⟨rfl,Y⟩;go_wp2_with fail;go_ret2;exact SdecP.no (hE.out.trans Y) a.out
       | true =>
        have d2:=Aa (o1 j2 m4);rw[j2]at q0;replace q0:=Aa q0;clear o1 i1 p0 T;go_wp2_with fail;refine d2.out.mono ?_;rintro e w2 ⟨A9,c9,rfl,f3,Y⟩;have f2:=fun m (hm:m=(encDs P).length)=>CT (A:=A9) (l:=encDs P) (w:=w2) f3.2.cells m c9 hm;have t5:=CT (A:=A) (l:=bs) (w:=w2) (h.ext (hE.out.trans Y)).bytes n c x3.out;obtain⟨ne,f0⟩:=Ab ((encDs P).length);have v5:=f2 ne f0;rw[<-f0];have J:=Aa (hE.out.trans Y);have z3:=Aa (t0.out.ext Y);replace f0:=Aa f0;clear f3 d2 f2;by_cases he:encDs P=bs
        ·have k0:=q0.out;rw[if_pos ⟨trivial,he⟩]at k0;replace k0:=Aa k0;replace hP:=Aa hP;have t4:(!(encDs P==bs))=false:=by rw[he];simp
         go_wp2_with fail;go_ret2;rw[k0.out];refine⟨J.out,read,B,d,hP.out.symm,by rw[<-m1.out];rfl,z3.out⟩
        ·have k0:=q0.out;rw[if_neg (fun x=>he x.2)]at k0;replace k0:=Aa k0;replace hP:=Aa hP;have t4:(!(encDs P==bs))=true:=by simp[he]
         go_wp2_with fail;go_ret2;exact SdecP.no J.out k0.out
 ·have a:Z=none:=by
   cases hv:getV 0 bs with
   | error k=>rw[hv]at T;exact T
   | ok p =>
    obtain⟨q,r⟩:=p;rw[hv]at T;simp only at T;have:=H q r hv;rw[if_pos (.inl (by omega))]at T;exact T
  replace a:=Aa a;clear T H;go_wp2_with fail;go_ret2;exact SdecP.no r0 a.out
def decG (b:List UInt8):Option (List Dc):=if b.length<4 then none else match getF (b.drop 4)with
 | .error _=>none
 | .ok (p,_)=>match decDs p with
  | none=>none
  | some P=>if 0<P.length/\segL P=b then some P else none
theorem Ss:∀(ps:List (List UInt8)),∀p∈ps,p.length<=(joinL ps).length
 | q::ps,p,h=>by
  have j:(joinL (q::ps)).length=(frameL q).length+(joinL ps).length:=by unfold joinL;rw[List.flatMap_cons,List.length_append]
  have b:q.length<=(frameL q).length:=by unfold frameL;rw[List.length_append];omega
  rcases List.mem_cons.1 h with rfl | h
  ·omega
  ·have:=Ss ps p h;omega
theorem SE {b:List UInt8} {P:List Dc} (h:decDs b=some P):(blockD 0 P).length<=b.length/\∀d∈P,I64ok' d.2.at_:=by
 have j:=Iq h;unfold decDs at h;split at h
 ·cases h
 ·split at h
  ·cases h
  ·split at h
   ·cases h
   ·split at h
    ·cases h
    ·rename_i ds e3;split at h
     ·injection h with h;subst h;have q:=IT _ _ _ _ e3;refine⟨?_,fun d hd=>(q.2.2 d hd).1⟩;have:(encDs ds).length=b.length:=by rw[j.2]
      unfold encDs at this;rw[List.length_append]at this;omega
     ·cases h
theorem SX (b:List UInt8) (hb:b.length<=60000):decG b=openD b:=by
 cases h:decG b with
 | some P =>
  unfold decG at h;split at h
  ·cases h
  ·split at h
   ·cases h
   ·rename_i p r H;split at h
    ·cases h
    ·rename_i Q a;split at h
     ·rename_i J;injection h with h;subst h;have h1:=SE a;have h2:=(C1 H).2.2;rw[List.length_drop]at h2;have I:SegP Q:=⟨⟨(Iq a).1,by omega⟩,J.1⟩
      have T:∀p∈framesD Q,p.length<=16777216:=fun x hx=>by
       have h3:=Ss _ x hx;have G:(segL Q).length=4+(joinL (framesD Q)).length:=by unfold segL;rw[List.length_append];rfl
       rw[J.2]at G;omega
      have Z:=FI I T h1.2;rw[J.2]at Z;exact Z.symm
     ·cases h
 | none =>
  cases h2:openD b with
  | none=>rfl
  | some P =>
   obtain⟨U,O,h0⟩:=SB h2;unfold openD at h2;split at h2
   ·split at h2
    ·rename_i hs;split at h2
     ·rename_i Q a;split at h2
      ·injection h2 with h2;subst h2;have j:b.drop 4 ≠ []:=fun e=>by rw[e,Mx]at hs;simp at hs
       have Y:¬ b.length<4:=fun hl=>j (List.drop_of_length_le (by omega));unfold decG at h;rw[if_neg Y]at h;cases H:getF (b.drop 4)with
       | error k =>
        rw[Mw j H]at hs;simp at hs
       | ok q =>
        obtain⟨p,r⟩:=q;rw[I9 j H]at a;simp only[List.headD_cons]at a;rw[H]at h;simp only at h;rw[a]at h;simp only at h;rw[if_pos ⟨U,O⟩]at h;cases h
      ·cases h2
     ·cases h2
    ·cases h2
   ·cases h2
end
end Go.Proofs.YtfifdilapbeiiaaGreat
