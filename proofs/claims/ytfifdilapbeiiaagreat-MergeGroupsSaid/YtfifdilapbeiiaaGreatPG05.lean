/- Texts of one proof, joined. -/
import Derived.Test.YtfifdilapbeiiaaGreatPG04
set_option linter.unusedSimpArgs false
set_option linter.unusedVariables false
set_option maxRecDepth 100000
set_option maxHeartbeats 16000000
namespace Go.Proofs.YtfifdilapbeiiaaGreat
open _root_.Go.Proofs.Tryz
variable {a a' a0:Act} {listed:Array Bool} {ops:Array Oper} {cs cs' lb vs:Array Value} {Q R:Exit → Act → World → Prop} {fl la la0 z z0 z1 z2:Int} {bs ks ns ps:List (List UInt8)} {L':List (Value × Value)} {ms rs:List Nat} {Hd Hd' L f l l1 l2 nm p pre r r1 r2 s tx:List UInt8} {news us xs ys:List Value} {B B1 M N X acc b b1 b2 base bytes c c' c1 c2 c3 cl fr fuel g g' g1 g2 g3 gd gf i j k lo m m' n n1 n2 n3 off q x:Nat} {S:Nat → Prop} {o y:Oper} {A A' A1 A2 A3 A8:Option Addr} {P:Program} {md:Region.Mode} {E T e t t' t1 t2 tp tq tr ty:TypeId} {V V1 u u0 v v1 v2 v3:Value} {C W W' W1 W6 w w' w0 w1 w2 w8 w9 wx:World}
section
open Go.RowKit
structure LoHi (a m b mid N lo hi:Nat):Prop where
  le:lo<=hi
  alo:a<=lo
  him:hi<=m
  hmid:hi<=mid
  nhi:m+hi<=N
  nlo:N<=b+lo
  one:lo=a\/N=b+lo
  two:hi=m\/N=m+hi
theorem NX {a m b mid N:Nat} (H:N=mid+m) (h1:mid<m) (h2:a<m) (h:m<b) (d:mid=(a+b) / 2):LoHi a m b mid N (N - b) mid:=⟨by omega,by omega,by omega,by omega,by omega,by omega,.inr (by omega),.inr (by omega)⟩
theorem LU {a m b mid N:Nat} (H:N=mid+m) (h1:¬ mid<m) (h2:a<m) (h:m<b) (d:mid=(a+b) / 2):LoHi a m b mid N a m:=⟨by omega,by omega,by omega,by omega,by omega,by omega,.inl rfl,.inl rfl⟩
structure SeaI (D:List TmV) (N lo hi s r:Nat):Prop where
  ls:lo<=s
  sr:s<=r
  rh:r<=hi
  lo:s=lo\/∃x y,D[s - 1]? = some x/\D[N - s]? = some y/\¬ y.1<x.1
  hi:r=hi\/∃x y,D[r]? = some x/\D[N - 1 - r]? = some y/\y.1<x.1
theorem SeaI.cut {D P A B Q:List TmV} {a m b mid N lo hi s:Nat} (h:SeaI D N lo hi s s) (d:LoHi a m b mid N lo hi) (U:D=P++(A++(B++Q))) (O:a=P.length) (Z:m=a+A.length) (hb:b=m+B.length):CutP A B (s - a) (N - s - m):=by
 have gA:∀i,a<=i->i<m->D[i]? = A[i - a]? :=fun i h1 h2=>by
  rw[U,<-Hp (P:=P) (A:=A) (R:=B++Q) (i:=i - a) (by omega),<-O,show a+(i - a)=i by omega]
 have gB:∀i,m<=i->i<b->D[i]? = B[i - m]? :=fun i h1 h2=>by
  rw[U,<-FP (P:=P) (A:=A) (B:=B) (R:=Q) (i:=i - m) (by omega),<-O,<-Z,show m+(i - m)=i by omega]
 have:=h.ls;have:=h.sr;have:=h.rh;have:=d.le;have:=d.alo;have:=d.him;have:=d.nhi;have:=d.nlo;refine⟨by omega,by omega,?_,?_⟩
 ·by_cases e1:s - a=0
  ·exact .inl e1
  ·by_cases e2:N - s - m=B.length
   ·exact .inr (.inl e2)
   ·rcases h.lo with e | ⟨x,y,Y,J,H⟩
    ·rcases d.one with f | f
     ·omega
     ·omega
    ·refine .inr (.inr ⟨x,y,?_,?_,H⟩)
     ·rw[show s - a - 1=s - 1 - a by omega,<-gA (s - 1) (by omega) (by omega)];exact Y
     ·rw[<-gB (N - s) (by omega) (by omega)];exact J
 ·by_cases e1:s - a=A.length
  ·exact .inl e1
  ·by_cases e2:N - s - m=0
   ·exact .inr (.inl e2)
   ·rcases h.hi with e | ⟨x,y,Y,J,H⟩
    ·rcases d.two with f | f
     ·omega
     ·omega
    ·refine .inr (.inr ⟨x,y,?_,?_,H⟩)
     ·rw[<-gA s (by omega) (by omega)];exact Y
     ·rw[show N - s - m - 1=N - 1 - s - m by omega,<-gB (N - 1 - s) (by omega) (by omega)];exact J
theorem Rb (g c a m b:Nat) (D P A B Q:List TmV) (w:World) (i0:TR w g D) (hD:D=P++(A++(B++Q))) (ha:a=P.length) (hm:m=a+A.length) (hb:b=m+B.length) (hA:Srt A) (hB:Srt B) (x5:1<A.length) (y5:1<B.length) (b3:D.length<=1073741824)
 (ih:∀(a m b:Nat) (D P A' B' Q:List TmV) (w:World),A'.length+B'.length<A.length+B.length->TR w g D->D=P++(A'++(B'++Q))->a=P.length->m=a+A'.length->b=m+B'.length->Srt A'->Srt B'->0<A'.length->0<B'.length->D.length<=1073741824->Calls prog 202 #[.slice (some ⟨g,0,none⟩) D.length c,.int .i64 (a:Int),.int .i64 (m:Int),.int .i64 (b:Int),cmpV] w (SymP g P A' B' Q w)) :
 Calls prog 202 #[.slice (some ⟨g,0,none⟩) D.length c,.int .i64 (a:Int),.int .i64 (m:Int),.int .i64 (b:Int),cmpV] w (SymP g P A B Q w):=by
 obtain⟨dl,J⟩:∃n,n=D.length:=⟨_,rfl⟩
 have a5:b<=dl:=by rw[J,hD];simp only[List.length_append];omega
 have O:∀(s e:Nat) (T:List TmV) (x:World),TR x g D->RotI T D m (m - s) (e - m)->s<m->m<e->Calls prog 225 #[.slice (some ⟨g,0,none⟩) dl c,.int .i64 (s:Int),.int .i64 (m:Int),.int .i64 (e:Int),cmpV] x fun en w'=>en = .returned (.tuple #[])/\TR w' g T/\Chg (fun k=>k=g) x w':=fun s e T x h1 h2 h3 h4=>by
  have:=Ml g c s m e D T cmpV x h1 h2 h3 h4 b3;rw[<-J]at this;exact this
 have ih':∀(a m b:Nat) (E P A' B' Q:List TmV) (w:World),A'.length+B'.length<A.length+B.length->TR w g E->E.length=dl->E=P++(A'++(B'++Q))->a=P.length->m=a+A'.length->b=m+B'.length->Srt A'->Srt B'->0<A'.length->0<B'.length->Calls prog 202 #[.slice (some ⟨g,0,none⟩) dl c,.int .i64 (a:Int),.int .i64 (m:Int),.int .i64 (b:Int),cmpV] w (SymP g P A' B' Q w):=fun a m b E P A' B' Q w h1 h2 h3 h4 h5 h6 h7 h8 h9 t4 v4=>by
  have:=ih a m b E P A' B' Q w h1 h2 h4 h5 h6 h7 h8 h9 t4 v4 (by omega);rw[h3]at this;exact this
 rw[<-J]at b3 ⊢;have r4:((m:Int) - (a:Int)==1)=false:=beq_eq_false_iff_ne.2 (by omega);have n4:((b:Int) - (m:Int)==1)=false:=beq_eq_false_iff_ne.2 (by omega);have y3:a<m:=by omega
 have f3:m<b:=by omega
 obtain⟨mid,hmid⟩:∃k,k=(a+b) / 2:=⟨_,rfl⟩
 obtain⟨N,hN⟩:∃k,k=mid+m:=⟨_,rfl⟩
 have Z:((a:Int)+(b:Int)) / 2=(mid:Int):=by omega
 have f2:(mid:Int)+(m:Int)=(N:Int):=by omega
 have e4:mid<b:=by omega
 have d4:a<mid:=by omega
 have z5:N<=2147483648:=by omega
 have Y:=fun x y W=>Fs x y W;unfold tagg at Y;unfold cmpV at O ih' ⊢;clear ih;replace Y:=Aa Y;replace i0:=Aa i0;replace hD:=Aa hD;replace J:=Aa J;replace hA:=Aa hA;replace hB:=Aa hB;replace ha:=Aa ha;replace hm:=Aa hm;replace hb:=Aa hb;replace O:=Aa O;replace ih':=Aa ih';replace hmid:=Aa hmid;replace hN:=Aa hN;replace Z:=Aa Z;replace f2:=Aa f2
 go_in
 go_upto_if 140 with (fail)
 rw[Z.out,f2.out]
 go_cut [20,21] from 138 to 146 (fun s20 s21 wv=>∃lo hi:Nat,s20 = .int .i64 (lo:Int)/\s21 = .int .i64 (hi:Int)/\Hid (LoHi a m b mid N lo hi)/\wv=w)
 case first =>
  by_cases i3:mid<m
  ·have hl:=Aa (NX hN.out i3 y3 f3 hmid.out);have j3:(N:Int) - (b:Int)=((N - b:Nat):Int):=by have:=hmid.out;have:=hN.out;omega
   replace j3:=Aa j3;go_wp2_with fail
   go_meet
   case rel=>exact⟨N - b,mid,by rw[j3.out],rfl,hl,rfl⟩
  ·have hl:=Aa (LU hN.out i3 y3 f3 hmid.out);go_wp2_with fail
   go_meet
   case rel=>exact⟨a,m,rfl,rfl,hl,rfl⟩
 case rest =>
  obtain⟨lo,hi,rfl,rfl,hL,rfl⟩:=hcut;have d3:=hL.out.le;have f5:=hL.out.alo;have d5:=hL.out.him;have n5:=hL.out.nhi;have o5:=hL.out.nlo;obtain⟨wo,rfl⟩:=Ab wc;go_wp2_with fail
  go_loopw [20,21] (fun s20 s21 wr=>∃s r:Nat,s20 = .int .i64 (s:Int)/\s21 = .int .i64 (r:Int)/\lo<=s/\s<=r/\r<=hi/\Hid (SeaI D N lo hi s r/\Ext wo wr)) (fun s20 s21 _=>(intOf s21).toNat - (intOf s20).toNat)
  case atStart=>exact⟨lo,hi,rfl,rfl,Nat.le_refl _,d3,Nat.le_refl _,Aa ⟨⟨Nat.le_refl _,d3,Nat.le_refl _,.inl rfl,.inl rfl⟩,Ext.refl _⟩⟩
  case round =>
   obtain⟨s,r,rfl,rfl,e3,q6,o3,hI⟩:=hrel;by_cases i5:s<r
   ·obtain⟨h,hh⟩:∃h:Nat,((s:Int)+(r:Int)) / 2=(h:Int):=⟨(s+r) / 2,by omega⟩
    have r3:s<=h:=by omega
    have e5:h<r:=by omega
    obtain⟨e,he⟩:=Ab (N - 1 - h);have z3:(N:Int) - 1 - (h:Int)=(e:Int):=by omega
    have c5:IntKind.i64.wrap ((N:Int) - 1 - (h:Int))=(e:Int):=by rw[IntWalk.i64_in _ (by omega)];omega
    have b5:e<dl:=by omega
    obtain⟨x0,x1⟩:∃x,D[h]? = some x:=⟨_,List.getElem?_eq_getElem (by have:=J.out;omega)⟩
    obtain⟨y,hy⟩:∃y,D[e]? = some y:=⟨_,List.getElem?_eq_getElem (by have:=J.out;omega)⟩
    have d:=(i0.out.ext hI.out.2).at_ hy;have H:=(i0.out.ext hI.out.2).at_ x1;have e0:wr.cell? ⟨g,e*2,none⟩=some (.string ⟨y.1.toArray⟩)/\wr.cell? ⟨g,e*2+1,none⟩=some (.slice y.2.1 y.2.2.1 y.2.2.2)/\wr.cell? ⟨g,h*2,none⟩=some (.string ⟨x0.1.toArray⟩)/\wr.cell? ⟨g,h*2+1,none⟩=some (.slice x0.2.1 x0.2.2.1 x0.2.2.2)/\Ext wr wr:=⟨d.1,d.2,H.1,H.2,Ext.refl wr⟩
    have p1:∀w0 w1:World,(w0.cell? ⟨g,e*2,none⟩=some (.string ⟨y.1.toArray⟩)/\w0.cell? ⟨g,e*2+1,none⟩=some (.slice y.2.1 y.2.2.1 y.2.2.2)/\w0.cell? ⟨g,h*2,none⟩=some (.string ⟨x0.1.toArray⟩)/\w0.cell? ⟨g,h*2+1,none⟩=some (.slice x0.2.1 x0.2.2.1 x0.2.2.2)/\Ext wr w0)->Ext w0 w1->(w1.cell? ⟨g,e*2,none⟩=some (.string ⟨y.1.toArray⟩)/\w1.cell? ⟨g,e*2+1,none⟩=some (.slice y.2.1 y.2.2.1 y.2.2.2)/\w1.cell? ⟨g,h*2,none⟩=some (.string ⟨x0.1.toArray⟩)/\w1.cell? ⟨g,h*2+1,none⟩=some (.slice x0.2.1 x0.2.2.1 x0.2.2.2)/\Ext wr w1):=fun w0 w1 h1 h3=>⟨h3.cell h1.1,h3.cell h1.2.1,h3.cell h1.2.2.1,h3.cell h1.2.2.2.1,h1.2.2.2.2.trans h3⟩
    have e1:=p1 _ _ e0 (Ext.refl wr).drew;have b1:(h:Int)<(dl:Int):=by omega
    have b2:(e:Int)<(dl:Int):=by omega
    replace e0:=Aa e0;replace e1:=Aa e1;replace p1:=Aa p1;replace x1:=Aa x1;replace hy:=Aa hy;replace hh:=Aa hh;replace he:=Aa he;replace z3:=Aa z3;clear d H;go_upto_region 35 with (fail)
    rw[hh.out];by_cases m2:y.1<x0.1
    ·have y1:=Aa m2
     go_region_held3 (fun x=>x.cell? ⟨g,e*2,none⟩=some (.string ⟨y.1.toArray⟩)/\x.cell? ⟨g,e*2+1,none⟩=some (.slice y.2.1 y.2.2.1 y.2.2.2)/\x.cell? ⟨g,h*2,none⟩=some (.string ⟨x0.1.toArray⟩)/\x.cell? ⟨g,h*2+1,none⟩=some (.slice x0.2.1 x0.2.2.1 x0.2.2.2)/\Ext wr x) (first | exact e1.out | exact e0.out | exact ‹_› | exact p1.out _ _ ‹_› ‹_›) (first
      | (go_at_call 132;refine(Y.out y x0 _).mono ?_;rintro e w5 ⟨zc,rfl,h0,f4,i4,a2⟩;have m3:=h0.2 y1.out;have l4:decide (zc<0)=true:=decide_eq_true m3;replace h0:=Aa h0))
     have d2:=hI.out.2.trans ((Ext.refl wr).drew.trans a2);go_wp2_with fail;go_roundw
     case rel=>exact⟨s,h,rfl,rfl,e3,r3,by omega,Aa ⟨⟨e3,r3,by omega,hI.out.1.lo,.inr ⟨x0,y,x1.out,by rw[<-he.out];exact hy.out,m2⟩⟩,d2⟩⟩
     case measure=>simp[intOf];omega
    ·have y1:=Aa m2
     go_region_held3 (fun x=>x.cell? ⟨g,e*2,none⟩=some (.string ⟨y.1.toArray⟩)/\x.cell? ⟨g,e*2+1,none⟩=some (.slice y.2.1 y.2.2.1 y.2.2.2)/\x.cell? ⟨g,h*2,none⟩=some (.string ⟨x0.1.toArray⟩)/\x.cell? ⟨g,h*2+1,none⟩=some (.slice x0.2.1 x0.2.2.1 x0.2.2.2)/\Ext wr x) (first | exact e1.out | exact e0.out | exact ‹_› | exact p1.out _ _ ‹_› ‹_›) (first
      | (go_at_call 132;refine(Y.out y x0 _).mono ?_;rintro e w5 ⟨zc,rfl,h0,f4,i4,a2⟩;have m3:¬ zc<0:=fun hc=>y1.out (h0.1 hc);have l4:decide (zc<0)=false:=decide_eq_false m3;replace h0:=Aa h0))
     have d2:=hI.out.2.trans ((Ext.refl wr).drew.trans a2);go_wp2_with fail;go_roundw
     case rel=>exact⟨h+1,r,by go_num,rfl,by omega,by omega,o3,Aa ⟨⟨by omega,by omega,o3,.inr ⟨x0,y,by rw[show h+1 - 1=h by omega];exact x1.out,by rw[show N - (h+1)=e by have:=he.out;omega];exact hy.out,m2⟩,hI.out.1.hi⟩,d2⟩⟩
     case measure=>simp[intOf];omega
   ·obtain rfl:s=r:=by omega
    have r0:=hI.out.1.cut hL.out hD.out ha.out hm.out hb.out;obtain⟨p,hp⟩:=Ab (s - a);obtain⟨q,hq⟩:=Ab (N - s - m);obtain⟨en,a3⟩:=Ab (N - s);rw[<-hp,<-hq]at r0;obtain⟨A1,q0⟩:∃x,x=A.take p:=⟨_,rfl⟩
    obtain⟨A2,g0⟩:∃x,x=A.drop p:=⟨_,rfl⟩
    obtain⟨B1,p0⟩:∃x,x=B.take q:=⟨_,rfl⟩
    obtain⟨B2,t0⟩:∃x,x=B.drop q:=⟨_,rfl⟩
    have p3:=fun M1 M2 (h1:Mrg A1 B1 M1) (h2:Mrg A2 B2 M2)=>r0.mrg hA.out hB.out (M1:=M1) (M2:=M2) (by rw[<-q0,<-p0];exact h1) (by rw[<-g0,<-t0];exact h2);have m0:A=A1++A2:=by rw[q0,g0,List.take_append_drop]
    have v0:B=B1++B2:=by rw[p0,t0,List.take_append_drop]
    have G:=hA.out;have I:=hB.out;have n0:=hm.out;have o0:=hb.out;have o1:=ha.out;rw[m0]at G n0;rw[v0]at I o0;rw[List.length_append]at n0 o0;have l1:A1.length=p:=by rw[q0,List.length_take];have:=r0.ile;omega
    have l2:B1.length=q:=by rw[p0,List.length_take];have:=r0.jle;omega
    have c0:D=P++(A1++(A2++(B1++(B2++Q)))):=by rw[hD.out,m0,v0];simp
    obtain⟨T,hT⟩:=Ab (P++(A1++(B1++(A2++(B2++Q)))));have i1:T.length=dl:=by rw[J.out,c0,hT];simp only[List.length_append];omega
    have q1:(N:Int) - (s:Int)=(en:Int):=by omega
    have p2:s<m->m<en->RotI T D m (m - s) (en - m):=fun h1 h2=>⟨⟨P++A1,A2,B1,B2++Q,by rw[c0];simp,by rw[List.length_append];omega,by omega,by omega,by rw[hT];simp⟩,by omega,by omega⟩
    have q2:¬ (s<m/\m<en)->D=T:=fun h=>by
     rw[c0,hT];by_cases h1:s<m
     ·have:B1 = []:=List.length_eq_zero_iff.1 (by have:=fun h2=>h ⟨h1,h2⟩;omega);rw[this];rfl
     ·have:A2 = []:=List.length_eq_zero_iff.1 (by omega);rw[this];rfl
    have o2:A1.length+B1.length<A.length+B.length:=by rw[m0,v0,List.length_append,List.length_append];have:=hmid.out;have:=hN.out;omega
    have q3:A2.length+B2.length<A.length+B.length:=by rw[m0,v0,List.length_append,List.length_append];have:=hmid.out;have:=hN.out;omega
    have k1:mid=s+B1.length:=by have:=hN.out;omega
    have k2:en=mid+A2.length:=by have:=hN.out;omega
    have k3:b=en+B2.length:=by have:=hN.out;omega
    have k4:s=a+A1.length:=by omega
    have l0:=i0.out.ext hI.out.2;have b0:=Chg.of_ext hI.out.2 (fun k=>k=g);have k5:s<b:=by omega
    have o4:en<=b:=by omega
    have w4:m<=en:=by omega
    obtain⟨we,rfl⟩:=Ab wr;replace p2:=Aa p2;replace q2:=Aa q2;replace p3:=Aa p3;replace hT:=Aa hT;replace i1:=Aa i1;replace c0:=Aa c0;replace q1:=Aa q1;replace o2:=Aa o2;replace q3:=Aa q3;replace G:=Aa G;replace I:=Aa I;replace k1:=Aa k1;replace k2:=Aa k2;replace k3:=Aa k3;replace k4:=Aa k4;replace l0:=Aa l0;replace b0:=Aa b0;replace o1:=Aa o1;replace a3:=Aa a3;clear hp hq r0 q0 g0 p0 t0 m0 v0 n0 o0 l1 l2;obtain⟨t1,d⟩:∃t:Bool,t=(decide (s<m)&&decide (m<en)):=⟨_,rfl⟩
    replace d:=Aa d;go_upto_region 39 with (fail)
    rw[q1.out]
    go_cut [185] from 178 to 185 (fun sx wv=>sx = .bool t1/\wv=we)
    case first =>
     by_cases c1:s<m
     ·have c1b:decide (s<m)=true:=decide_eq_true c1;by_cases c2:m<en
      ·have c2b:decide (m<en)=true:=decide_eq_true c2;have ht:=d.out;rw[c1b,c2b]at ht;replace ht:=Aa ht;go_wp2_with fail
       go_meet
       case rel=>exact⟨by rw[ht.out];rfl,rfl⟩
      ·have c2b:decide (m<en)=false:=decide_eq_false c2;have ht:=d.out;rw[c1b,c2b]at ht;replace ht:=Aa ht;go_wp2_with fail
       go_meet
       case rel=>exact⟨by rw[ht.out];rfl,rfl⟩
     ·have c1b:decide (s<m)=false:=decide_eq_false c1;have ht:=d.out;rw[c1b]at ht;replace ht:=Aa ht;go_wp2_with fail
      go_meet
      case rel=>exact⟨by rw[ht.out];rfl,rfl⟩
    case' rest=>obtain⟨rfl,rfl⟩:=hcut
    go_upto_if 185 with (fail)
    go_cut [24] from 186 to 191 (fun s24 wv=>s24 = .int .i64 (en:Int)/\Hid (TR wv g T/\Chg (fun k=>k=g) wo wv))
    case first =>
     cases t1 with
     | true =>
      have hc:=d.out.symm;simp only[Bool.and_eq_true,decide_eq_true_eq]at hc;have hr:=Aa (O.out s en T wc l0.out (p2.out hc.1 hc.2) hc.1 hc.2);clear hc;go_wp2_with fail;refine hr.out.mono ?_;rintro e w6 ⟨rfl,f0,y0⟩;go_wp2_with fail
      go_meet
      case rel=>exact⟨rfl,Aa ⟨f0,b0.out.trans y0 fun _ _ h=>h⟩⟩
     | false =>
      have y4:=Aa (q2.out fun h=>by have:=d.out;rw[decide_eq_true h.1,decide_eq_true h.2]at this;cases this);go_wp2_with fail
      go_meet
      case rel=>exact⟨rfl,Aa ⟨by rw[<-y4.out];exact l0.out,b0.out⟩⟩
    case rest =>
     obtain⟨rfl,f1⟩:=hcut;obtain⟨wf,rfl⟩:=Ab wc;clear p2 q2 l0 b0 O Y;have j1:a<s->s<mid->Calls prog 202 #[.slice (some ⟨g,0,none⟩) dl c,.int .i64 (a:Int),.int .i64 (s:Int),.int .i64 (mid:Int),cmpV] wf (SymP g P A1 B1 (A2++(B2++Q)) wf):=fun h1 h2 =>
      ih'.out a s mid T P A1 B1 (A2++(B2++Q)) wf o2.out f1.out.1 i1.out hT.out o1.out k4.out k1.out G.out.left I.out.left (by have:=k4.out;omega) (by have:=k1.out;omega)
     have n1:¬ (a<s/\s<mid)->Mrg A1 B1 (A1++B1):=fun h=>by
      by_cases h1:a<s
      ·have:B1 = []:=List.length_eq_zero_iff.1 (by have:=k1.out;have:=fun h2=>h ⟨h1,h2⟩;omega);rw[this,List.append_nil];exact Mrg.nil_right G.out.left
      ·have:A1 = []:=List.length_eq_zero_iff.1 (by have:=k4.out;omega);rw[this];exact Mrg.nil_left I.out.left
     have r5:s<=mid:=by have:=k1.out;omega
     have l5:mid<=en:=by have:=k2.out;omega
     unfold cmpV at j1;replace j1:=Aa j1;replace n1:=Aa n1;obtain⟨t2,H⟩:∃t:Bool,t=(decide (a<s)&&decide (s<mid)):=⟨_,rfl⟩
     replace H:=Aa H;go_upto_region 41 with (fail)
     go_cut [199] from 192 to 199 (fun sx wv=>sx = .bool t2/\wv=wf)
     case first =>
      by_cases c1:a<s
      ·have c1b:decide (a<s)=true:=decide_eq_true c1;by_cases c2:s<mid
       ·have c2b:decide (s<mid)=true:=decide_eq_true c2;have ht:=H.out;rw[c1b,c2b]at ht;replace ht:=Aa ht;go_wp2_with fail
        go_meet
        case rel=>exact⟨by rw[ht.out];rfl,rfl⟩
       ·have c2b:decide (s<mid)=false:=decide_eq_false c2;have ht:=H.out;rw[c1b,c2b]at ht;replace ht:=Aa ht;go_wp2_with fail
        go_meet
        case rel=>exact⟨by rw[ht.out];rfl,rfl⟩
      ·have c1b:decide (a<s)=false:=decide_eq_false c1;have ht:=H.out;rw[c1b]at ht;replace ht:=Aa ht;go_wp2_with fail
       go_meet
       case rel=>exact⟨by rw[ht.out];rfl,rfl⟩
     case' rest=>obtain⟨rfl,rfl⟩:=hcut
     go_upto_if 199 with (fail)
     go_cut [24] from 200 to 205 (fun s24 wv=>s24 = .int .i64 (en:Int)/\∃M1,Hid (Mrg A1 B1 M1/\TR wv g (P++(M1++(A2++(B2++Q))))/\Chg (fun k=>k=g) wo wv))
     case first =>
      cases t2 with
      | true =>
       have hc:=H.out.symm;simp only[Bool.and_eq_true,decide_eq_true_eq]at hc;have hr:=Aa (j1.out hc.1 hc.2);clear hc;go_wp2_with fail;refine hr.out.mono ?_;rintro e w6 ⟨rfl,M1,z4,f0,y0⟩;go_wp2_with fail
       go_meet
       case rel=>exact⟨rfl,M1,Aa ⟨z4,f0,f1.out.2.trans y0 fun _ _ h=>h⟩⟩
      | false =>
       have m1:=Aa (n1.out fun h=>by have:=H.out;rw[decide_eq_true h.1,decide_eq_true h.2]at this;cases this);go_wp2_with fail
       go_meet
       case rel=>exact⟨rfl,_,Aa ⟨m1.out,by rw[List.append_assoc,<-hT.out];exact f1.out.1,f1.out.2⟩⟩
     case rest =>
      obtain⟨rfl,M1,hM⟩:=hcut;obtain⟨wg,rfl⟩:=Ab wc;have d0:=hM.out.1.2.len;rw[List.length_append]at d0;have i2:(P++M1).length=mid:=by rw[List.length_append];have:=k1.out;have:=k4.out;have:=o1.out;omega
      have e2:(P++(M1++(A2++(B2++Q)))).length=dl:=by rw[<-i1.out,hT.out];simp only[List.length_append];omega
      have j2:mid<en->en<b->Calls prog 202 #[.slice (some ⟨g,0,none⟩) dl c,.int .i64 (mid:Int),.int .i64 (en:Int),.int .i64 (b:Int),cmpV] wg (SymP g (P++M1) A2 B2 Q wg):=fun h1 h2 =>
       ih'.out mid en b _ (P++M1) A2 B2 Q wg q3.out hM.out.2.1 e2 (by simp) i2.symm k2.out k3.out G.out.right I.out.right (by have:=k2.out;omega) (by have:=k3.out;omega)
      have n2:¬ (mid<en/\en<b)->Mrg A2 B2 (A2++B2):=fun h=>by
       by_cases h1:mid<en
       ·have:B2 = []:=List.length_eq_zero_iff.1 (by have:=k3.out;have:=fun h2=>h ⟨h1,h2⟩;omega);rw[this,List.append_nil];exact Mrg.nil_right G.out.right
       ·have:A2 = []:=List.length_eq_zero_iff.1 (by have:=k2.out;omega);rw[this];exact Mrg.nil_left I.out.right
      have U:∀(M2:List TmV) (x:World),Mrg A2 B2 M2->TR x g ((P++M1)++(M2++Q))->Chg (fun k=>k=g) wo x->SymP g P A B Q wo (.returned (.tuple #[])) x:=fun M2 x h1 h2 h3 =>
       ⟨rfl,M1++M2,p3.out M1 M2 hM.out.1 h1,by rw[List.append_assoc,<-List.append_assoc P];exact h2,h3⟩
      unfold cmpV at j2;replace j2:=Aa j2;replace n2:=Aa n2;replace U:=Aa U;replace d0:=Aa d0;replace i2:=Aa i2;replace e2:=Aa e2;by_cases c1:mid<en
      ·by_cases c2:en<b
       ·have hr:=Aa (j2.out c1 c2);have c1b:decide (mid<en)=true:=decide_eq_true c1;have c2b:decide (en<b)=true:=decide_eq_true c2;go_wp2_with fail;refine hr.out.mono ?_;rintro e w6 ⟨rfl,M2,a4,f0,y0⟩;go_wp2_with fail
        go_end0
        exact U.out M2 w6 a4 f0 (hM.out.2.2.trans y0 fun _ _ h=>h)
       ·have c1b:decide (mid<en)=true:=decide_eq_true c1;have c2b:decide (en<b)=false:=decide_eq_false c2;have m1:=Aa (n2.out fun h=>c2 h.2);go_wp2_with fail
        go_end0
        exact U.out _ wg m1.out (by have:=hM.out.2.1;simpa only[List.append_assoc]using this) hM.out.2.2
      ·have c1b:decide (mid<en)=false:=decide_eq_false c1;have m1:=Aa (n2.out fun h=>c1 h.1);go_wp2_with fail
       go_end0
       exact U.out _ wg m1.out (by have:=hM.out.2.1;simpa only[List.append_assoc]using this) hM.out.2.2
theorem Fq (g c:Nat):∀(n a m b:Nat) (D P A B Q:List TmV) (w:World),A.length+B.length<n->TR w g D->D=P++(A++(B++Q))->a=P.length->m=a+A.length->b=m+B.length->Srt A->Srt B->0<A.length->0<B.length->D.length<=1073741824 ->
 Calls prog 202 #[.slice (some ⟨g,0,none⟩) D.length c,.int .i64 (a:Int),.int .i64 (m:Int),.int .i64 (b:Int),cmpV] w (SymP g P A B Q w)
 | 0,_,_,_,_,_,_,_,_,_,h,_,_,_,_,_,_,_,_,_,_=>absurd h (Nat.not_lt_zero _)
 | n+1,a,m,b,D,P,A,B,Q,w,h,U,J,O,Z,hb,G,I,h0,q0,d=>by
  by_cases H:A.length=1
  ·obtain⟨z,rfl⟩:=List.length_eq_one_iff.1 H;exact Qc g c a m b D P B Q z w U J O Z hb I d
  ·by_cases Y:B.length=1
   ·obtain⟨z,rfl⟩:=List.length_eq_one_iff.1 Y;exact OL g c a m b D P A Q z w U J O Z hb G (by omega) d
   ·exact Rb g c a m b D P A B Q w U J O Z hb G I (by omega) (by omega) d fun a m b D P A' B' Q w p0=>Fq g c n a m b D P A' B' Q w (by omega)
inductive Bk (k:Nat):List TmV->List TmV->Prop
  | nil:Bk k [] []
  | last (X S:List TmV):0<X.length->X.length<=k->Std X S->Bk k X S
  | cons (X S d e:List TmV):X.length=k->Std X S->0<d.length->Bk k d e->Bk k (X++d) (S++e)
inductive BdS (k:Nat):List TmV->List TmV->Prop
  | nil:BdS k [] []
  | snoc (d e X S:List TmV):BdS k d e->X.length=k->Std X S->BdS k (d++X) (e++S)
theorem Bk.len {d e:List TmV} (h:Bk k d e):e.length=d.length:=by
 induction h with
 | nil=>rfl
 | last X S _ _ h=>exact h.2.len
 | cons X S d e _ h _ _ ih=>rw[List.length_append,List.length_append,ih,h.2.len]
theorem BdS.len {d e:List TmV} (h:BdS k d e):e.length=d.length:=by
 induction h with
 | nil=>rfl
 | snoc d e X S _ _ h ih=>rw[List.length_append,List.length_append,ih,h.2.len]
theorem Bk.empty {e:List TmV} (h:Bk k [] e):e = []:=List.length_eq_zero_iff.1 h.len
theorem Bk.push {X S d e:List TmV} (hk:0<k) (Y:X.length=k) (H:Std X S) (h:Bk k d e):Bk k (X++d) (S++e):=by
 by_cases hd:d = []
 ·subst hd;rw[h.empty,List.append_nil,List.append_nil];exact .last X S (by omega) (by omega) H
 ·exact .cons X S d e Y H (List.length_pos_iff.2 hd) h
theorem BdS.bk {d e:List TmV} (hk:0<k) (h:BdS k d e):∀ {d' e':List TmV},Bk k d' e'->Bk k (d++d') (e++e'):=by
 induction h with
 | nil=>exact fun h=>h
 | snoc d e X S _ Y H ih =>
  intro d' e' h;rw[List.append_assoc,List.append_assoc];exact ih (Bk.push hk Y H h)
theorem Bk.two {d e:List TmV} (h:Bk k d e) (hk:0<k) (O:2*k<=d.length):∃X S Y T d' e',d=X++(Y++d')/\e=S++(T++e')/\X.length=k/\Y.length=k/\Std X S/\Std Y T/\Bk k d' e':=by
 cases h with
 | nil=>simp at O;omega
 | last X S h1 h2 H=>omega
 | cons X S d e U J hd h2 =>
  rw[List.length_append]at O;cases h2 with
  | nil=>simp at hd
  | last Y T h1 H Z=>exact⟨X,S,d,e,[],[],by simp,by simp,U,by omega,J,Z,.nil⟩
  | cons Y T d' e' I G h0 H=>exact⟨X,S,Y,T,d',e',rfl,rfl,U,I,J,G,H⟩
theorem Bk.few {d e:List TmV} (h:Bk k d e) (J:d.length<2*k):(d.length<=k/\Bk (2*k) d e)\/(∃X S Y T,d=X++Y/\e=S++T/\X.length=k/\0<Y.length/\Std X S/\Std Y T):=by
 cases h with
 | nil=>exact .inl ⟨Nat.zero_le _,.nil⟩
 | last X S h1 h2 H=>exact .inl ⟨h2,.last _ _ h1 (by omega) H⟩
 | cons X S d e Z O hd h2 =>
  rw[List.length_append]at J;cases h2 with
  | nil=>simp at hd
  | last Y T h1 H U=>exact .inr ⟨X,S,d,e,rfl,rfl,Z,h1,O,U⟩
  | cons Y T d' e' hY I G H=>rw[List.length_append]at J;omega
theorem Bk.whole {d e:List TmV} (h:Bk k d e) (Y:d.length<=k):Std d e:=by
 cases h with
 | nil=>exact⟨List.Pairwise.nil,Stb.refl _⟩
 | last X S h1 h2 H=>exact H
 | cons X S d e U J hd h2=>rw[List.length_append]at Y;omega
theorem MA (g c:Nat) (D:List TmV) (w:World) (m1:TR w g D) (i2:D.length<=268435456) :
 Calls prog 176 #[.slice (some ⟨g,0,none⟩) D.length c,.int .i64 (D.length:Int),cmpV] w fun e w'=>e = .returned (.tuple #[])/\∃E,Std D E/\TR w' g E/\Chg (fun k=>k=g) w w':=by
 obtain⟨n,hn⟩:=Ab D.length;have p0:∀(a b:Nat) (E P X Q:List TmV) (x:World),TR x g E->E.length=n->E=P++(X++Q)->a=P.length->b=P.length+X.length->Calls prog 201 #[.slice (some ⟨g,0,none⟩) n c,.int .i64 (a:Int),.int .i64 (b:Int),cmpV] x fun e w'=>e = .returned (.tuple #[])/\∃S,Std X S/\TR w' g (P++(S++Q))/\Chg (fun k=>k=g) x w':=fun a b E P X Q x h1 h2 h3 h4 h5=>by
  have:=HW g c a b E P X Q x h1 h3 h4 h5 (by omega);rw[h2]at this;exact this
 have k0:∀(a m b:Nat) (E P A B Q:List TmV) (x:World),TR x g E->E.length=n->E=P++(A++(B++Q))->a=P.length->m=a+A.length->b=m+B.length->Srt A->Srt B->0<A.length->0<B.length->Calls prog 202 #[.slice (some ⟨g,0,none⟩) n c,.int .i64 (a:Int),.int .i64 (m:Int),.int .i64 (b:Int),cmpV] x (SymP g P A B Q x):=fun a m b E P A B Q x h1 h2 h3 h4 h5 h6 h7 h8 h9 p2=>by
  have:=Fq g c _ a m b E P A B Q x (Nat.lt_succ_self _) h1 h3 h4 h5 h6 h7 h8 h9 p2 (by omega);rw[h2]at this;exact this
 rw[<-hn]at i2 ⊢;unfold cmpV at p0 k0 ⊢;replace p0:=Aa p0;replace k0:=Aa k0;replace m1:=Aa m1;replace hn:=Aa hn
 go_in
 go_wp2_with fail
 go_loopw [7,8] (fun s7 s8 wr=>∃(a:Nat) (d:List TmV),s7 = .int .i64 (a:Int)/\s8 = .int .i64 ((a:Int)+20)/\a<=n/\Hid (BdS 20 (D.take a) d/\TR wr g (d++D.drop a)/\Chg (fun k=>k=g) w wr)) (fun s7 _ _=>n - (intOf s7).toNat)
 case atStart=>exact⟨0,[],rfl,rfl,Nat.zero_le _,Aa ⟨.nil,m1.out,Chg.refl _ _⟩⟩
 case round =>
  obtain⟨a,d,rfl,rfl,x2,hI⟩:=hrel;have y0:d.length=a:=by rw[hI.out.1.len,List.length_take];have:=hn.out;omega
  have O:(d++D.drop a).length=n:=by rw[List.length_append,List.length_drop];have:=hn.out;omega
  by_cases hb:a+20<=n
  ·have a2:(a:Int)+20<=(n:Int):=by omega
   have h1:=p0.out a (a+20) _ d ((D.drop a).take 20) (D.drop (a+20)) wr hI.out.2.1 O (by rw[<-List.drop_drop,List.take_append_drop]) y0.symm (by rw[List.length_take,List.length_drop];have:=hn.out;omega);have y1:((a+20:Nat):Int)=(a:Int)+20:=by omega
   rw[y1]at h1;have d0:((D.drop a).take 20).length=20:=by rw[List.length_take,List.length_drop];have:=hn.out;omega
   have e1:D.take (a+20)=D.take a++(D.drop a).take 20:=by rw[List.take_add]
   replace h1:=Aa h1;replace y0:=Aa y0;replace O:=Aa O;replace e1:=Aa e1;replace d0:=Aa d0;replace y1:=Aa y1;go_wp2_with fail;refine h1.out.mono ?_;rintro e w1 ⟨rfl,S,hS,hT,hC⟩;replace hT:=Aa hT;replace hC:=Aa hC;replace hS:=Aa hS;go_wp2_with fail;go_roundw
   case rel=>exact⟨a+20,d++S,by go_num,by go_num,hb,Aa ⟨by rw[e1.out];exact .snoc _ _ _ _ hI.out.1 d0.out hS.out,by rw[List.append_assoc];exact hT.out,hI.out.2.2.trans hC.out fun _ _ h=>h⟩⟩
   case measure=>simp[intOf];omega
  ·have a2:¬ (a:Int)+20<=(n:Int):=by omega
   have h1:=Aa (p0.out a n _ d (D.drop a) [] wr hI.out.2.1 O (by rw[List.append_nil]) y0.symm (by rw[List.length_drop];have:=hn.out;omega));have Z:(D.drop a).length<=20:=by rw[List.length_drop];have:=hn.out;omega
   have k1:=List.take_append_drop a D;obtain⟨wo,rfl⟩:=Ab wr;replace y0:=Aa y0;replace O:=Aa O;replace Z:=Aa Z;replace k1:=Aa k1;go_wp2_with fail;refine h1.out.mono ?_;rintro e w1 ⟨rfl,S,hS,hT,hC⟩;have r0:Bk 20 D (d++S):=by
    rw[<-k1.out];refine hI.out.1.bk (by omega) ?_;by_cases he:D.drop a = []
    ·have:=hS.2.len;rw[he]at this ⊢;rw[List.length_eq_zero_iff.1 this];exact .nil
    ·exact .last _ _ (List.length_pos_iff.2 he) Z.out hS
   rw[List.append_nil]at hT;have q1:=hI.out.2.2.trans hC fun _ _ h=>h;replace r0:=Aa r0;replace hT:=Aa hT;replace q1:=Aa q1;replace hS:=Aa hS;replace hC:=Aa hC;clear h1;go_wp2_with fail
   go_loopw [6] (fun s6 wr=>∃(k:Nat) (E:List TmV),s6 = .int .i64 (k:Int)/\20<=k/\k<=2*n+20/\Hid (Bk k D E/\TR wr g E/\Chg (fun k=>k=g) w wr)) (fun s6 _=>n - (intOf s6).toNat)
   case atStart=>exact⟨20,d++S,rfl,Nat.le_refl _,by omega,Aa ⟨r0.out,hT.out,q1.out⟩⟩
   case round =>
    obtain⟨k,E,rfl,p3,y3,hJ⟩:=hrel;obtain⟨wq,rfl⟩:=Ab wr;by_cases z3:k<n
    ·have d1:Bk k D E:=hJ.out.1;have x1:=hJ.out.2.1;have p1:=hJ.out.2.2;replace d1:=Aa d1;replace x1:=Aa x1;replace p1:=Aa p1;go_wp2_with fail
     go_loopw [7,8] (fun s7 s8 wr=>∃(a b:Nat) (d e d' e':List TmV),s7 = .int .i64 (a:Int)/\s8 = .int .i64 (b:Int)/\a<=n/\b<=n+2*k/\Hid (b=a+2*k/\d.length=a/\BdS (2*k) d e/\Bk k d' e'/\D=d++d'/\TR wr g (e++e')/\Chg (fun k=>k=g) w wr)) (fun s7 _ _=>n - (intOf s7).toNat)
     case atStart=>exact⟨0,2*k,[],[],D,E,rfl,by congr 1,Nat.zero_le _,by omega,Aa ⟨by omega,rfl,.nil,d1.out,rfl,x1.out,p1.out⟩⟩
     case round =>
      obtain⟨a,b,d,e,d',e',rfl,rfl,x2,x3,hK⟩:=hrel;obtain⟨x0,f0,h0,G,q0,hT,hC⟩:=hK.out;have a1:=h0.len;have i0:=G.len;have c0:=hn.out;rw[q0,List.length_append]at c0;have O:(e++e').length=n:=by rw[List.length_append];omega
      have e0:((a+k:Nat):Int)=(a:Int)+(k:Int):=by omega
      by_cases y2:b<=n
      ·obtain⟨X,S,Y,T,d2,e2,I,b0,Z,m0,J,U,o0⟩:=G.two (by omega) (by omega);have h1:=k0.out a (a+k) b _ e S T e2 wr hT O (by rw[b0]) (by omega) (by rw[J.2.len];omega) (by rw[U.2.len];omega) J.1 U.1 (by rw[J.2.len];omega) (by rw[U.2.len];omega);rw[e0]at h1;replace h1:=Aa h1;replace x0:=Aa x0;replace f0:=Aa f0;replace h0:=Aa h0;replace q0:=Aa q0;replace hC:=Aa hC;replace I:=Aa I;replace Z:=Aa Z;replace m0:=Aa m0;replace J:=Aa J;replace U:=Aa U;replace o0:=Aa o0;clear hT G a1 i0 c0 O e0 b0;go_wp2_with fail;refine h1.out.mono ?_;rintro en w1 ⟨rfl,M,hM,v0,t0⟩;replace hM:=Aa hM;replace v0:=Aa v0;replace t0:=Aa t0;go_wp2_with fail;go_roundw
       case rel=>exact⟨b,b+2*k,d++(X++Y),e++M,d2,e2,rfl,by congr 1,y2,by omega,Aa ⟨rfl,by rw[List.length_append,List.length_append];have:=x0.out;have:=f0.out;have:=Z.out;have:=m0.out;omega,.snoc _ _ _ _ h0.out (by rw[List.length_append];have:=Z.out;have:=m0.out;omega) (J.out.mrg U.out hM.out),o0.out,by rw[q0.out,I.out];simp,by rw[List.append_assoc];exact v0.out,hC.out.trans t0.out fun _ _ h=>h⟩⟩
       case measure=>have:=x0.out;simp[intOf];omega
      ·have l0:=G.few (by omega);by_cases hm:a+k<n
       ·rcases l0 with ⟨h1,h2⟩ | ⟨X,S,Y,T,I,b0,Z,m0,J,U⟩
        ·omega
        ·have m2:n=a+k+Y.length:=by rw[I,List.length_append]at c0;omega
         have h1:=k0.out a (a+k) n _ e S T [] wr hT O (by rw[b0,List.append_nil]) (by omega) (by rw[J.2.len];omega) (by rw[U.2.len];omega) J.1 U.1 (by rw[J.2.len];omega) (by rw[U.2.len];omega);rw[e0]at h1;have H:∀(M:List TmV) (x:World),Mrg S T M->TR x g (e++(M ++ []))->Chg (fun k=>k=g) wr x->Bk (2*k) D (e++M)/\TR x g (e++M)/\Chg (fun k=>k=g) w x:=fun M x h2 h3 h4 =>
          ⟨by rw[q0];exact h0.bk (by omega) (by rw[I];exact .last _ _ (by rw[List.length_append];omega) (by rw[List.length_append];omega) (J.mrg U h2)),by rw[List.append_nil]at h3;exact h3,hC.trans h4 fun _ _ h=>h⟩
         have o2:(a:Int)+(k:Int)<(n:Int):=by omega
         replace h1:=Aa h1;replace H:=Aa H;clear x0 f0 h0 G q0 hT hC I b0 Z m0 J U m2 hK a1 i0 c0 O e0;go_wp2_with fail;refine h1.out.mono ?_;rintro en w1 ⟨rfl,M,hM,v0,t0⟩;have hf:=Aa (H.out M w1 hM v0 t0);clear hM v0 t0;go_wp2_with fail;go_roundw
         case rel=>exact⟨2*k,e++M,by congr 1;omega,by omega,by omega,hf⟩
         case measure=>simp[intOf];omega
       ·have H:Bk (2*k) D (e++e'):=by
         rcases l0 with ⟨h1,h2⟩ | ⟨X,S,Y,T,I,b0,Z,m0,J,U⟩
         ·rw[q0];exact h0.bk (by omega) h2
         ·rw[I,List.length_append]at c0;omega
        have o2:¬ (a:Int)+(k:Int)<(n:Int):=by omega
        have hf:=Aa (And.intro H (And.intro hT hC));clear x0 f0 h0 G q0 hT hC hK a1 i0 c0 O e0 l0 H;go_wp2_with fail;go_roundw
        case rel=>exact⟨2*k,e++e',by congr 1;omega,by omega,by omega,hf⟩
        case measure=>simp[intOf];omega
    ·have H:Std D E:=hJ.out.1.whole (by have:=hn.out;omega);replace H:=Aa H;go_wp2_with fail
     go_end0
     exact⟨rfl,E,H.out,hJ.out.2.1,hJ.out.2.2⟩
theorem Hw (g c:Nat) (D:List TmV) (w:World) (H:TR w g D) (d:D.length<=268435456) :
 Calls prog 131 #[.slice (some ⟨g,0,none⟩) D.length c,cmpV] w fun e w'=>e = .returned (.tuple #[])/\∃E,Std D E/\TR w' g E/\Chg (fun k=>k=g) w w':=by
 have h:=MA g c D w H d;obtain⟨n,hn⟩:=Ab D.length;rw[<-hn]at h d ⊢;unfold cmpV at h ⊢;replace h:=Aa h;replace hn:=Aa hn
 go_in
 go_wp2_with fail;refine h.out.mono ?_;rintro e w1 ⟨rfl,E,J,U,Y⟩;go_wp2_with fail
 go_end0
 exact⟨rfl,E,J,U,Y⟩
def OwnB (w:World) (base:Nat) (l:List UInt8) (e:Ending) (w':World):Prop:=∃A c,e = .returned (.slice A l.length c)/\Own8 w' base A l.length c l/\Ext w w'
theorem Own8.ext (h:Own8 w base A n c l) (d:Ext w w1):Own8 w1 base A n c l:=⟨h.1,h.2.ext d⟩
theorem RS (h:z=(q:Int)) (d:q<18446744073709551616):IntKind.u64.wrap z=(q:Int):=by rw[h];exact AH d
theorem AY {α:Type} {l:List α} {x:α} (h:l[i]? = some x):l.drop i=x::l.drop (i+1):=by
 obtain⟨hi,rfl⟩:=List.getElem?_eq_some_iff.1 h;exact List.drop_eq_getElem_cons hi
theorem BW {n lo x:Int} {t:List Int} (h:risB n lo (x::t)=true):lo<x/\x<n/\risB n x t=true:=by
 unfold risB at h;rw[Bool.and_eq_true,Bool.and_eq_true]at h;exact⟨of_decide_eq_true h.1.1,of_decide_eq_true h.1.2,h.2⟩
theorem OJ (base:Nat) (A B:Option Addr) (n c k c2:Nat) (l:List UInt8) (last N:Int) (xs:List Int) (w:World) (hb:Own8 w base A n c l) (q0:base<=w.heap.size) (hk:k=xs.length) (hx:Cells w B (xs.map IV))
 (hr:risB N last xs=true) (j0 : -1<=last) (J:last<=1099511627776) (hN:N<=1099511627776) (d1:n+10*k<=1000000000) :
 Calls prog 84 #[.slice A n c,.int .i64 last,.slice B k c2] w fun e w'=>OwnB w base (l++stepsL last xs) e w':=by
 have y0:=Aa (fun A n c x l W h1 h2 h3 h4 h5=>Cm A n c x l W h1 h2 h3 h4 h5);obtain⟨Z,hZ⟩:=Ab (l++stepsL last xs);rw[<-hZ];replace hZ:=Aa hZ;replace hb:=Aa hb;replace hk:=Aa hk;replace hx:=Aa hx;replace hr:=Aa hr
 go_in
 go_wp2_with fail
 go_loopw [0,1,11] (fun s0 s1 s11 wr=>∃(i n1 c1:Nat) (A1:Option Addr) (L:List UInt8) (p:Int),s0 = .slice A1 n1 c1/\s1 = .int .i64 p/\s11 = .int .i64 (i:Int)/\i<=k /\ -1<=p/\p<=1099511627776/\n1<=n+10*i/\Hid (Z=L++stepsL p (xs.drop i))/\Hid (risB N p (xs.drop i)=true)/\Hid (Own8 wr base A1 n1 c1 L)/\Hid (Ext w wr)) (fun _ _ s11 _=>k - (intOf s11).toNat)
 case atStart=>exact⟨0,n,c,A,l,last,rfl,rfl,rfl,by omega,j0,J,by omega,Aa (by rw[hZ.out];rfl),hr,hb,Aa (Ext.refl w)⟩
 case round =>
  obtain⟨i,n1,c1,A1,L,p,rfl,rfl,rfl,hi,f1,i1,e1,t0,q1,d,hE⟩:=hrel;by_cases h:i<k
  ·obtain⟨x,U⟩:∃x,xs[i]? = some x:=⟨_,List.getElem?_eq_getElem (by rw[<-hk.out];exact h)⟩
   obtain⟨g,o,hA,p0⟩:=hx.out.at_ (by rw[List.length_map,<-hk.out];omega);subst hA;have o0:=hE.out.cell (p0 i (IV x) (by rw[List.getElem?_map,U];rfl));unfold IV at o0;have k0:=AY U;have H:=q1.out;have I:=t0.out;rw[k0]at H I;obtain⟨o1,p2,Y⟩:=BW H;obtain⟨q,hq⟩:∃q:Nat,(q:Int)=x - p - 1:=⟨(x - p - 1).toNat,by omega⟩
   have q2:=RS (z:=x - p - 1) hq.symm (by omega);have b0:q<18446744073709551616:=by omega
   have i0:Hid (Z=(L++vb q)++stepsL x (xs.drop (i+1))):=Aa (by
    rw[I,List.append_assoc];show _++(vb (x - p - 1).toNat++_)=_;rw[<-hq];rfl)
   have v0:=Ag b0;have n0:=Aa (y0.out A1 n1 c1 q L wr d.out.1 d.out.2.cells (d.out.nil_) (by omega) b0);have G:L.length=n1:=d.out.1.symm;have l0:=Nat.le_trans q0 hE.out.size;have hlen:(L++vb q).length<=n+10*(i+1):=by rw[List.length_append,G];omega
   replace p0:=Aa p0;replace U:=Aa U;replace k0:=Aa k0;replace G:=Aa G;replace Y:=Aa Y;clear H I v0;replace hq:=Aa hq;go_wp2_with fail;refine n0.out.mono ?_;rintro e w2 f0;obtain⟨A2,c2,rfl,m0,O⟩:=f0;have x0:Hid (Own8 w2 base A2 (L++vb q).length c2 (L++vb q)):=Aa ⟨rfl,m0.lower l0⟩;obtain⟨n2,g0⟩:=Ab ((L++vb q).length);rw[<-g0]at x0 hlen ⊢;replace g0:=Aa g0;replace O:=Aa (hE.out.trans O);clear m0;go_wp2_with fail;exact⟨⟨i+1,n2,c2,A2,L++vb q,x,rfl,rfl,rfl,by omega,by omega,by omega,by omega,i0,Y,x0,O⟩,by simp only[intOf];omega⟩
  ·obtain rfl:i=k:=by omega
   have h0:Z=L:=by rw[t0.out,List.drop_eq_nil_of_le (by rw[<-hk.out];exact Nat.le_refl _),stepsL,List.append_nil]
   replace h0:=Aa h0;go_wp2_with fail;go_ret;have ho:=d.out;have hl:=ho.1;rw[h0.out];subst hl;exact⟨A1,c1,rfl,ho,hE.out⟩
theorem EJ {β γ:Type} (g:β->γ) (l:List (List UInt8×β)) (s:List UInt8):valsOf (l.map fun x=>(x.1,g x.2)) s=(valsOf l s).map g:=by
 unfold valsOf;rw[List.filter_map,List.map_map,List.map_map];rfl
theorem Std.stabM {β γ:Type} {D E:List (List UInt8×β)} (h:Std D E) (g:β->γ):Stab (D.map fun x=>(x.1,g x.2)) (E.map fun x=>(x.1,g x.2)):=by
 refine⟨?_,fun s=>by rw[EJ,EJ,h.2.vals]⟩;rw[List.pairwise_map];exact h.1
structure TmsOk (w:World) (base:Nat) (D:List TmV) (R:List (List UInt8×List Int)):Prop where
  len:D.length=R.length
  each:∀(i:Nat) (x:TmV) (p:List UInt8×List Int),D[i]? = some x->R[i]? = some p->x.1=p.1/\Buf w base 3 x.2.1 x.2.2.1 x.2.2.2 (p.2.map IV)
  apart:∀(i j:Nat) (x y:TmV),D[i]? = some x->D[j]? = some y->i≠j->∀a b,x.2.1=some a->y.2.1=some b->a.block≠b.block
theorem TmsOk.nil (w:World) (base:Nat):TmsOk w base [] []:=⟨rfl,nofun,nofun⟩
theorem TmsOk.keep {D:List TmV} {R:List (List UInt8×List Int)} (h:TmsOk w base D R) (hk:∀A n c xs,Buf w base 3 A n c xs->Buf w1 base 3 A n c xs):TmsOk w1 base D R :=
 ⟨h.len,fun i x p H d=>⟨(h.each i x p H d).1,hk _ _ _ _ (h.each i x p H d).2⟩,h.apart⟩
theorem TmsOk.ext {D:List TmV} {R:List (List UInt8×List Int)} (h:TmsOk w base D R) (d:Ext w w1):TmsOk w1 base D R:=h.keep fun _ _ _ _ hb=>hb.ext d
theorem TmsOk.snoc {D:List TmV} {R:List (List UInt8×List Int)} (h:TmsOk w base D R) (hk:∀A n c xs,Buf w base 3 A n c xs->Buf w1 base 3 A n c xs) {x:TmV} {p:List UInt8×List Int} (hx:x.1=p.1) (hb:Buf w1 base 3 x.2.1 x.2.2.1 x.2.2.2 (p.2.map IV)) (hn:∀a,x.2.1=some a->w.heap.size<=a.block):TmsOk w1 base (D ++ [x]) (R ++ [p]):=by
 have U:∀(i:Nat) (y:TmV),D[i]? = some y->∀b,y.2.1=some b->b.block<w.heap.size:=fun i y d b hb=>by
  have hi:=(List.getElem?_eq_some_iff.1 d).1;obtain⟨q,J⟩:∃q,R[i]? = some q:=⟨_,List.getElem?_eq_getElem (by rw[<-h.len];exact hi)⟩
  exact(h.each i y q d J).2.lt b hb
 have H:∀(i:Nat) (y:TmV),(D ++ [x])[i]? = some y->D[i]? = some y\/(i=D.length/\y=x):=fun i y d=>by
  by_cases hi:i<D.length
  ·rw[List.getElem?_append_left hi]at d;exact .inl d
  ·rw[List.getElem?_append_right (by omega)]at d;have h2:=(List.getElem?_eq_some_iff.1 d).1;rw[List.length_singleton]at h2;have h3:i - D.length=0:=by omega
   rw[h3]at d;exact .inr ⟨by omega,by simpa using d.symm⟩
 refine⟨by rw[List.length_append,List.length_append,h.len];rfl,fun i y q d J=>?_,fun i j y z d hz I a b G Y=>?_⟩
 ·rcases H i y d with d | ⟨hi,rfl⟩
  ·have hi:=(List.getElem?_eq_some_iff.1 d).1;rw[List.getElem?_append_left (by rw[<-h.len];exact hi)]at J;have:=h.each i y q d J;exact⟨this.1,hk _ _ _ _ this.2⟩
  ·rw[List.getElem?_append_right (by rw[hi,h.len];exact Nat.le_refl _),hi,h.len,Nat.sub_self]at J;obtain rfl:p=q:=by simpa using J
   exact⟨hx,hb⟩
 ·rcases H i y d with O | ⟨hi,rfl⟩ <;> rcases H j z hz with Z | ⟨hj,rfl⟩
  ·exact h.apart i j y z O Z I a b G Y
  ·have:=U i y O a G;have:=hn b Y;omega
  ·have:=U j z Z b Y;have:=hn a G;omega
  ·omega
end
section
open Go.RowKit
theorem Cells.part (h:Cells w A xs) (Y:∀a,A=some a->a.spot=none) (k m:Nat):Cells w (A.map fun a=>a.add k) ((xs.drop k).take m):=by
 rcases h with h | ⟨g,o,rfl,H⟩
 ·subst h;exact .inl (by simp)
 ·refine .inr ⟨g,o+k,by rw[Option.map_some,Addr.add_lit],fun j v d=>?_⟩;rw[List.getElem?_take]at d;split at d
  ·rw[List.getElem?_drop]at d;have:=H _ v d
   rwa [Nat.add_assoc]
  ·cases d
theorem Chg.others (h:Chg S w w1) (H:∀k,S k->∃t cs,Row w k t cs):KeepsOthers w w1 :=
 ⟨h.size,fun k o hk Y=>(h.block k (Array.getElem?_eq_some_iff.1 hk).1 fun hs=>by
  obtain⟨t,cs,d⟩:=H k hs;unfold Row at d;rw[d]at hk;injection hk with hk;subst hk;cases Y).trans hk⟩
theorem Bo {α:Type} {f:α->List Value} (h:∀x,(f x).length=k):∀(l:List α) (i:Nat),(l.drop i).flatMap f=(l.flatMap f).drop (i*k)
 | [],i=>by simp
 | x::l,0=>by simp
 | x::l,i+1=>by
  rw[List.drop_succ_cons,List.flatMap_cons,Bo h l i,Nat.succ_mul,Nat.add_comm,<-List.drop_drop,List.drop_left' (h x)]
theorem Bh {α:Type} {f:α->List Value} (h:∀x,(f x).length=k):∀(l:List α) (i:Nat),(l.take i).flatMap f=(l.flatMap f).take (i*k)
 | [],i=>by simp
 | x::l,0=>by simp
 | x::l,i+1=>by
  rw[List.take_succ_cons,List.flatMap_cons,Bh h l i,List.flatMap_cons,Nat.succ_mul,Nat.add_comm,show k+i*k=(f x).length+i*k by rw[h x],List.take_length_add_append]
theorem BN {size n c:Nat} (h:w.ownsRow base e size (.slice A n c) n xs):n<=c/\∀a,A=some a->a.spot=none:=by
 rcases h.2 with ⟨H,J⟩ | ⟨g,cap,cur,H,_,_,d,_⟩
 ·injection H with h1 h2 h3;subst h1 h3;exact⟨by omega,nofun⟩
 ·injection H with h1 h2 h3;subst h1 h3;exact⟨d,fun a Y=>by cases Y;rfl⟩
def HB (base h1 h2:Nat) (Hd Bd:List UInt8) (W:World):Prop:=∃(A1 A2:Option Addr) (c1 c2:Nat),Row W h1 24 #[.slice A1 Hd.length c1]/\Row W h2 24 #[.slice A2 Bd.length c2]/\Own8 W base A1 Hd.length c1 Hd/\Own8 W base A2 Bd.length c2 Bd/\∀a1 a2,A1=some a1->A2=some a2->a1.block≠a2.block
section
variable {base h1 h2:Nat} {Hd Bd:List UInt8} {W W1:World}
theorem HB.ext (h:HB base h1 h2 Hd Bd W) (d:Ext W W1):HB base h1 h2 Hd Bd W1:=by
 obtain⟨A1,A2,c1,c2,r1,r2,o1,o2,H⟩:=h;exact⟨A1,A2,c1,c2,r1.ext d,r2.ext d,o1.ext d,o2.ext d,H⟩
theorem HB.alike (h:HB base h1 h2 Hd Bd W) (d:Alike B W W1):HB base h1 h2 Hd Bd W1:=by
 obtain⟨A1,A2,c1,c2,r1,r2,o1,o2,H⟩:=h;exact⟨A1,A2,c1,c2,d.row r1,d.row r2,⟨o1.1,d.buf o1.2⟩,⟨o2.1,d.buf o2.2⟩,H⟩
theorem HB.chg (h:HB base h1 h2 Hd Bd W) (H:Chg S W W1) (J:∀k,S k->∃t cs,Row W k t cs/\t≠24/\t≠5):HB base h1 h2 Hd Bd W1:=by
 obtain⟨A1,A2,c1,c2,r1,r2,o1,o2,Y⟩:=h;have hn:∀ {g:Nat} {cs:Array Value},Row W g 24 cs->¬ S g:=fun O hs=>by
  obtain⟨t,cs,d,ht,_⟩:=J _ hs;exact Row.unlike O d (fun e=>ht e.symm) rfl
 have hb:∀ {A:Option Addr} {n c:Nat} {xs:List Value},Buf W base 5 A n c xs->∀a,A=some a->¬ S a.block:=fun hb a U hs=>by
  obtain⟨t,cs,d,_,ht⟩:=J _ hs;exact hb.unlike d (fun e=>ht e.symm) a U rfl
 exact⟨A1,A2,c1,c2,H.row r1 (hn r1),H.row r2 (hn r2),⟨o1.1,o1.2.chg H (hb o1.2)⟩,⟨o2.1,o2.2.chg H (hb o2.2)⟩,Y⟩
theorem HB.head (h:HB base h1 h2 Hd Bd W) (Y:h1≠h2) (H:Ext W W6) (hn:n=Hd'.length) (hb:Buf W6 B1 5 A n c (Hd'.map B8)) (O:W.heap.size<=B1) (d:base<=B1) :
 HB base h1 h2 Hd' Bd (W6.setCell ⟨h1,0,none⟩ (.slice A n c)):=by
 subst hn;obtain⟨A1,A2,c1,c2,r1,r2,o1,o2,hd⟩:=h;have r16:=r1.ext H;refine⟨A,A2,c,c2,r16.put 0 _,(r2.ext H).away (fun e=>Y e.symm) _,⟨rfl,(hb.lower d).setCell (hb.unlike r16 (by decide)) _⟩,⟨o2.1,(o2.2.ext H).setCell ((o2.2.ext H).unlike r16 (by decide)) _⟩,fun a1 a2 e1 e2 e=>?_⟩;have J:=hb.base_le a1 e1;have U:=o2.2.lt a2 e2;omega
theorem HB.rows (h:HB base h1 h2 Hd Bd W) (d:Row W h2 24 #[.slice A2 Bd.length c2]) (J:W.grownBy W1 (Value.slice A2 Bd.length c2).ownBlock) (H:Row W g t cs) (ht:t≠5):Row W1 g t cs:=by
 obtain⟨A1,A2',c1,c2',r1,r2,o1,o2,hd⟩:=h;have Y:A2'=A2/\c2'=c2:=by
  have e:=r2.cell 0 rfl;rw[d.cell 0 rfl]at e;injection e with e;injection e with e1 _ e2;exact⟨e1.symm,e2.symm⟩
 obtain⟨rfl,rfl⟩:=Y;refine H.grown J fun e=>?_;cases A2' with
 | none=>simp[Value.ownBlock]at e
 | some a=>exact o2.2.unlike H (fun e=>ht e.symm) a rfl (by simpa [Value.ownBlock]using e.symm)
theorem HB.body {x:List UInt8} (h:HB base h1 h2 Hd Bd W) (G:h1≠h2) (I:Row W h2 24 #[.slice A2 Bd.length c2]) (J:W.grownBy W1 (Value.slice A2 Bd.length c2).ownBlock) (hn:n3=(Bd++x).length) (hb:Buf W1 base 5 A3 n3 c3 ((Bd++x).map B8))
 (hA:A3=A2\/A3=some ⟨W.heap.size,0,none⟩) :
 HB base h1 h2 Hd (Bd++x) (W1.setCell ⟨h2,0,none⟩ (.slice A3 n3 c3))/\KeepsOthers W (W1.setCell ⟨h2,0,none⟩ (.slice A3 n3 c3))/\(∀g t cs,Row W g t cs->t≠5->g≠h2->Row (W1.setCell ⟨h2,0,none⟩ (.slice A3 n3 c3)) g t cs) /\
  (∀w0,Ext w0 W->w0.heap.size<=base->w0.heap.size<=h2->Ext w0 (W1.setCell ⟨h2,0,none⟩ (.slice A3 n3 c3))):=by
 subst hn;obtain⟨A1,A2',c1,c2',r1,r2,o1,o2,hd⟩:=h;have he:A2'=A2/\c2'=c2:=by
  have e:=r2.cell 0 rfl;rw[I.cell 0 rfl]at e;injection e with e;injection e with e1 _ e2;exact⟨e1.symm,e2.symm⟩
 obtain⟨rfl,rfl⟩:=he;have d:∀k,(Value.slice A2' Bd.length c2').ownBlock=some k->∃a,A2'=some a/\a.block=k:=fun k hk=>by
  cases A2' with
  | none=>simp[Value.ownBlock]at hk
  | some a=>exact⟨a,rfl,by simpa [Value.ownBlock]using hk⟩
 have H:∀g t cs,Row W g t cs->t≠5->Row W1 g t cs:=fun g t cs U ht=>U.grown J fun e=>by
  obtain⟨a,O,hk⟩:=d g e.symm;exact o2.2.unlike U (fun e=>ht e.symm) a O hk
 have r1':=H _ _ _ r1 (by decide);have r2':=H _ _ _ r2 (by decide);have o1':Buf W1 base 5 A1 Hd.length c1 (Hd.map B8):=o1.2.grown J fun a O e=>by
  obtain⟨a2,Y,hk⟩:=d _ e;exact hd a a2 O Y hk.symm
 refine⟨⟨A1,A3,c1,c3,r1'.away G _,r2'.put 0 _,⟨rfl,o1'.setCell (o1'.unlike r2' (by decide)) _⟩,⟨rfl,hb.setCell (hb.unlike r2' (by decide)) _⟩,fun a1 a3 e1 e3 e=>?_⟩,(BL o2.2 J).trans (KeepsOthers.setCell _ _ _),fun g t cs U ht Z=>(H g t cs U ht).away Z _,fun w0 hE p0 hh=>(hE.grown J fun k hk=>?_).setCell hh _⟩
 ·rcases hA with rfl | rfl
  ·exact hd a1 a3 e1 e3 e
  ·have:=o1.2.lt a1 e1;injection e3 with e3;subst e3;simp only at e;omega
 ·obtain⟨a2,Y,rfl⟩:=d _ hk;have:=o2.2.base_le a2 Y;omega
end
end
section
open Go.RowKit
def splitG:Nat->List UInt8->List (List UInt8)×Nat
 | 0,_=>([],0)
 | f+1,l=>if l = [] then ([],0) else match getF l with
  | .error k=>([],k)
  | .ok (p,r)=>(p::(splitG f r).1,(splitG f r).2)
def splitF (l:List UInt8):List (List UInt8)×Nat:=splitG l.length l
theorem Gj (f:Nat) (l:List UInt8):splitG (f+1) l=if l = [] then ([],0) else match getF l with
 | .error k=>([],k)
 | .ok (p,r)=>(p::(splitG f r).1,(splitG f r).2):=rfl
theorem Gi:∀(f g:Nat) (l:List UInt8),l.length<=f->l.length<=g->splitG f l=splitG g l
 | 0,0,l,_,_=>rfl
 | 0,g+1,l,h,_=>by
  have:l = []:=List.length_eq_zero_iff.1 (by omega);subst this;rfl
 | f+1,0,l,_,h=>by
  have:l = []:=List.length_eq_zero_iff.1 (by omega);subst this;rfl
 | f+1,g+1,l,h1,h2=>by
  unfold splitG;split
  ·rfl
  ·cases d:getF l with
   | error k=>rfl
   | ok q =>
    obtain⟨p,r⟩:=q;have:=(C1 d).1;simp only;rw[Gi f g r (by omega) (by omega)]
theorem Mx:splitF []=([],0):=rfl
theorem Mw (d:l ≠ []) (h:getF l = .error k):splitF l=([],k):=by
 have H:=List.length_pos_iff.2 d;unfold splitF;rw[show l.length=l.length - 1+1 by omega,Gj,if_neg d,h]
theorem I9 (d:l ≠ []) (h:getF l = .ok (p,r)):splitF l=(p::(splitF r).1,(splitF r).2):=by
 have H:=List.length_pos_iff.2 d;have Y:=(C1 h).1;unfold splitF;rw[show l.length=l.length - 1+1 by omega,Gj,if_neg d,h];simp only;rw[Gi (l.length - 1) r.length r (by omega) (by omega)]
theorem CW:∀(ps:List (List UInt8)),(∀p∈ps,p.length<=16777216)->splitF (joinL ps)=(ps,0)
 | [],_=>rfl
 | p::ps,h=>by
  have d:getF (joinL (p::ps)) = .ok (p,joinL ps):=Pn (h p (List.mem_cons_self ..)) _;have H:joinL (p::ps) ≠ []:=by
   intro e;rw[e]at d;have:=(C1 d).1;simp at this
  rw[I9 H d,CW ps fun q Y=>h q (List.mem_cons_of_mem _ Y)]
theorem Fo:∀(f:Nat) (l:List UInt8),∀p∈(splitG f l).1,p.length<=16777216/\p.length<=l.length
 | 0,l,p,h=>by cases h
 | f+1,l,p,h=>by
  unfold splitG at h;split at h
  ·cases h
  ·cases d:getF l with
   | error k=>rw[d]at h;cases h
   | ok q =>
    obtain⟨p1,r⟩:=q;have H:=C1 d;rw[d]at h;rcases List.mem_cons.1 h with rfl | h
    ·exact⟨H.2.1,H.2.2⟩
    ·have:=Fo f r p h;exact⟨this.1,by omega⟩
theorem Fl (h:p∈(splitF l).1):p.length<=16777216/\p.length<=l.length:=Fo _ l p h
theorem Fm:∀(f:Nat) (l:List UInt8),(splitG f l).1.length<=f
 | 0,l=>Nat.le_refl _
 | f+1,l=>by
  unfold splitG;split
  ·exact Nat.zero_le _
  ·cases h:getF l with
   | error k=>exact Nat.zero_le _
   | ok q =>
    obtain⟨p1,r⟩:=q;have:=Fm f r;simp only[List.length_cons];omega
theorem JC (l:List UInt8):(splitF l).1.length<=l.length:=Fm _ l
def GotE (w0 w:World) (res:Option (Ev×List UInt8)) (e:Ending) (w':World):Prop:=Ext w w'/\match res with
 | some (ev,r)=>∃B d A c,e = .returned (.tuple #[ev.val B d,.slice A r.length c,.int .i64 0])/\ev.Own w' w.heap.size B d/\In8 w0 A r.length c r/\I64ok' ev.at_
 | none=>e = .returned (.tuple #[.agg #[.int .i64 0,.slice none 0 0],.slice none 0 0,.int .i64 100])
theorem GotE.no {res:Option (Ev×List UInt8)} (d:Ext w w') (h:res=none):GotE w0 w res (.returned (.tuple #[.agg #[.int .i64 0,.slice none 0 0],.slice none 0 0,.int .i64 100])) w':=by
 subst h;exact⟨d,rfl⟩
def aheadF (read:List Fd):Option (List Fd×List UInt8)->Option (List Fd×List UInt8)
 | none=>none
 | some (fs,r)=>some (read++fs,r)
theorem Le (x:Option (List Fd×List UInt8)):aheadF [] x=x:=by cases x <;> rfl
theorem LI {read:List Fd} (h:getFs k L=aheadF read (getFs (k - i) r)) (hi:i<k) (h1:getT 32 r = .ok (nm,r1)) (h2:getT 4096 r1 = .ok (tx,r2)):getFs k L=aheadF (read ++ [(nm,tx)]) (getFs (k - (i+1)) r2):=by
 obtain⟨j,d⟩:∃j,k - i=j+1:=⟨k - i - 1,by omega⟩
 rw[h,d,show k - (i+1)=j by omega]
 conv=>lhs;unfold getFs
 rw[h1];simp only;rw[h2];simp only;cases getFs j r2 with
 | none=>rfl
 | some p=>obtain⟨fs,r3⟩:=p;simp[aheadF]
theorem NS {read:List Fd} (h:getFs k L=aheadF read (getFs (k - i) r)) (hi:i<k) (h1:getT 32 r = .error x):getFs k L=none:=by
 obtain⟨j,d⟩:∃j,k - i=j+1:=⟨k - i - 1,by omega⟩
 rw[h,d];unfold getFs;rw[h1];rfl
theorem NT {read:List Fd} (h:getFs k L=aheadF read (getFs (k - i) r)) (hi:i<k) (h1:getT 32 r = .ok (nm,r1)) (h2:getT 4096 r1 = .error x):getFs k L=none:=by
 obtain⟨j,d⟩:∃j,k - i=j+1:=⟨k - i - 1,by omega⟩
 rw[h,d];unfold getFs;rw[h1];simp only;rw[h2];rfl
theorem NR {read:List Fd} (h:getFs k L=aheadF read (getFs (k - i) r)) (hi:k<=i):getFs k L=some (read,r):=by
 rw[h,show k - i=0 by omega];unfold getFs aheadF;simp
theorem Kf {most k:Nat} (h:getT most l = .error k):0<k:=by
 unfold getT at h;split at h
 ·rename_i d;injection h with h;rw[<-h];exact BK _ _ _ d
 ·split at h
  ·injection h with h;omega
  ·split at h
   ·injection h with h;omega
   ·cases h
def setEv (w:World) (g:Nat) (at_:Int) (A:Option Addr) (n c:Nat):World:=(w.setCell ⟨g,0,none⟩ (.int .i64 at_)).setCell ⟨g,1,none⟩ (.slice A n c)
theorem B9 {x y:Value} (h:Row w g T #[x,y]) (at_:Int) (A:Option Addr) (n c:Nat):Row (setEv w g at_ A n c) g T #[.int .i64 at_,.slice A n c]:=(h.put 0 _).put 1 _
theorem I5 (w:World) (g:Nat) (at_:Int) (A:Option Addr) (n c:Nat):Chg (fun k=>k=g) w (setEv w g at_ A n c):=(Chg.of_set (S:=fun k=>k=g) w _ rfl).trans (Chg.of_set (S:=fun k=>k=g) _ _ rfl) fun _ _ h=>h
theorem BZ (h:Ext w0 w) (H:w0.heap.size<=g) (at_:Int) (A:Option Addr) (n c:Nat):Ext w0 (setEv w g at_ A n c):=h.chg (I5 w g at_ A n c) fun i hi d=>by omega
theorem NF (A:Option Addr) (n c:Nat) (l:List UInt8) (w0 w:World) (h:In8 w0 A n c l) (hw:Ext w0 w) (j4:n<=1000000000) :
 Calls prog 95 #[.slice A n c] w fun e w'=>GotE w0 w (getE l) e w':=by
 obtain⟨W,hW⟩:=Ab (w.alloc (.cells #[.int .i64 0,.slice none 0 0] 69));have h1:Ext w W:=by rw[hW];exact(Ext.refl w).alloc _
 obtain⟨b,hb⟩:=Ab w.heap.size;have hr:Row W b 69 #[.int .i64 0,.slice none 0 0]:=by rw[hW,hb];exact Row.new w _ _
 have I:=Aa (Nat.le_of_eq hb.symm);have h2:=LJ A n c l w0 W h (hw.trans h1) j4;have k5:l.length<=1000000000:=by rw[<-h.len];exact j4
 obtain⟨Z,hZ⟩:=Ab (getE l);rw[<-hZ];unfold getE at hZ;replace hW:=Aa hW;replace hb:=Aa hb;clear h;cases e1:getV 0 l with
 | error k =>
  rw[e1]at h2 hZ;have hk:=BK l 0 k e1;have a3:((k:Int) != 0)=true:=by simp;omega
  have hg:=Aa h2;clear e1 hk h2
  go_in
  go_wp2_with fail;rw[<-hW.out,<-hb.out];refine hg.out.mono ?_;rintro e w1 ⟨j0,rfl⟩;have Y:=hr.ext j0;have f1:=fun i=>Y.free i;have d0:=Y.cell 0 rfl;have d1:=Y.cell 1 rfl;replace Y:=Aa Y;have t0:=Aa (h1.trans j0);replace hZ:=Aa hZ;go_wp2_with fail;obtain⟨wz,H⟩:∃wz,wz=setEv w1 b 0 none 0 0:=⟨_,rfl⟩;have hk:=B9 Y.out 0 none 0 0;rw[<-H]at hk;have U:=BZ t0.out I.out 0 none 0 0;rw[<-H]at U;unfold setEv at H;rw[<-H];have k0:wz.cell? ⟨b,0,none⟩=some (.int .i64 0):=hk.cell 0 rfl;have k1:wz.cell? ⟨b,1,none⟩=some (.slice none 0 0):=hk.cell 1 rfl;clear H hk;exact bodyPost_ret (v:= .tuple #[.agg #[.int .i64 0,.slice none 0 0],.slice none 0 0,.int .i64 100]) (by simp[results,Tryz.results95,go_sem,k0,k1]) rfl (GotE.no U hZ.out)
 | ok p =>
  obtain⟨u,r⟩:=p;have hu:=Ct e1;have f3:r.length<=1000000000:=by
   obtain⟨_,_,q,hq,_⟩:=Ck l 0 u r e1;rw[hq,List.length_append]at k5;omega
  rw[e1]at h2 hZ;simp only at hZ;have hg:=Aa h2;have l4:=K6 hu;obtain⟨at_,h4⟩:=Ab (unzig u);unfold GotI at hg;simp only at hg;rw[<-h4]at hg hZ l4;clear e1 h2 h4 hu;cases l0:getV 0 r with
  | error k =>
   rw[l0]at hZ;have hk:=BK r 0 k l0;have a3:((k:Int) != 0)=true:=by simp;omega
   have m0:=fun A c W h hE=>Cl A r.length c r w0 W h hE f3;rw[l0]at m0;replace m0:=Aa m0;replace hZ:=Aa hZ;clear l0 hk
   go_in
   go_wp2_with fail;rw[<-hW.out,<-hb.out];refine hg.out.mono ?_;rintro e w1 ⟨j0,A1,c1,rfl,q2⟩;have e0:=Aa (m0.out A1 c1 w1 q2 ((hw.trans h1).trans j0));go_wp2_with fail;refine e0.out.mono ?_;rintro e w2 ⟨o0,rfl⟩;have Y:=hr.ext (j0.trans o0);have f1:=fun i=>Y.free i;have d0:=Y.cell 0 rfl;have d1:=Y.cell 1 rfl;replace Y:=Aa Y;have t0:=Aa (h1.trans (j0.trans o0));go_wp2_with fail;obtain⟨wz,H⟩:∃wz,wz=setEv w2 b 0 none 0 0:=⟨_,rfl⟩;have hk:=B9 Y.out 0 none 0 0;rw[<-H]at hk;have U:=BZ t0.out I.out 0 none 0 0;rw[<-H]at U;unfold setEv at H;rw[<-H];have k0:wz.cell? ⟨b,0,none⟩=some (.int .i64 0):=hk.cell 0 rfl;have k1:wz.cell? ⟨b,1,none⟩=some (.slice none 0 0):=hk.cell 1 rfl;clear H hk;exact bodyPost_ret (v:= .tuple #[.agg #[.int .i64 0,.slice none 0 0],.slice none 0 0,.int .i64 100]) (by simp[results,Tryz.results95,go_sem,k0,k1]) rfl (GotE.no U hZ.out)
  | ok p =>
   obtain⟨m,r2⟩:=p;have a4:r2.length<=1000000000:=by
    obtain⟨_,_,q,hq,_⟩:=Ck r 0 m r2 l0;rw[hq,List.length_append]at f3;omega
   have z5:=Ct l0;rw[l0]at hZ;simp only at hZ;have m0:=fun A c W h hE=>Cl A r.length c r w0 W h hE f3;rw[l0]at m0;unfold Got at m0;simp only at m0;replace m0:=Aa m0;clear l0;by_cases p3:16<m
   ·rw[if_pos p3]at hZ;have j5:(16:Int)<m:=by omega
    replace hZ:=Aa hZ
    go_in
    go_wp2_with fail;rw[<-hW.out,<-hb.out];refine hg.out.mono ?_;rintro e w1 ⟨j0,A1,c1,rfl,q2⟩;have e0:=Aa (m0.out A1 c1 w1 q2 ((hw.trans h1).trans j0));go_wp2_with fail;refine e0.out.mono ?_;rintro e w2 ⟨o0,A2,c2,rfl,hi2⟩;have Y:=hr.ext (j0.trans o0);have f1:=fun i=>Y.free i;have d0:=Y.cell 0 rfl;have d1:=Y.cell 1 rfl;replace Y:=Aa Y;have t0:=Aa (h1.trans (j0.trans o0));go_wp2_with fail;obtain⟨wz,H⟩:∃wz,wz=setEv w2 b 0 none 0 0:=⟨_,rfl⟩;have hk:=B9 Y.out 0 none 0 0;rw[<-H]at hk;have U:=BZ t0.out I.out 0 none 0 0;rw[<-H]at U;unfold setEv at H;rw[<-H];have k0:wz.cell? ⟨b,0,none⟩=some (.int .i64 0):=hk.cell 0 rfl;have k1:wz.cell? ⟨b,1,none⟩=some (.slice none 0 0):=hk.cell 1 rfl;clear H hk;exact bodyPost_ret (v:= .tuple #[.agg #[.int .i64 0,.slice none 0 0],.slice none 0 0,.int .i64 100]) (by simp[results,Tryz.results95,go_sem,k0,k1]) rfl (GotE.no U hZ.out)
   ·rw[if_neg p3]at hZ;have j5:¬ (16:Int)<m:=by omega
    replace hZ:=Aa hZ
    go_in
    go_wp2_with fail;rw[<-hW.out,<-hb.out];refine hg.out.mono ?_;rintro e w1 ⟨j0,A1,c1,rfl,q2⟩;have e0:=Aa (m0.out A1 c1 w1 q2 ((hw.trans h1).trans j0));go_wp2_with fail;refine e0.out.mono ?_;rintro e w2 ⟨o0,A2,c2,rfl,hi2⟩;have Y:=hr.ext (j0.trans o0);have f1:=fun i=>Y.free i;have d0:=Y.cell 0 rfl;have d1:=Y.cell 1 rfl;replace Y:=Aa Y;have t0:=Aa (h1.trans (j0.trans o0));go_wp2_with fail;have e4:=Y.out.put 0 (.int .i64 at_);obtain⟨W3,e2⟩:=Ab (w2.setCell ⟨b,0,none⟩ (.int .i64 at_));have r3:Ext w W3:=by rw[e2];exact t0.out.setCell I.out _
    have v5:Row W3 b 69 #[.int .i64 at_,.slice none 0 0]:=by rw[e2];exact e4
    rw[<-e2];clear e4 Y t0 f1 d0 d1 e0 hg m0 e2
    go_loopw [3,33] (fun s3 s33 wr=>∃(i:Nat) (read:List Fd) (rr:List UInt8) (B A3:Option Addr) (d c3:Nat),s33 = .int .u64 (i:Int)/\s3 = .slice A3 rr.length c3/\i<=m/\rr.length<=1000000000/\Hid (i=read.length)/\Hid (getFs m r2=aheadF read (getFs (m - i) rr))/\Hid (∀f∈read,f.1.length<=1000000000/\f.2.length<=1000000000)/\Hid (Row wr b 69 #[.int .i64 at_,.slice B i d])/\Hid (wr.ownsRow (b+1) 91 2 (.slice B i d) i (fcells read))/\Hid (In8 w0 A3 rr.length c3 rr)/\Hid (Ext w wr)) (fun _ s33 _=>m - (intOf s33).toNat)
    case atStart=>exact⟨0,[],r2,none,A2,0,c2,rfl,rfl,by omega,a4,Aa rfl,Aa (by rw[Le];rfl),Aa nofun,Aa v5,Aa ⟨rfl,.inl ⟨rfl,rfl⟩⟩,Aa hi2,Aa r3⟩
    case round =>
     obtain⟨i,read,rr,B,A3,d,c3,rfl,rfl,hi,x5,y2,i2,g4,x0,a2,q3,hE⟩:=hrel;have q0:wr.cell? ⟨b,0,none⟩=some (.int .i64 at_):=x0.out.cell 0 rfl;have q1:wr.cell? ⟨b,1,none⟩=some (.slice B i d):=x0.out.cell 1 rfl;by_cases him:i<m
     ·have q2:(i:Int)<m:=by omega
      obtain⟨fb,j1⟩:=Ab wr.heap.size;obtain⟨Wf,y1⟩:=Ab (wr.alloc (.cells #[.string ⟨#[]⟩,.string ⟨#[]⟩] 91));have o1:Ext wr Wf:=by rw[y1];exact(Ext.refl wr).alloc _
      have e3:Row Wf fb 91 #[.string ⟨#[]⟩,.string ⟨#[]⟩]:=by rw[y1,j1];exact Row.new wr _ _
      have b5:b<fb:=by rw[j1];exact x0.out.lt
      have y3:=fun A c W h hE=>DG A rr.length c 32 rr w0 W h hE x5 (by omega);have G:=y3 A3 c3 Wf q3.out (hw.trans (hE.out.trans o1));have x2:=Aa (hE.out.trans o1);replace y1:=Aa y1;replace j1:=Aa j1;cases f0:getT 32 rr with
      | error k =>
       have hk:=Kf f0;have a3:((k:Int) != 0)=true:=by simp;omega
       have a1:=Aa (NS i2.out him f0);rw[f0]at G;replace G:=Aa G;clear f0 hk y3;go_wp2_with fail;rw[<-y1.out,<-j1.out];refine G.out.mono ?_;rintro e w4 ⟨J,rfl⟩;have h0:=e3.ext J;have O:=(x0.out.ext o1).ext J;have f4:=fun i=>h0.free i;have d4:=h0.cell 0 rfl;have b0:=O.away (p:=⟨fb,0,none⟩) (by simp only;omega) (.string ⟨#[]⟩);have f5:=fun i=>b0.free i;have e5:=b0.cell 0 rfl;have e6:=b0.cell 1 rfl;have p0:=Aa ((x2.out.trans J).setCell (p:=⟨fb,0,none⟩) (by simp only;have:=I.out;omega) (.string ⟨#[]⟩));have d2:Hid (Z=none):=Aa (by rw[hZ.out,a1.out]);replace b0:=Aa b0;go_wp2_with fail;obtain⟨wz,H⟩:∃wz,wz=setEv (w4.setCell ⟨fb,0,none⟩ (.string ⟨#[]⟩)) b 0 none 0 0:=⟨_,rfl⟩;have hk:=B9 b0.out 0 none 0 0;rw[<-H]at hk;have U:=BZ p0.out I.out 0 none 0 0;rw[<-H]at U;unfold setEv at H;rw[<-H];have k0:wz.cell? ⟨b,0,none⟩=some (.int .i64 0):=hk.cell 0 rfl;have k1:wz.cell? ⟨b,1,none⟩=some (.slice none 0 0):=hk.cell 1 rfl;clear H hk;exact bodyPost_ret (v:= .tuple #[.agg #[.int .i64 0,.slice none 0 0],.slice none 0 0,.int .i64 100]) (by simp[results,Tryz.results95,go_sem,k0,k1]) rfl (GotE.no U d2.out)
      | ok p =>
       obtain⟨nm,rn⟩:=p;obtain⟨c5,d5,_⟩:=Gu f0;rw[f0]at G;unfold GotT at G;simp only at G;replace G:=Aa G;have b4:rn.length<=1000000000:=by omega
       have v0:=Aa (fun A c W h hE=>DG A rn.length c 4096 rn w0 W h hE b4 (by omega));clear y3;cases x1:getT 4096 rn with
       | error k =>
        have hk:=Kf x1;have a3:((k:Int) != 0)=true:=by simp;omega
        have a1:=Aa (NT i2.out him f0 x1);rw[x1]at v0;clear f0 x1 hk;go_wp2_with fail;rw[<-y1.out,<-j1.out];refine G.out.mono ?_;rintro e w4 ⟨J,A4,c4,rfl,z3⟩;have h0:=e3.ext J;have O:=(x0.out.ext o1).ext J;have f4:=fun i=>h0.free i;have d4:=h0.cell 0 rfl;obtain⟨w5,n0⟩:=Ab (w4.setCell ⟨fb,0,none⟩ (.string ⟨nm.toArray⟩));have p0:=(x2.out.trans J).setCell (p:=⟨fb,0,none⟩) (by simp only;have:=I.out;omega) (.string ⟨nm.toArray⟩);have m1:=h0.put 0 (.string ⟨nm.toArray⟩);have b0:=O.away (p:=⟨fb,0,none⟩) (by simp only;omega) (.string ⟨nm.toArray⟩);rw[<-n0]at p0 m1 b0;have e0:=Aa (v0.out A4 c4 w5 z3 (hw.trans p0));replace n0:=Aa n0;go_wp2_with fail;rw[<-n0.out];refine e0.out.mono ?_;rintro e w6 ⟨r0,rfl⟩;have i0:=m1.ext r0;have d3:=b0.ext r0;have f6:=fun i=>i0.free i;have d6:=i0.cell 1 rfl;have c0:=d3.away (p:=⟨fb,1,none⟩) (by simp only;omega) (.string ⟨#[]⟩);have f7:=fun i=>c0.free i;have e5:=c0.cell 0 rfl;have e6:=c0.cell 1 rfl;have m2:=Aa ((p0.trans r0).setCell (p:=⟨fb,1,none⟩) (by simp only;have:=I.out;omega) (.string ⟨#[]⟩));have d2:Hid (Z=none):=Aa (by rw[hZ.out,a1.out]);replace c0:=Aa c0;go_wp2_with fail;obtain⟨wz,H⟩:∃wz,wz=setEv (w6.setCell ⟨fb,1,none⟩ (.string ⟨#[]⟩)) b 0 none 0 0:=⟨_,rfl⟩;have hk:=B9 c0.out 0 none 0 0;rw[<-H]at hk;have U:=BZ m2.out I.out 0 none 0 0;rw[<-H]at U;unfold setEv at H;rw[<-H];have k0:wz.cell? ⟨b,0,none⟩=some (.int .i64 0):=hk.cell 0 rfl;have k1:wz.cell? ⟨b,1,none⟩=some (.slice none 0 0):=hk.cell 1 rfl;clear H hk;exact bodyPost_ret (v:= .tuple #[.agg #[.int .i64 0,.slice none 0 0],.slice none 0 0,.int .i64 100]) (by simp[results,Tryz.results95,go_sem,k0,k1]) rfl (GotE.no U d2.out)
       | ok p =>
        obtain⟨tx,rt⟩:=p;obtain⟨l5,i5,_⟩:=Gu x1;rw[x1]at v0;unfold GotT at v0;simp only at v0;replace v0:=Aa v0;have l3:=Aa (LI i2.out him f0 x1);clear f0 x1;go_wp2_with fail;rw[<-y1.out,<-j1.out];refine G.out.mono ?_;rintro e w4 ⟨J,A4,c4,rfl,z3⟩;have h0:=e3.ext J;have O:=(x0.out.ext o1).ext J;have g5:=J.owns (o1.owns a2.out);have f4:=fun i=>h0.free i;have d4:=h0.cell 0 rfl;obtain⟨w5,n0⟩:=Ab (w4.setCell ⟨fb,0,none⟩ (.string ⟨nm.toArray⟩));have p0:=(x2.out.trans J).setCell (p:=⟨fb,0,none⟩) (by simp only;have:=I.out;omega) (.string ⟨nm.toArray⟩);have m1:=h0.put 0 (.string ⟨nm.toArray⟩);have b0:=O.away (p:=⟨fb,0,none⟩) (by simp only;omega) (.string ⟨nm.toArray⟩);have y4:(Value.slice B i d).ownBlock≠some fb:=by
         have b3:=a2.out;intro r4;obtain⟨_,i3,_⟩:=Ae b3 r4;have:=i3.lt;have:=j1.out;omega
        have t4:=G2 g5 (a:=⟨fb,0,none⟩) y4 (.string ⟨nm.toArray⟩);rw[<-n0]at p0 m1 b0 t4;have e0:=Aa (v0.out A4 c4 w5 z3 (hw.trans p0));replace n0:=Aa n0;go_wp2_with fail;rw[<-n0.out];refine e0.out.mono ?_;rintro e w6 ⟨r0,A6,c6,rfl,h5⟩;have i0:=m1.ext r0;have d3:=b0.ext r0;have m5:=r0.owns t4;have f6:=fun i=>i0.free i;have d6:=i0.cell 1 rfl;obtain⟨w7,n5⟩:=Ab (w6.setCell ⟨fb,1,none⟩ (.string ⟨tx.toArray⟩));have c0:=d3.away (p:=⟨fb,1,none⟩) (by simp only;omega) (.string ⟨tx.toArray⟩);have m3:Row (w6.setCell ⟨fb,1,none⟩ (.string ⟨tx.toArray⟩)) fb 91 #[.string ⟨nm.toArray⟩,.string ⟨tx.toArray⟩]:=i0.put 1 (.string ⟨tx.toArray⟩);have v4:=G2 m5 (a:=⟨fb,1,none⟩) y4 (.string ⟨tx.toArray⟩);have m2:=(p0.trans r0).setCell (p:=⟨fb,1,none⟩) (by simp only;have:=I.out;omega) (.string ⟨tx.toArray⟩);have f7:=c0.free 1;have e6:=c0.cell 1 rfl;have g0:=m3.cell 0 rfl;have g1:=m3.cell 1 rfl;have i4:b+1<=(w6.setCell ⟨fb,1,none⟩ (.string ⟨tx.toArray⟩)).heap.size:=c0.lt;go_wp2_with (at_builtin;refine AS (us:= [.string ⟨nm.toArray⟩,.string ⟨tx.toArray⟩]) (m:=1) Lu v4 (by simp[World.setCell]) (.tmp 56) (.tmp 58) rfl rfl rfl rfl rfl (Az rfl) (by omega) i4 (fun A8 c8 w8 x4 x3 p5=>?_);have k3:∀k,(Value.slice B i d).ownBlock=some k->b+1<=k:=(fun k hk=>by obtain⟨_,_,hb⟩:=Ae v4 hk;exact hb);have o2:=Row.grown c0 x3 (fun e=>by have:=k3 _ e.symm;omega);have f8:=o2.free 1;have e8:w8.cell? ⟨b,1,none⟩=some (.slice B i d):=o2.cell 1 rfl;have z4:=Aa o2;have j3:=Aa x4;have w3:=Aa (m2.grown x3 fun k hk=>by have:=k3 k hk;have:=I.out;omega);clear o2 x4 x3 p5);have m4:(Value.slice A8 (i+1) c8).ownBlock≠some b:=fun e=>by
         obtain⟨_,_,hb⟩:=Ae j3.out e;omega
        refine⟨⟨i+1,read ++ [(nm,tx)],rt,A8,A6,c8,c6,by go_num,rfl,by omega,by omega,Aa (by rw[List.length_append,<-y2.out];rfl),l3,Aa ?_,Aa (z4.out.put 1 _),Aa (by rw[F0];exact G2 j3.out m4 _),Aa h5,Aa (w3.out.setCell I.out _)⟩,?_⟩
        ·intro f hf;rcases List.mem_append.1 hf with hf | hf
         ·exact g4.out f hf
         ·rw[List.mem_singleton.1 hf];simp only;omega
        ·simp[intOf];omega
     ·obtain rfl:i=m:=by omega
      have p4:=NR i2.out (Nat.le_refl _);have i1:=hZ.out;rw[p4]at i1;simp only at i1;have p2:Ev.Own ⟨at_,read⟩ wr (b+1) B d:=⟨by simp only;rw[<-y2.out];exact a2.out,fun f hf=>by have:=g4.out f hf;omega,by simp only;have:=y2.out;omega⟩
      have p1:=Dj ⟨at_,read⟩ B d wr p2.ok;unfold Ev.val at p1;simp only at p1;rw[<-y2.out]at p1;obtain⟨j,hj⟩:=Ab (checkE read);rw[<-hj]at p1 i1;replace hj:=Aa hj;replace p1:=Aa p1;replace p2:=Aa p2;replace i1:=Aa i1;by_cases k4:j=0
      ·subst k4;go_wp2_with fail;refine p1.out.mono ?_;rintro e w4 ⟨rfl,J⟩;have O:=x0.out.ext J;have f4:=fun k=>O.free k;have g0:=O.cell 0 rfl;have g1:=O.cell 1 rfl;replace O:=Aa O;have j2:=Aa (hE.out.trans J);clear q0 q1;go_wp2_with fail;obtain⟨wz,H⟩:=Ab (setEv w4 b at_ B i d);have hk:=B9 O.out at_ B i d;have q4:=(I5 w4 b at_ B i d).owns (J.owns p2.out.1) (fun k hk h=>by obtain⟨_,_,hb⟩:=Ae (J.owns p2.out.1) hk;omega);have U:=BZ j2.out I.out at_ B i d;rw[<-H]at hk q4 U;unfold setEv at H;rw[<-H];have k0:wz.cell? ⟨b,0,none⟩=some (.int .i64 at_):=hk.cell 0 rfl;have k1:wz.cell? ⟨b,1,none⟩=some (.slice B i d):=hk.cell 1 rfl;clear H hk;have n4:=i1.out;rw[if_pos trivial]at n4;exact bodyPost_ret (v:= .tuple #[.agg #[.int .i64 at_,.slice B i d],.slice A3 rr.length c3,.int .i64 0]) (by simp[results,Tryz.results95,go_sem,k0,k1]) rfl (by rw[n4];exact⟨U,B,d,A3,c3,by unfold Ev.val;simp only;rw[<-y2.out],⟨AD q4 (by have:=I.out;omega),p2.out.2⟩,q3.out,l4⟩)
      ·have y5:¬ (j:Int)=0:=by omega
       have d2:Hid (Z=none):=Aa (by rw[i1.out,if_neg k4]);go_wp2_with fail;refine p1.out.mono ?_;rintro e w4 ⟨rfl,J⟩;have O:=x0.out.ext J;have f4:=fun k=>O.free k;have g0:=O.cell 0 rfl;have g1:=O.cell 1 rfl;replace O:=Aa O;have j2:=Aa (hE.out.trans J);clear q0 q1;go_wp2_with fail;obtain⟨wz,H⟩:∃wz,wz=setEv w4 b 0 none 0 0:=⟨_,rfl⟩;have hk:=B9 O.out 0 none 0 0;rw[<-H]at hk;have U:=BZ j2.out I.out 0 none 0 0;rw[<-H]at U;unfold setEv at H;rw[<-H];have k0:wz.cell? ⟨b,0,none⟩=some (.int .i64 0):=hk.cell 0 rfl;have k1:wz.cell? ⟨b,1,none⟩=some (.slice none 0 0):=hk.cell 1 rfl;clear H hk;exact bodyPost_ret (v:= .tuple #[.agg #[.int .i64 0,.slice none 0 0],.slice none 0 0,.int .i64 100]) (by simp[results,Tryz.results95,go_sem,k0,k1]) rfl (GotE.no U d2.out)
theorem GP:∀ {k:Nat} {l r:List UInt8} {fs:List Fd},getFs k l=some (fs,r)->r.length<=l.length
 | 0,l,r,fs,h=>by unfold getFs at h;cases h;exact Nat.le_refl _
 | k+1,l,r,fs,h=>by
  unfold getFs at h;split at h
  ·cases h
  ·rename_i nm r1 h1;split at h
   ·cases h
   ·rename_i tx r2 h2;split at h
    ·cases h
    ·rename_i fs' r3 d;cases h;have a1:=(Gu h1).2.1;have a2:=(Gu h2).2.1;have a3:=GP d;omega
theorem Cs (h:getV 0 l = .ok (n,r)):r.length<l.length:=by
 obtain⟨_,_,q,H,d⟩:=Ck l 0 n r h;have:=List.length_pos_iff.2 d;rw[H,List.length_append];omega
theorem NP {e:Ev} (h:getE l=some (e,r)):r.length<l.length:=by
 unfold getE at h;split at h
 ·cases h
 ·rename_i u r1 h1;split at h
  ·cases h
  ·rename_i n r2 h2;split at h
   ·cases h
   ·split at h
    ·cases h
    ·rename_i fs r3 d;split at h
     ·cases h;have a1:=Cs h1;have a2:=Cs h2;have a3:=GP d;omega
     ·cases h
theorem IB:∀(l:List UInt8) (i k:Nat),getV i l = .error k->k=6\/k=20
 | [],i,k,h=>by unfold getV at h;injection h with h;omega
 | x::l,i,k,h=>by
  unfold getV at h;split at h
  ·injection h with h;omega
  ·split at h
   ·injection h with h;omega
   ·split at h
    ·cases h
    ·split at h
     ·cases h
     ·rename_i e d;injection h with h;subst h;exact IB l (i+1) _ d
theorem Qx (l:List UInt8) (x:UInt8):be (l ++ [x])=be l*256+x.toNat:=by
 unfold be;rw[List.foldl_append];rfl
def GotFB (w0 w:World) (res:Except Nat (List UInt8×List UInt8)) (e:Ending) (w':World):Prop:=Ext w w'/\match res with
 | .ok (p,r)=>∃P cp A c base,e = .returned (.tuple #[.slice P p.length cp,.slice A r.length c,.int .i64 0])/\Buf w' base 5 P p.length cp (p.map B8)/\In8 w0 A r.length c r
 | .error k=>e = .returned (.tuple #[.slice none 0 0,.slice none 0 0,.int .i64 k])
theorem GotFB.no {res:Except Nat (List UInt8×List UInt8)} (d:Ext w w') (h:res = .error k):GotFB w0 w res (.returned (.tuple #[.slice none 0 0,.slice none 0 0,.int .i64 k])) w':=by
 subst h;exact⟨d,rfl⟩
theorem NK (A:Option Addr) (n c:Nat) (l:List UInt8) (w0 w:World) (h:In8 w0 A n c l) (hw:Ext w0 w) (i2:n<=1000000000) :
 Calls prog 145 #[.slice A n c] w fun e w'=>GotFB w0 w (getF l) e w':=by
 have G:=Cl A n c l w0 w h hw i2;have f0:=Aa h.len;obtain⟨Z,d⟩:=Ab (getF l);rw[<-d];unfold getF at d;cases hv:getV 0 l with
 | error k =>
  rw[hv]at G d;simp only at d;rcases IB l 0 k hv with rfl | rfl
  ·rw[if_pos rfl]at d;replace d:=Aa d;replace G:=Aa G;clear h hv
   go_in
   go_wp2_with fail;refine G.out.mono ?_;rintro e w1 ⟨H,rfl⟩;go_wp2_with fail;go_ret3;exact GotFB.no H d.out
  ·rw[if_neg (by omega)]at d;replace d:=Aa d;replace G:=Aa G;clear h hv
   go_in
   go_wp2_with fail;refine G.out.mono ?_;rintro e w1 ⟨H,rfl⟩;go_wp2_with fail;go_ret3;exact GotFB.no H d.out
 | ok p =>
  obtain⟨m,r⟩:=p;have m3:=Ct hv;have h3:=Cs hv;obtain⟨hd,d0,a2⟩:=Eu l 0 m r [] hv;have O:l.length - r.length=hd.length:=by rw[d0,List.length_append];omega
  rw[hv]at G d;simp only at d;unfold Got at G;simp only at G;replace G:=Aa G;clear hv a2;by_cases o0:16777216<m
  ·rw[if_pos o0]at d;replace d:=Aa d;have x2:(16777216:Int)<m:=by omega
   clear h
   go_in
   go_wp2_with fail;refine G.out.mono ?_;rintro e w1 ⟨H,A1,c1,rfl,I⟩;go_wp2_with fail;go_ret3;exact GotFB.no H d.out
  ·rw[if_neg o0]at d;have x2:¬ (16777216:Int)<m:=by omega
   have i3:IntKind.i64.wrap (m:Int)=(m:Int):=by
    simp[IntKind.wrap,IntKind.bits,IntKind.signed];omega
   by_cases p2:r.length<4+m
   ·rw[if_pos p2]at d;replace d:=Aa d;have q3:(r.length:Int)<4+(m:Int):=by omega
    clear h
    go_in
    go_wp2_with fail;refine G.out.mono ?_;rintro e w1 ⟨H,A1,c1,rfl,I⟩;go_wp2_with fail;go_ret3;exact GotFB.no H d.out
   ·rw[if_neg p2]at d;have q3:¬ (r.length:Int)<4+(m:Int):=by omega
    obtain⟨d2,e0⟩:=h.headk .i64 (k:=l.length - r.length) (by have:=f0.out;omega) (z:=(n:Int) - (r.length:Int)) (by have:=f0.out;omega);rw[O]at d2 e0;have e3:r.length<=n:=by have:=f0.out;omega
    have t3:r.length<=1000000000:=by omega
    replace d:=Aa d;replace e0:=Aa e0;replace O:=Aa O;replace d0:=Aa d0;clear h h3
    go_in
    go_wp2_with fail;refine G.out.mono ?_;rintro e w1 ⟨H,A1,c1,rfl,I⟩;obtain⟨a3,r0⟩:=I.headk .i64 (k:=4) (by omega) (z:=4) rfl;obtain⟨A2,c2,b3,x1⟩:=I.subk .i64 .i64 (fr:=4) (k:=m) (by omega) (z0:=4) (z:=4+(m:Int)) rfl rfl;obtain⟨A3,c3,f3,a1⟩:=I.fromk .i64 (fr:=4+m) (by omega) (z:=4+(m:Int)) (by omega);replace r0:=Aa r0;replace x1:=Aa x1;replace a1:=Aa a1;replace I:=Aa I;go_wp2_with fail
    go_loopw [7,9,43] (fun s7 _ s43 wr=>∃(i v:Nat),s43 = .int .i64 (i:Int)/\i<=4/\s7 = .int .u32 (v:Int)/\v<256^i/\Hid (v=be (r.take i))/\wr=w1) (fun _ _ s43 _=>4 - (intOf s43).toNat)
    case atStart=>exact⟨0,0,rfl,by omega,rfl,by decide,Aa (by simp[be]),rfl⟩
    case round =>
     obtain⟨i,v,rfl,hi,rfl,hv,j2,rfl⟩:=hrel;by_cases f2:i<4
     ·obtain⟨x,hx⟩:∃x,r[i]? = some x:=⟨_,List.getElem?_eq_getElem (by omega)⟩
      have i0:be (r.take (i+1))=v*256+x.toNat:=by rw[Ei hx,Qx,j2.out]
      have l3:=x.toNat_lt;have d3:(256:Nat)^i<=256^3:=Nat.pow_le_pow_right (by omega) (by omega);have y3:v<16777216:=by omega
      have o2:bits .or .u32 ((v:Int)*256) (x.toNat:Int)=((v*256+x.toNat:Nat):Int):=by
       have h1:=u32_or_nat (v*256) x.toNat (by omega) (by omega);have h2:=Nat.shiftLeft_add_eq_or_of_lt (show x.toNat<2^8 by omega) v;rw[Nat.shiftLeft_eq]at h2;rw[show (2:Nat)^8=256 from rfl]at h2;rw[h2,<-h1];simp
      have Y:v*256+x.toNat<256^(i+1):=by rw[Nat.pow_succ];omega
      obtain⟨g,o,m2,hc⟩:=Cells.at_ (xs:=(r.take 4).map B8) (r0.out.bytes.ext (hw.trans H)) (by rw[List.length_map,List.length_take];omega);have k1:=hc i (B8 x) (by rw[List.getElem?_map,List.getElem?_take,if_pos f2,hx];rfl);unfold B8 at k1;subst m2;replace i0:=Aa i0;replace Y:=Aa Y;obtain⟨nx,m1⟩:=Ab (v*256+x.toNat);rw[<-m1]at o2 i0 Y;replace m1:=Aa m1;clear hx hc;go_wp2_with fail;refine⟨⟨i+1,nx,by go_num,by omega,rfl,Y.out,Aa i0.out.symm,trivial⟩,?_⟩;simp[intOf];omega
     ·obtain rfl:i=4:=by omega
      have J:((r.drop 4).take m).length=m:=by rw[List.length_take,List.length_drop];omega
      have k0:(l.take hd.length).length=hd.length:=by rw[List.length_take,d0.out,List.length_append];omega
      have c0:(r.drop (4+m)).length=r.length - (4+m):=List.length_drop;have q1:=hw.trans H;have q0:=x1.out.ext q1;obtain⟨pl,p0⟩:=Ab ((r.drop 4).take m);obtain⟨hh,h0⟩:=Ab (l.take hd.length);rw[<-p0]at J q0;have x0:=e0.out;rw[<-h0]at k0 x0;have y2:=Aa (Cr A2 m c2 pl wr J.symm q0.bytes q0.nil_ (by omega));have l0:=d.out;rw[O.out,<-h0,<-p0,<-j2.out]at l0;replace l0:=Aa l0;replace p0:=Aa p0;replace h0:=Aa h0;replace J:=Aa J;replace k0:=Aa k0;replace c0:=Aa c0;have z3:v<4294967296:=hv;clear q0;go_wp2_with fail;refine y2.out.mono ?_;rintro e w3 ⟨P,cp,rfl,p1,d1⟩;have y0:=p1.in8;have f1:=Aa p1;obtain⟨w4,m0⟩:=Ab (w3.alloc (.cells #[.slice A hd.length c,.slice P m cp] 24));have v0:Ext w3 w4:=by rw[m0];exact(Ext.refl w3).alloc _
      have q2:Row w4 w3.heap.size 24 #[.slice A hd.length c,.slice P m cp]:=by rw[m0];exact Row.new w3 _ _
      have j0:=Ng (some ⟨w3.heap.size,0,none⟩) 2 2 [(A,c,hh),(P,cp,pl)] w4 rfl (.inr ⟨w3.heap.size,0,rfl,fun i v hv=>by
       rw[Nat.zero_add];refine q2.cell i ?_;have e1:=k0.out;have e2:=J.out;simpa [e1,e2]using hv⟩) (fun q hq=>by
       rcases List.mem_cons.1 hq with rfl | hq
       ·have h:=(x0.ext q1).ext (d1.trans v0);simp only;rw[k0.out];exact h
       ·rw[List.mem_singleton.1 hq];have h:=y0.ext v0;simp only;rw[J.out];exact h) (fun q hq=>by
       rcases List.mem_cons.1 hq with rfl | hq
       ·simp only;rw[k0.out];have:=f0.out;have:=O.out;omega
       ·rw[List.mem_singleton.1 hq];simp only;rw[J.out];omega) (by omega)
      rw[show ([(A,c,hh),(P,cp,pl)].map fun p:Option Addr×Nat×List UInt8=>p.2.2) = [hh,pl] from rfl,show csum 0 [hh,pl]=cnext 0 (hh++pl)from Io hh pl]at j0;obtain⟨s,hs⟩:=Ab (cnext 0 (hh++pl));have U:=l0.out;rw[<-hs]at j0 U;have n0:=Aa (H.trans (d1.trans v0));replace j0:=Aa j0;replace m0:=Aa m0;replace y0:=Aa (y0.ext v0);have i1:=Aa (f1.out.ext v0);replace hs:=Aa hs;clear p1 q2 q1 x0;by_cases k2:s=v
      ·subst k2;rw[if_pos rfl]at U;replace U:=Aa U;go_wp2_with fail;rw[<-m0.out];refine j0.out.mono ?_;rintro e w5 ⟨rfl,b0⟩;have t0:=Aa (n0.out.trans b0);have o1:=Aa (i1.out.ext b0);go_wp2_with fail;refine AE (fun K hK=>?_);go_wp2_with fail;refine⟨by kernel_rfl,?_⟩;go_wp2_with fail;go_ret3;rw[U.out];exact⟨t0.out.drew,P,cp,A3,c3,_,by rw[J.out,c0.out];rfl,by rw[J.out];exact o1.out.drew,by rw[c0.out];exact a1.out⟩
      ·have x3:¬ (s:Int)=v:=by omega
       rw[if_neg k2]at U;replace U:=Aa U;go_wp2_with fail;rw[<-m0.out];refine j0.out.mono ?_;rintro e w5 ⟨rfl,b0⟩;have t0:=Aa (n0.out.trans b0);go_wp2_with fail;go_ret3;exact GotFB.no t0.out U.out
end
section
open Go.RowKit
attribute [local go_sem] Oper.semAt_some AP Cp
def KeepS (B:Nat) (S:Nat->Prop) (W W':World):Prop:=(∀w0:World,w0.heap.size<=B->Ext w0 W->Ext w0 W')/\∀k,S k->∀o,W.heap[k]? = some o->W'.heap[k]? = some o
theorem KeepS.trans (B:Nat) (S:Nat->Prop) (A C D:World) (h:KeepS B S A C) (k:KeepS B S C D):KeepS B S A D:=⟨fun w0 d H=>k.1 w0 d (h.1 w0 d H),fun i hi o Y=>k.2 i hi o (h.2 i hi o Y)⟩
theorem KeepS.refl (B:Nat) (S:Nat->Prop) (A:World):KeepS B S A A:=⟨fun _ _ h=>h,fun _ _ _ h=>h⟩
theorem KeepS.alike {H B:Nat} (J:H<=B) (h1:∀k,S k->k<B) (A C:World) (h:Alike B A C):KeepS H S A C :=
 ⟨fun _ hs Y=>h.ext Y (by omega),fun k hk _ d=>(h.block k (Array.getElem?_eq_some_iff.1 d).1 (fun hn=>by have:=hn.1;have:=h1 k hk;omega)).trans d⟩
theorem KeepS.ext {A C:World} (h:Ext A C):KeepS B S A C :=
 ⟨fun _ _ H=>H.trans h,fun k _ _ d=>(Below.block h k (Array.getElem?_eq_some_iff.1 d).1).trans d⟩
theorem KeepS.row {A C:World} (h:KeepS B S A C) (hk:S k) (d:Row A k t cs):Row C k t cs:=h.2 k hk _ d
abbrev Pay:=Option Addr×Nat×List UInt8×Int
def Pay.val (x:Pay):Value:= .slice x.1 x.2.2.1.length x.2.1
def PayOk (W:World) (x:Pay):Prop:=∃base,Buf W base 5 x.1 x.2.2.1.length x.2.1 (x.2.2.1.map B8)
def pays (l:List Pay):List (List UInt8):=l.map fun x=>x.2.2.1
def NxF (b:List UInt8) (pre:List Pay) (x:Pay) (W:World):Prop:=PayOk W x/\∃r,splitF b=(pays (pre ++ [x])++(splitF r).1,(splitF r).2)
def FinF (b:List UInt8) (ew:Nat) (xs:List Pay) (W W':World):Prop:=(splitF b=(pays xs,0)/\Ext W W')\/∃k W3,k≠0/\splitF b=(pays xs,k)/\Ext W W3/\W'=W3.setCell ⟨ew,0,none⟩ (.int .i64 (k:Int))
def FrIter (b:List UInt8) (B b1 b2 ew:Nat) (w:World):Prop :=
 Iter prog 144 #[.pointer (some ⟨b1,0,none⟩),.pointer (some ⟨b2,0,none⟩)] (fun x:Pay=>#[.int .i64 x.2.2.2,x.val]) Ext (NxF b) (KeepS B fun k=>k=b1\/k=b2\/k=ew) (FinF b ew) w
theorem Kd (A:Option Addr) (n c:Nat) (b:List UInt8) (B b1 b2 ew:Nat) (w0 w:World) (h:In8 w0 A n c b) (hB:w0.heap.size<=B) (hw:Ext w0 w) (f0:n<=1000000000)
 (I:Row w b1 24 #[.slice A n c]) (v0:Row w b2 174 #[.pointer (some ⟨ew,0,none⟩)]) (x0:Row w ew 25 #[.int .i64 0]):FrIter b B b1 b2 ew w:=by
 intro l J W hE j0 hY h0;replace I:=Aa (I.ext hE);replace v0:=Aa (v0.ext hE);replace x0:=Aa (x0.ext hE);replace hw:=Aa (hw.trans hE);clear hE;replace hY:=Aa hY;replace j0:=Aa j0;replace h0:=Aa h0;have f1:=Aa h.len;replace h:=Aa h;have t0:=Aa (fun A n c r W (h:In8 w0 A n c r) (hw:Ext w0 W) (f0:n<=1000000000)=>NK A n c r w0 W h hw f0);refine(callsIn_wide (n:=0)).1 ?_;refine callsIn_of_wp func144 rfl trivial ?_;simp only[ntmps144,List.size_toArray,List.length_cons,List.length_nil,Nat.reduceAdd,Nat.reduceSub,Array.replicate_succ,Array.replicate_zero,List.push_toArray,List.append_toArray,List.nil_append,List.cons_append];have k10:=I.out.cell 0 rfl;gi_wp2_with fail
 gi_loopw [4] (fun s4 wr=>∃(A4:Option Addr) (n4 c4:Nat) (r:List UInt8) (pre:List Pay),s4 = .slice A4 n4 c4/\n4<=n/\Hid (In8 w0 A4 n4 c4 r)/\Hid (splitF b=(pays pre++(splitF r).1,(splitF r).2))/\Hid (J pre wr)/\Hid (Ext w0 wr)/\Hid (Row wr b1 24 #[.slice A n c])/\Hid (Row wr b2 174 #[.pointer (some ⟨ew,0,none⟩)])/\Hid (Row wr ew 25 #[.int .i64 0])) (fun s4 _=>match s4 with | .slice _ k _=>k | _=>0)
 case atStart=>exact⟨A,n,c,b,[],rfl,Nat.le_refl _,h,Aa rfl,h0,hw,I,v0,x0⟩
 case round =>
  obtain⟨A4,n4,c4,r,pre,rfl,i1,hi,i0,hJ,hE,r1,r2,r3⟩:=hrel;have k1:=r1.out.cell 0 rfl;have k2:=r2.out.cell 0 rfl;have c0:=Aa hi.out.len;by_cases hz:n4=0
  ·have y1:¬ (0:Int)<n4:=by omega
   have j1:r = []:=List.length_eq_zero_iff.1 (by rw[<-c0.out];exact hz);subst j1;clear hY t0;gi_wp2_with fail
   go_end0
   refine⟨⟨_,rfl⟩,pre,_,hJ.out,.inl ⟨?_,Ext.refl _⟩⟩;have:=i0.out;rw[Mx,List.append_nil]at this;exact this
  ·have y1:(0:Int)<n4:=by omega
   have Z:r ≠ []:=fun e=>by have:=c0.out;rw[e]at this;exact hz this
   have hg:=t0.out A4 n4 c4 r wr hi.out hE.out (by omega);have H:=i0.out;cases Y:getF r with
   | error k =>
    rw[Mw Z Y,List.append_nil]at H;rw[Y]at hg;have p1:k≠0:=by rcases NQ Y with h | h <;> omega
    have e1:¬ (k:Int)=0:=by omega
    replace H:=Aa H;replace hg:=Aa hg;clear Y hY Z;gi_wp2_with fail;refine(callsIn_wide.2 hg.out).mono ?_;rintro e w2 ⟨d,rfl⟩;have k22:=(r2.out.ext d).cell 0 rfl;have k32:=(r3.out.ext d).cell 0 rfl;have k3f:=(r3.out.ext d).free 0;have e0:=Aa (j0.out _ _ _ hJ.out d);replace d:=Aa d;gi_wp2_with fail;exact bodyPost_ret (results_none rfl _ _ _) rfl ⟨⟨_,rfl⟩,pre,_,hJ.out,.inr ⟨k,_,p1,H.out,d.out,rfl⟩⟩
   | ok q =>
    obtain⟨p,r'⟩:=q;rw[I9 Z Y]at H;rw[Y]at hg;have O:=(C1 Y).1;have G:splitF b=(pays (pre ++ [(none,0,p,0)])++(splitF r').1,(splitF r').2):=by
     rw[H];simp[pays]
    replace H:=Aa H;replace G:=Aa G;replace hg:=Aa hg;clear Y Z;gi_wp2_with fail;refine(callsIn_wide.2 hg.out).mono ?_;rintro e w2 ⟨d,P,cp,A5,c5,base,rfl,q0,p0⟩;have r12:=Aa (r1.out.ext d);have r22:=Aa (r2.out.ext d);have r32:=Aa (r3.out.ext d);have k12:=r12.out.cell 0 rfl;have e0:=Aa (j0.out _ _ _ hJ.out d);have U:splitF b=(pays (pre ++ [(P,cp,p,((n:Int) - r'.length))])++(splitF r').1,(splitF r').2):=by
     have:=G.out;simp only[pays,List.map_append,List.map_cons,List.map_nil]at this ⊢;exact this
    have x1:=hY.out pre (P,cp,p,((n:Int) - r'.length)) w2 e0.out ⟨⟨base,q0⟩,r',U⟩;obtain⟨fn,tmps,assign,body,hy,hR⟩:=x1;simp only[Pay.val]at hy hR;obtain⟨n5,y0⟩:=Ab r'.length;rw[<-y0]at p0 hy hR U O ⊢;replace O:=Nat.lt_of_lt_of_eq O c0.out.symm;obtain⟨pl,b0⟩:=Ab p.length;rw[<-b0]at q0 hy ⊢;replace p0:=Aa p0;replace d:=Aa (hE.out.trans d);replace U:=Aa U;replace q0:=Aa q0;replace y0:=Aa y0;replace b0:=Aa b0;clear hY;gi_wp2_with fail;refine hR.mono ?_;rintro e W3 ⟨rfl,h1,k0⟩;have r13:=Aa (show Row W3 b1 24 #[.slice A n c] from k0.row (.inl rfl) r12.out);have r23:=Aa (show Row W3 b2 174 #[.pointer (some ⟨ew,0,none⟩)] from k0.row (.inr (.inl rfl)) r22.out);have r0:=Aa (k0.1 w0 hB d.out);have r33:=Aa (k0.row (.inr (.inr rfl)) r32.out);gi_wp2_with fail;exact⟨⟨A5,n5,c5,r',_,rfl,by omega,p0,U,Aa h1,r0,r13,r23,r33⟩,by omega⟩
end
section
open Go.RowKit
attribute [local go_sem] Oper.semAt_some AP
def KeepB (b1 b2:Nat) (W W':World):Prop:=(∀o,W.heap[b1]? = some o->W'.heap[b1]? = some o)/\∀o,W.heap[b2]? = some o->W'.heap[b2]? = some o
theorem KeepB.trans (b1 b2:Nat) (A B C:World) (h:KeepB b1 b2 A B) (k:KeepB b1 b2 B C):KeepB b1 b2 A C:=⟨fun o d=>k.1 o (h.1 o d),fun o d=>k.2 o (h.2 o d)⟩
theorem KeepB.refl (b1 b2:Nat) (A:World):KeepB b1 b2 A A:=⟨fun _ h=>h,fun _ h=>h⟩
theorem KeepB.of {c1 c2:Array Value} (h1:Row W b1 t1 c1) (h:Row W' b1 t1 c1) (h2:Row W b2 t2 c2) (d:Row W' b2 t2 c2):KeepB b1 b2 W W' :=
 ⟨fun o H=>by unfold Row at h1 h;rw[h] ;rw[h1]at H;exact H,fun o H=>by unfold Row at h2 d;rw[d];rw[h2]at H;exact H⟩
theorem KeepB.alike (h1:b1<B) (h2:b2<B) (A C:World) (h:Alike B A C):KeepB b1 b2 A C :=
 ⟨fun _ d=>(h.block b1 (Array.getElem?_eq_some_iff.1 d).1 (fun hn=>by have:=hn.1;omega)).trans d,fun _ d=>(h.block b2 (Array.getElem?_eq_some_iff.1 d).1 (fun hn=>by have:=hn.1;omega)).trans d⟩
theorem Ln (A:Option Addr) (n c k:Nat) (w:World) (hk:1<=k) (h:k<=1000000) :
 Calls prog 83 #[.slice A n c,.int .i64 (k:Int)] w fun e w'=>∃b1 b2,e = .returned (.func (.func 135) #[] #[.pointer (some ⟨b1,0,none⟩),.pointer (some ⟨b2,0,none⟩)])/\Row w' b1 47 #[.slice A n c]/\Row w' b2 3 #[.int .i64 (k:Int)]/\w.heap.size<=b1/\w.heap.size<=b2/\b1<b2/\Ext w w':=by
 go_in
 go_wp2_with fail;go_ret;have h1:=Row.new w 47 #[.slice A n c];have h2:=Row.new (w.alloc (.cells #[.slice A n c] 47)) 3 #[.int .i64 (k:Int)];rw[World.size_alloc]at h2;exact⟨w.heap.size,w.heap.size+1,rfl,h1.alloc _,h2,Nat.le_refl _,by omega,by omega,((Ext.refl w).alloc _).alloc _⟩
theorem KO (d:z=(i:Int)) (hi:i<=n):∃A' c',∀W:World,(Instr.sliceAt 47 (.slice A n c) (some (.int .i64 z)) none none).run prog W = .ok (.slice A' (n - i) c') W:=by
 subst d;have ht:=underlying47;have h:prog.elem 47=89:=by unfold Program.elem;rw[ht]
 have hs:∀W:World,(sizeOf 89).run prog W = .ok 2 W:=fun W=>by kernel_rfl
 refine⟨if c=i then A else A.map fun a=>a.add (i*2),c - i,fun W=>?_⟩;rw[run_sliceAt_slice W _ _ _ _ _ (by rw[ht,h]),run_slice_l W _ A n c (by rw[ht,h]) .i64 i (by omega) (by omega),h,hs];simp only[Result.andThen_ok,sliced];rfl
theorem KP (Y:z=(i:Int)) (d:z1=((i+j:Nat):Int)) (H:z2=((i+j:Nat):Int)) (hi:i+j<=c) (J:0<j) (W:World) :
 (Instr.sliceAt 47 (.slice A n c) (some (.int .i64 z)) (some (.int .i64 z1)) (some (.int .i64 z2))).run prog W = .ok (.slice (A.map fun a=>a.add (i*2)) j j) W:=by
 subst Y d H;have ht:=underlying47;have h:prog.elem 47=89:=by unfold Program.elem;rw[ht]
 have hs:(sizeOf 89).run prog W = .ok 2 W:=by kernel_rfl
 rw[run_sliceAt_slice W _ _ _ _ _ (by rw[ht,h]),run_slice_lhm W _ A n c (by rw[ht,h]) .i64 .i64 .i64 i ((i+j:Nat):Int) ((i+j:Nat):Int) (by omega) (by omega) (by omega) (by omega),h,hs];simp only[Result.andThen_ok];congr 1;unfold sliced;rw[if_neg (by omega),show ((i+j:Nat):Int).toNat - (i:Int).toNat=j by omega];rfl
def chunkVA (A:Option Addr) (n k i:Nat):Value:= .slice (A.map fun a=>a.add (i*k*2)) (min k (n - i*k)) (min k (n - i*k))
def ChIterA (A:Option Addr) (n k b1 b2:Nat) (w:World):Prop :=
 Iter prog 135 #[.pointer (some ⟨b1,0,none⟩),.pointer (some ⟨b2,0,none⟩)] (fun i:Nat=>#[chunkVA A n k i]) Ext (fun pre i _=>i=pre.length/\i*k<n) (KeepB b1 b2) (fun xs W W'=>n<=xs.length*k/\xs=List.range xs.length/\(∀i∈xs,i*k<n)/\Ext W W') w
theorem JT (A:Option Addr) (n c k b1 b2:Nat) (w:World) (H:Row w b1 47 #[.slice A n c]) (Y:Row w b2 3 #[.int .i64 (k:Int)]) (hk:1<=k) (n0:k<=1000000) (hn:n<=1000000000) (hc:n<=c):ChIterA A n k b1 b2 w:=by
 intro l J W hE U hY h0;replace H:=H.ext hE;replace Y:=Y.ext hE;clear hE;replace H:=Aa H;replace Y:=Aa Y;replace hY:=Aa hY;replace U:=Aa U;replace h0:=Aa h0;refine(callsIn_wide (n:=0)).1 ?_;refine callsIn_of_wp func135 rfl trivial ?_;simp only[ntmps135,List.size_toArray,List.length_cons,List.length_nil,Nat.reduceAdd,Nat.reduceSub,Array.replicate_succ,Array.replicate_zero,List.push_toArray,List.append_toArray,List.nil_append,List.cons_append];gi_wp2_with fail
 gi_loopw [4] (fun s4 wr=>∃(i q:Nat) (pre:List Nat),s4 = .int .i64 (q:Int)/\Hid (q=i*k)/\q<=n+k/\Hid (pre.length=i)/\Hid (pre=List.range i)/\Hid (∀j∈pre,j*k<n)/\Hid (J pre wr)/\Hid (Row wr b1 47 #[.slice A n c])/\Hid (Row wr b2 3 #[.int .i64 (k:Int)])) (fun s4 _=>n - (intOf s4).toNat)
 case atStart=>exact⟨0,0,[],rfl,Aa (by simp),by omega,Aa rfl,Aa rfl,Aa nofun,h0,H,Y⟩
 case round =>
  obtain⟨i,q,pre,rfl,hq,h1,d,p0,I,hJ,r1,r2⟩:=hrel;have k1:=r1.out.cell 0 rfl;have k2:=r2.out.cell 0 rfl;by_cases G:q<n
  ·obtain⟨m,hm⟩:∃m:Nat,(m:Int)=min (k:Int) ((n - q:Nat):Int):=⟨min k (n - q),by omega⟩
   have b0:0<m:=by omega
   have o0:m<=k:=by omega
   have r0:m<=n - q:=by omega
   have c0:m=k\/m=n - q:=by omega
   have f0:=fun(W:World)=>AQ (P:=prog) #[3,3] 3 hm W;have p1:=fun(W:World)=>KP (A:=A) (n:=n) (c:=c) (i:=q) (j:=m) (z:=(q:Int)) (z1:=(q:Int)+(m:Int)) (z2:=(q:Int)+(m:Int)) rfl (by omega) (by omega) (by omega) b0 W;obtain⟨A',c',q1⟩:=KO (A:=A) (n:=n) (c:=c) (i:=q) (z:=(q:Int)) rfl (by omega);replace hm:=Aa hm;have g0:=hY.out pre pre.length wr.drew (U.out _ _ _ hJ.out (Ext.refl wr).drew) ⟨rfl,by rw[d.out,<-hq.out];exact G⟩;have O:chunkVA A n k pre.length = .slice (A.map fun a=>a.add (q*2)) m m:=by
    unfold chunkVA;rw[d.out,<-hq.out,show min k (n - q)=m by omega]
   rw[O]at g0;obtain⟨fn,tmps,assign,body,hy,hR⟩:=g0;have q0:Hid (∀j∈pre ++ [pre.length],j*k<n):=Aa fun j hj=>by
    rcases List.mem_append.1 hj with h | h
    ·exact I.out j h
    ·rw[List.mem_singleton.1 h,d.out,<-hq.out];exact G
   have k0:Hid (pre ++ [pre.length]=List.range (i+1)):=Aa (by rw[List.range_succ,d.out,p0.out]);have d0:Hid (q+k=(i+1)*k):=Aa (by rw[Nat.succ_mul,hq.out]);clear O c0 hY U;gi_wp2_with fail;refine wpIn_wide.2 (AE (fun K hK=>?_));go_wp2_with fail;refine⟨by kernel_rfl,?_⟩;gi_wp2_with fail;refine hR.mono ?_;rintro e W3 ⟨rfl,x0,Z⟩;have r13:=Aa (show Row W3 b1 47 #[.slice A n c] from Z.1 _ r1.out);have r23:=Aa (show Row W3 b2 3 #[.int .i64 (k:Int)] from Z.2 _ r2.out);have k23:=r23.out.cell 0 rfl;gi_wp2_with fail;exact⟨⟨i+1,q+k,pre ++ [pre.length],by congr 1,d0,by omega,Aa (by rw[List.length_append,d.out];rfl),k0,q0,Aa x0,r13,r23⟩,by simp only[intOf];omega⟩
  ·gi_wp2_with fail
   go_end0
   exact⟨⟨_,rfl⟩,pre,_,hJ.out,by rw[d.out,<-hq.out];omega,by rw[d.out];exact p0.out,I.out,Ext.refl _⟩
end
end Go.Proofs.YtfifdilapbeiiaaGreat
