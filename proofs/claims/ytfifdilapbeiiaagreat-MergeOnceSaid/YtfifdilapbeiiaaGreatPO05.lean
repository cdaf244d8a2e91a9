/- Texts of one proof, joined. -/
import Derived.Test.YtfifdilapbeiiaaGreatPO04
set_option linter.unusedSimpArgs false
set_option linter.unusedVariables false
set_option maxRecDepth 100000
set_option maxHeartbeats 16000000
namespace Go.Proofs.YtfifdilapbeiiaaGreat
open _root_.Go.Proofs.Tryz
variable {cs:Array Value} {z z1 z2:Int} {Hd' L l nm p r r1 r2 tx:List UInt8} {xs ys:List Value} {B B1 b1 b2 c c2 c3 g i k n n3 q x:Nat} {S:Nat → Prop} {A A2 A3:Option Addr} {e e2 t t1 t2:TypeId} {v:Value} {W W' W1 W6 w w' w0 w1:World}
section
open Go.RowKit
structure LoHi (a m b mid N lo hi:Nat):Prop where
  le:lo<=hi
  alo:a<=lo
  him:hi<=m
  hmid:hi<=mid
  nhi:m+hi<=N
  nlo:N<=b+lo
  one:lo=a\/N=b+lo
  two:hi=m\/N=m+hi
theorem NX {a m b mid N:Nat} (H:N=mid+m) (h1:mid<m) (h2:a<m) (h:m<b) (j:mid=(a+b) / 2):LoHi a m b mid N (N - b) mid:=⟨by omega,by omega,by omega,by omega,by omega,by omega,.inr (by omega),.inr (by omega)⟩
theorem LU {a m b mid N:Nat} (H:N=mid+m) (h1:¬ mid<m) (h2:a<m) (h:m<b) (j:mid=(a+b) / 2):LoHi a m b mid N a m:=⟨by omega,by omega,by omega,by omega,by omega,by omega,.inl rfl,.inl rfl⟩
structure SeaI (D:List TmV) (N lo hi s r:Nat):Prop where
  ls:lo<=s
  sr:s<=r
  rh:r<=hi
  lo:s=lo\/∃x y,D[s - 1]? = some x/\D[N - s]? = some y/\¬ y.1<x.1
  hi:r=hi\/∃x y,D[r]? = some x/\D[N - 1 - r]? = some y/\y.1<x.1
theorem SeaI.cut {D P A B Q:List TmV} {a m b mid N lo hi s:Nat} (h:SeaI D N lo hi s s) (j:LoHi a m b mid N lo hi) (U:D=P++(A++(B++Q))) (O:a=P.length) (T:m=a+A.length) (hb:b=m+B.length):CutP A B (s - a) (N - s - m):=by
 have gA:∀i,a<=i->i<m->D[i]? = A[i - a]? :=fun i h1 h2=>by
  rw[U,<-Hp (P:=P) (A:=A) (R:=B++Q) (i:=i - a) (by omega),<-O,show a+(i - a)=i by omega]
 have gB:∀i,m<=i->i<b->D[i]? = B[i - m]? :=fun i h1 h2=>by
  rw[U,<-FP (P:=P) (A:=A) (B:=B) (R:=Q) (i:=i - m) (by omega),<-O,<-T,show m+(i - m)=i by omega]
 have:=h.ls;have:=h.sr;have:=h.rh;have:=j.le;have:=j.alo;have:=j.him;have:=j.nhi;have:=j.nlo;refine⟨by omega,by omega,?_,?_⟩
 ·by_cases e1:s - a=0
  ·exact .inl e1
  ·by_cases e2:N - s - m=B.length
   ·exact .inr (.inl e2)
   ·rcases h.lo with e | ⟨x,y,Y,J,H⟩
    ·rcases j.one with f | f
     ·omega
     ·omega
    ·refine .inr (.inr ⟨x,y,?_,?_,H⟩)
     ·rw[show s - a - 1=s - 1 - a by omega,<-gA (s - 1) (by omega) (by omega)];exact Y
     ·rw[<-gB (N - s) (by omega) (by omega)];exact J
 ·by_cases e1:s - a=A.length
  ·exact .inl e1
  ·by_cases e2:N - s - m=0
   ·exact .inr (.inl e2)
   ·rcases h.hi with e | ⟨x,y,Y,J,H⟩
    ·rcases j.two with f | f
     ·omega
     ·omega
    ·refine .inr (.inr ⟨x,y,?_,?_,H⟩)
     ·rw[<-gA s (by omega) (by omega)];exact Y
     ·rw[show N - s - m - 1=N - 1 - s - m by omega,<-gB (N - 1 - s) (by omega) (by omega)];exact J
theorem Rb (g c a m b:Nat) (D P A B Q:List TmV) (w:World) (i0:TR w g D) (hD:D=P++(A++(B++Q))) (ha:a=P.length) (hm:m=a+A.length) (hb:b=m+B.length) (hA:Srt A) (hB:Srt B) (c5:1<A.length) (d5:1<B.length) (f3:D.length<=1073741824)
 (ih:∀(a m b:Nat) (D P A' B' Q:List TmV) (w:World),A'.length+B'.length<A.length+B.length->TR w g D->D=P++(A'++(B'++Q))->a=P.length->m=a+A'.length->b=m+B'.length->Srt A'->Srt B'->0<A'.length->0<B'.length->D.length<=1073741824->Calls prog 202 #[.slice (some ⟨g,0,none⟩) D.length c,.int .i64 (a:Int),.int .i64 (m:Int),.int .i64 (b:Int),cmpV] w (SymP g P A' B' Q w)) :
 Calls prog 202 #[.slice (some ⟨g,0,none⟩) D.length c,.int .i64 (a:Int),.int .i64 (m:Int),.int .i64 (b:Int),cmpV] w (SymP g P A B Q w):=by
 obtain⟨dl,J⟩:∃n,n=D.length:=⟨_,rfl⟩
 have f5:b<=dl:=by rw[J,hD];simp only[List.length_append];omega
 have O:∀(s e:Nat) (T:List TmV) (x:World),TR x g D->RotI T D m (m - s) (e - m)->s<m->m<e->Calls prog 225 #[.slice (some ⟨g,0,none⟩) dl c,.int .i64 (s:Int),.int .i64 (m:Int),.int .i64 (e:Int),cmpV] x fun en w'=>en = .returned (.tuple #[])/\TR w' g T/\Chg (fun k=>k=g) x w':=fun s e T x h1 h2 h3 h4=>by
  have:=Ml g c s m e D T cmpV x h1 h2 h3 h4 f3;rw[<-J]at this;exact this
 have ih':∀(a m b:Nat) (E P A' B' Q:List TmV) (w:World),A'.length+B'.length<A.length+B.length->TR w g E->E.length=dl->E=P++(A'++(B'++Q))->a=P.length->m=a+A'.length->b=m+B'.length->Srt A'->Srt B'->0<A'.length->0<B'.length->Calls prog 202 #[.slice (some ⟨g,0,none⟩) dl c,.int .i64 (a:Int),.int .i64 (m:Int),.int .i64 (b:Int),cmpV] w (SymP g P A' B' Q w):=fun a m b E P A' B' Q w h1 h2 h3 h4 h5 h6 h7 h8 h9 a4 b4=>by
  have:=ih a m b E P A' B' Q w h1 h2 h4 h5 h6 h7 h8 h9 a4 b4 (by omega);rw[h3]at this;exact this
 rw[<-J]at f3 ⊢;have j5:((m:Int) - (a:Int)==1)=false:=beq_eq_false_iff_ne.2 (by omega);have p5:((b:Int) - (m:Int)==1)=false:=beq_eq_false_iff_ne.2 (by omega);have b3:a<m:=by omega
 have r3:m<b:=by omega
 obtain⟨mid,hmid⟩:∃k,k=(a+b) / 2:=⟨_,rfl⟩
 obtain⟨N,hN⟩:∃k,k=mid+m:=⟨_,rfl⟩
 have Z:((a:Int)+(b:Int)) / 2=(mid:Int):=by omega
 have q3:(mid:Int)+(m:Int)=(N:Int):=by omega
 have o4:mid<b:=by omega
 have n4:a<mid:=by omega
 have e5:N<=2147483648:=by omega
 have Y:=fun x y W=>Fs x y W;unfold tagg at Y;unfold cmpV at O ih' ⊢;clear ih;replace Y:=Aa Y;replace i0:=Aa i0;replace hD:=Aa hD;replace J:=Aa J;replace hA:=Aa hA;replace hB:=Aa hB;replace ha:=Aa ha;replace hm:=Aa hm;replace hb:=Aa hb;replace O:=Aa O;replace ih':=Aa ih';replace hmid:=Aa hmid;replace hN:=Aa hN;replace Z:=Aa Z;replace q3:=Aa q3
 go_in
 go_upto_if 140 with (fail)
 rw[Z.out,q3.out]
 go_cut [20,21] from 138 to 146 (fun s20 s21 wv=>∃lo hi:Nat,s20 = .int .i64 (lo:Int)/\s21 = .int .i64 (hi:Int)/\Hid (LoHi a m b mid N lo hi)/\wv=w)
 case first =>
  by_cases q4:mid<m
  ·have hl:=Aa (NX hN.out q4 b3 r3 hmid.out);have x3:(N:Int) - (b:Int)=((N - b:Nat):Int):=by have:=hmid.out;have:=hN.out;omega
   replace x3:=Aa x3;go_wp2_with fail
   go_meet
   case rel=>exact⟨N - b,mid,by rw[x3.out],rfl,hl,rfl⟩
  ·have hl:=Aa (LU hN.out q4 b3 r3 hmid.out);go_wp2_with fail
   go_meet
   case rel=>exact⟨a,m,rfl,rfl,hl,rfl⟩
 case rest =>
  obtain⟨lo,hi,rfl,rfl,hL,rfl⟩:=hcut;have i3:=hL.out.le;have r5:=hL.out.alo;have n5:=hL.out.him;have k6:=hL.out.nhi;have j6:=hL.out.nlo;obtain⟨wo,rfl⟩:=Ab wc;go_wp2_with fail
  go_loopw [20,21] (fun s20 s21 wr=>∃s r:Nat,s20 = .int .i64 (s:Int)/\s21 = .int .i64 (r:Int)/\lo<=s/\s<=r/\r<=hi/\Hid (SeaI D N lo hi s r/\Ext wo wr)) (fun s20 s21 _=>(intOf s21).toNat - (intOf s20).toNat)
  case atStart=>exact⟨lo,hi,rfl,rfl,Nat.le_refl _,i3,Nat.le_refl _,Aa ⟨⟨Nat.le_refl _,i3,Nat.le_refl _,.inl rfl,.inl rfl⟩,Ext.refl _⟩⟩
  case round =>
   obtain⟨s,r,rfl,rfl,o3,m6,j4,hI⟩:=hrel;by_cases q6:s<r
   ·obtain⟨h,hh⟩:∃h:Nat,((s:Int)+(r:Int)) / 2=(h:Int):=⟨(s+r) / 2,by omega⟩
    have g4:s<=h:=by omega
    have o5:h<r:=by omega
    obtain⟨e,he⟩:=Ab (N - 1 - h);have d3:(N:Int) - 1 - (h:Int)=(e:Int):=by omega
    have l5:IntKind.i64.wrap ((N:Int) - 1 - (h:Int))=(e:Int):=by rw[IntWalk.i64_in _ (by omega)];omega
    have i5:e<dl:=by omega
    obtain⟨x0,y1⟩:∃x,D[h]? = some x:=⟨_,List.getElem?_eq_getElem (by have:=J.out;omega)⟩
    obtain⟨y,hy⟩:∃y,D[e]? = some y:=⟨_,List.getElem?_eq_getElem (by have:=J.out;omega)⟩
    have j:=(i0.out.ext hI.out.2).at_ hy;have H:=(i0.out.ext hI.out.2).at_ y1;have e0:wr.cell? ⟨g,e*2,none⟩=some (.string ⟨y.1.toArray⟩)/\wr.cell? ⟨g,e*2+1,none⟩=some (.slice y.2.1 y.2.2.1 y.2.2.2)/\wr.cell? ⟨g,h*2,none⟩=some (.string ⟨x0.1.toArray⟩)/\wr.cell? ⟨g,h*2+1,none⟩=some (.slice x0.2.1 x0.2.2.1 x0.2.2.2)/\Ext wr wr:=⟨j.1,j.2,H.1,H.2,Ext.refl wr⟩
    have m1:∀w0 w1:World,(w0.cell? ⟨g,e*2,none⟩=some (.string ⟨y.1.toArray⟩)/\w0.cell? ⟨g,e*2+1,none⟩=some (.slice y.2.1 y.2.2.1 y.2.2.2)/\w0.cell? ⟨g,h*2,none⟩=some (.string ⟨x0.1.toArray⟩)/\w0.cell? ⟨g,h*2+1,none⟩=some (.slice x0.2.1 x0.2.2.1 x0.2.2.2)/\Ext wr w0)->Ext w0 w1->(w1.cell? ⟨g,e*2,none⟩=some (.string ⟨y.1.toArray⟩)/\w1.cell? ⟨g,e*2+1,none⟩=some (.slice y.2.1 y.2.2.1 y.2.2.2)/\w1.cell? ⟨g,h*2,none⟩=some (.string ⟨x0.1.toArray⟩)/\w1.cell? ⟨g,h*2+1,none⟩=some (.slice x0.2.1 x0.2.2.1 x0.2.2.2)/\Ext wr w1):=fun w0 w1 h1 h3=>⟨h3.cell h1.1,h3.cell h1.2.1,h3.cell h1.2.2.1,h3.cell h1.2.2.2.1,h1.2.2.2.2.trans h3⟩
    have f1:=m1 _ _ e0 (Ext.refl wr).drew;have b1:(h:Int)<(dl:Int):=by omega
    have b2:(e:Int)<(dl:Int):=by omega
    replace e0:=Aa e0;replace f1:=Aa f1;replace m1:=Aa m1;replace y1:=Aa y1;replace hy:=Aa hy;replace hh:=Aa hh;replace he:=Aa he;replace d3:=Aa d3;clear j H;go_upto_region 35 with (fail)
    rw[hh.out];by_cases y2:y.1<x0.1
    ·have a1:=Aa y2
     go_region_held3 (fun x=>x.cell? ⟨g,e*2,none⟩=some (.string ⟨y.1.toArray⟩)/\x.cell? ⟨g,e*2+1,none⟩=some (.slice y.2.1 y.2.2.1 y.2.2.2)/\x.cell? ⟨g,h*2,none⟩=some (.string ⟨x0.1.toArray⟩)/\x.cell? ⟨g,h*2+1,none⟩=some (.slice x0.2.1 x0.2.2.1 x0.2.2.2)/\Ext wr x) (first | exact f1.out | exact e0.out | exact ‹_› | exact m1.out _ _ ‹_› ‹_›) (first
      | (go_at_call 132;refine(Y.out y x0 _).mono ?_;rintro e w5 ⟨zc,rfl,h0,r4,w4,f2⟩;have y3:=h0.2 a1.out;have q5:decide (zc<0)=true:=decide_eq_true y3;replace h0:=Aa h0))
     have i2:=hI.out.2.trans ((Ext.refl wr).drew.trans f2);go_wp2_with fail;go_roundw
     case rel=>exact⟨s,h,rfl,rfl,o3,g4,by omega,Aa ⟨⟨o3,g4,by omega,hI.out.1.lo,.inr ⟨x0,y,y1.out,by rw[<-he.out];exact hy.out,y2⟩⟩,i2⟩⟩
     case measure=>simp[intOf];omega
    ·have a1:=Aa y2
     go_region_held3 (fun x=>x.cell? ⟨g,e*2,none⟩=some (.string ⟨y.1.toArray⟩)/\x.cell? ⟨g,e*2+1,none⟩=some (.slice y.2.1 y.2.2.1 y.2.2.2)/\x.cell? ⟨g,h*2,none⟩=some (.string ⟨x0.1.toArray⟩)/\x.cell? ⟨g,h*2+1,none⟩=some (.slice x0.2.1 x0.2.2.1 x0.2.2.2)/\Ext wr x) (first | exact f1.out | exact e0.out | exact ‹_› | exact m1.out _ _ ‹_› ‹_›) (first
      | (go_at_call 132;refine(Y.out y x0 _).mono ?_;rintro e w5 ⟨zc,rfl,h0,r4,w4,f2⟩;have y3:¬ zc<0:=fun hc=>a1.out (h0.1 hc);have q5:decide (zc<0)=false:=decide_eq_false y3;replace h0:=Aa h0))
     have i2:=hI.out.2.trans ((Ext.refl wr).drew.trans f2);go_wp2_with fail;go_roundw
     case rel=>exact⟨h+1,r,by go_num,rfl,by omega,by omega,j4,Aa ⟨⟨by omega,by omega,j4,.inr ⟨x0,y,by rw[show h+1 - 1=h by omega];exact y1.out,by rw[show N - (h+1)=e by have:=he.out;omega];exact hy.out,y2⟩,hI.out.1.hi⟩,i2⟩⟩
     case measure=>simp[intOf];omega
   ·obtain rfl:s=r:=by omega
    have r0:=hI.out.1.cut hL.out hD.out ha.out hm.out hb.out;obtain⟨p,hp⟩:=Ab (s - a);obtain⟨q,hq⟩:=Ab (N - s - m);obtain⟨en,e3⟩:=Ab (N - s);rw[<-hp,<-hq]at r0;obtain⟨A1,q0⟩:∃x,x=A.take p:=⟨_,rfl⟩
    obtain⟨A2,g0⟩:∃x,x=A.drop p:=⟨_,rfl⟩
    obtain⟨B1,p0⟩:∃x,x=B.take q:=⟨_,rfl⟩
    obtain⟨B2,t0⟩:∃x,x=B.drop q:=⟨_,rfl⟩
    have t3:=fun M1 M2 (h1:Mrg A1 B1 M1) (h2:Mrg A2 B2 M2)=>r0.mrg hA.out hB.out (M1:=M1) (M2:=M2) (by rw[<-q0,<-p0];exact h1) (by rw[<-g0,<-t0];exact h2);have m0:A=A1++A2:=by rw[q0,g0,List.take_append_drop]
    have v0:B=B1++B2:=by rw[p0,t0,List.take_append_drop]
    have G:=hA.out;have I:=hB.out;have n0:=hm.out;have o0:=hb.out;have q2:=ha.out;rw[m0]at G n0;rw[v0]at I o0;rw[List.length_append]at n0 o0;have l1:A1.length=p:=by rw[q0,List.length_take];have:=r0.ile;omega
    have l2:B1.length=q:=by rw[p0,List.length_take];have:=r0.jle;omega
    have c0:D=P++(A1++(A2++(B1++(B2++Q)))):=by rw[hD.out,m0,v0];simp
    obtain⟨T,hT⟩:=Ab (P++(A1++(B1++(A2++(B2++Q)))));have o1:T.length=dl:=by rw[J.out,c0,hT];simp only[List.length_append];omega
    have q1:(N:Int) - (s:Int)=(en:Int):=by omega
    have x2:s<m->m<en->RotI T D m (m - s) (en - m):=fun h1 h2=>⟨⟨P++A1,A2,B1,B2++Q,by rw[c0];simp,by rw[List.length_append];omega,by omega,by omega,by rw[hT];simp⟩,by omega,by omega⟩
    have m2:¬ (s<m/\m<en)->D=T:=fun h=>by
     rw[c0,hT];by_cases h1:s<m
     ·have:B1 = []:=List.length_eq_zero_iff.1 (by have:=fun h2=>h ⟨h1,h2⟩;omega);rw[this];rfl
     ·have:A2 = []:=List.length_eq_zero_iff.1 (by omega);rw[this];rfl
    have j3:A1.length+B1.length<A.length+B.length:=by rw[m0,v0,List.length_append,List.length_append];have:=hmid.out;have:=hN.out;omega
    have m3:A2.length+B2.length<A.length+B.length:=by rw[m0,v0,List.length_append,List.length_append];have:=hmid.out;have:=hN.out;omega
    have k1:mid=s+B1.length:=by have:=hN.out;omega
    have k2:en=mid+A2.length:=by have:=hN.out;omega
    have k3:b=en+B2.length:=by have:=hN.out;omega
    have k4:s=a+A1.length:=by omega
    have l0:=i0.out.ext hI.out.2;have b0:=Chg.of_ext hI.out.2 (fun k=>k=g);have v5:s<b:=by omega
    have k5:en<=b:=by omega
    have g5:m<=en:=by omega
    obtain⟨we,rfl⟩:=Ab wr;replace x2:=Aa x2;replace m2:=Aa m2;replace t3:=Aa t3;replace hT:=Aa hT;replace o1:=Aa o1;replace c0:=Aa c0;replace q1:=Aa q1;replace j3:=Aa j3;replace m3:=Aa m3;replace G:=Aa G;replace I:=Aa I;replace k1:=Aa k1;replace k2:=Aa k2;replace k3:=Aa k3;replace k4:=Aa k4;replace l0:=Aa l0;replace b0:=Aa b0;replace q2:=Aa q2;replace e3:=Aa e3;clear hp hq r0 q0 g0 p0 t0 m0 v0 n0 o0 l1 l2;obtain⟨t1,j⟩:∃t:Bool,t=(decide (s<m)&&decide (m<en)):=⟨_,rfl⟩
    replace j:=Aa j;go_upto_region 39 with (fail)
    rw[q1.out]
    go_cut [185] from 178 to 185 (fun sx wv=>sx = .bool t1/\wv=we)
    case first =>
     by_cases c1:s<m
     ·have c1b:decide (s<m)=true:=decide_eq_true c1;by_cases c2:m<en
      ·have c2b:decide (m<en)=true:=decide_eq_true c2;have ht:=j.out;rw[c1b,c2b]at ht;replace ht:=Aa ht;go_wp2_with fail
       go_meet
       case rel=>exact⟨by rw[ht.out];rfl,rfl⟩
      ·have c2b:decide (m<en)=false:=decide_eq_false c2;have ht:=j.out;rw[c1b,c2b]at ht;replace ht:=Aa ht;go_wp2_with fail
       go_meet
       case rel=>exact⟨by rw[ht.out];rfl,rfl⟩
     ·have c1b:decide (s<m)=false:=decide_eq_false c1;have ht:=j.out;rw[c1b]at ht;replace ht:=Aa ht;go_wp2_with fail
      go_meet
      case rel=>exact⟨by rw[ht.out];rfl,rfl⟩
    case' rest=>obtain⟨rfl,rfl⟩:=hcut
    go_upto_if 185 with (fail)
    go_cut [24] from 186 to 191 (fun s24 wv=>s24 = .int .i64 (en:Int)/\Hid (TR wv g T/\Chg (fun k=>k=g) wo wv))
    case first =>
     cases t1 with
     | true =>
      have hc:=j.out.symm;simp only[Bool.and_eq_true,decide_eq_true_eq]at hc;have hr:=Aa (O.out s en T wc l0.out (x2.out hc.1 hc.2) hc.1 hc.2);clear hc;go_wp2_with fail;refine hr.out.mono ?_;rintro e w6 ⟨rfl,f0,y0⟩;go_wp2_with fail
      go_meet
      case rel=>exact⟨rfl,Aa ⟨f0,b0.out.trans y0 fun _ _ h=>h⟩⟩
     | false =>
      have d4:=Aa (m2.out fun h=>by have:=j.out;rw[decide_eq_true h.1,decide_eq_true h.2]at this;cases this);go_wp2_with fail
      go_meet
      case rel=>exact⟨rfl,Aa ⟨by rw[<-d4.out];exact l0.out,b0.out⟩⟩
    case rest =>
     obtain⟨rfl,i1⟩:=hcut;obtain⟨wf,rfl⟩:=Ab wc;clear x2 m2 l0 b0 O Y;have j1:a<s->s<mid->Calls prog 202 #[.slice (some ⟨g,0,none⟩) dl c,.int .i64 (a:Int),.int .i64 (s:Int),.int .i64 (mid:Int),cmpV] wf (SymP g P A1 B1 (A2++(B2++Q)) wf):=fun h1 h2 =>
      ih'.out a s mid T P A1 B1 (A2++(B2++Q)) wf j3.out i1.out.1 o1.out hT.out q2.out k4.out k1.out G.out.left I.out.left (by have:=k4.out;omega) (by have:=k1.out;omega)
     have n1:¬ (a<s/\s<mid)->Mrg A1 B1 (A1++B1):=fun h=>by
      by_cases h1:a<s
      ·have:B1 = []:=List.length_eq_zero_iff.1 (by have:=k1.out;have:=fun h2=>h ⟨h1,h2⟩;omega);rw[this,List.append_nil];exact Mrg.nil_right G.out.left
      ·have:A1 = []:=List.length_eq_zero_iff.1 (by have:=k4.out;omega);rw[this];exact Mrg.nil_left I.out.left
     have g6:s<=mid:=by have:=k1.out;omega
     have p6:mid<=en:=by have:=k2.out;omega
     unfold cmpV at j1;replace j1:=Aa j1;replace n1:=Aa n1;obtain⟨t2,H⟩:∃t:Bool,t=(decide (a<s)&&decide (s<mid)):=⟨_,rfl⟩
     replace H:=Aa H;go_upto_region 41 with (fail)
     go_cut [199] from 192 to 199 (fun sx wv=>sx = .bool t2/\wv=wf)
     case first =>
      by_cases c1:a<s
      ·have c1b:decide (a<s)=true:=decide_eq_true c1;by_cases c2:s<mid
       ·have c2b:decide (s<mid)=true:=decide_eq_true c2;have ht:=H.out;rw[c1b,c2b]at ht;replace ht:=Aa ht;go_wp2_with fail
        go_meet
        case rel=>exact⟨by rw[ht.out];rfl,rfl⟩
       ·have c2b:decide (s<mid)=false:=decide_eq_false c2;have ht:=H.out;rw[c1b,c2b]at ht;replace ht:=Aa ht;go_wp2_with fail
        go_meet
        case rel=>exact⟨by rw[ht.out];rfl,rfl⟩
      ·have c1b:decide (a<s)=false:=decide_eq_false c1;have ht:=H.out;rw[c1b]at ht;replace ht:=Aa ht;go_wp2_with fail
       go_meet
       case rel=>exact⟨by rw[ht.out];rfl,rfl⟩
     case' rest=>obtain⟨rfl,rfl⟩:=hcut
     go_upto_if 199 with (fail)
     go_cut [24] from 200 to 205 (fun s24 wv=>s24 = .int .i64 (en:Int)/\∃M1,Hid (Mrg A1 B1 M1/\TR wv g (P++(M1++(A2++(B2++Q))))/\Chg (fun k=>k=g) wo wv))
     case first =>
      cases t2 with
      | true =>
       have hc:=H.out.symm;simp only[Bool.and_eq_true,decide_eq_true_eq]at hc;have hr:=Aa (j1.out hc.1 hc.2);clear hc;go_wp2_with fail;refine hr.out.mono ?_;rintro e w6 ⟨rfl,M1,e4,f0,y0⟩;go_wp2_with fail
       go_meet
       case rel=>exact⟨rfl,M1,Aa ⟨e4,f0,i1.out.2.trans y0 fun _ _ h=>h⟩⟩
      | false =>
       have x1:=Aa (n1.out fun h=>by have:=H.out;rw[decide_eq_true h.1,decide_eq_true h.2]at this;cases this);go_wp2_with fail
       go_meet
       case rel=>exact⟨rfl,_,Aa ⟨x1.out,by rw[List.append_assoc,<-hT.out];exact i1.out.1,i1.out.2⟩⟩
     case rest =>
      obtain⟨rfl,M1,hM⟩:=hcut;obtain⟨wg,rfl⟩:=Ab wc;have d0:=hM.out.1.2.len;rw[List.length_append]at d0;have p3:(P++M1).length=mid:=by rw[List.length_append];have:=k1.out;have:=k4.out;have:=q2.out;omega
      have o2:(P++(M1++(A2++(B2++Q)))).length=dl:=by rw[<-o1.out,hT.out];simp only[List.length_append];omega
      have j2:mid<en->en<b->Calls prog 202 #[.slice (some ⟨g,0,none⟩) dl c,.int .i64 (mid:Int),.int .i64 (en:Int),.int .i64 (b:Int),cmpV] wg (SymP g (P++M1) A2 B2 Q wg):=fun h1 h2 =>
       ih'.out mid en b _ (P++M1) A2 B2 Q wg m3.out hM.out.2.1 o2 (by simp) p3.symm k2.out k3.out G.out.right I.out.right (by have:=k2.out;omega) (by have:=k3.out;omega)
      have n2:¬ (mid<en/\en<b)->Mrg A2 B2 (A2++B2):=fun h=>by
       by_cases h1:mid<en
       ·have:B2 = []:=List.length_eq_zero_iff.1 (by have:=k3.out;have:=fun h2=>h ⟨h1,h2⟩;omega);rw[this,List.append_nil];exact Mrg.nil_right G.out.right
       ·have:A2 = []:=List.length_eq_zero_iff.1 (by have:=k2.out;omega);rw[this];exact Mrg.nil_left I.out.right
      have U:∀(M2:List TmV) (x:World),Mrg A2 B2 M2->TR x g ((P++M1)++(M2++Q))->Chg (fun k=>k=g) wo x->SymP g P A B Q wo (.returned (.tuple #[])) x:=fun M2 x h1 h2 h3 =>
       ⟨rfl,M1++M2,t3.out M1 M2 hM.out.1 h1,by rw[List.append_assoc,<-List.append_assoc P];exact h2,h3⟩
      unfold cmpV at j2;replace j2:=Aa j2;replace n2:=Aa n2;replace U:=Aa U;replace d0:=Aa d0;replace p3:=Aa p3;replace o2:=Aa o2;by_cases c1:mid<en
      ·by_cases c2:en<b
       ·have hr:=Aa (j2.out c1 c2);have c1b:decide (mid<en)=true:=decide_eq_true c1;have c2b:decide (en<b)=true:=decide_eq_true c2;go_wp2_with fail;refine hr.out.mono ?_;rintro e w6 ⟨rfl,M2,f4,f0,y0⟩;go_wp2_with fail
        go_end0
        exact U.out M2 w6 f4 f0 (hM.out.2.2.trans y0 fun _ _ h=>h)
       ·have c1b:decide (mid<en)=true:=decide_eq_true c1;have c2b:decide (en<b)=false:=decide_eq_false c2;have x1:=Aa (n2.out fun h=>c2 h.2);go_wp2_with fail
        go_end0
        exact U.out _ wg x1.out (by have:=hM.out.2.1;simpa only[List.append_assoc]using this) hM.out.2.2
      ·have c1b:decide (mid<en)=false:=decide_eq_false c1;have x1:=Aa (n2.out fun h=>c1 h.1);go_wp2_with fail
       go_end0
       exact U.out _ wg x1.out (by have:=hM.out.2.1;simpa only[List.append_assoc]using this) hM.out.2.2
theorem Fq (g c:Nat):∀(n a m b:Nat) (D P A B Q:List TmV) (w:World),A.length+B.length<n->TR w g D->D=P++(A++(B++Q))->a=P.length->m=a+A.length->b=m+B.length->Srt A->Srt B->0<A.length->0<B.length->D.length<=1073741824 ->
 Calls prog 202 #[.slice (some ⟨g,0,none⟩) D.length c,.int .i64 (a:Int),.int .i64 (m:Int),.int .i64 (b:Int),cmpV] w (SymP g P A B Q w)
 | 0,_,_,_,_,_,_,_,_,_,h,_,_,_,_,_,_,_,_,_,_=>absurd h (Nat.not_lt_zero _)
 | n+1,a,m,b,D,P,A,B,Q,w,h,U,J,O,T,hb,Z,G,I,h0,j=>by
  by_cases H:A.length=1
  ·obtain⟨z,rfl⟩:=List.length_eq_one_iff.1 H;exact Qc g c a m b D P B Q z w U J O T hb G j
  ·by_cases Y:B.length=1
   ·obtain⟨z,rfl⟩:=List.length_eq_one_iff.1 Y;exact OL g c a m b D P A Q z w U J O T hb Z (by omega) j
   ·exact Rb g c a m b D P A B Q w U J O T hb Z G (by omega) (by omega) j fun a m b D P A' B' Q w q0=>Fq g c n a m b D P A' B' Q w (by omega)
inductive Bk (k:Nat):List TmV->List TmV->Prop
  | nil:Bk k [] []
  | last (X S:List TmV):0<X.length->X.length<=k->Std X S->Bk k X S
  | cons (X S d e:List TmV):X.length=k->Std X S->0<d.length->Bk k d e->Bk k (X++d) (S++e)
inductive BdS (k:Nat):List TmV->List TmV->Prop
  | nil:BdS k [] []
  | snoc (d e X S:List TmV):BdS k d e->X.length=k->Std X S->BdS k (d++X) (e++S)
theorem Bk.len {d e:List TmV} (h:Bk k d e):e.length=d.length:=by
 induction h with
 | nil=>rfl
 | last X S _ _ h=>exact h.2.len
 | cons X S d e _ h _ _ ih=>rw[List.length_append,List.length_append,ih,h.2.len]
theorem BdS.len {d e:List TmV} (h:BdS k d e):e.length=d.length:=by
 induction h with
 | nil=>rfl
 | snoc d e X S _ _ h ih=>rw[List.length_append,List.length_append,ih,h.2.len]
theorem Bk.empty {e:List TmV} (h:Bk k [] e):e = []:=List.length_eq_zero_iff.1 h.len
theorem Bk.push {X S d e:List TmV} (hk:0<k) (b:X.length=k) (j:Std X S) (h:Bk k d e):Bk k (X++d) (S++e):=by
 by_cases hd:d = []
 ·subst hd;rw[h.empty,List.append_nil,List.append_nil];exact .last X S (by omega) (by omega) j
 ·exact .cons X S d e b j (List.length_pos_iff.2 hd) h
theorem BdS.bk {d e:List TmV} (hk:0<k) (h:BdS k d e):∀ {d' e':List TmV},Bk k d' e'->Bk k (d++d') (e++e'):=by
 induction h with
 | nil=>exact fun h=>h
 | snoc d e X S _ b j ih =>
  intro d' e' h;rw[List.append_assoc,List.append_assoc];exact ih (Bk.push hk b j h)
theorem Bk.two {d e:List TmV} (h:Bk k d e) (hk:0<k) (H:2*k<=d.length):∃X S Y T d' e',d=X++(Y++d')/\e=S++(T++e')/\X.length=k/\Y.length=k/\Std X S/\Std Y T/\Bk k d' e':=by
 cases h with
 | nil=>simp at H;omega
 | last X S h1 h2 j=>omega
 | cons X S d e a b hd h2 =>
  rw[List.length_append]at H;cases h2 with
  | nil=>simp at hd
  | last Y T h1 j J=>exact⟨X,S,d,e,[],[],by simp,by simp,a,by omega,b,J,.nil⟩
  | cons Y T d' e' O U Z j=>exact⟨X,S,Y,T,d',e',rfl,rfl,a,O,b,U,j⟩
theorem Bk.few {d e:List TmV} (h:Bk k d e) (b:d.length<2*k):(d.length<=k/\Bk (2*k) d e)\/(∃X S Y T,d=X++Y/\e=S++T/\X.length=k/\0<Y.length/\Std X S/\Std Y T):=by
 cases h with
 | nil=>exact .inl ⟨Nat.zero_le _,.nil⟩
 | last X S h1 h2 j=>exact .inl ⟨h2,.last _ _ h1 (by omega) j⟩
 | cons X S d e J H hd h2 =>
  rw[List.length_append]at b;cases h2 with
  | nil=>simp at hd
  | last Y T h1 j a=>exact .inr ⟨X,S,d,e,rfl,rfl,J,h1,H,a⟩
  | cons Y T d' e' Z O U j=>rw[List.length_append]at b;omega
theorem Bk.whole {d e:List TmV} (h:Bk k d e) (b:d.length<=k):Std d e:=by
 cases h with
 | nil=>exact⟨List.Pairwise.nil,Stb.refl _⟩
 | last X S h1 h2 j=>exact j
 | cons X S d e H a hd h2=>rw[List.length_append]at b;omega
theorem MA (g c:Nat) (D:List TmV) (w:World) (m1:TR w g D) (o2:D.length<=268435456) :
 Calls prog 176 #[.slice (some ⟨g,0,none⟩) D.length c,.int .i64 (D.length:Int),cmpV] w fun e w'=>e = .returned (.tuple #[])/\∃E,Std D E/\TR w' g E/\Chg (fun k=>k=g) w w':=by
 obtain⟨n,hn⟩:=Ab D.length;have q0:∀(a b:Nat) (E P X Q:List TmV) (x:World),TR x g E->E.length=n->E=P++(X++Q)->a=P.length->b=P.length+X.length->Calls prog 201 #[.slice (some ⟨g,0,none⟩) n c,.int .i64 (a:Int),.int .i64 (b:Int),cmpV] x fun e w'=>e = .returned (.tuple #[])/\∃S,Std X S/\TR w' g (P++(S++Q))/\Chg (fun k=>k=g) x w':=fun a b E P X Q x h1 h2 h3 h4 h5=>by
  have:=HW g c a b E P X Q x h1 h3 h4 h5 (by omega);rw[h2]at this;exact this
 have p0:∀(a m b:Nat) (E P A B Q:List TmV) (x:World),TR x g E->E.length=n->E=P++(A++(B++Q))->a=P.length->m=a+A.length->b=m+B.length->Srt A->Srt B->0<A.length->0<B.length->Calls prog 202 #[.slice (some ⟨g,0,none⟩) n c,.int .i64 (a:Int),.int .i64 (m:Int),.int .i64 (b:Int),cmpV] x (SymP g P A B Q x):=fun a m b E P A B Q x h1 h2 h3 h4 h5 h6 h7 h8 h9 k2=>by
  have:=Fq g c _ a m b E P A B Q x (Nat.lt_succ_self _) h1 h3 h4 h5 h6 h7 h8 h9 k2 (by omega);rw[h2]at this;exact this
 rw[<-hn]at o2 ⊢;unfold cmpV at q0 p0 ⊢;replace q0:=Aa q0;replace p0:=Aa p0;replace m1:=Aa m1;replace hn:=Aa hn
 go_in
 go_wp2_with fail
 go_loopw [7,8] (fun s7 s8 wr=>∃(a:Nat) (d:List TmV),s7 = .int .i64 (a:Int)/\s8 = .int .i64 ((a:Int)+20)/\a<=n/\Hid (BdS 20 (D.take a) d/\TR wr g (d++D.drop a)/\Chg (fun k=>k=g) w wr)) (fun s7 _ _=>n - (intOf s7).toNat)
 case atStart=>exact⟨0,[],rfl,rfl,Nat.zero_le _,Aa ⟨.nil,m1.out,Chg.refl _ _⟩⟩
 case round =>
  obtain⟨a,d,rfl,rfl,y2,hI⟩:=hrel;have x0:d.length=a:=by rw[hI.out.1.len,List.length_take];have:=hn.out;omega
  have U:(d++D.drop a).length=n:=by rw[List.length_append,List.length_drop];have:=hn.out;omega
  by_cases hb:a+20<=n
  ·have f2:(a:Int)+20<=(n:Int):=by omega
   have h1:=q0.out a (a+20) _ d ((D.drop a).take 20) (D.drop (a+20)) wr hI.out.2.1 U (by rw[<-List.drop_drop,List.take_append_drop]) x0.symm (by rw[List.length_take,List.length_drop];have:=hn.out;omega);have y1:((a+20:Nat):Int)=(a:Int)+20:=by omega
   rw[y1]at h1;have c0:((D.drop a).take 20).length=20:=by rw[List.length_take,List.length_drop];have:=hn.out;omega
   have e1:D.take (a+20)=D.take a++(D.drop a).take 20:=by rw[List.take_add]
   replace h1:=Aa h1;replace x0:=Aa x0;replace U:=Aa U;replace e1:=Aa e1;replace c0:=Aa c0;replace y1:=Aa y1;go_wp2_with fail;refine h1.out.mono ?_;rintro e w1 ⟨rfl,S,hS,hT,hC⟩;replace hT:=Aa hT;replace hC:=Aa hC;replace hS:=Aa hS;go_wp2_with fail;go_roundw
   case rel=>exact⟨a+20,d++S,by go_num,by go_num,hb,Aa ⟨by rw[e1.out];exact .snoc _ _ _ _ hI.out.1 c0.out hS.out,by rw[List.append_assoc];exact hT.out,hI.out.2.2.trans hC.out fun _ _ h=>h⟩⟩
   case measure=>simp[intOf];omega
  ·have f2:¬ (a:Int)+20<=(n:Int):=by omega
   have h1:=Aa (q0.out a n _ d (D.drop a) [] wr hI.out.2.1 U (by rw[List.append_nil]) x0.symm (by rw[List.length_drop];have:=hn.out;omega));have O:(D.drop a).length<=20:=by rw[List.length_drop];have:=hn.out;omega
   have k1:=List.take_append_drop a D;obtain⟨wo,rfl⟩:=Ab wr;replace x0:=Aa x0;replace U:=Aa U;replace O:=Aa O;replace k1:=Aa k1;go_wp2_with fail;refine h1.out.mono ?_;rintro e w1 ⟨rfl,S,hS,hT,hC⟩;have o0:Bk 20 D (d++S):=by
    rw[<-k1.out];refine hI.out.1.bk (by omega) ?_;by_cases he:D.drop a = []
    ·have:=hS.2.len;rw[he]at this ⊢;rw[List.length_eq_zero_iff.1 this];exact .nil
    ·exact .last _ _ (List.length_pos_iff.2 he) O.out hS
   rw[List.append_nil]at hT;have r0:=hI.out.2.2.trans hC fun _ _ h=>h;replace o0:=Aa o0;replace hT:=Aa hT;replace r0:=Aa r0;replace hS:=Aa hS;replace hC:=Aa hC;clear h1;go_wp2_with fail
   go_loopw [6] (fun s6 wr=>∃(k:Nat) (E:List TmV),s6 = .int .i64 (k:Int)/\20<=k/\k<=2*n+20/\Hid (Bk k D E/\TR wr g E/\Chg (fun k=>k=g) w wr)) (fun s6 _=>n - (intOf s6).toNat)
   case atStart=>exact⟨20,d++S,rfl,Nat.le_refl _,by omega,Aa ⟨o0.out,hT.out,r0.out⟩⟩
   case round =>
    obtain⟨k,E,rfl,k3,z3,hJ⟩:=hrel;obtain⟨wq,rfl⟩:=Ab wr;by_cases a3:k<n
    ·have d1:Bk k D E:=hJ.out.1;have x1:=hJ.out.2.1;have q1:=hJ.out.2.2;replace d1:=Aa d1;replace x1:=Aa x1;replace q1:=Aa q1;go_wp2_with fail
     go_loopw [7,8] (fun s7 s8 wr=>∃(a b:Nat) (d e d' e':List TmV),s7 = .int .i64 (a:Int)/\s8 = .int .i64 (b:Int)/\a<=n/\b<=n+2*k/\Hid (b=a+2*k/\d.length=a/\BdS (2*k) d e/\Bk k d' e'/\D=d++d'/\TR wr g (e++e')/\Chg (fun k=>k=g) w wr)) (fun s7 _ _=>n - (intOf s7).toNat)
     case atStart=>exact⟨0,2*k,[],[],D,E,rfl,by congr 1,Nat.zero_le _,by omega,Aa ⟨by omega,rfl,.nil,d1.out,rfl,x1.out,q1.out⟩⟩
     case round =>
      obtain⟨a,b,d,e,d',e',rfl,rfl,y2,y3,hK⟩:=hrel;obtain⟨v0,e0,I,Z,h0,hT,hC⟩:=hK.out;have a1:=I.len;have f0:=Z.len;have b0:=hn.out;rw[h0,List.length_append]at b0;have U:(e++e').length=n:=by rw[List.length_append];omega
      have d0:((a+k:Nat):Int)=(a:Int)+(k:Int):=by omega
      by_cases a2:b<=n
      ·obtain⟨X,S,Y,T,d2,e2,G,y0,O,g0,H,J,n0⟩:=Z.two (by omega) (by omega);have h1:=p0.out a (a+k) b _ e S T e2 wr hT U (by rw[y0]) (by omega) (by rw[H.2.len];omega) (by rw[J.2.len];omega) H.1 J.1 (by rw[H.2.len];omega) (by rw[J.2.len];omega);rw[d0]at h1;replace h1:=Aa h1;replace v0:=Aa v0;replace e0:=Aa e0;replace I:=Aa I;replace h0:=Aa h0;replace hC:=Aa hC;replace G:=Aa G;replace O:=Aa O;replace g0:=Aa g0;replace H:=Aa H;replace J:=Aa J;replace n0:=Aa n0;clear hT Z a1 f0 b0 U d0 y0;go_wp2_with fail;refine h1.out.mono ?_;rintro en w1 ⟨rfl,M,hM,t0,m0⟩;replace hM:=Aa hM;replace t0:=Aa t0;replace m0:=Aa m0;go_wp2_with fail;go_roundw
       case rel=>exact⟨b,b+2*k,d++(X++Y),e++M,d2,e2,rfl,by congr 1,a2,by omega,Aa ⟨rfl,by rw[List.length_append,List.length_append];have:=v0.out;have:=e0.out;have:=O.out;have:=g0.out;omega,.snoc _ _ _ _ I.out (by rw[List.length_append];have:=O.out;have:=g0.out;omega) (H.out.mrg J.out hM.out),n0.out,by rw[h0.out,G.out];simp,by rw[List.append_assoc];exact t0.out,hC.out.trans m0.out fun _ _ h=>h⟩⟩
       case measure=>have:=v0.out;simp[intOf];omega
      ·have i0:=Z.few (by omega);by_cases hm:a+k<n
       ·rcases i0 with ⟨h1,h2⟩ | ⟨X,S,Y,T,G,y0,O,g0,H,J⟩
        ·omega
        ·have x2:n=a+k+Y.length:=by rw[G,List.length_append]at b0;omega
         have h1:=p0.out a (a+k) n _ e S T [] wr hT U (by rw[y0,List.append_nil]) (by omega) (by rw[H.2.len];omega) (by rw[J.2.len];omega) H.1 J.1 (by rw[H.2.len];omega) (by rw[J.2.len];omega);rw[d0]at h1;have j:∀(M:List TmV) (x:World),Mrg S T M->TR x g (e++(M ++ []))->Chg (fun k=>k=g) wr x->Bk (2*k) D (e++M)/\TR x g (e++M)/\Chg (fun k=>k=g) w x:=fun M x h2 h3 h4 =>
          ⟨by rw[h0];exact I.bk (by omega) (by rw[G];exact .last _ _ (by rw[List.length_append];omega) (by rw[List.length_append];omega) (H.mrg J h2)),by rw[List.append_nil]at h3;exact h3,hC.trans h4 fun _ _ h=>h⟩
         have q3:(a:Int)+(k:Int)<(n:Int):=by omega
         replace h1:=Aa h1;replace j:=Aa j;clear v0 e0 I Z h0 hT hC G y0 O g0 H J x2 hK a1 f0 b0 U d0;go_wp2_with fail;refine h1.out.mono ?_;rintro en w1 ⟨rfl,M,hM,t0,m0⟩;have hf:=Aa (j.out M w1 hM t0 m0);clear hM t0 m0;go_wp2_with fail;go_roundw
         case rel=>exact⟨2*k,e++M,by congr 1;omega,by omega,by omega,hf⟩
         case measure=>simp[intOf];omega
       ·have j:Bk (2*k) D (e++e'):=by
         rcases i0 with ⟨h1,h2⟩ | ⟨X,S,Y,T,G,y0,O,g0,H,J⟩
         ·rw[h0];exact I.bk (by omega) h2
         ·rw[G,List.length_append]at b0;omega
        have q3:¬ (a:Int)+(k:Int)<(n:Int):=by omega
        have hf:=Aa (And.intro j (And.intro hT hC));clear v0 e0 I Z h0 hT hC hK a1 f0 b0 U d0 i0 j;go_wp2_with fail;go_roundw
        case rel=>exact⟨2*k,e++e',by congr 1;omega,by omega,by omega,hf⟩
        case measure=>simp[intOf];omega
    ·have j:Std D E:=hJ.out.1.whole (by have:=hn.out;omega);replace j:=Aa j;go_wp2_with fail
     go_end0
     exact⟨rfl,E,j.out,hJ.out.2.1,hJ.out.2.2⟩
theorem Hw (g c:Nat) (D:List TmV) (w:World) (b:TR w g D) (j:D.length<=268435456) :
 Calls prog 131 #[.slice (some ⟨g,0,none⟩) D.length c,cmpV] w fun e w'=>e = .returned (.tuple #[])/\∃E,Std D E/\TR w' g E/\Chg (fun k=>k=g) w w':=by
 have h:=MA g c D w b j;obtain⟨n,hn⟩:=Ab D.length;rw[<-hn]at h j ⊢;unfold cmpV at h ⊢;replace h:=Aa h;replace hn:=Aa hn
 go_in
 go_wp2_with fail;refine h.out.mono ?_;rintro e w1 ⟨rfl,E,H,Y,a⟩;go_wp2_with fail
 go_end0
 exact⟨rfl,E,H,Y,a⟩
def OwnB (w:World) (base:Nat) (l:List UInt8) (e:Ending) (w':World):Prop:=∃A c,e = .returned (.slice A l.length c)/\Own8 w' base A l.length c l/\Ext w w'
theorem Own8.ext {base:Nat} (h:Own8 w base A n c l) (j:Ext w w1):Own8 w1 base A n c l:=⟨h.1,h.2.ext j⟩
theorem RS (h:z=(q:Int)) (j:q<18446744073709551616):IntKind.u64.wrap z=(q:Int):=by rw[h];exact AH j
theorem AY {α:Type} {l:List α} {x:α} (h:l[i]? = some x):l.drop i=x::l.drop (i+1):=by
 obtain⟨hi,rfl⟩:=List.getElem?_eq_some_iff.1 h;exact List.drop_eq_getElem_cons hi
theorem BW {n lo x:Int} {t:List Int} (h:risB n lo (x::t)=true):lo<x/\x<n/\risB n x t=true:=by
 unfold risB at h;rw[Bool.and_eq_true,Bool.and_eq_true]at h;exact⟨of_decide_eq_true h.1.1,of_decide_eq_true h.1.2,h.2⟩
theorem OJ (base:Nat) (A B:Option Addr) (n c k c2:Nat) (l:List UInt8) (last N:Int) (xs:List Int) (w:World) (hb:Own8 w base A n c l) (G:base<=w.heap.size) (hk:k=xs.length) (hx:Cells w B (xs.map IV))
 (hr:risB N last xs=true) (q0 : -1<=last) (H:last<=1099511627776) (hN:N<=1099511627776) (y1:n+10*k<=1000000000) :
 Calls prog 84 #[.slice A n c,.int .i64 last,.slice B k c2] w fun e w'=>OwnB w base (l++stepsL last xs) e w':=by
 have t0:=Aa (fun A n c x l W h1 h2 h3 h4 h5=>Cm A n c x l W h1 h2 h3 h4 h5);obtain⟨Z,hZ⟩:=Ab (l++stepsL last xs);rw[<-hZ];replace hZ:=Aa hZ;replace hb:=Aa hb;replace hk:=Aa hk;replace hx:=Aa hx;replace hr:=Aa hr
 go_in
 go_wp2_with fail
 go_loopw [0,1,11] (fun s0 s1 s11 wr=>∃(i n1 c1:Nat) (A1:Option Addr) (L:List UInt8) (p:Int),s0 = .slice A1 n1 c1/\s1 = .int .i64 p/\s11 = .int .i64 (i:Int)/\i<=k /\ -1<=p/\p<=1099511627776/\n1<=n+10*i/\Hid (Z=L++stepsL p (xs.drop i))/\Hid (risB N p (xs.drop i)=true)/\Hid (Own8 wr base A1 n1 c1 L)/\Hid (Ext w wr)) (fun _ _ s11 _=>k - (intOf s11).toNat)
 case atStart=>exact⟨0,n,c,A,l,last,rfl,rfl,rfl,by omega,q0,H,by omega,Aa (by rw[hZ.out];rfl),hr,hb,Aa (Ext.refl w)⟩
 case round =>
  obtain⟨i,n1,c1,A1,L,p,rfl,rfl,rfl,hi,d1,e1,a1,j0,n0,j,hE⟩:=hrel;by_cases h:i<k
  ·obtain⟨x,Y⟩:∃x,xs[i]? = some x:=⟨_,List.getElem?_eq_getElem (by rw[<-hk.out];exact h)⟩
   obtain⟨g,o,hA,I⟩:=hx.out.at_ (by rw[List.length_map,<-hk.out];omega);subst hA;have i0:=hE.out.cell (I i (IV x) (by rw[List.getElem?_map,Y];rfl));unfold IV at i0;have h0:=AY Y;have b:=n0.out;have O:=j0.out;rw[h0]at b O;obtain⟨f1,o1,a⟩:=BW b;obtain⟨q,hq⟩:∃q:Nat,(q:Int)=x - p - 1:=⟨(x - p - 1).toNat,by omega⟩
   have i1:=RS (z:=x - p - 1) hq.symm (by omega);have v0:q<18446744073709551616:=by omega
   have d0:Hid (Z=(L++vb q)++stepsL x (xs.drop (i+1))):=Aa (by
    rw[O,List.append_assoc];show _++(vb (x - p - 1).toNat++_)=_;rw[<-hq];rfl)
   have g0:=Ag v0;have f0:=Aa (t0.out A1 n1 c1 q L wr j.out.1 j.out.2.cells (j.out.nil_) (by omega) v0);have U:L.length=n1:=j.out.1.symm;have e0:=Nat.le_trans G hE.out.size;have hlen:(L++vb q).length<=n+10*(i+1):=by rw[List.length_append,U];omega
   replace I:=Aa I;replace Y:=Aa Y;replace h0:=Aa h0;replace U:=Aa U;replace a:=Aa a;clear b O g0;replace hq:=Aa hq;go_wp2_with fail;refine f0.out.mono ?_;rintro e w2 c0;obtain⟨A2,c2,rfl,k0,J⟩:=c0;have m0:Hid (Own8 w2 base A2 (L++vb q).length c2 (L++vb q)):=Aa ⟨rfl,k0.lower e0⟩;obtain⟨n2,p0⟩:=Ab ((L++vb q).length);rw[<-p0]at m0 hlen ⊢;replace p0:=Aa p0;replace J:=Aa (hE.out.trans J);clear k0;go_wp2_with fail;exact⟨⟨i+1,n2,c2,A2,L++vb q,x,rfl,rfl,rfl,by omega,by omega,by omega,by omega,d0,a,m0,J⟩,by simp only[intOf];omega⟩
  ·obtain rfl:i=k:=by omega
   have T:Z=L:=by rw[j0.out,List.drop_eq_nil_of_le (by rw[<-hk.out];exact Nat.le_refl _),stepsL,List.append_nil]
   replace T:=Aa T;go_wp2_with fail;go_ret;have ho:=j.out;have hl:=ho.1;rw[T.out];subst hl;exact⟨A1,c1,rfl,ho,hE.out⟩
theorem EJ {β γ:Type} (g:β->γ) (l:List (List UInt8×β)) (s:List UInt8):valsOf (l.map fun x=>(x.1,g x.2)) s=(valsOf l s).map g:=by
 unfold valsOf;rw[List.filter_map,List.map_map,List.map_map];rfl
theorem Std.stabM {β γ:Type} {D E:List (List UInt8×β)} (h:Std D E) (g:β->γ):Stab (D.map fun x=>(x.1,g x.2)) (E.map fun x=>(x.1,g x.2)):=by
 refine⟨?_,fun s=>by rw[EJ,EJ,h.2.vals]⟩;rw[List.pairwise_map];exact h.1
structure TmsOk (w:World) (base:Nat) (D:List TmV) (R:List (List UInt8×List Int)):Prop where
  len:D.length=R.length
  each:∀(i:Nat) (x:TmV) (p:List UInt8×List Int),D[i]? = some x->R[i]? = some p->x.1=p.1/\Buf w base 3 x.2.1 x.2.2.1 x.2.2.2 (p.2.map IV)
  apart:∀(i j:Nat) (x y:TmV),D[i]? = some x->D[j]? = some y->i≠j->∀a b,x.2.1=some a->y.2.1=some b->a.block≠b.block
theorem TmsOk.nil (w:World) (base:Nat):TmsOk w base [] []:=⟨rfl,nofun,nofun⟩
theorem TmsOk.keep {base:Nat} {D:List TmV} {R:List (List UInt8×List Int)} (h:TmsOk w base D R) (hk:∀A n c xs,Buf w base 3 A n c xs->Buf w1 base 3 A n c xs):TmsOk w1 base D R :=
 ⟨h.len,fun i x p b j=>⟨(h.each i x p b j).1,hk _ _ _ _ (h.each i x p b j).2⟩,h.apart⟩
theorem TmsOk.ext {base:Nat} {D:List TmV} {R:List (List UInt8×List Int)} (h:TmsOk w base D R) (j:Ext w w1):TmsOk w1 base D R:=h.keep fun _ _ _ _ hb=>hb.ext j
theorem TmsOk.snoc {base:Nat} {D:List TmV} {R:List (List UInt8×List Int)} (h:TmsOk w base D R) (hk:∀A n c xs,Buf w base 3 A n c xs->Buf w1 base 3 A n c xs) {x:TmV} {p:List UInt8×List Int} (hx:x.1=p.1) (hb:Buf w1 base 3 x.2.1 x.2.2.1 x.2.2.2 (p.2.map IV)) (hn:∀a,x.2.1=some a->w.heap.size<=a.block):TmsOk w1 base (D ++ [x]) (R ++ [p]):=by
 have O:∀(i:Nat) (y:TmV),D[i]? = some y->∀b,y.2.1=some b->b.block<w.heap.size:=fun i y H b hb=>by
  have hi:=(List.getElem?_eq_some_iff.1 H).1;obtain⟨q,U⟩:∃q,R[i]? = some q:=⟨_,List.getElem?_eq_getElem (by rw[<-h.len];exact hi)⟩
  exact(h.each i y q H U).2.lt b hb
 have Y:∀(i:Nat) (y:TmV),(D ++ [x])[i]? = some y->D[i]? = some y\/(i=D.length/\y=x):=fun i y H=>by
  by_cases hi:i<D.length
  ·rw[List.getElem?_append_left hi]at H;exact .inl H
  ·rw[List.getElem?_append_right (by omega)]at H;have h2:=(List.getElem?_eq_some_iff.1 H).1;rw[List.length_singleton]at h2;have h3:i - D.length=0:=by omega
   rw[h3]at H;exact .inr ⟨by omega,by simpa using H.symm⟩
 refine⟨by rw[List.length_append,List.length_append,h.len];rfl,fun i y q H U=>?_,fun i j y z H hz I a b G J=>?_⟩
 ·rcases Y i y H with H | ⟨hi,rfl⟩
  ·have hi:=(List.getElem?_eq_some_iff.1 H).1;rw[List.getElem?_append_left (by rw[<-h.len];exact hi)]at U;have:=h.each i y q H U;exact⟨this.1,hk _ _ _ _ this.2⟩
  ·rw[List.getElem?_append_right (by rw[hi,h.len];exact Nat.le_refl _),hi,h.len,Nat.sub_self]at U;obtain rfl:p=q:=by simpa using U
   exact⟨hx,hb⟩
 ·rcases Y i y H with T | ⟨hi,rfl⟩ <;> rcases Y j z hz with Z | ⟨hj,rfl⟩
  ·exact h.apart i j y z T Z I a b G J
  ·have:=O i y T a G;have:=hn b J;omega
  ·have:=O j z Z b J;have:=hn a G;omega
  ·omega
end
section
open Go.RowKit
theorem Cells.part (h:Cells w A xs) (Y:∀a,A=some a->a.spot=none) (k m:Nat):Cells w (A.map fun a=>a.add k) ((xs.drop k).take m):=by
 rcases h with h | ⟨g,o,rfl,H⟩
 ·subst h;exact .inl (by simp)
 ·refine .inr ⟨g,o+k,by rw[Option.map_some,Addr.add_lit],fun j v b=>?_⟩;rw[List.getElem?_take]at b;split at b
  ·rw[List.getElem?_drop]at b;have:=H _ v b
   rwa [Nat.add_assoc]
  ·cases b
theorem Chg.others (h:Chg S w w1) (b:∀k,S k->∃t cs,Row w k t cs):KeepsOthers w w1 :=
 ⟨h.size,fun k o hk a=>(h.block k (Array.getElem?_eq_some_iff.1 hk).1 fun hs=>by
  obtain⟨t,cs,j⟩:=b k hs;unfold Row at j;rw[j]at hk;injection hk with hk;subst hk;cases a).trans hk⟩
theorem Bo {α:Type} {f:α->List Value} (h:∀x,(f x).length=k):∀(l:List α) (i:Nat),(l.drop i).flatMap f=(l.flatMap f).drop (i*k)
 | [],i=>by simp
 | x::l,0=>by simp
 | x::l,i+1=>by
  rw[List.drop_succ_cons,List.flatMap_cons,Bo h l i,Nat.succ_mul,Nat.add_comm,<-List.drop_drop,List.drop_left' (h x)]
theorem Bh {α:Type} {f:α->List Value} (h:∀x,(f x).length=k):∀(l:List α) (i:Nat),(l.take i).flatMap f=(l.flatMap f).take (i*k)
 | [],i=>by simp
 | x::l,0=>by simp
 | x::l,i+1=>by
  rw[List.take_succ_cons,List.flatMap_cons,Bh h l i,List.flatMap_cons,Nat.succ_mul,Nat.add_comm,show k+i*k=(f x).length+i*k by rw[h x],List.take_length_add_append]
theorem Nm {b1 b2 k size n c:Nat} (hb:Buf W b1 e A n c xs) (Y:W.ownsRow b2 e2 size v k ys) (j:e2≠e):∀a,A=some a->v.ownBlock≠some a.block:=fun a h=>by
 rcases hb.2.2 with ⟨b,_⟩ | ⟨g,cur,H,_,J,_⟩
 ·rw[b]at h;cases h
 ·rw[H]at h;cases h;exact Am Y J j
theorem BN {base:Nat} {size n c:Nat} (h:w.ownsRow base e size (.slice A n c) n xs):n<=c/\∀a,A=some a->a.spot=none:=by
 rcases h.2 with ⟨b,Y⟩ | ⟨g,cap,cur,b,_,_,j,_⟩
 ·injection b with h1 h2 h3;subst h1 h3;exact⟨by omega,nofun⟩
 ·injection b with h1 h2 h3;subst h1 h3;exact⟨j,fun a H=>by cases H;rfl⟩
def HB (base h1 h2:Nat) (Hd Bd:List UInt8) (W:World):Prop:=∃(A1 A2:Option Addr) (c1 c2:Nat),Row W h1 24 #[.slice A1 Hd.length c1]/\Row W h2 24 #[.slice A2 Bd.length c2]/\Own8 W base A1 Hd.length c1 Hd/\Own8 W base A2 Bd.length c2 Bd/\∀a1 a2,A1=some a1->A2=some a2->a1.block≠a2.block
section
variable {base h1 h2:Nat} {Hd Bd:List UInt8} {W W1:World}
theorem HB.ext (h:HB base h1 h2 Hd Bd W) (j:Ext W W1):HB base h1 h2 Hd Bd W1:=by
 obtain⟨A1,A2,c1,c2,r1,r2,o1,o2,b⟩:=h;exact⟨A1,A2,c1,c2,r1.ext j,r2.ext j,o1.ext j,o2.ext j,b⟩
theorem HB.alike (h:HB base h1 h2 Hd Bd W) (j:Alike B W W1):HB base h1 h2 Hd Bd W1:=by
 obtain⟨A1,A2,c1,c2,r1,r2,o1,o2,b⟩:=h;exact⟨A1,A2,c1,c2,j.row r1,j.row r2,⟨o1.1,j.buf o1.2⟩,⟨o2.1,j.buf o2.2⟩,b⟩
theorem HB.chg (h:HB base h1 h2 Hd Bd W) (b:Chg S W W1) (Y:∀k,S k->∃t cs,Row W k t cs/\t≠24/\t≠5):HB base h1 h2 Hd Bd W1:=by
 obtain⟨A1,A2,c1,c2,r1,r2,o1,o2,H⟩:=h;have hn:∀ {g:Nat} {cs:Array Value},Row W g 24 cs->¬ S g:=fun U hs=>by
  obtain⟨t,cs,j,ht,_⟩:=Y _ hs;exact Row.unlike U j (fun e=>ht e.symm) rfl
 have hb:∀ {A:Option Addr} {n c:Nat} {xs:List Value},Buf W base 5 A n c xs->∀a,A=some a->¬ S a.block:=fun hb a J hs=>by
  obtain⟨t,cs,j,_,ht⟩:=Y _ hs;exact hb.unlike j (fun e=>ht e.symm) a J rfl
 exact⟨A1,A2,c1,c2,b.row r1 (hn r1),b.row r2 (hn r2),⟨o1.1,o1.2.chg b (hb o1.2)⟩,⟨o2.1,o2.2.chg b (hb o2.2)⟩,H⟩
theorem HB.head (h:HB base h1 h2 Hd Bd W) (a:h1≠h2) (b:Ext W W6) (hn:n=Hd'.length) (hb:Buf W6 B1 5 A n c (Hd'.map B8)) (J:W.heap.size<=B1) (j:base<=B1) :
 HB base h1 h2 Hd' Bd (W6.setCell ⟨h1,0,none⟩ (.slice A n c)):=by
 subst hn;obtain⟨A1,A2,c1,c2,r1,r2,o1,o2,hd⟩:=h;have r16:=r1.ext b;refine⟨A,A2,c,c2,r16.put 0 _,(r2.ext b).away (fun e=>a e.symm) _,⟨rfl,(hb.lower j).setCell (hb.unlike r16 (by decide)) _⟩,⟨o2.1,(o2.2.ext b).setCell ((o2.2.ext b).unlike r16 (by decide)) _⟩,fun a1 a2 e1 e2 e=>?_⟩;have H:=hb.base_le a1 e1;have Y:=o2.2.lt a2 e2;omega
theorem HB.rows (h:HB base h1 h2 Hd Bd W) (j:Row W h2 24 #[.slice A2 Bd.length c2]) (Y:W.grownBy W1 (Value.slice A2 Bd.length c2).ownBlock) (b:Row W g t cs) (ht:t≠5):Row W1 g t cs:=by
 obtain⟨A1,A2',c1,c2',r1,r2,o1,o2,hd⟩:=h;have H:A2'=A2/\c2'=c2:=by
  have e:=r2.cell 0 rfl;rw[j.cell 0 rfl]at e;injection e with e;injection e with e1 _ e2;exact⟨e1.symm,e2.symm⟩
 obtain⟨rfl,rfl⟩:=H;refine b.grown Y fun e=>?_;cases A2' with
 | none=>simp[Value.ownBlock]at e
 | some a=>exact o2.2.unlike b (fun e=>ht e.symm) a rfl (by simpa [Value.ownBlock]using e.symm)
theorem HB.body {x:List UInt8} (h:HB base h1 h2 Hd Bd W) (T:h1≠h2) (Z:Row W h2 24 #[.slice A2 Bd.length c2]) (Y:W.grownBy W1 (Value.slice A2 Bd.length c2).ownBlock) (hn:n3=(Bd++x).length) (hb:Buf W1 base 5 A3 n3 c3 ((Bd++x).map B8))
 (G:A3=A2\/A3=some ⟨W.heap.size,0,none⟩) :
 HB base h1 h2 Hd (Bd++x) (W1.setCell ⟨h2,0,none⟩ (.slice A3 n3 c3))/\KeepsOthers W (W1.setCell ⟨h2,0,none⟩ (.slice A3 n3 c3))/\(∀g t cs,Row W g t cs->t≠5->g≠h2->Row (W1.setCell ⟨h2,0,none⟩ (.slice A3 n3 c3)) g t cs) /\
  (∀w0,Ext w0 W->w0.heap.size<=base->w0.heap.size<=h2->Ext w0 (W1.setCell ⟨h2,0,none⟩ (.slice A3 n3 c3))):=by
 subst hn;obtain⟨A1,A2',c1,c2',r1,r2,o1,o2,hd⟩:=h;have he:A2'=A2/\c2'=c2:=by
  have e:=r2.cell 0 rfl;rw[Z.cell 0 rfl]at e;injection e with e;injection e with e1 _ e2;exact⟨e1.symm,e2.symm⟩
 obtain⟨rfl,rfl⟩:=he;have j:∀k,(Value.slice A2' Bd.length c2').ownBlock=some k->∃a,A2'=some a/\a.block=k:=fun k hk=>by
  cases A2' with
  | none=>simp[Value.ownBlock]at hk
  | some a=>exact⟨a,rfl,by simpa [Value.ownBlock]using hk⟩
 have b:∀g t cs,Row W g t cs->t≠5->Row W1 g t cs:=fun g t cs J ht=>J.grown Y fun e=>by
  obtain⟨a,U,hk⟩:=j g e.symm;exact o2.2.unlike J (fun e=>ht e.symm) a U hk
 have r1':=b _ _ _ r1 (by decide);have r2':=b _ _ _ r2 (by decide);have o1':Buf W1 base 5 A1 Hd.length c1 (Hd.map B8):=o1.2.grown Y fun a U e=>by
  obtain⟨a2,H,hk⟩:=j _ e;exact hd a a2 U H hk.symm
 refine⟨⟨A1,A3,c1,c3,r1'.away T _,r2'.put 0 _,⟨rfl,o1'.setCell (o1'.unlike r2' (by decide)) _⟩,⟨rfl,hb.setCell (hb.unlike r2' (by decide)) _⟩,fun a1 a3 e1 e3 e=>?_⟩,(BL o2.2 Y).trans (KeepsOthers.setCell _ _ _),fun g t cs J ht O=>(b g t cs J ht).away O _,fun w0 I h0 hh=>(I.grown Y fun k hk=>?_).setCell hh _⟩
 ·rcases G with rfl | rfl
  ·exact hd a1 a3 e1 e3 e
  ·have:=o1.2.lt a1 e1;injection e3 with e3;subst e3;simp only at e;omega
 ·obtain⟨a2,H,rfl⟩:=j _ hk;have:=o2.2.base_le a2 H;omega
end
end
section
open Go.RowKit
def splitG:Nat->List UInt8->List (List UInt8)×Nat
 | 0,_=>([],0)
 | f+1,l=>if l = [] then ([],0) else match getF l with
  | .error k=>([],k)
  | .ok (p,r)=>(p::(splitG f r).1,(splitG f r).2)
def splitF (l:List UInt8):List (List UInt8)×Nat:=splitG l.length l
theorem Gj (f:Nat) (l:List UInt8):splitG (f+1) l=if l = [] then ([],0) else match getF l with
 | .error k=>([],k)
 | .ok (p,r)=>(p::(splitG f r).1,(splitG f r).2):=rfl
theorem Gi:∀(f g:Nat) (l:List UInt8),l.length<=f->l.length<=g->splitG f l=splitG g l
 | 0,0,l,_,_=>rfl
 | 0,g+1,l,h,_=>by
  have:l = []:=List.length_eq_zero_iff.1 (by omega);subst this;rfl
 | f+1,0,l,_,h=>by
  have:l = []:=List.length_eq_zero_iff.1 (by omega);subst this;rfl
 | f+1,g+1,l,h1,h2=>by
  unfold splitG;split
  ·rfl
  ·cases j:getF l with
   | error k=>rfl
   | ok q =>
    obtain⟨p,r⟩:=q;have:=(C1 j).1;simp only;rw[Gi f g r (by omega) (by omega)]
theorem Mx:splitF []=([],0):=rfl
theorem Mw (j:l ≠ []) (h:getF l = .error k):splitF l=([],k):=by
 have b:=List.length_pos_iff.2 j;unfold splitF;rw[show l.length=l.length - 1+1 by omega,Gj,if_neg j,h]
theorem I9 (j:l ≠ []) (h:getF l = .ok (p,r)):splitF l=(p::(splitF r).1,(splitF r).2):=by
 have b:=List.length_pos_iff.2 j;have a:=(C1 h).1;unfold splitF;rw[show l.length=l.length - 1+1 by omega,Gj,if_neg j,h];simp only;rw[Gi (l.length - 1) r.length r (by omega) (by omega)]
theorem CW:∀(ps:List (List UInt8)),(∀p∈ps,p.length<=16777216)->splitF (joinL ps)=(ps,0)
 | [],_=>rfl
 | p::ps,h=>by
  have j:getF (joinL (p::ps)) = .ok (p,joinL ps):=Pn (h p (List.mem_cons_self ..)) _;have b:joinL (p::ps) ≠ []:=by
   intro e;rw[e]at j;have:=(C1 j).1;simp at this
  rw[I9 b j,CW ps fun q a=>h q (List.mem_cons_of_mem _ a)]
theorem Fo:∀(f:Nat) (l:List UInt8),∀p∈(splitG f l).1,p.length<=16777216/\p.length<=l.length
 | 0,l,p,h=>by cases h
 | f+1,l,p,h=>by
  unfold splitG at h;split at h
  ·cases h
  ·cases j:getF l with
   | error k=>rw[j]at h;cases h
   | ok q =>
    obtain⟨p1,r⟩:=q;have b:=C1 j;rw[j]at h;rcases List.mem_cons.1 h with rfl | h
    ·exact⟨b.2.1,b.2.2⟩
    ·have:=Fo f r p h;exact⟨this.1,by omega⟩
theorem Fl (h:p∈(splitF l).1):p.length<=16777216/\p.length<=l.length:=Fo _ l p h
theorem Fm:∀(f:Nat) (l:List UInt8),(splitG f l).1.length<=f
 | 0,l=>Nat.le_refl _
 | f+1,l=>by
  unfold splitG;split
  ·exact Nat.zero_le _
  ·cases h:getF l with
   | error k=>exact Nat.zero_le _
   | ok q =>
    obtain⟨p1,r⟩:=q;have:=Fm f r;simp only[List.length_cons];omega
theorem JC (l:List UInt8):(splitF l).1.length<=l.length:=Fm _ l
def GotE (w0 w:World) (res:Option (Ev×List UInt8)) (e:Ending) (w':World):Prop:=Ext w w'/\match res with
 | some (ev,r)=>∃B d A c,e = .returned (.tuple #[ev.val B d,.slice A r.length c,.int .i64 0])/\ev.Own w' w.heap.size B d/\In8 w0 A r.length c r/\I64ok' ev.at_
 | none=>e = .returned (.tuple #[.agg #[.int .i64 0,.slice none 0 0],.slice none 0 0,.int .i64 100])
theorem GotE.no {res:Option (Ev×List UInt8)} (j:Ext w w') (h:res=none):GotE w0 w res (.returned (.tuple #[.agg #[.int .i64 0,.slice none 0 0],.slice none 0 0,.int .i64 100])) w':=by
 subst h;exact⟨j,rfl⟩
def aheadF (read:List Fd):Option (List Fd×List UInt8)->Option (List Fd×List UInt8)
 | none=>none
 | some (fs,r)=>some (read++fs,r)
theorem Le (x:Option (List Fd×List UInt8)):aheadF [] x=x:=by cases x <;> rfl
theorem LI {read:List Fd} (h:getFs k L=aheadF read (getFs (k - i) r)) (hi:i<k) (h1:getT 32 r = .ok (nm,r1)) (h2:getT 4096 r1 = .ok (tx,r2)):getFs k L=aheadF (read ++ [(nm,tx)]) (getFs (k - (i+1)) r2):=by
 obtain⟨j,b⟩:∃j,k - i=j+1:=⟨k - i - 1,by omega⟩
 rw[h,b,show k - (i+1)=j by omega]
 conv=>lhs;unfold getFs
 rw[h1];simp only;rw[h2];simp only;cases getFs j r2 with
 | none=>rfl
 | some p=>obtain⟨fs,r3⟩:=p;simp[aheadF]
theorem NS {read:List Fd} (h:getFs k L=aheadF read (getFs (k - i) r)) (hi:i<k) (h1:getT 32 r = .error x):getFs k L=none:=by
 obtain⟨j,b⟩:∃j,k - i=j+1:=⟨k - i - 1,by omega⟩
 rw[h,b];unfold getFs;rw[h1];rfl
theorem NT {read:List Fd} (h:getFs k L=aheadF read (getFs (k - i) r)) (hi:i<k) (h1:getT 32 r = .ok (nm,r1)) (h2:getT 4096 r1 = .error x):getFs k L=none:=by
 obtain⟨j,b⟩:∃j,k - i=j+1:=⟨k - i - 1,by omega⟩
 rw[h,b];unfold getFs;rw[h1];simp only;rw[h2];rfl
theorem NR {read:List Fd} (h:getFs k L=aheadF read (getFs (k - i) r)) (hi:k<=i):getFs k L=some (read,r):=by
 rw[h,show k - i=0 by omega];unfold getFs aheadF;simp
theorem Kf {most k:Nat} (h:getT most l = .error k):0<k:=by
 unfold getT at h;split at h
 ·rename_i j;injection h with h;rw[<-h];exact BK _ _ _ j
 ·split at h
  ·injection h with h;omega
  ·split at h
   ·injection h with h;omega
   ·cases h
def setEv (w:World) (g:Nat) (at_:Int) (A:Option Addr) (n c:Nat):World:=(w.setCell ⟨g,0,none⟩ (.int .i64 at_)).setCell ⟨g,1,none⟩ (.slice A n c)
theorem B9 {T:TypeId} {x y:Value} (h:Row w g T #[x,y]) (at_:Int) (A:Option Addr) (n c:Nat):Row (setEv w g at_ A n c) g T #[.int .i64 at_,.slice A n c]:=(h.put 0 _).put 1 _
theorem I5 (w:World) (g:Nat) (at_:Int) (A:Option Addr) (n c:Nat):Chg (fun k=>k=g) w (setEv w g at_ A n c):=(Chg.of_set (S:=fun k=>k=g) w _ rfl).trans (Chg.of_set (S:=fun k=>k=g) _ _ rfl) fun _ _ h=>h
theorem BZ (h:Ext w0 w) (b:w0.heap.size<=g) (at_:Int) (A:Option Addr) (n c:Nat):Ext w0 (setEv w g at_ A n c):=h.chg (I5 w g at_ A n c) fun i hi j=>by omega
theorem NF (A:Option Addr) (n c:Nat) (l:List UInt8) (w0 w:World) (h:In8 w0 A n c l) (hw:Ext w0 w) (t4:n<=1000000000) :
 Calls prog 95 #[.slice A n c] w fun e w'=>GotE w0 w (getE l) e w':=by
 obtain⟨W,hW⟩:=Ab (w.alloc (.cells #[.int .i64 0,.slice none 0 0] 69));have r0:Ext w W:=by rw[hW];exact(Ext.refl w).alloc _
 obtain⟨b,hb⟩:=Ab w.heap.size;have hr:Row W b 69 #[.int .i64 0,.slice none 0 0]:=by rw[hW,hb];exact Row.new w _ _
 have G:=Aa (Nat.le_of_eq hb.symm);have h2:=LJ A n c l w0 W h (hw.trans r0) t4;have m5:l.length<=1000000000:=by rw[<-h.len];exact t4
 obtain⟨Z,hZ⟩:=Ab (getE l);rw[<-hZ];unfold getE at hZ;replace hW:=Aa hW;replace hb:=Aa hb;clear h;cases e1:getV 0 l with
 | error k =>
  rw[e1]at h2 hZ;have hk:=BK l 0 k e1;have b3:((k:Int) != 0)=true:=by simp;omega
  have hg:=Aa h2;clear e1 hk h2
  go_in
  go_wp2_with fail;rw[<-hW.out,<-hb.out];refine hg.out.mono ?_;rintro e w1 ⟨p0,rfl⟩;have Y:=hr.ext p0;have f1:=fun i=>Y.free i;have d0:=Y.cell 0 rfl;have d1:=Y.cell 1 rfl;replace Y:=Aa Y;have m0:=Aa (r0.trans p0);replace hZ:=Aa hZ;go_wp2_with fail;obtain⟨wz,H⟩:∃wz,wz=setEv w1 b 0 none 0 0:=⟨_,rfl⟩;have hk:=B9 Y.out 0 none 0 0;rw[<-H]at hk;have U:=BZ m0.out G.out 0 none 0 0;rw[<-H]at U;unfold setEv at H;rw[<-H];have k0:wz.cell? ⟨b,0,none⟩=some (.int .i64 0):=hk.cell 0 rfl;have k1:wz.cell? ⟨b,1,none⟩=some (.slice none 0 0):=hk.cell 1 rfl;clear H hk;exact bodyPost_ret (v:= .tuple #[.agg #[.int .i64 0,.slice none 0 0],.slice none 0 0,.int .i64 100]) (by simp[results,Tryz.results95,go_sem,k0,k1]) rfl (GotE.no U hZ.out)
 | ok p =>
  obtain⟨u,r⟩:=p;have hu:=Ct e1;have i3:r.length<=1000000000:=by
   obtain⟨_,_,q,hq,_⟩:=Ck l 0 u r e1;rw[hq,List.length_append]at m5;omega
  rw[e1]at h2 hZ;simp only at hZ;have hg:=Aa h2;have r4:=K6 hu;obtain⟨at_,k4⟩:=Ab (unzig u);unfold GotI at hg;simp only at hg;rw[<-k4]at hg hZ r4;clear e1 h2 k4 hu;cases i0:getV 0 r with
  | error k =>
   rw[i0]at hZ;have hk:=BK r 0 k i0;have b3:((k:Int) != 0)=true:=by simp;omega
   have j0:=fun A c W h hE=>Cl A r.length c r w0 W h hE i3;rw[i0]at j0;replace j0:=Aa j0;replace hZ:=Aa hZ;clear i0 hk
   go_in
   go_wp2_with fail;rw[<-hW.out,<-hb.out];refine hg.out.mono ?_;rintro e w1 ⟨p0,A1,c1,rfl,hi1⟩;have c0:=Aa (j0.out A1 c1 w1 hi1 ((hw.trans r0).trans p0));go_wp2_with fail;refine c0.out.mono ?_;rintro e w2 ⟨n0,rfl⟩;have Y:=hr.ext (p0.trans n0);have f1:=fun i=>Y.free i;have d0:=Y.cell 0 rfl;have d1:=Y.cell 1 rfl;replace Y:=Aa Y;have m0:=Aa (r0.trans (p0.trans n0));go_wp2_with fail;obtain⟨wz,H⟩:∃wz,wz=setEv w2 b 0 none 0 0:=⟨_,rfl⟩;have hk:=B9 Y.out 0 none 0 0;rw[<-H]at hk;have U:=BZ m0.out G.out 0 none 0 0;rw[<-H]at U;unfold setEv at H;rw[<-H];have k0:wz.cell? ⟨b,0,none⟩=some (.int .i64 0):=hk.cell 0 rfl;have k1:wz.cell? ⟨b,1,none⟩=some (.slice none 0 0):=hk.cell 1 rfl;clear H hk;exact bodyPost_ret (v:= .tuple #[.agg #[.int .i64 0,.slice none 0 0],.slice none 0 0,.int .i64 100]) (by simp[results,Tryz.results95,go_sem,k0,k1]) rfl (GotE.no U hZ.out)
  | ok p =>
   obtain⟨m,r2⟩:=p;have i4:r2.length<=1000000000:=by
    obtain⟨_,_,q,hq,_⟩:=Ck r 0 m r2 i0;rw[hq,List.length_append]at i3;omega
   have c5:=Ct i0;rw[i0]at hZ;simp only at hZ;have j0:=fun A c W h hE=>Cl A r.length c r w0 W h hE i3;rw[i0]at j0;unfold Got at j0;simp only at j0;replace j0:=Aa j0;clear i0;by_cases k3:16<m
   ·rw[if_pos k3]at hZ;have t5:(16:Int)<m:=by omega
    replace hZ:=Aa hZ
    go_in
    go_wp2_with fail;rw[<-hW.out,<-hb.out];refine hg.out.mono ?_;rintro e w1 ⟨p0,A1,c1,rfl,hi1⟩;have c0:=Aa (j0.out A1 c1 w1 hi1 ((hw.trans r0).trans p0));go_wp2_with fail;refine c0.out.mono ?_;rintro e w2 ⟨n0,A2,c2,rfl,hi2⟩;have Y:=hr.ext (p0.trans n0);have f1:=fun i=>Y.free i;have d0:=Y.cell 0 rfl;have d1:=Y.cell 1 rfl;replace Y:=Aa Y;have m0:=Aa (r0.trans (p0.trans n0));go_wp2_with fail;obtain⟨wz,H⟩:∃wz,wz=setEv w2 b 0 none 0 0:=⟨_,rfl⟩;have hk:=B9 Y.out 0 none 0 0;rw[<-H]at hk;have U:=BZ m0.out G.out 0 none 0 0;rw[<-H]at U;unfold setEv at H;rw[<-H];have k0:wz.cell? ⟨b,0,none⟩=some (.int .i64 0):=hk.cell 0 rfl;have k1:wz.cell? ⟨b,1,none⟩=some (.slice none 0 0):=hk.cell 1 rfl;clear H hk;exact bodyPost_ret (v:= .tuple #[.agg #[.int .i64 0,.slice none 0 0],.slice none 0 0,.int .i64 100]) (by simp[results,Tryz.results95,go_sem,k0,k1]) rfl (GotE.no U hZ.out)
   ·rw[if_neg k3]at hZ;have t5:¬ (16:Int)<m:=by omega
    replace hZ:=Aa hZ
    go_in
    go_wp2_with fail;rw[<-hW.out,<-hb.out];refine hg.out.mono ?_;rintro e w1 ⟨p0,A1,c1,rfl,hi1⟩;have c0:=Aa (j0.out A1 c1 w1 hi1 ((hw.trans r0).trans p0));go_wp2_with fail;refine c0.out.mono ?_;rintro e w2 ⟨n0,A2,c2,rfl,hi2⟩;have Y:=hr.ext (p0.trans n0);have f1:=fun i=>Y.free i;have d0:=Y.cell 0 rfl;have d1:=Y.cell 1 rfl;replace Y:=Aa Y;have m0:=Aa (r0.trans (p0.trans n0));go_wp2_with fail;have n4:=Y.out.put 0 (.int .i64 at_);obtain⟨W3,f2⟩:=Ab (w2.setCell ⟨b,0,none⟩ (.int .i64 at_));have q4:Ext w W3:=by rw[f2];exact m0.out.setCell G.out _
    have z5:Row W3 b 69 #[.int .i64 at_,.slice none 0 0]:=by rw[f2];exact n4
    rw[<-f2];clear n4 Y m0 f1 d0 d1 c0 hg j0 f2
    go_loopw [3,33] (fun s3 s33 wr=>∃(i:Nat) (read:List Fd) (rr:List UInt8) (B A3:Option Addr) (d c3:Nat),s33 = .int .u64 (i:Int)/\s3 = .slice A3 rr.length c3/\i<=m/\rr.length<=1000000000/\Hid (i=read.length)/\Hid (getFs m r2=aheadF read (getFs (m - i) rr))/\Hid (∀f∈read,f.1.length<=1000000000/\f.2.length<=1000000000)/\Hid (Row wr b 69 #[.int .i64 at_,.slice B i d])/\Hid (wr.ownsRow (b+1) 91 2 (.slice B i d) i (fcells read))/\Hid (In8 w0 A3 rr.length c3 rr)/\Hid (Ext w wr)) (fun _ s33 _=>m - (intOf s33).toNat)
    case atStart=>exact⟨0,[],r2,none,A2,0,c2,rfl,rfl,by omega,i4,Aa rfl,Aa (by rw[Le];rfl),Aa nofun,Aa z5,Aa ⟨rfl,.inl ⟨rfl,rfl⟩⟩,Aa hi2,Aa q4⟩
    case round =>
     obtain⟨i,read,rr,B,A3,d,c3,rfl,rfl,hi,a5,y2,o2,v4,v0,a2,p3,hE⟩:=hrel;have q0:wr.cell? ⟨b,0,none⟩=some (.int .i64 at_):=v0.out.cell 0 rfl;have q1:wr.cell? ⟨b,1,none⟩=some (.slice B i d):=v0.out.cell 1 rfl;by_cases him:i<m
     ·have hi1:(i:Int)<m:=by omega
      obtain⟨fb,j1⟩:=Ab wr.heap.size;obtain⟨Wf,y1⟩:=Ab (wr.alloc (.cells #[.string ⟨#[]⟩,.string ⟨#[]⟩] 91));have o1:Ext wr Wf:=by rw[y1];exact(Ext.refl wr).alloc _
      have f3:Row Wf fb 91 #[.string ⟨#[]⟩,.string ⟨#[]⟩]:=by rw[y1,j1];exact Row.new wr _ _
      have i5:b<fb:=by rw[j1];exact v0.out.lt
      have z3:=fun A c W h hE=>DG A rr.length c 32 rr w0 W h hE a5 (by omega);have T:=z3 A3 c3 Wf p3.out (hw.trans (hE.out.trans o1));have x2:=Aa (hE.out.trans o1);replace y1:=Aa y1;replace j1:=Aa j1;cases e0:getT 32 rr with
      | error k =>
       have hk:=Kf e0;have b3:((k:Int) != 0)=true:=by simp;omega
       have a1:=Aa (NS o2.out him e0);rw[e0]at T;replace T:=Aa T;clear e0 hk z3;go_wp2_with fail;rw[<-y1.out,<-j1.out];refine T.out.mono ?_;rintro e w4 ⟨J,rfl⟩;have I:=f3.ext J;have O:=(v0.out.ext o1).ext J;have f4:=fun i=>I.free i;have d4:=I.cell 0 rfl;have y0:=O.away (p:=⟨fb,0,none⟩) (by simp only;omega) (.string ⟨#[]⟩);have f5:=fun i=>y0.free i;have e5:=y0.cell 0 rfl;have e6:=y0.cell 1 rfl;have h0:=Aa ((x2.out.trans J).setCell (p:=⟨fb,0,none⟩) (by simp only;have:=G.out;omega) (.string ⟨#[]⟩));have d2:Hid (Z=none):=Aa (by rw[hZ.out,a1.out]);replace y0:=Aa y0;go_wp2_with fail;obtain⟨wz,H⟩:∃wz,wz=setEv (w4.setCell ⟨fb,0,none⟩ (.string ⟨#[]⟩)) b 0 none 0 0:=⟨_,rfl⟩;have hk:=B9 y0.out 0 none 0 0;rw[<-H]at hk;have U:=BZ h0.out G.out 0 none 0 0;rw[<-H]at U;unfold setEv at H;rw[<-H];have k0:wz.cell? ⟨b,0,none⟩=some (.int .i64 0):=hk.cell 0 rfl;have k1:wz.cell? ⟨b,1,none⟩=some (.slice none 0 0):=hk.cell 1 rfl;clear H hk;exact bodyPost_ret (v:= .tuple #[.agg #[.int .i64 0,.slice none 0 0],.slice none 0 0,.int .i64 100]) (by simp[results,Tryz.results95,go_sem,k0,k1]) rfl (GotE.no U d2.out)
      | ok p =>
       obtain⟨nm,rn⟩:=p;obtain⟨l5,n5,_⟩:=Gu e0;rw[e0]at T;unfold GotT at T;simp only at T;replace T:=Aa T;have l4:rn.length<=1000000000:=by omega
       have t0:=Aa (fun A c W h hE=>DG A rn.length c 4096 rn w0 W h hE l4 (by omega));clear z3;cases x1:getT 4096 rn with
       | error k =>
        have hk:=Kf x1;have b3:((k:Int) != 0)=true:=by simp;omega
        have a1:=Aa (NT o2.out him e0 x1);rw[x1]at t0;clear e0 x1 hk;go_wp2_with fail;rw[<-y1.out,<-j1.out];refine T.out.mono ?_;rintro e w4 ⟨J,A4,c4,rfl,a3⟩;have I:=f3.ext J;have O:=(v0.out.ext o1).ext J;have f4:=fun i=>I.free i;have d4:=I.cell 0 rfl;obtain⟨w5,l0⟩:=Ab (w4.setCell ⟨fb,0,none⟩ (.string ⟨nm.toArray⟩));have h0:=(x2.out.trans J).setCell (p:=⟨fb,0,none⟩) (by simp only;have:=G.out;omega) (.string ⟨nm.toArray⟩);have m1:=I.put 0 (.string ⟨nm.toArray⟩);have y0:=O.away (p:=⟨fb,0,none⟩) (by simp only;omega) (.string ⟨nm.toArray⟩);rw[<-l0]at h0 m1 y0;have c0:=Aa (t0.out A4 c4 w5 a3 (hw.trans h0));replace l0:=Aa l0;go_wp2_with fail;rw[<-l0.out];refine c0.out.mono ?_;rintro e w6 ⟨o0,rfl⟩;have f0:=m1.ext o0;have e3:=y0.ext o0;have f6:=fun i=>f0.free i;have d6:=f0.cell 1 rfl;have b0:=e3.away (p:=⟨fb,1,none⟩) (by simp only;omega) (.string ⟨#[]⟩);have f7:=fun i=>b0.free i;have e5:=b0.cell 0 rfl;have e6:=b0.cell 1 rfl;have m2:=Aa ((h0.trans o0).setCell (p:=⟨fb,1,none⟩) (by simp only;have:=G.out;omega) (.string ⟨#[]⟩));have d2:Hid (Z=none):=Aa (by rw[hZ.out,a1.out]);replace b0:=Aa b0;go_wp2_with fail;obtain⟨wz,H⟩:∃wz,wz=setEv (w6.setCell ⟨fb,1,none⟩ (.string ⟨#[]⟩)) b 0 none 0 0:=⟨_,rfl⟩;have hk:=B9 b0.out 0 none 0 0;rw[<-H]at hk;have U:=BZ m2.out G.out 0 none 0 0;rw[<-H]at U;unfold setEv at H;rw[<-H];have k0:wz.cell? ⟨b,0,none⟩=some (.int .i64 0):=hk.cell 0 rfl;have k1:wz.cell? ⟨b,1,none⟩=some (.slice none 0 0):=hk.cell 1 rfl;clear H hk;exact bodyPost_ret (v:= .tuple #[.agg #[.int .i64 0,.slice none 0 0],.slice none 0 0,.int .i64 100]) (by simp[results,Tryz.results95,go_sem,k0,k1]) rfl (GotE.no U d2.out)
       | ok p =>
        obtain⟨tx,rt⟩:=p;obtain⟨r5,o5,_⟩:=Gu x1;rw[x1]at t0;unfold GotT at t0;simp only at t0;replace t0:=Aa t0;have r3:=Aa (LI o2.out him e0 x1);clear e0 x1;go_wp2_with fail;rw[<-y1.out,<-j1.out];refine T.out.mono ?_;rintro e w4 ⟨J,A4,c4,rfl,a3⟩;have I:=f3.ext J;have O:=(v0.out.ext o1).ext J;have v5:=J.owns (o1.owns a2.out);have f4:=fun i=>I.free i;have d4:=I.cell 0 rfl;obtain⟨w5,l0⟩:=Ab (w4.setCell ⟨fb,0,none⟩ (.string ⟨nm.toArray⟩));have h0:=(x2.out.trans J).setCell (p:=⟨fb,0,none⟩) (by simp only;have:=G.out;omega) (.string ⟨nm.toArray⟩);have m1:=I.put 0 (.string ⟨nm.toArray⟩);have y0:=O.away (p:=⟨fb,0,none⟩) (by simp only;omega) (.string ⟨nm.toArray⟩);have b4:(Value.slice B i d).ownBlock≠some fb:=by
         have d3:=a2.out;intro p5;obtain⟨_,o3,_⟩:=Ae d3 p5;have:=o3.lt;have:=j1.out;omega
        have y4:=G2 v5 (a:=⟨fb,0,none⟩) b4 (.string ⟨nm.toArray⟩);rw[<-l0]at h0 m1 y0 y4;have c0:=Aa (t0.out A4 c4 w5 a3 (hw.trans h0));replace l0:=Aa l0;go_wp2_with fail;rw[<-l0.out];refine c0.out.mono ?_;rintro e w6 ⟨o0,A6,c6,rfl,k5⟩;have f0:=m1.ext o0;have e3:=y0.ext o0;have x5:=o0.owns y4;have f6:=fun i=>f0.free i;have d6:=f0.cell 1 rfl;obtain⟨w7,h6⟩:=Ab (w6.setCell ⟨fb,1,none⟩ (.string ⟨tx.toArray⟩));have b0:=e3.away (p:=⟨fb,1,none⟩) (by simp only;omega) (.string ⟨tx.toArray⟩);have t3:Row (w6.setCell ⟨fb,1,none⟩ (.string ⟨tx.toArray⟩)) fb 91 #[.string ⟨nm.toArray⟩,.string ⟨tx.toArray⟩]:=f0.put 1 (.string ⟨tx.toArray⟩);have z4:=G2 x5 (a:=⟨fb,1,none⟩) b4 (.string ⟨tx.toArray⟩);have m2:=(h0.trans o0).setCell (p:=⟨fb,1,none⟩) (by simp only;have:=G.out;omega) (.string ⟨tx.toArray⟩);have f7:=b0.free 1;have e6:=b0.cell 1 rfl;have g0:=t3.cell 0 rfl;have g1:=t3.cell 1 rfl;have o4:b+1<=(w6.setCell ⟨fb,1,none⟩ (.string ⟨tx.toArray⟩)).heap.size:=b0.lt;go_wp2_with (at_builtin;refine AS (us:= [.string ⟨nm.toArray⟩,.string ⟨tx.toArray⟩]) (m:=1) Lu z4 (by simp[World.setCell]) (.tmp 56) (.tmp 58) rfl rfl rfl rfl rfl (Az rfl) (by omega) o4 (fun A8 c8 w8 a4 y3 g5=>?_);have j3:∀k,(Value.slice B i d).ownBlock=some k->b+1<=k:=(fun k hk=>by obtain⟨_,_,hb⟩:=Ae z4 hk;exact hb);have h3:=Row.grown b0 y3 (fun e=>by have:=j3 _ e.symm;omega);have f8:=h3.free 1;have e8:w8.cell? ⟨b,1,none⟩=some (.slice B i d):=h3.cell 1 rfl;have e4:=Aa h3;have m3:=Aa a4;have p4:=Aa (m2.grown y3 fun k hk=>by have:=j3 k hk;have:=G.out;omega);clear h3 a4 y3 g5);have x4:(Value.slice A8 (i+1) c8).ownBlock≠some b:=fun e=>by
         obtain⟨_,_,hb⟩:=Ae m3.out e;omega
        refine⟨⟨i+1,read ++ [(nm,tx)],rt,A8,A6,c8,c6,by go_num,rfl,by omega,by omega,Aa (by rw[List.length_append,<-y2.out];rfl),r3,Aa ?_,Aa (e4.out.put 1 _),Aa (by rw[F0];exact G2 m3.out x4 _),Aa k5,Aa (p4.out.setCell G.out _)⟩,?_⟩
        ·intro f hf;rcases List.mem_append.1 hf with hf | hf
         ·exact v4.out f hf
         ·rw[List.mem_singleton.1 hf];simp only;omega
        ·simp[intOf];omega
     ·obtain rfl:i=m:=by omega
      have g4:=NR o2.out (Nat.le_refl _);have i1:=hZ.out;rw[g4]at i1;simp only at i1;have q2:Ev.Own ⟨at_,read⟩ wr (b+1) B d:=⟨by simp only;rw[<-y2.out];exact a2.out,fun f hf=>by have:=v4.out f hf;omega,by simp only;have:=y2.out;omega⟩
      have h1:=Dj ⟨at_,read⟩ B d wr q2.ok;unfold Ev.val at h1;simp only at h1;rw[<-y2.out]at h1;obtain⟨j,hj⟩:=Ab (checkE read);rw[<-hj]at h1 i1;replace hj:=Aa hj;replace h1:=Aa h1;replace q2:=Aa q2;replace i1:=Aa i1;by_cases m4:j=0
      ·subst m4;go_wp2_with fail;refine h1.out.mono ?_;rintro e w4 ⟨rfl,J⟩;have O:=v0.out.ext J;have f4:=fun k=>O.free k;have g0:=O.cell 0 rfl;have g1:=O.cell 1 rfl;replace O:=Aa O;have j2:=Aa (hE.out.trans J);clear q0 q1;go_wp2_with fail;obtain⟨wz,H⟩:=Ab (setEv w4 b at_ B i d);have hk:=B9 O.out at_ B i d;have j4:=(I5 w4 b at_ B i d).owns (J.owns q2.out.1) (fun k hk h=>by obtain⟨_,_,hb⟩:=Ae (J.owns q2.out.1) hk;omega);have U:=BZ j2.out G.out at_ B i d;rw[<-H]at hk j4 U;unfold setEv at H;rw[<-H];have k0:wz.cell? ⟨b,0,none⟩=some (.int .i64 at_):=hk.cell 0 rfl;have k1:wz.cell? ⟨b,1,none⟩=some (.slice B i d):=hk.cell 1 rfl;clear H hk;have h5:=i1.out;rw[if_pos trivial]at h5;exact bodyPost_ret (v:= .tuple #[.agg #[.int .i64 at_,.slice B i d],.slice A3 rr.length c3,.int .i64 0]) (by simp[results,Tryz.results95,go_sem,k0,k1]) rfl (by rw[h5];exact⟨U,B,d,A3,c3,by unfold Ev.val;simp only;rw[<-y2.out],⟨AD j4 (by have:=G.out;omega),q2.out.2⟩,p3.out,r4⟩)
      ·have b5:¬ (j:Int)=0:=by omega
       have d2:Hid (Z=none):=Aa (by rw[i1.out,if_neg m4]);go_wp2_with fail;refine h1.out.mono ?_;rintro e w4 ⟨rfl,J⟩;have O:=v0.out.ext J;have f4:=fun k=>O.free k;have g0:=O.cell 0 rfl;have g1:=O.cell 1 rfl;replace O:=Aa O;have j2:=Aa (hE.out.trans J);clear q0 q1;go_wp2_with fail;obtain⟨wz,H⟩:∃wz,wz=setEv w4 b 0 none 0 0:=⟨_,rfl⟩;have hk:=B9 O.out 0 none 0 0;rw[<-H]at hk;have U:=BZ j2.out G.out 0 none 0 0;rw[<-H]at U;unfold setEv at H;rw[<-H];have k0:wz.cell? ⟨b,0,none⟩=some (.int .i64 0):=hk.cell 0 rfl;have k1:wz.cell? ⟨b,1,none⟩=some (.slice none 0 0):=hk.cell 1 rfl;clear H hk;exact bodyPost_ret (v:= .tuple #[.agg #[.int .i64 0,.slice none 0 0],.slice none 0 0,.int .i64 100]) (by simp[results,Tryz.results95,go_sem,k0,k1]) rfl (GotE.no U d2.out)
theorem GP:∀ {k:Nat} {l r:List UInt8} {fs:List Fd},getFs k l=some (fs,r)->r.length<=l.length
 | 0,l,r,fs,h=>by unfold getFs at h;cases h;exact Nat.le_refl _
 | k+1,l,r,fs,h=>by
  unfold getFs at h;split at h
  ·cases h
  ·rename_i nm r1 h1;split at h
   ·cases h
   ·rename_i tx r2 h2;split at h
    ·cases h
    ·rename_i fs' r3 j;cases h;have a1:=(Gu h1).2.1;have a2:=(Gu h2).2.1;have a3:=GP j;omega
theorem Cs (h:getV 0 l = .ok (n,r)):r.length<l.length:=by
 obtain⟨_,_,q,b,j⟩:=Ck l 0 n r h;have:=List.length_pos_iff.2 j;rw[b,List.length_append];omega
theorem NP {e:Ev} (h:getE l=some (e,r)):r.length<l.length:=by
 unfold getE at h;split at h
 ·cases h
 ·rename_i u r1 h1;split at h
  ·cases h
  ·rename_i n r2 h2;split at h
   ·cases h
   ·split at h
    ·cases h
    ·rename_i fs r3 j;split at h
     ·cases h;have a1:=Cs h1;have a2:=Cs h2;have a3:=GP j;omega
     ·cases h
theorem IB:∀(l:List UInt8) (i k:Nat),getV i l = .error k->k=6\/k=20
 | [],i,k,h=>by unfold getV at h;injection h with h;omega
 | x::l,i,k,h=>by
  unfold getV at h;split at h
  ·injection h with h;omega
  ·split at h
   ·injection h with h;omega
   ·split at h
    ·cases h
    ·split at h
     ·cases h
     ·rename_i e j;injection h with h;subst h;exact IB l (i+1) _ j
theorem Qx (l:List UInt8) (x:UInt8):be (l ++ [x])=be l*256+x.toNat:=by
 unfold be;rw[List.foldl_append];rfl
def GotFB (w0 w:World) (res:Except Nat (List UInt8×List UInt8)) (e:Ending) (w':World):Prop:=Ext w w'/\match res with
 | .ok (p,r)=>∃P cp A c base,e = .returned (.tuple #[.slice P p.length cp,.slice A r.length c,.int .i64 0])/\Buf w' base 5 P p.length cp (p.map B8)/\In8 w0 A r.length c r
 | .error k=>e = .returned (.tuple #[.slice none 0 0,.slice none 0 0,.int .i64 k])
theorem GotFB.no {res:Except Nat (List UInt8×List UInt8)} (j:Ext w w') (h:res = .error k):GotFB w0 w res (.returned (.tuple #[.slice none 0 0,.slice none 0 0,.int .i64 k])) w':=by
 subst h;exact⟨j,rfl⟩
theorem NK (A:Option Addr) (n c:Nat) (l:List UInt8) (w0 w:World) (h:In8 w0 A n c l) (hw:Ext w0 w) (d2:n<=1000000000) :
 Calls prog 145 #[.slice A n c] w fun e w'=>GotFB w0 w (getF l) e w':=by
 have U:=Cl A n c l w0 w h hw d2;have b0:=Aa h.len;obtain⟨Z,j⟩:=Ab (getF l);rw[<-j];unfold getF at j;cases hv:getV 0 l with
 | error k =>
  rw[hv]at U j;simp only at j;rcases IB l 0 k hv with rfl | rfl
  ·rw[if_pos rfl]at j;replace j:=Aa j;replace U:=Aa U;clear h hv
   go_in
   go_wp2_with fail;refine U.out.mono ?_;rintro e w1 ⟨b,rfl⟩;go_wp2_with fail;go_ret3;exact GotFB.no b j.out
  ·rw[if_neg (by omega)]at j;replace j:=Aa j;replace U:=Aa U;clear h hv
   go_in
   go_wp2_with fail;refine U.out.mono ?_;rintro e w1 ⟨b,rfl⟩;go_wp2_with fail;go_ret3;exact GotFB.no b j.out
 | ok p =>
  obtain⟨m,r⟩:=p;have k3:=Ct hv;have i2:=Cs hv;obtain⟨hd,x0,x2⟩:=Eu l 0 m r [] hv;have J:l.length - r.length=hd.length:=by rw[x0,List.length_append];omega
  rw[hv]at U j;simp only at j;unfold Got at U;simp only at U;replace U:=Aa U;clear hv x2;by_cases f0:16777216<m
  ·rw[if_pos f0]at j;replace j:=Aa j;have j2:(16777216:Int)<m:=by omega
   clear h
   go_in
   go_wp2_with fail;refine U.out.mono ?_;rintro e w1 ⟨b,A1,c1,rfl,hi1⟩;go_wp2_with fail;go_ret3;exact GotFB.no b j.out
  ·rw[if_neg f0]at j;have j2:¬ (16777216:Int)<m:=by omega
   have e3:IntKind.i64.wrap (m:Int)=(m:Int):=by
    simp[IntKind.wrap,IntKind.bits,IntKind.signed];omega
   by_cases i1:r.length<4+m
   ·rw[if_pos i1]at j;replace j:=Aa j;have o2:(r.length:Int)<4+(m:Int):=by omega
    clear h
    go_in
    go_wp2_with fail;refine U.out.mono ?_;rintro e w1 ⟨b,A1,c1,rfl,hi1⟩;go_wp2_with fail;go_ret3;exact GotFB.no b j.out
   ·rw[if_neg i1]at j;have o2:¬ (r.length:Int)<4+(m:Int):=by omega
    obtain⟨y2,y0⟩:=h.headk .i64 (k:=l.length - r.length) (by have:=b0.out;omega) (z:=(n:Int) - (r.length:Int)) (by have:=b0.out;omega);rw[J]at y2 y0;have b3:r.length<=n:=by have:=b0.out;omega
    have j3:r.length<=1000000000:=by omega
    replace j:=Aa j;replace y0:=Aa y0;replace J:=Aa J;replace x0:=Aa x0;clear h i2
    go_in
    go_wp2_with fail;refine U.out.mono ?_;rintro e w1 ⟨b,A1,c1,rfl,hi1⟩;obtain⟨y3,i0⟩:=hi1.headk .i64 (k:=4) (by omega) (z:=4) rfl;obtain⟨A2,c2,z3,k1⟩:=hi1.subk .i64 .i64 (fr:=4) (k:=m) (by omega) (z0:=4) (z:=4+(m:Int)) rfl rfl;obtain⟨A3,c3,d3,m1⟩:=hi1.fromk .i64 (fr:=4+m) (by omega) (z:=4+(m:Int)) (by omega);replace i0:=Aa i0;replace k1:=Aa k1;replace m1:=Aa m1;replace hi1:=Aa hi1;go_wp2_with fail
    go_loopw [7,9,43] (fun s7 _ s43 wr=>∃(i v:Nat),s43 = .int .i64 (i:Int)/\i<=4/\s7 = .int .u32 (v:Int)/\v<256^i/\Hid (v=be (r.take i))/\wr=w1) (fun _ _ s43 _=>4 - (intOf s43).toNat)
    case atStart=>exact⟨0,0,rfl,by omega,rfl,by decide,Aa (by simp[be]),rfl⟩
    case round =>
     obtain⟨i,v,rfl,hi,rfl,hv,q2,rfl⟩:=hrel;by_cases a2:i<4
     ·obtain⟨x,hx⟩:∃x,r[i]? = some x:=⟨_,List.getElem?_eq_getElem (by omega)⟩
      have c0:be (r.take (i+1))=v*256+x.toNat:=by rw[Ei hx,Qx,q2.out]
      have f3:=x.toNat_lt;have a3:(256:Nat)^i<=256^3:=Nat.pow_le_pow_right (by omega) (by omega);have t3:v<16777216:=by omega
      have f2:bits .or .u32 ((v:Int)*256) (x.toNat:Int)=((v*256+x.toNat:Nat):Int):=by
       have h1:=u32_or_nat (v*256) x.toNat (by omega) (by omega);have h2:=Nat.shiftLeft_add_eq_or_of_lt (show x.toNat<2^8 by omega) v;rw[Nat.shiftLeft_eq]at h2;rw[show (2:Nat)^8=256 from rfl]at h2;rw[h2,<-h1];simp
      have a:v*256+x.toNat<256^(i+1):=by rw[Nat.pow_succ];omega
      obtain⟨g,o,k2,hc⟩:=Cells.at_ (xs:=(r.take 4).map B8) (i0.out.bytes.ext (hw.trans b)) (by rw[List.length_map,List.length_take];omega);have o0:=hc i (B8 x) (by rw[List.getElem?_map,List.getElem?_take,if_pos a2,hx];rfl);unfold B8 at o0;subst k2;replace c0:=Aa c0;replace a:=Aa a;obtain⟨nx,q1⟩:=Ab (v*256+x.toNat);rw[<-q1]at f2 c0 a;replace q1:=Aa q1;clear hx hc;go_wp2_with fail;refine⟨⟨i+1,nx,by go_num,by omega,rfl,a.out,Aa c0.out.symm,trivial⟩,?_⟩;simp[intOf];omega
     ·obtain rfl:i=4:=by omega
      have H:((r.drop 4).take m).length=m:=by rw[List.length_take,List.length_drop];omega
      have I:(l.take hd.length).length=hd.length:=by rw[List.length_take,x0.out,List.length_append];omega
      have v0:(r.drop (4+m)).length=r.length - (4+m):=List.length_drop;have l0:=hw.trans b;have T:=k1.out.ext l0;obtain⟨pl,G⟩:=Ab ((r.drop 4).take m);obtain⟨hh,O⟩:=Ab (l.take hd.length);rw[<-G]at H T;have g0:=y0.out;rw[<-O]at I g0;have m2:=Aa (Cr A2 m c2 pl wr H.symm T.bytes T.nil_ (by omega));have d0:=j.out;rw[J.out,<-O,<-G,<-q2.out]at d0;replace d0:=Aa d0;replace G:=Aa G;replace O:=Aa O;replace H:=Aa H;replace I:=Aa I;replace v0:=Aa v0;have x3:v<4294967296:=hv;clear T;go_wp2_with fail;refine m2.out.mono ?_;rintro e w3 ⟨P,cp,rfl,n0,x1⟩;have m0:=n0.in8;have y1:=Aa n0;obtain⟨w4,p0⟩:=Ab (w3.alloc (.cells #[.slice A hd.length c,.slice P m cp] 24));have j0:Ext w3 w4:=by rw[p0];exact(Ext.refl w3).alloc _
      have f1:Row w4 w3.heap.size 24 #[.slice A hd.length c,.slice P m cp]:=by rw[p0];exact Row.new w3 _ _
      have h0:=Ng (some ⟨w3.heap.size,0,none⟩) 2 2 [(A,c,hh),(P,cp,pl)] w4 rfl (.inr ⟨w3.heap.size,0,rfl,fun i v hv=>by
       rw[Nat.zero_add];refine f1.cell i ?_;have e1:=I.out;have e2:=H.out;simpa [e1,e2]using hv⟩) (fun q hq=>by
       rcases List.mem_cons.1 hq with rfl | hq
       ·have h:=(g0.ext l0).ext (x1.trans j0);simp only;rw[I.out];exact h
       ·rw[List.mem_singleton.1 hq];have h:=m0.ext j0;simp only;rw[H.out];exact h) (fun q hq=>by
       rcases List.mem_cons.1 hq with rfl | hq
       ·simp only;rw[I.out];have:=b0.out;have:=J.out;omega
       ·rw[List.mem_singleton.1 hq];simp only;rw[H.out];omega) (by omega)
      rw[show ([(A,c,hh),(P,cp,pl)].map fun p:Option Addr×Nat×List UInt8=>p.2.2) = [hh,pl] from rfl,show csum 0 [hh,pl]=cnext 0 (hh++pl)from Io hh pl]at h0;obtain⟨s,hs⟩:=Ab (cnext 0 (hh++pl));have Y:=d0.out;rw[<-hs]at h0 Y;have e0:=Aa (b.trans (x1.trans j0));replace h0:=Aa h0;replace p0:=Aa p0;replace m0:=Aa (m0.ext j0);have a1:=Aa (y1.out.ext j0);replace hs:=Aa hs;clear n0 f1 l0 g0;by_cases o1:s=v
      ·subst o1;rw[if_pos rfl]at Y;replace Y:=Aa Y;go_wp2_with fail;rw[<-p0.out];refine h0.out.mono ?_;rintro e w5 ⟨rfl,t0⟩;have k0:=Aa (e0.out.trans t0);have d1:=Aa (a1.out.ext t0);go_wp2_with fail;refine AE (fun K hK=>?_);go_wp2_with fail;refine⟨by kernel_rfl,?_⟩;go_wp2_with fail;go_ret3;rw[Y.out];exact⟨k0.out.drew,P,cp,A3,c3,_,by rw[H.out,v0.out];rfl,by rw[H.out];exact d1.out.drew,by rw[v0.out];exact m1.out⟩
      ·have m3:¬ (s:Int)=v:=by omega
       rw[if_neg o1]at Y;replace Y:=Aa Y;go_wp2_with fail;rw[<-p0.out];refine h0.out.mono ?_;rintro e w5 ⟨rfl,t0⟩;have k0:=Aa (e0.out.trans t0);go_wp2_with fail;go_ret3;exact GotFB.no k0.out Y.out
end
section
open Go.RowKit
attribute [local go_sem] Oper.semAt_some AP Cp
def KeepS (B:Nat) (S:Nat->Prop) (W W':World):Prop:=(∀w0:World,w0.heap.size<=B->Ext w0 W->Ext w0 W')/\∀k,S k->∀o,W.heap[k]? = some o->W'.heap[k]? = some o
theorem KeepS.trans (B:Nat) (S:Nat->Prop) (A C D:World) (h:KeepS B S A C) (k:KeepS B S C D):KeepS B S A D:=⟨fun w0 j b=>k.1 w0 j (h.1 w0 j b),fun i hi o a=>k.2 i hi o (h.2 i hi o a)⟩
theorem KeepS.refl (B:Nat) (S:Nat->Prop) (A:World):KeepS B S A A:=⟨fun _ _ h=>h,fun _ _ _ h=>h⟩
theorem KeepS.alike {H B:Nat} (a:H<=B) (h1:∀k,S k->k<B) (A C:World) (h:Alike B A C):KeepS H S A C :=
 ⟨fun _ hs b=>h.ext b (by omega),fun k hk _ j=>(h.block k (Array.getElem?_eq_some_iff.1 j).1 (fun hn=>by have:=hn.1;have:=h1 k hk;omega)).trans j⟩
theorem KeepS.ext {A C:World} (h:Ext A C):KeepS B S A C :=
 ⟨fun _ _ b=>b.trans h,fun k _ _ j=>(Below.block h k (Array.getElem?_eq_some_iff.1 j).1).trans j⟩
theorem KeepS.row {A C:World} (h:KeepS B S A C) (hk:S k) (j:Row A k t cs):Row C k t cs:=h.2 k hk _ j
abbrev Pay:=Option Addr×Nat×List UInt8×Int
def Pay.val (x:Pay):Value:= .slice x.1 x.2.2.1.length x.2.1
def PayOk (W:World) (x:Pay):Prop:=∃base,Buf W base 5 x.1 x.2.2.1.length x.2.1 (x.2.2.1.map B8)
def pays (l:List Pay):List (List UInt8):=l.map fun x=>x.2.2.1
def NxF (b:List UInt8) (pre:List Pay) (x:Pay) (W:World):Prop:=PayOk W x/\∃r,splitF b=(pays (pre ++ [x])++(splitF r).1,(splitF r).2)
def FinF (b:List UInt8) (ew:Nat) (xs:List Pay) (W W':World):Prop:=(splitF b=(pays xs,0)/\Ext W W')\/∃k W3,k≠0/\splitF b=(pays xs,k)/\Ext W W3/\W'=W3.setCell ⟨ew,0,none⟩ (.int .i64 (k:Int))
def FrIter (b:List UInt8) (B b1 b2 ew:Nat) (w:World):Prop :=
 Iter prog 144 #[.pointer (some ⟨b1,0,none⟩),.pointer (some ⟨b2,0,none⟩)] (fun x:Pay=>#[.int .i64 x.2.2.2,x.val]) Ext (NxF b) (KeepS B fun k=>k=b1\/k=b2\/k=ew) (FinF b ew) w
theorem Kd (A:Option Addr) (n c:Nat) (b:List UInt8) (B b1 b2 ew:Nat) (w0 w:World) (h:In8 w0 A n c b) (hB:w0.heap.size<=B) (hw:Ext w0 w) (d0:n<=1000000000)
 (Z:Row w b1 24 #[.slice A n c]) (m0:Row w b2 174 #[.pointer (some ⟨ew,0,none⟩)]) (t0:Row w ew 25 #[.int .i64 0]):FrIter b B b1 b2 ew w:=by
 intro l J W hE p0 hY h0;replace Z:=Aa (Z.ext hE);replace m0:=Aa (m0.ext hE);replace t0:=Aa (t0.ext hE);replace hw:=Aa (hw.trans hE);clear hE;replace hY:=Aa hY;replace p0:=Aa p0;replace h0:=Aa h0;have e1:=Aa h.len;replace h:=Aa h;have g0:=Aa (fun A n c r W (h:In8 w0 A n c r) (hw:Ext w0 W) (d0:n<=1000000000)=>NK A n c r w0 W h hw d0);refine(callsIn_wide (n:=0)).1 ?_;refine callsIn_of_wp func144 rfl trivial ?_;simp only[ntmps144,List.size_toArray,List.length_cons,List.length_nil,Nat.reduceAdd,Nat.reduceSub,Array.replicate_succ,Array.replicate_zero,List.push_toArray,List.append_toArray,List.nil_append,List.cons_append];have k10:=Z.out.cell 0 rfl;gi_wp2_with fail
 gi_loopw [4] (fun s4 wr=>∃(A4:Option Addr) (n4 c4:Nat) (r:List UInt8) (pre:List Pay),s4 = .slice A4 n4 c4/\n4<=n/\Hid (In8 w0 A4 n4 c4 r)/\Hid (splitF b=(pays pre++(splitF r).1,(splitF r).2))/\Hid (J pre wr)/\Hid (Ext w0 wr)/\Hid (Row wr b1 24 #[.slice A n c])/\Hid (Row wr b2 174 #[.pointer (some ⟨ew,0,none⟩)])/\Hid (Row wr ew 25 #[.int .i64 0])) (fun s4 _=>match s4 with | .slice _ k _=>k | _=>0)
 case atStart=>exact⟨A,n,c,b,[],rfl,Nat.le_refl _,h,Aa rfl,h0,hw,Z,m0,t0⟩
 case round =>
  obtain⟨A4,n4,c4,r,pre,rfl,f1,hi,e0,hJ,hE,r1,r2,r3⟩:=hrel;have k1:=r1.out.cell 0 rfl;have k2:=r2.out.cell 0 rfl;have y0:=Aa hi.out.len;by_cases hz:n4=0
  ·have x1:¬ (0:Int)<n4:=by omega
   have q1:r = []:=List.length_eq_zero_iff.1 (by rw[<-y0.out];exact hz);subst q1;clear hY g0;gi_wp2_with fail
   go_end0
   refine⟨⟨_,rfl⟩,pre,_,hJ.out,.inl ⟨?_,Ext.refl _⟩⟩;have:=e0.out;rw[Mx,List.append_nil]at this;exact this
  ·have x1:(0:Int)<n4:=by omega
   have O:r ≠ []:=fun e=>by have:=y0.out;rw[e]at this;exact hz this
   have hg:=g0.out A4 n4 c4 r wr hi.out hE.out (by omega);have a:=e0.out;cases H:getF r with
   | error k =>
    rw[Mw O H,List.append_nil]at a;rw[H]at hg;have h1:k≠0:=by rcases NQ H with h | h <;> omega
    have d1:¬ (k:Int)=0:=by omega
    replace a:=Aa a;replace hg:=Aa hg;clear H hY O;gi_wp2_with fail;refine(callsIn_wide.2 hg.out).mono ?_;rintro e w2 ⟨j,rfl⟩;have k22:=(r2.out.ext j).cell 0 rfl;have k32:=(r3.out.ext j).cell 0 rfl;have k3f:=(r3.out.ext j).free 0;have c0:=Aa (p0.out _ _ _ hJ.out j);replace j:=Aa j;gi_wp2_with fail;exact bodyPost_ret (results_none rfl _ _ _) rfl ⟨⟨_,rfl⟩,pre,_,hJ.out,.inr ⟨k,_,h1,a.out,j.out,rfl⟩⟩
   | ok q =>
    obtain⟨p,r'⟩:=q;rw[I9 O H]at a;rw[H]at hg;have U:=(C1 H).1;have T:splitF b=(pays (pre ++ [(none,0,p,0)])++(splitF r').1,(splitF r').2):=by
     rw[a];simp[pays]
    replace a:=Aa a;replace T:=Aa T;replace hg:=Aa hg;clear H O;gi_wp2_with fail;refine(callsIn_wide.2 hg.out).mono ?_;rintro e w2 ⟨j,P,cp,A5,c5,base,rfl,G,I⟩;have r12:=Aa (r1.out.ext j);have r22:=Aa (r2.out.ext j);have r32:=Aa (r3.out.ext j);have k12:=r12.out.cell 0 rfl;have c0:=Aa (p0.out _ _ _ hJ.out j);have Y:splitF b=(pays (pre ++ [(P,cp,p,((n:Int) - r'.length))])++(splitF r').1,(splitF r').2):=by
     have:=T.out;simp only[pays,List.map_append,List.map_cons,List.map_nil]at this ⊢;exact this
    have m1:=hY.out pre (P,cp,p,((n:Int) - r'.length)) w2 c0.out ⟨⟨base,G⟩,r',Y⟩;obtain⟨fn,tmps,assign,body,hy,hR⟩:=m1;simp only[Pay.val]at hy hR;obtain⟨n5,v0⟩:=Ab r'.length;rw[<-v0]at I hy hR Y U ⊢;replace U:=Nat.lt_of_lt_of_eq U y0.out.symm;obtain⟨pl,x0⟩:=Ab p.length;rw[<-x0]at G hy ⊢;replace I:=Aa I;replace j:=Aa (hE.out.trans j);replace Y:=Aa Y;replace G:=Aa G;replace v0:=Aa v0;replace x0:=Aa x0;clear hY;gi_wp2_with fail;refine hR.mono ?_;rintro e W3 ⟨rfl,o0,q0⟩;have r13:=Aa (show Row W3 b1 24 #[.slice A n c] from q0.row (.inl rfl) r12.out);have r23:=Aa (show Row W3 b2 174 #[.pointer (some ⟨ew,0,none⟩)] from q0.row (.inr (.inl rfl)) r22.out);have n0:=Aa (q0.1 w0 hB j.out);have r33:=Aa (q0.row (.inr (.inr rfl)) r32.out);gi_wp2_with fail;exact⟨⟨A5,n5,c5,r',_,rfl,by omega,I,Y,Aa o0,n0,r13,r23,r33⟩,by omega⟩
end
section
open Go.RowKit
attribute [local go_sem] Oper.semAt_some AP
def KeepB (b1 b2:Nat) (W W':World):Prop:=(∀o,W.heap[b1]? = some o->W'.heap[b1]? = some o)/\∀o,W.heap[b2]? = some o->W'.heap[b2]? = some o
theorem KeepB.trans (b1 b2:Nat) (A B C:World) (h:KeepB b1 b2 A B) (k:KeepB b1 b2 B C):KeepB b1 b2 A C:=⟨fun o j=>k.1 o (h.1 o j),fun o j=>k.2 o (h.2 o j)⟩
theorem KeepB.refl (b1 b2:Nat) (A:World):KeepB b1 b2 A A:=⟨fun _ h=>h,fun _ h=>h⟩
theorem KeepB.of {c1 c2:Array Value} (h1:Row W b1 t1 c1) (h:Row W' b1 t1 c1) (h2:Row W b2 t2 c2) (j:Row W' b2 t2 c2):KeepB b1 b2 W W' :=
 ⟨fun o b=>by unfold Row at h1 h;rw[h] ;rw[h1]at b;exact b,fun o b=>by unfold Row at h2 j;rw[j];rw[h2]at b;exact b⟩
theorem KeepB.alike (h1:b1<B) (h2:b2<B) (A C:World) (h:Alike B A C):KeepB b1 b2 A C :=
 ⟨fun _ j=>(h.block b1 (Array.getElem?_eq_some_iff.1 j).1 (fun hn=>by have:=hn.1;omega)).trans j,fun _ j=>(h.block b2 (Array.getElem?_eq_some_iff.1 j).1 (fun hn=>by have:=hn.1;omega)).trans j⟩
theorem Ln (A:Option Addr) (n c k:Nat) (w:World) (hk:1<=k) (h:k<=1000000) :
 Calls prog 83 #[.slice A n c,.int .i64 (k:Int)] w fun e w'=>∃b1 b2,e = .returned (.func (.func 135) #[] #[.pointer (some ⟨b1,0,none⟩),.pointer (some ⟨b2,0,none⟩)])/\Row w' b1 47 #[.slice A n c]/\Row w' b2 3 #[.int .i64 (k:Int)]/\w.heap.size<=b1/\w.heap.size<=b2/\b1<b2/\Ext w w':=by
 go_in
 go_wp2_with fail;go_ret;have h1:=Row.new w 47 #[.slice A n c];have h2:=Row.new (w.alloc (.cells #[.slice A n c] 47)) 3 #[.int .i64 (k:Int)];rw[World.size_alloc]at h2;exact⟨w.heap.size,w.heap.size+1,rfl,h1.alloc _,h2,Nat.le_refl _,by omega,by omega,((Ext.refl w).alloc _).alloc _⟩
theorem KO (j:z=(i:Int)) (hi:i<=n):∃A' c',∀W:World,(Instr.sliceAt 47 (.slice A n c) (some (.int .i64 z)) none none).run prog W = .ok (.slice A' (n - i) c') W:=by
 subst j;have ht:=underlying47;have h:prog.elem 47=89:=by unfold Program.elem;rw[ht]
 have hs:∀W:World,(sizeOf 89).run prog W = .ok 2 W:=fun W=>by kernel_rfl
 refine⟨if c=i then A else A.map fun a=>a.add (i*2),c - i,fun W=>?_⟩;rw[run_sliceAt_slice W _ _ _ _ _ (by rw[ht,h]),run_slice_l W _ A n c (by rw[ht,h]) .i64 i (by omega) (by omega),h,hs];simp only[Result.andThen_ok,sliced];rfl
theorem KP {n c i j:Nat} (Y:z=(i:Int)) (b:z1=((i+j:Nat):Int)) (H:z2=((i+j:Nat):Int)) (hi:i+j<=c) (J:0<j) (W:World) :
 (Instr.sliceAt 47 (.slice A n c) (some (.int .i64 z)) (some (.int .i64 z1)) (some (.int .i64 z2))).run prog W = .ok (.slice (A.map fun a=>a.add (i*2)) j j) W:=by
 subst Y b H;have ht:=underlying47;have h:prog.elem 47=89:=by unfold Program.elem;rw[ht]
 have hs:(sizeOf 89).run prog W = .ok 2 W:=by kernel_rfl
 rw[run_sliceAt_slice W _ _ _ _ _ (by rw[ht,h]),run_slice_lhm W _ A n c (by rw[ht,h]) .i64 .i64 .i64 i ((i+j:Nat):Int) ((i+j:Nat):Int) (by omega) (by omega) (by omega) (by omega),h,hs];simp only[Result.andThen_ok];congr 1;unfold sliced;rw[if_neg (by omega),show ((i+j:Nat):Int).toNat - (i:Int).toNat=j by omega];rfl
def chunkVA (A:Option Addr) (n k i:Nat):Value:= .slice (A.map fun a=>a.add (i*k*2)) (min k (n - i*k)) (min k (n - i*k))
def ChIterA (A:Option Addr) (n k b1 b2:Nat) (w:World):Prop :=
 Iter prog 135 #[.pointer (some ⟨b1,0,none⟩),.pointer (some ⟨b2,0,none⟩)] (fun i:Nat=>#[chunkVA A n k i]) Ext (fun pre i _=>i=pre.length/\i*k<n) (KeepB b1 b2) (fun xs W W'=>n<=xs.length*k/\xs=List.range xs.length/\(∀i∈xs,i*k<n)/\Ext W W') w
theorem JT (A:Option Addr) (n c k b1 b2:Nat) (w:World) (H:Row w b1 47 #[.slice A n c]) (Y:Row w b2 3 #[.int .i64 (k:Int)]) (hk:1<=k) (l0:k<=1000000) (hn:n<=1000000000) (hc:n<=c):ChIterA A n k b1 b2 w:=by
 intro l J W hE U hY h0;replace H:=H.ext hE;replace Y:=Y.ext hE;clear hE;replace H:=Aa H;replace Y:=Aa Y;replace hY:=Aa hY;replace U:=Aa U;replace h0:=Aa h0;refine(callsIn_wide (n:=0)).1 ?_;refine callsIn_of_wp func135 rfl trivial ?_;simp only[ntmps135,List.size_toArray,List.length_cons,List.length_nil,Nat.reduceAdd,Nat.reduceSub,Array.replicate_succ,Array.replicate_zero,List.push_toArray,List.append_toArray,List.nil_append,List.cons_append];gi_wp2_with fail
 gi_loopw [4] (fun s4 wr=>∃(i q:Nat) (pre:List Nat),s4 = .int .i64 (q:Int)/\Hid (q=i*k)/\q<=n+k/\Hid (pre.length=i)/\Hid (pre=List.range i)/\Hid (∀j∈pre,j*k<n)/\Hid (J pre wr)/\Hid (Row wr b1 47 #[.slice A n c])/\Hid (Row wr b2 3 #[.int .i64 (k:Int)])) (fun s4 _=>n - (intOf s4).toNat)
 case atStart=>exact⟨0,0,[],rfl,Aa (by simp),by omega,Aa rfl,Aa rfl,Aa nofun,h0,H,Y⟩
 case round =>
  obtain⟨i,q,pre,rfl,hq,r0,b,q0,G,hJ,r1,r2⟩:=hrel;have k1:=r1.out.cell 0 rfl;have k2:=r2.out.cell 0 rfl;by_cases Z:q<n
  ·obtain⟨m,hm⟩:∃m:Nat,(m:Int)=min (k:Int) ((n - q:Nat):Int):=⟨min k (n - q),by omega⟩
   have y0:0<m:=by omega
   have n0:m<=k:=by omega
   have o0:m<=n - q:=by omega
   have b0:m=k\/m=n - q:=by omega
   have e0:=fun(W:World)=>AQ (P:=prog) #[3,3] 3 hm W;have q1:=fun(W:World)=>KP (A:=A) (n:=n) (c:=c) (i:=q) (j:=m) (z:=(q:Int)) (z1:=(q:Int)+(m:Int)) (z2:=(q:Int)+(m:Int)) rfl (by omega) (by omega) (by omega) y0 W;obtain⟨A',c',h1⟩:=KO (A:=A) (n:=n) (c:=c) (i:=q) (z:=(q:Int)) rfl (by omega);replace hm:=Aa hm;have j0:=hY.out pre pre.length wr.drew (U.out _ _ _ hJ.out (Ext.refl wr).drew) ⟨rfl,by rw[b.out,<-hq.out];exact Z⟩;have O:chunkVA A n k pre.length = .slice (A.map fun a=>a.add (q*2)) m m:=by
    unfold chunkVA;rw[b.out,<-hq.out,show min k (n - q)=m by omega]
   rw[O]at j0;obtain⟨fn,tmps,assign,body,hy,hR⟩:=j0;have I:Hid (∀j∈pre ++ [pre.length],j*k<n):=Aa fun j hj=>by
    rcases List.mem_append.1 hj with h | h
    ·exact G.out j h
    ·rw[List.mem_singleton.1 h,b.out,<-hq.out];exact Z
   have p0:Hid (pre ++ [pre.length]=List.range (i+1)):=Aa (by rw[List.range_succ,b.out,q0.out]);have c0:Hid (q+k=(i+1)*k):=Aa (by rw[Nat.succ_mul,hq.out]);clear O b0 hY U;gi_wp2_with fail;refine wpIn_wide.2 (AE (fun K hK=>?_));go_wp2_with fail;refine⟨by kernel_rfl,?_⟩;gi_wp2_with fail;refine hR.mono ?_;rintro e W3 ⟨rfl,v0,T⟩;have r13:=Aa (show Row W3 b1 47 #[.slice A n c] from T.1 _ r1.out);have r23:=Aa (show Row W3 b2 3 #[.int .i64 (k:Int)] from T.2 _ r2.out);have k23:=r23.out.cell 0 rfl;gi_wp2_with fail;exact⟨⟨i+1,q+k,pre ++ [pre.length],by congr 1,c0,by omega,Aa (by rw[List.length_append,b.out];rfl),p0,I,Aa v0,r13,r23⟩,by simp only[intOf];omega⟩
  ·gi_wp2_with fail
   go_end0
   exact⟨⟨_,rfl⟩,pre,_,hJ.out,by rw[b.out,<-hq.out];omega,by rw[b.out];exact q0.out,G.out,Ext.refl _⟩
end
end Go.Proofs.YtfifdilapbeiiaaGreat
