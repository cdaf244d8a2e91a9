/- Texts of one proof, joined. -/
import Derived.Test.YtfifdilapbeiiaaGreatPP05
set_option linter.unusedSimpArgs false
set_option linter.unusedVariables false
set_option maxRecDepth 100000
set_option maxHeartbeats 16000000
namespace Go.Proofs.YtfifdilapbeiiaaGreat
open _root_.Go.Proofs.Tryz
variable {cs:Array Value} {L l nm p r r1 r2 tx:List UInt8} {B g i k n x:Nat} {S:Nat → Prop} {t:TypeId} {w w' w0 w1:World}
section
open Go.RowKit
theorem OL (g c a m b:Nat) (D P A Q:List TmV) (z:TmV) (w:World) (h0:TR w g D) (hD:D=P++(A++([z]++Q))) (ha:a=P.length) (hm:m=a+A.length) (hb:b=m+1) (hA:Srt A) (f3:1<A.length) (j3:D.length<=1073741824) :
 Calls prog 202 #[.slice (some ⟨g,0,none⟩) D.length c,.int .i64 (a:Int),.int .i64 (m:Int),.int .i64 (b:Int),cmpV] w (SymP g P A [z] Q w):=by
 obtain⟨dl,q0⟩:∃n,n=D.length:=⟨_,rfl⟩
 have l3:b<=dl:=by rw[q0,hD];simp only[List.length_append,List.length_singleton];omega
 rw[<-q0]at j3 ⊢;have hz:D[m]? = some z:=by rw[hD,hm,ha];exact FP (P:=P) (B:= [z]) (i:=0) (by simp)
 have hy:∀i,i<A.length->D[a+i]? = A[i]? :=fun i hi=>by rw[hD,ha];exact Hp hi
 have t3:¬ (m:Int) - (a:Int)=1:=by omega
 have e3:((m:Int) - (a:Int)==1)=false:=beq_eq_false_iff_ne.2 t3;have r3:(b:Int) - (m:Int)=1:=by omega
 have i3:a<m:=by omega
 have j4:m<b:=by omega
 have Y:=fun x y W=>Fs x y W;unfold tagg at Y;unfold cmpV;replace Y:=Aa Y;replace h0:=Aa h0;replace hD:=Aa hD;replace q0:=Aa q0;replace hz:=Aa hz;replace hy:=Aa hy;replace hA:=Aa hA;replace ha:=Aa ha;replace hm:=Aa hm;replace hb:=Aa hb
 go_in
 go_wp2_with fail
 go_loopw [14,15] (fun s14 s15 wr=>∃i j:Nat,s14 = .int .i64 (i:Int)/\s15 = .int .i64 (j:Int)/\a<=i/\i<=j/\j<=m/\Hid ((∀x∈A.take (i - a),¬ z.1<x.1)/\(∀x∈A.drop (j - a),z.1<x.1)/\Ext w wr)) (fun s14 s15 _=>(intOf s15).toNat - (intOf s14).toNat)
 case atStart=>exact⟨a,m,rfl,rfl,Nat.le_refl _,by omega,Nat.le_refl _,Aa ⟨by rw[Nat.sub_self];nofun,by rw[show m - a=A.length by have:=hm.out;omega,List.drop_length];nofun,Ext.refl _⟩⟩
 case round =>
  obtain⟨i,j,rfl,rfl,d2,q4,p3,hI⟩:=hrel;by_cases m3:i<j
  ·obtain⟨h,hh⟩:∃h:Nat,((i:Int)+(j:Int)) / 2=(h:Int):=⟨(i+j) / 2,by omega⟩
   have q3:i<=h:=by omega
   have h4:h<j:=by omega
   obtain⟨y,H⟩:∃y,A[h - a]? = some y:=⟨_,List.getElem?_eq_getElem (by have:=hm.out;omega)⟩
   have d1:D[h]? = some y:=by have:=hy.out (h - a) (by have:=hm.out;omega);rw[show a+(h - a)=h by omega]at this;rw[this];exact H
   have r0:=(h0.out.ext hI.out.2.2).at_ hz.out;have j1:=(h0.out.ext hI.out.2.2).at_ d1;have I:wr.cell? ⟨g,m*2,none⟩=some (.string ⟨z.1.toArray⟩)/\wr.cell? ⟨g,m*2+1,none⟩=some (.slice z.2.1 z.2.2.1 z.2.2.2)/\wr.cell? ⟨g,h*2,none⟩=some (.string ⟨y.1.toArray⟩)/\wr.cell? ⟨g,h*2+1,none⟩=some (.slice y.2.1 y.2.2.1 y.2.2.2)/\Ext wr wr:=⟨r0.1,r0.2,j1.1,j1.2,Ext.refl wr⟩
   have k0:∀w0 w1:World,(w0.cell? ⟨g,m*2,none⟩=some (.string ⟨z.1.toArray⟩)/\w0.cell? ⟨g,m*2+1,none⟩=some (.slice z.2.1 z.2.2.1 z.2.2.2)/\w0.cell? ⟨g,h*2,none⟩=some (.string ⟨y.1.toArray⟩)/\w0.cell? ⟨g,h*2+1,none⟩=some (.slice y.2.1 y.2.2.1 y.2.2.2)/\Ext wr w0)->Ext w0 w1->(w1.cell? ⟨g,m*2,none⟩=some (.string ⟨z.1.toArray⟩)/\w1.cell? ⟨g,m*2+1,none⟩=some (.slice z.2.1 z.2.2.1 z.2.2.2)/\w1.cell? ⟨g,h*2,none⟩=some (.string ⟨y.1.toArray⟩)/\w1.cell? ⟨g,h*2+1,none⟩=some (.slice y.2.1 y.2.2.1 y.2.2.2)/\Ext wr w1):=fun w0 w1 h1 h3=>⟨h3.cell h1.1,h3.cell h1.2.1,h3.cell h1.2.2.1,h3.cell h1.2.2.2.1,h1.2.2.2.2.trans h3⟩
   have c0:=k0 _ _ I (Ext.refl wr).drew;have b1:(h:Int)<(dl:Int):=by omega
   have b2:(m:Int)<(dl:Int):=by omega
   replace I:=Aa I;replace c0:=Aa c0;replace k0:=Aa k0;replace H:=Aa H;replace d1:=Aa d1;replace hh:=Aa hh;clear r0 j1;go_upto_region 17 with (fail)
   rw[hh.out];by_cases e0:z.1<y.1
   ·have j0:=Aa e0
    go_region_held3 (fun x=>x.cell? ⟨g,m*2,none⟩=some (.string ⟨z.1.toArray⟩)/\x.cell? ⟨g,m*2+1,none⟩=some (.slice z.2.1 z.2.2.1 z.2.2.2)/\x.cell? ⟨g,h*2,none⟩=some (.string ⟨y.1.toArray⟩)/\x.cell? ⟨g,h*2+1,none⟩=some (.slice y.2.1 y.2.2.1 y.2.2.2)/\Ext wr x) (first | exact c0.out | exact I.out | exact ‹_› | exact k0.out _ _ ‹_› ‹_›) (first
     | (go_at_call 132;refine(Y.out z y _).mono ?_;rintro e w5 ⟨zc,rfl,U,g0,a3,l0⟩;have f1:=U.2 j0.out;have b3:decide (zc<0)=true:=decide_eq_true f1;replace U:=Aa U))
    have n0:=hI.out.2.2.trans ((Ext.refl wr).drew.trans l0);go_wp2_with fail;go_roundw
    case rel=>exact⟨i,h,rfl,rfl,d2,q3,by omega,Aa ⟨hI.out.1,fun x hx=>Py e0 (hA.out.drop_ge H.out x hx),n0⟩⟩
    case measure=>simp[intOf];omega
   ·have j0:=Aa e0
    go_region_held3 (fun x=>x.cell? ⟨g,m*2,none⟩=some (.string ⟨z.1.toArray⟩)/\x.cell? ⟨g,m*2+1,none⟩=some (.slice z.2.1 z.2.2.1 z.2.2.2)/\x.cell? ⟨g,h*2,none⟩=some (.string ⟨y.1.toArray⟩)/\x.cell? ⟨g,h*2+1,none⟩=some (.slice y.2.1 y.2.2.1 y.2.2.2)/\Ext wr x) (first | exact c0.out | exact I.out | exact ‹_› | exact k0.out _ _ ‹_› ‹_›) (first
     | (go_at_call 132;refine(Y.out z y _).mono ?_;rintro e w5 ⟨zc,rfl,U,g0,a3,l0⟩;have f1:¬ zc<0:=fun hc=>j0.out (U.1 hc);have b3:decide (zc<0)=false:=decide_eq_false f1;replace U:=Aa U))
    have n0:=hI.out.2.2.trans ((Ext.refl wr).drew.trans l0);go_wp2_with fail;go_roundw
    case rel=>exact⟨h+1,j,by go_num,rfl,by omega,by omega,p3,Aa ⟨fun x hx=>C6 (hA.out.take_le H.out x (by rw[show h - a+1=h+1 - a by omega];exact hx)) e0,hI.out.2.1,n0⟩⟩
    case measure=>simp[intOf];omega
  ·obtain rfl:i=j:=by omega
   have hM:Mrg A [z] (A.take (i - a)++z::A.drop (i - a)):=IM hA.out hI.out.1 hI.out.2.1;have hT:=h0.out.ext hI.out.2.2;have hC:=Chg.of_ext hI.out.2.2 (fun k=>k=g);have J:=hm.out;obtain⟨wo,rfl⟩:=Ab wr;replace hT:=Aa hT;replace hC:=Aa hC;replace hM:=Aa hM;replace J:=Aa J;go_wp2_with fail
   go_loopw [17] (fun s17 wr=>∃(k:Nat) (E:List TmV),s17 = .int .i64 (k:Int)/\i<=k/\k<=m/\Hid (E=P++(A.take (k - a)++z::(A.drop (k - a)++Q))/\TR wr g E/\Chg (fun k=>k=g) w wr)) (fun s17 _=>(intOf s17).toNat)
   case atStart=>exact⟨m,D,rfl,by omega,Nat.le_refl _,Aa ⟨by rw[show m - a=A.length by have:=J.out;omega,List.take_length,List.drop_length];exact hD.out,hT.out,hC.out⟩⟩
   case round =>
    obtain⟨k,E,rfl,p4,k4,Z⟩:=hrel;have v0:=ha.out;have J:=hm.out;have d0:=hb.out;by_cases m3:i<k
    ·obtain⟨k1,o0⟩:∃k1,k=k1+1:=⟨k - 1,by omega⟩
     obtain⟨y,H⟩:∃y,A[k1 - a]? = some y:=⟨_,List.getElem?_eq_getElem (by omega)⟩
     have hd:A.drop (k1 - a)=y::A.drop (k - a):=by
      obtain⟨hl,he⟩:=List.getElem?_eq_some_iff.1 H;rw[List.drop_eq_getElem_cons hl,he,show k1 - a+1=k - a by omega]
     have m1:A.take (k - a)=A.take (k1 - a) ++ [y]:=by
      obtain⟨hl,he⟩:=List.getElem?_eq_some_iff.1 H;rw[show k - a=k1 - a+1 by omega,List.take_succ_eq_append_getElem hl,he]
     have G:(P++A.take (k1 - a)).length=k1:=by rw[List.length_append,List.length_take];omega
     have T:E=(P++A.take (k1 - a))++y::z::(A.drop (k - a)++Q):=by rw[Z.out.1,m1];simp
     have t0:E.length=dl:=by rw[Z.out.1,q0.out,hD.out];simp only[List.length_append,List.length_cons,List.length_take,List.length_drop,List.length_nil];omega
     have g0:E[k]? = some z:=by rw[T,List.getElem?_append_right (by omega),G,show k - k1=1 by omega];rfl
     have a1:E[k1]? = some y:=by rw[T,List.getElem?_append_right (by omega),G,Nat.sub_self];rfl
     have O:=Hr y z (A.drop (k - a)++Q) (P++A.take (k1 - a));rw[G,<-T,<-o0]at O;have q1:=Z.out.2.1.at_ g0;have q2:=Z.out.2.1.at_ a1;have x0:=q1.1;have x1:=q1.2;have y0:=q2.1;have y1:=q2.2;have fr:=Z.out.2.1.free;have o1:k1<k:=by omega
     have o2:k<=k1+1:=by omega
     have o3:i<=k1:=by omega
     have b4:IntKind.i64.wrap ((k:Int) - 1)=(k1:Int):=by rw[IntWalk.i64_in _ (by omega)];omega
     have b1:(k:Int)<(dl:Int):=by omega
     have b2:(k1:Int)<(dl:Int):=by omega
     replace O:=Aa O;replace T:=Aa T;replace t0:=Aa t0;replace hd:=Aa hd;replace m1:=Aa m1;replace G:=Aa G;replace g0:=Aa g0;replace a1:=Aa a1;replace H:=Aa H;replace v0:=Aa v0;replace J:=Aa J;replace d0:=Aa d0;replace o0:=Aa o0;clear q1 q2;go_wp2_with fail;refine AE (fun K Z=>?_);go_wp2_with fail;refine⟨by kernel_rfl,?_⟩;go_wp2_with fail;have h1:=Z.out.2.1.put (i:=k) (by have:=t0.out;omega) y;have h2:=h1.put (i:=k1) (by rw[List.length_set];have:=t0.out;omega) z;have hc:=(Z.out.2.2.trans (Cf wr g k y) fun _ _ h=>h).trans (Cf _ g k1 z) fun _ _ h=>h;rw[O.out]at h2;go_roundw
     case rel=>exact⟨k1,_,rfl,o3,by omega,Aa ⟨by rw[hd.out];simp,h2.drew,hc.trans (Chg.of_ext (Ext.refl _).drew _) fun _ _ h=>h⟩⟩
     case measure=>simp[intOf];omega
    ·have d3:¬ (i:Int)<(k:Int):=by omega
     obtain rfl:i=k:=by omega
     have p0:SymP g P A [z] Q w (.returned (.tuple #[])) wr:=by
      refine⟨rfl,_,hM.out,?_,Z.out.2.2⟩;have he:=Z.out.1;rw[show P++(A.take (i - a)++z::A.drop (i - a)++Q)=E by rw[he];simp];exact Z.out.2.1
     replace p0:=Aa p0;replace v0:=Aa v0;replace J:=Aa J;replace d0:=Aa d0;go_wp2_with fail
     go_end0
     exact p0.out
structure LoHi (a m b mid N lo hi:Nat):Prop where
  le:lo<=hi
  alo:a<=lo
  him:hi<=m
  hmid:hi<=mid
  nhi:m+hi<=N
  nlo:N<=b+lo
  one:lo=a\/N=b+lo
  two:hi=m\/N=m+hi
theorem NX {a m b mid N:Nat} (H:N=mid+m) (h1:mid<m) (h2:a<m) (h:m<b) (j:mid=(a+b) / 2):LoHi a m b mid N (N - b) mid:=⟨by omega,by omega,by omega,by omega,by omega,by omega,.inr (by omega),.inr (by omega)⟩
theorem LU {a m b mid N:Nat} (H:N=mid+m) (h1:¬ mid<m) (h2:a<m) (h:m<b) (j:mid=(a+b) / 2):LoHi a m b mid N a m:=⟨by omega,by omega,by omega,by omega,by omega,by omega,.inl rfl,.inl rfl⟩
structure SeaI (D:List TmV) (N lo hi s r:Nat):Prop where
  ls:lo<=s
  sr:s<=r
  rh:r<=hi
  lo:s=lo\/∃x y,D[s - 1]? = some x/\D[N - s]? = some y/\¬ y.1<x.1
  hi:r=hi\/∃x y,D[r]? = some x/\D[N - 1 - r]? = some y/\y.1<x.1
theorem SeaI.cut {D P A B Q:List TmV} {a m b mid N lo hi s:Nat} (h:SeaI D N lo hi s s) (j:LoHi a m b mid N lo hi) (U:D=P++(A++(B++Q))) (O:a=P.length) (T:m=a+A.length) (hb:b=m+B.length):CutP A B (s - a) (N - s - m):=by
 have gA:∀i,a<=i->i<m->D[i]? = A[i - a]? :=fun i h1 h2=>by
  rw[U,<-Hp (P:=P) (A:=A) (R:=B++Q) (i:=i - a) (by omega),<-O,show a+(i - a)=i by omega]
 have gB:∀i,m<=i->i<b->D[i]? = B[i - m]? :=fun i h1 h2=>by
  rw[U,<-FP (P:=P) (A:=A) (B:=B) (R:=Q) (i:=i - m) (by omega),<-O,<-T,show m+(i - m)=i by omega]
 have:=h.ls;have:=h.sr;have:=h.rh;have:=j.le;have:=j.alo;have:=j.him;have:=j.nhi;have:=j.nlo;refine⟨by omega,by omega,?_,?_⟩
 ·by_cases e1:s - a=0
  ·exact .inl e1
  ·by_cases e2:N - s - m=B.length
   ·exact .inr (.inl e2)
   ·rcases h.lo with e | ⟨x,y,Y,J,H⟩
    ·rcases j.one with f | f
     ·omega
     ·omega
    ·refine .inr (.inr ⟨x,y,?_,?_,H⟩)
     ·rw[show s - a - 1=s - 1 - a by omega,<-gA (s - 1) (by omega) (by omega)];exact Y
     ·rw[<-gB (N - s) (by omega) (by omega)];exact J
 ·by_cases e1:s - a=A.length
  ·exact .inl e1
  ·by_cases e2:N - s - m=0
   ·exact .inr (.inl e2)
   ·rcases h.hi with e | ⟨x,y,Y,J,H⟩
    ·rcases j.two with f | f
     ·omega
     ·omega
    ·refine .inr (.inr ⟨x,y,?_,?_,H⟩)
     ·rw[<-gA s (by omega) (by omega)];exact Y
     ·rw[show N - s - m - 1=N - 1 - s - m by omega,<-gB (N - 1 - s) (by omega) (by omega)];exact J
theorem Rb (g c a m b:Nat) (D P A B Q:List TmV) (w:World) (l0:TR w g D) (hD:D=P++(A++(B++Q))) (ha:a=P.length) (hm:m=a+A.length) (hb:b=m+B.length) (hA:Srt A) (hB:Srt B) (d5:1<A.length) (e5:1<B.length) (l3:D.length<=1073741824)
 (ih:∀(a m b:Nat) (D P A' B' Q:List TmV) (w:World),A'.length+B'.length<A.length+B.length->TR w g D->D=P++(A'++(B'++Q))->a=P.length->m=a+A'.length->b=m+B'.length->Srt A'->Srt B'->0<A'.length->0<B'.length->D.length<=1073741824->Calls prog 202 #[.slice (some ⟨g,0,none⟩) D.length c,.int .i64 (a:Int),.int .i64 (m:Int),.int .i64 (b:Int),cmpV] w (SymP g P A' B' Q w)) :
 Calls prog 202 #[.slice (some ⟨g,0,none⟩) D.length c,.int .i64 (a:Int),.int .i64 (m:Int),.int .i64 (b:Int),cmpV] w (SymP g P A B Q w):=by
 obtain⟨dl,J⟩:∃n,n=D.length:=⟨_,rfl⟩
 have i5:b<=dl:=by rw[J,hD];simp only[List.length_append];omega
 have O:∀(s e:Nat) (T:List TmV) (x:World),TR x g D->RotI T D m (m - s) (e - m)->s<m->m<e->Calls prog 225 #[.slice (some ⟨g,0,none⟩) dl c,.int .i64 (s:Int),.int .i64 (m:Int),.int .i64 (e:Int),cmpV] x fun en w'=>en = .returned (.tuple #[])/\TR w' g T/\Chg (fun k=>k=g) x w':=fun s e T x h1 h2 h3 h4=>by
  have:=Ml g c s m e D T cmpV x h1 h2 h3 h4 l3;rw[<-J]at this;exact this
 have ih':∀(a m b:Nat) (E P A' B' Q:List TmV) (w:World),A'.length+B'.length<A.length+B.length->TR w g E->E.length=dl->E=P++(A'++(B'++Q))->a=P.length->m=a+A'.length->b=m+B'.length->Srt A'->Srt B'->0<A'.length->0<B'.length->Calls prog 202 #[.slice (some ⟨g,0,none⟩) dl c,.int .i64 (a:Int),.int .i64 (m:Int),.int .i64 (b:Int),cmpV] w (SymP g P A' B' Q w):=fun a m b E P A' B' Q w h1 h2 h3 h4 h5 h6 h7 h8 h9 b4 c4=>by
  have:=ih a m b E P A' B' Q w h1 h2 h4 h5 h6 h7 h8 h9 b4 c4 (by omega);rw[h3]at this;exact this
 rw[<-J]at l3 ⊢;have g5:((m:Int) - (a:Int)==1)=false:=beq_eq_false_iff_ne.2 (by omega);have k5:((b:Int) - (m:Int)==1)=false:=beq_eq_false_iff_ne.2 (by omega);have e3:a<m:=by omega
 have q4:m<b:=by omega
 obtain⟨mid,hmid⟩:∃k,k=(a+b) / 2:=⟨_,rfl⟩
 obtain⟨N,hN⟩:∃k,k=mid+m:=⟨_,rfl⟩
 have Z:((a:Int)+(b:Int)) / 2=(mid:Int):=by omega
 have j3:(mid:Int)+(m:Int)=(N:Int):=by omega
 have r4:mid<b:=by omega
 have o4:a<mid:=by omega
 have f5:N<=2147483648:=by omega
 have Y:=fun x y W=>Fs x y W;unfold tagg at Y;unfold cmpV at O ih' ⊢;clear ih;replace Y:=Aa Y;replace l0:=Aa l0;replace hD:=Aa hD;replace J:=Aa J;replace hA:=Aa hA;replace hB:=Aa hB;replace ha:=Aa ha;replace hm:=Aa hm;replace hb:=Aa hb;replace O:=Aa O;replace ih':=Aa ih';replace hmid:=Aa hmid;replace hN:=Aa hN;replace Z:=Aa Z;replace j3:=Aa j3
 go_in
 go_upto_if 140 with (fail)
 rw[Z.out,j3.out]
 go_cut [20,21] from 138 to 146 (fun s20 s21 wv=>∃lo hi:Nat,s20 = .int .i64 (lo:Int)/\s21 = .int .i64 (hi:Int)/\Hid (LoHi a m b mid N lo hi)/\wv=w)
 case first =>
  by_cases p4:mid<m
  ·have hl:=Aa (NX hN.out p4 e3 q4 hmid.out);have z3:(N:Int) - (b:Int)=((N - b:Nat):Int):=by have:=hmid.out;have:=hN.out;omega
   replace z3:=Aa z3;go_wp2_with fail
   go_meet
   case rel=>exact⟨N - b,mid,by rw[z3.out],rfl,hl,rfl⟩
  ·have hl:=Aa (LU hN.out p4 e3 q4 hmid.out);go_wp2_with fail
   go_meet
   case rel=>exact⟨a,m,rfl,rfl,hl,rfl⟩
 case rest =>
  obtain⟨lo,hi,rfl,rfl,hL,rfl⟩:=hcut;have o3:=hL.out.le;have q6:=hL.out.alo;have o5:=hL.out.him;have j6:=hL.out.nhi;have g6:=hL.out.nlo;obtain⟨wo,rfl⟩:=Ab wc;go_wp2_with fail
  go_loopw [20,21] (fun s20 s21 wr=>∃s r:Nat,s20 = .int .i64 (s:Int)/\s21 = .int .i64 (r:Int)/\lo<=s/\s<=r/\r<=hi/\Hid (SeaI D N lo hi s r/\Ext wo wr)) (fun s20 s21 _=>(intOf s21).toNat - (intOf s20).toNat)
  case atStart=>exact⟨lo,hi,rfl,rfl,Nat.le_refl _,o3,Nat.le_refl _,Aa ⟨⟨Nat.le_refl _,o3,Nat.le_refl _,.inl rfl,.inl rfl⟩,Ext.refl _⟩⟩
  case round =>
   obtain⟨s,r,rfl,rfl,r3,t6,g4,hI⟩:=hrel;by_cases p6:s<r
   ·obtain⟨h,hh⟩:∃h:Nat,((s:Int)+(r:Int)) / 2=(h:Int):=⟨(s+r) / 2,by omega⟩
    have m4:s<=h:=by omega
    have r5:h<r:=by omega
    obtain⟨e,he⟩:=Ab (N - 1 - h);have f3:(N:Int) - 1 - (h:Int)=(e:Int):=by omega
    have n5:IntKind.i64.wrap ((N:Int) - 1 - (h:Int))=(e:Int):=by rw[IntWalk.i64_in _ (by omega)];omega
    have l5:e<dl:=by omega
    obtain⟨x0,a1⟩:∃x,D[h]? = some x:=⟨_,List.getElem?_eq_getElem (by have:=J.out;omega)⟩
    obtain⟨y,hy⟩:∃y,D[e]? = some y:=⟨_,List.getElem?_eq_getElem (by have:=J.out;omega)⟩
    have j:=(l0.out.ext hI.out.2).at_ hy;have H:=(l0.out.ext hI.out.2).at_ a1;have f0:wr.cell? ⟨g,e*2,none⟩=some (.string ⟨y.1.toArray⟩)/\wr.cell? ⟨g,e*2+1,none⟩=some (.slice y.2.1 y.2.2.1 y.2.2.2)/\wr.cell? ⟨g,h*2,none⟩=some (.string ⟨x0.1.toArray⟩)/\wr.cell? ⟨g,h*2+1,none⟩=some (.slice x0.2.1 x0.2.2.1 x0.2.2.2)/\Ext wr wr:=⟨j.1,j.2,H.1,H.2,Ext.refl wr⟩
    have x1:∀w0 w1:World,(w0.cell? ⟨g,e*2,none⟩=some (.string ⟨y.1.toArray⟩)/\w0.cell? ⟨g,e*2+1,none⟩=some (.slice y.2.1 y.2.2.1 y.2.2.2)/\w0.cell? ⟨g,h*2,none⟩=some (.string ⟨x0.1.toArray⟩)/\w0.cell? ⟨g,h*2+1,none⟩=some (.slice x0.2.1 x0.2.2.1 x0.2.2.2)/\Ext wr w0)->Ext w0 w1->(w1.cell? ⟨g,e*2,none⟩=some (.string ⟨y.1.toArray⟩)/\w1.cell? ⟨g,e*2+1,none⟩=some (.slice y.2.1 y.2.2.1 y.2.2.2)/\w1.cell? ⟨g,h*2,none⟩=some (.string ⟨x0.1.toArray⟩)/\w1.cell? ⟨g,h*2+1,none⟩=some (.slice x0.2.1 x0.2.2.1 x0.2.2.2)/\Ext wr w1):=fun w0 w1 h1 h3=>⟨h3.cell h1.1,h3.cell h1.2.1,h3.cell h1.2.2.1,h3.cell h1.2.2.2.1,h1.2.2.2.2.trans h3⟩
    have o1:=x1 _ _ f0 (Ext.refl wr).drew;have b1:(h:Int)<(dl:Int):=by omega
    have b2:(e:Int)<(dl:Int):=by omega
    replace f0:=Aa f0;replace o1:=Aa o1;replace x1:=Aa x1;replace a1:=Aa a1;replace hy:=Aa hy;replace hh:=Aa hh;replace he:=Aa he;replace f3:=Aa f3;clear j H;go_upto_region 35 with (fail)
    rw[hh.out];by_cases d2:y.1<x0.1
    ·have d1:=Aa d2
     go_region_held3 (fun x=>x.cell? ⟨g,e*2,none⟩=some (.string ⟨y.1.toArray⟩)/\x.cell? ⟨g,e*2+1,none⟩=some (.slice y.2.1 y.2.2.1 y.2.2.2)/\x.cell? ⟨g,h*2,none⟩=some (.string ⟨x0.1.toArray⟩)/\x.cell? ⟨g,h*2+1,none⟩=some (.slice x0.2.1 x0.2.2.1 x0.2.2.2)/\Ext wr x) (first | exact o1.out | exact f0.out | exact ‹_› | exact x1.out _ _ ‹_› ‹_›) (first
      | (go_at_call 132;refine(Y.out y x0 _).mono ?_;rintro e w5 ⟨zc,rfl,h0,w4,q5,o2⟩;have a3:=h0.2 d1.out;have p5:decide (zc<0)=true:=decide_eq_true a3;replace h0:=Aa h0))
     have q3:=hI.out.2.trans ((Ext.refl wr).drew.trans o2);go_wp2_with fail;go_roundw
     case rel=>exact⟨s,h,rfl,rfl,r3,m4,by omega,Aa ⟨⟨r3,m4,by omega,hI.out.1.lo,.inr ⟨x0,y,a1.out,by rw[<-he.out];exact hy.out,d2⟩⟩,q3⟩⟩
     case measure=>simp[intOf];omega
    ·have d1:=Aa d2
     go_region_held3 (fun x=>x.cell? ⟨g,e*2,none⟩=some (.string ⟨y.1.toArray⟩)/\x.cell? ⟨g,e*2+1,none⟩=some (.slice y.2.1 y.2.2.1 y.2.2.2)/\x.cell? ⟨g,h*2,none⟩=some (.string ⟨x0.1.toArray⟩)/\x.cell? ⟨g,h*2+1,none⟩=some (.slice x0.2.1 x0.2.2.1 x0.2.2.2)/\Ext wr x) (first | exact o1.out | exact f0.out | exact ‹_› | exact x1.out _ _ ‹_› ‹_›) (first
      | (go_at_call 132;refine(Y.out y x0 _).mono ?_;rintro e w5 ⟨zc,rfl,h0,w4,q5,o2⟩;have a3:¬ zc<0:=fun hc=>d1.out (h0.1 hc);have p5:decide (zc<0)=false:=decide_eq_false a3;replace h0:=Aa h0))
     have q3:=hI.out.2.trans ((Ext.refl wr).drew.trans o2);go_wp2_with fail;go_roundw
     case rel=>exact⟨h+1,r,by go_num,rfl,by omega,by omega,g4,Aa ⟨⟨by omega,by omega,g4,.inr ⟨x0,y,by rw[show h+1 - 1=h by omega];exact a1.out,by rw[show N - (h+1)=e by have:=he.out;omega];exact hy.out,d2⟩,hI.out.1.hi⟩,q3⟩⟩
     case measure=>simp[intOf];omega
   ·obtain rfl:s=r:=by omega
    have q1:=hI.out.1.cut hL.out hD.out ha.out hm.out hb.out;obtain⟨p,hp⟩:=Ab (s - a);obtain⟨q,hq⟩:=Ab (N - s - m);obtain⟨en,i3⟩:=Ab (N - s);rw[<-hp,<-hq]at q1;obtain⟨A1,q0⟩:∃x,x=A.take p:=⟨_,rfl⟩
    obtain⟨A2,g0⟩:∃x,x=A.drop p:=⟨_,rfl⟩
    obtain⟨B1,p0⟩:∃x,x=B.take q:=⟨_,rfl⟩
    obtain⟨B2,t0⟩:∃x,x=B.drop q:=⟨_,rfl⟩
    have y3:=fun M1 M2 (h1:Mrg A1 B1 M1) (h2:Mrg A2 B2 M2)=>q1.mrg hA.out hB.out (M1:=M1) (M2:=M2) (by rw[<-q0,<-p0];exact h1) (by rw[<-g0,<-t0];exact h2);have m0:A=A1++A2:=by rw[q0,g0,List.take_append_drop]
    have v0:B=B1++B2:=by rw[p0,t0,List.take_append_drop]
    have G:=hA.out;have I:=hB.out;have o0:=hm.out;have r0:=hb.out;have x2:=ha.out;rw[m0]at G o0;rw[v0]at I r0;rw[List.length_append]at o0 r0;have l1:A1.length=p:=by rw[q0,List.length_take];have:=q1.ile;omega
    have l2:B1.length=q:=by rw[p0,List.length_take];have:=q1.jle;omega
    have d0:D=P++(A1++(A2++(B1++(B2++Q)))):=by rw[hD.out,m0,v0];simp
    obtain⟨T,hT⟩:=Ab (P++(A1++(B1++(A2++(B2++Q)))));have m2:T.length=dl:=by rw[J.out,d0,hT];simp only[List.length_append];omega
    have m1:(N:Int) - (s:Int)=(en:Int):=by omega
    have a2:s<m->m<en->RotI T D m (m - s) (en - m):=fun h1 h2=>⟨⟨P++A1,A2,B1,B2++Q,by rw[d0];simp,by rw[List.length_append];omega,by omega,by omega,by rw[hT];simp⟩,by omega,by omega⟩
    have y2:¬ (s<m/\m<en)->D=T:=fun h=>by
     rw[d0,hT];by_cases h1:s<m
     ·have:B1 = []:=List.length_eq_zero_iff.1 (by have:=fun h2=>h ⟨h1,h2⟩;omega);rw[this];rfl
     ·have:A2 = []:=List.length_eq_zero_iff.1 (by omega);rw[this];rfl
    have t3:A1.length+B1.length<A.length+B.length:=by rw[m0,v0,List.length_append,List.length_append];have:=hmid.out;have:=hN.out;omega
    have x3:A2.length+B2.length<A.length+B.length:=by rw[m0,v0,List.length_append,List.length_append];have:=hmid.out;have:=hN.out;omega
    have k1:mid=s+B1.length:=by have:=hN.out;omega
    have k2:en=mid+A2.length:=by have:=hN.out;omega
    have k3:b=en+B2.length:=by have:=hN.out;omega
    have k4:s=a+A1.length:=by omega
    have n0:=l0.out.ext hI.out.2;have c0:=Chg.of_ext hI.out.2 (fun k=>k=g);have x5:s<b:=by omega
    have j5:en<=b:=by omega
    have m5:m<=en:=by omega
    obtain⟨we,rfl⟩:=Ab wr;replace a2:=Aa a2;replace y2:=Aa y2;replace y3:=Aa y3;replace hT:=Aa hT;replace m2:=Aa m2;replace d0:=Aa d0;replace m1:=Aa m1;replace t3:=Aa t3;replace x3:=Aa x3;replace G:=Aa G;replace I:=Aa I;replace k1:=Aa k1;replace k2:=Aa k2;replace k3:=Aa k3;replace k4:=Aa k4;replace n0:=Aa n0;replace c0:=Aa c0;replace x2:=Aa x2;replace i3:=Aa i3;clear hp hq q1 q0 g0 p0 t0 m0 v0 o0 r0 l1 l2;obtain⟨t1,j⟩:∃t:Bool,t=(decide (s<m)&&decide (m<en)):=⟨_,rfl⟩
    replace j:=Aa j;go_upto_region 39 with (fail)
    rw[m1.out]
    go_cut [185] from 178 to 185 (fun sx wv=>sx = .bool t1/\wv=we)
    case first =>
     by_cases c1:s<m
     ·have c1b:decide (s<m)=true:=decide_eq_true c1;by_cases c2:m<en
      ·have c2b:decide (m<en)=true:=decide_eq_true c2;have ht:=j.out;rw[c1b,c2b]at ht;replace ht:=Aa ht;go_wp2_with fail
       go_meet
       case rel=>exact⟨by rw[ht.out];rfl,rfl⟩
      ·have c2b:decide (m<en)=false:=decide_eq_false c2;have ht:=j.out;rw[c1b,c2b]at ht;replace ht:=Aa ht;go_wp2_with fail
       go_meet
       case rel=>exact⟨by rw[ht.out];rfl,rfl⟩
     ·have c1b:decide (s<m)=false:=decide_eq_false c1;have ht:=j.out;rw[c1b]at ht;replace ht:=Aa ht;go_wp2_with fail
      go_meet
      case rel=>exact⟨by rw[ht.out];rfl,rfl⟩
    case' rest=>obtain⟨rfl,rfl⟩:=hcut
    go_upto_if 185 with (fail)
    go_cut [24] from 186 to 191 (fun s24 wv=>s24 = .int .i64 (en:Int)/\Hid (TR wv g T/\Chg (fun k=>k=g) wo wv))
    case first =>
     cases t1 with
     | true =>
      have hc:=j.out.symm;simp only[Bool.and_eq_true,decide_eq_true_eq]at hc;have hr:=Aa (O.out s en T wc n0.out (a2.out hc.1 hc.2) hc.1 hc.2);clear hc;go_wp2_with fail;refine hr.out.mono ?_;rintro e w6 ⟨rfl,i0,y0⟩;go_wp2_with fail
      go_meet
      case rel=>exact⟨rfl,Aa ⟨i0,c0.out.trans y0 fun _ _ h=>h⟩⟩
     | false =>
      have e4:=Aa (y2.out fun h=>by have:=j.out;rw[decide_eq_true h.1,decide_eq_true h.2]at this;cases this);go_wp2_with fail
      go_meet
      case rel=>exact⟨rfl,Aa ⟨by rw[<-e4.out];exact n0.out,c0.out⟩⟩
    case rest =>
     obtain⟨rfl,q2⟩:=hcut;obtain⟨wf,rfl⟩:=Ab wc;clear a2 y2 n0 c0 O Y;have j1:a<s->s<mid->Calls prog 202 #[.slice (some ⟨g,0,none⟩) dl c,.int .i64 (a:Int),.int .i64 (s:Int),.int .i64 (mid:Int),cmpV] wf (SymP g P A1 B1 (A2++(B2++Q)) wf):=fun h1 h2 =>
      ih'.out a s mid T P A1 B1 (A2++(B2++Q)) wf t3.out q2.out.1 m2.out hT.out x2.out k4.out k1.out G.out.left I.out.left (by have:=k4.out;omega) (by have:=k1.out;omega)
     have n1:¬ (a<s/\s<mid)->Mrg A1 B1 (A1++B1):=fun h=>by
      by_cases h1:a<s
      ·have:B1 = []:=List.length_eq_zero_iff.1 (by have:=k1.out;have:=fun h2=>h ⟨h1,h2⟩;omega);rw[this,List.append_nil];exact Mrg.nil_right G.out.left
      ·have:A1 = []:=List.length_eq_zero_iff.1 (by have:=k4.out;omega);rw[this];exact Mrg.nil_left I.out.left
     have m6:s<=mid:=by have:=k1.out;omega
     have k6:mid<=en:=by have:=k2.out;omega
     unfold cmpV at j1;replace j1:=Aa j1;replace n1:=Aa n1;obtain⟨t2,H⟩:∃t:Bool,t=(decide (a<s)&&decide (s<mid)):=⟨_,rfl⟩
     replace H:=Aa H;go_upto_region 41 with (fail)
     go_cut [199] from 192 to 199 (fun sx wv=>sx = .bool t2/\wv=wf)
     case first =>
      by_cases c1:a<s
      ·have c1b:decide (a<s)=true:=decide_eq_true c1;by_cases c2:s<mid
       ·have c2b:decide (s<mid)=true:=decide_eq_true c2;have ht:=H.out;rw[c1b,c2b]at ht;replace ht:=Aa ht;go_wp2_with fail
        go_meet
        case rel=>exact⟨by rw[ht.out];rfl,rfl⟩
       ·have c2b:decide (s<mid)=false:=decide_eq_false c2;have ht:=H.out;rw[c1b,c2b]at ht;replace ht:=Aa ht;go_wp2_with fail
        go_meet
        case rel=>exact⟨by rw[ht.out];rfl,rfl⟩
      ·have c1b:decide (a<s)=false:=decide_eq_false c1;have ht:=H.out;rw[c1b]at ht;replace ht:=Aa ht;go_wp2_with fail
       go_meet
       case rel=>exact⟨by rw[ht.out];rfl,rfl⟩
     case' rest=>obtain⟨rfl,rfl⟩:=hcut
     go_upto_if 199 with (fail)
     go_cut [24] from 200 to 205 (fun s24 wv=>s24 = .int .i64 (en:Int)/\∃M1,Hid (Mrg A1 B1 M1/\TR wv g (P++(M1++(A2++(B2++Q))))/\Chg (fun k=>k=g) wo wv))
     case first =>
      cases t2 with
      | true =>
       have hc:=H.out.symm;simp only[Bool.and_eq_true,decide_eq_true_eq]at hc;have hr:=Aa (j1.out hc.1 hc.2);clear hc;go_wp2_with fail;refine hr.out.mono ?_;rintro e w6 ⟨rfl,M1,f4,i0,y0⟩;go_wp2_with fail
       go_meet
       case rel=>exact⟨rfl,M1,Aa ⟨f4,i0,q2.out.2.trans y0 fun _ _ h=>h⟩⟩
      | false =>
       have y1:=Aa (n1.out fun h=>by have:=H.out;rw[decide_eq_true h.1,decide_eq_true h.2]at this;cases this);go_wp2_with fail
       go_meet
       case rel=>exact⟨rfl,_,Aa ⟨y1.out,by rw[List.append_assoc,<-hT.out];exact q2.out.1,q2.out.2⟩⟩
     case rest =>
      obtain⟨rfl,M1,hM⟩:=hcut;obtain⟨wg,rfl⟩:=Ab wc;have e0:=hM.out.1.2.len;rw[List.length_append]at e0;have m3:(P++M1).length=mid:=by rw[List.length_append];have:=k1.out;have:=k4.out;have:=x2.out;omega
      have p3:(P++(M1++(A2++(B2++Q)))).length=dl:=by rw[<-m2.out,hT.out];simp only[List.length_append];omega
      have j2:mid<en->en<b->Calls prog 202 #[.slice (some ⟨g,0,none⟩) dl c,.int .i64 (mid:Int),.int .i64 (en:Int),.int .i64 (b:Int),cmpV] wg (SymP g (P++M1) A2 B2 Q wg):=fun h1 h2 =>
       ih'.out mid en b _ (P++M1) A2 B2 Q wg x3.out hM.out.2.1 p3 (by simp) m3.symm k2.out k3.out G.out.right I.out.right (by have:=k2.out;omega) (by have:=k3.out;omega)
      have n2:¬ (mid<en/\en<b)->Mrg A2 B2 (A2++B2):=fun h=>by
       by_cases h1:mid<en
       ·have:B2 = []:=List.length_eq_zero_iff.1 (by have:=k3.out;have:=fun h2=>h ⟨h1,h2⟩;omega);rw[this,List.append_nil];exact Mrg.nil_right G.out.right
       ·have:A2 = []:=List.length_eq_zero_iff.1 (by have:=k2.out;omega);rw[this];exact Mrg.nil_left I.out.right
      have U:∀(M2:List TmV) (x:World),Mrg A2 B2 M2->TR x g ((P++M1)++(M2++Q))->Chg (fun k=>k=g) wo x->SymP g P A B Q wo (.returned (.tuple #[])) x:=fun M2 x h1 h2 h3 =>
       ⟨rfl,M1++M2,y3.out M1 M2 hM.out.1 h1,by rw[List.append_assoc,<-List.append_assoc P];exact h2,h3⟩
      unfold cmpV at j2;replace j2:=Aa j2;replace n2:=Aa n2;replace U:=Aa U;replace e0:=Aa e0;replace m3:=Aa m3;replace p3:=Aa p3;by_cases c1:mid<en
      ·by_cases c2:en<b
       ·have hr:=Aa (j2.out c1 c2);have c1b:decide (mid<en)=true:=decide_eq_true c1;have c2b:decide (en<b)=true:=decide_eq_true c2;go_wp2_with fail;refine hr.out.mono ?_;rintro e w6 ⟨rfl,M2,i4,i0,y0⟩;go_wp2_with fail
        go_end0
        exact U.out M2 w6 i4 i0 (hM.out.2.2.trans y0 fun _ _ h=>h)
       ·have c1b:decide (mid<en)=true:=decide_eq_true c1;have c2b:decide (en<b)=false:=decide_eq_false c2;have y1:=Aa (n2.out fun h=>c2 h.2);go_wp2_with fail
        go_end0
        exact U.out _ wg y1.out (by have:=hM.out.2.1;simpa only[List.append_assoc]using this) hM.out.2.2
      ·have c1b:decide (mid<en)=false:=decide_eq_false c1;have y1:=Aa (n2.out fun h=>c1 h.1);go_wp2_with fail
       go_end0
       exact U.out _ wg y1.out (by have:=hM.out.2.1;simpa only[List.append_assoc]using this) hM.out.2.2
theorem Fq (g c:Nat):∀(n a m b:Nat) (D P A B Q:List TmV) (w:World),A.length+B.length<n->TR w g D->D=P++(A++(B++Q))->a=P.length->m=a+A.length->b=m+B.length->Srt A->Srt B->0<A.length->0<B.length->D.length<=1073741824 ->
 Calls prog 202 #[.slice (some ⟨g,0,none⟩) D.length c,.int .i64 (a:Int),.int .i64 (m:Int),.int .i64 (b:Int),cmpV] w (SymP g P A B Q w)
 | 0,_,_,_,_,_,_,_,_,_,h,_,_,_,_,_,_,_,_,_,_=>absurd h (Nat.not_lt_zero _)
 | n+1,a,m,b,D,P,A,B,Q,w,h,U,J,O,T,hb,Z,G,I,h0,j=>by
  by_cases H:A.length=1
  ·obtain⟨z,rfl⟩:=List.length_eq_one_iff.1 H;exact Qc g c a m b D P B Q z w U J O T hb G j
  ·by_cases Y:B.length=1
   ·obtain⟨z,rfl⟩:=List.length_eq_one_iff.1 Y;exact OL g c a m b D P A Q z w U J O T hb Z (by omega) j
   ·exact Rb g c a m b D P A B Q w U J O T hb Z G (by omega) (by omega) j fun a m b D P A' B' Q w q0=>Fq g c n a m b D P A' B' Q w (by omega)
inductive Bk (k:Nat):List TmV->List TmV->Prop
  | nil:Bk k [] []
  | last (X S:List TmV):0<X.length->X.length<=k->Std X S->Bk k X S
  | cons (X S d e:List TmV):X.length=k->Std X S->0<d.length->Bk k d e->Bk k (X++d) (S++e)
inductive BdS (k:Nat):List TmV->List TmV->Prop
  | nil:BdS k [] []
  | snoc (d e X S:List TmV):BdS k d e->X.length=k->Std X S->BdS k (d++X) (e++S)
theorem Bk.len {d e:List TmV} (h:Bk k d e):e.length=d.length:=by
 induction h with
 | nil=>rfl
 | last X S _ _ h=>exact h.2.len
 | cons X S d e _ h _ _ ih=>rw[List.length_append,List.length_append,ih,h.2.len]
theorem BdS.len {d e:List TmV} (h:BdS k d e):e.length=d.length:=by
 induction h with
 | nil=>rfl
 | snoc d e X S _ _ h ih=>rw[List.length_append,List.length_append,ih,h.2.len]
theorem Bk.empty {e:List TmV} (h:Bk k [] e):e = []:=List.length_eq_zero_iff.1 h.len
theorem Bk.push {X S d e:List TmV} (hk:0<k) (b:X.length=k) (j:Std X S) (h:Bk k d e):Bk k (X++d) (S++e):=by
 by_cases hd:d = []
 ·subst hd;rw[h.empty,List.append_nil,List.append_nil];exact .last X S (by omega) (by omega) j
 ·exact .cons X S d e b j (List.length_pos_iff.2 hd) h
theorem BdS.bk {d e:List TmV} (hk:0<k) (h:BdS k d e):∀ {d' e':List TmV},Bk k d' e'->Bk k (d++d') (e++e'):=by
 induction h with
 | nil=>exact fun h=>h
 | snoc d e X S _ b j ih =>
  intro d' e' h;rw[List.append_assoc,List.append_assoc];exact ih (Bk.push hk b j h)
theorem Bk.two {d e:List TmV} (h:Bk k d e) (hk:0<k) (H:2*k<=d.length):∃X S Y T d' e',d=X++(Y++d')/\e=S++(T++e')/\X.length=k/\Y.length=k/\Std X S/\Std Y T/\Bk k d' e':=by
 cases h with
 | nil=>simp at H;omega
 | last X S h1 h2 j=>omega
 | cons X S d e a b hd h2 =>
  rw[List.length_append]at H;cases h2 with
  | nil=>simp at hd
  | last Y T h1 j J=>exact⟨X,S,d,e,[],[],by simp,by simp,a,by omega,b,J,.nil⟩
  | cons Y T d' e' O U Z j=>exact⟨X,S,Y,T,d',e',rfl,rfl,a,O,b,U,j⟩
theorem Bk.few {d e:List TmV} (h:Bk k d e) (b:d.length<2*k):(d.length<=k/\Bk (2*k) d e)\/(∃X S Y T,d=X++Y/\e=S++T/\X.length=k/\0<Y.length/\Std X S/\Std Y T):=by
 cases h with
 | nil=>exact .inl ⟨Nat.zero_le _,.nil⟩
 | last X S h1 h2 j=>exact .inl ⟨h2,.last _ _ h1 (by omega) j⟩
 | cons X S d e J H hd h2 =>
  rw[List.length_append]at b;cases h2 with
  | nil=>simp at hd
  | last Y T h1 j a=>exact .inr ⟨X,S,d,e,rfl,rfl,J,h1,H,a⟩
  | cons Y T d' e' Z O U j=>rw[List.length_append]at b;omega
theorem Bk.whole {d e:List TmV} (h:Bk k d e) (b:d.length<=k):Std d e:=by
 cases h with
 | nil=>exact⟨List.Pairwise.nil,Stb.refl _⟩
 | last X S h1 h2 j=>exact j
 | cons X S d e H a hd h2=>rw[List.length_append]at b;omega
theorem MA (g c:Nat) (D:List TmV) (w:World) (x1:TR w g D) (p3:D.length<=268435456) :
 Calls prog 176 #[.slice (some ⟨g,0,none⟩) D.length c,.int .i64 (D.length:Int),cmpV] w fun e w'=>e = .returned (.tuple #[])/\∃E,Std D E/\TR w' g E/\Chg (fun k=>k=g) w w':=by
 obtain⟨n,hn⟩:=Ab D.length;have q0:∀(a b:Nat) (E P X Q:List TmV) (x:World),TR x g E->E.length=n->E=P++(X++Q)->a=P.length->b=P.length+X.length->Calls prog 201 #[.slice (some ⟨g,0,none⟩) n c,.int .i64 (a:Int),.int .i64 (b:Int),cmpV] x fun e w'=>e = .returned (.tuple #[])/\∃S,Std X S/\TR w' g (P++(S++Q))/\Chg (fun k=>k=g) x w':=fun a b E P X Q x h1 h2 h3 h4 h5=>by
  have:=HW g c a b E P X Q x h1 h3 h4 h5 (by omega);rw[h2]at this;exact this
 have p0:∀(a m b:Nat) (E P A B Q:List TmV) (x:World),TR x g E->E.length=n->E=P++(A++(B++Q))->a=P.length->m=a+A.length->b=m+B.length->Srt A->Srt B->0<A.length->0<B.length->Calls prog 202 #[.slice (some ⟨g,0,none⟩) n c,.int .i64 (a:Int),.int .i64 (m:Int),.int .i64 (b:Int),cmpV] x (SymP g P A B Q x):=fun a m b E P A B Q x h1 h2 h3 h4 h5 h6 h7 h8 h9 m2=>by
  have:=Fq g c _ a m b E P A B Q x (Nat.lt_succ_self _) h1 h3 h4 h5 h6 h7 h8 h9 m2 (by omega);rw[h2]at this;exact this
 rw[<-hn]at p3 ⊢;unfold cmpV at q0 p0 ⊢;replace q0:=Aa q0;replace p0:=Aa p0;replace x1:=Aa x1;replace hn:=Aa hn
 go_in
 go_wp2_with fail
 go_loopw [7,8] (fun s7 s8 wr=>∃(a:Nat) (d:List TmV),s7 = .int .i64 (a:Int)/\s8 = .int .i64 ((a:Int)+20)/\a<=n/\Hid (BdS 20 (D.take a) d/\TR wr g (d++D.drop a)/\Chg (fun k=>k=g) w wr)) (fun s7 _ _=>n - (intOf s7).toNat)
 case atStart=>exact⟨0,[],rfl,rfl,Nat.zero_le _,Aa ⟨.nil,x1.out,Chg.refl _ _⟩⟩
 case round =>
  obtain⟨a,d,rfl,rfl,f2,hI⟩:=hrel;have x0:d.length=a:=by rw[hI.out.1.len,List.length_take];have:=hn.out;omega
  have U:(d++D.drop a).length=n:=by rw[List.length_append,List.length_drop];have:=hn.out;omega
  by_cases hb:a+20<=n
  ·have o2:(a:Int)+20<=(n:Int):=by omega
   have h1:=q0.out a (a+20) _ d ((D.drop a).take 20) (D.drop (a+20)) wr hI.out.2.1 U (by rw[<-List.drop_drop,List.take_append_drop]) x0.symm (by rw[List.length_take,List.length_drop];have:=hn.out;omega);have a1:((a+20:Nat):Int)=(a:Int)+20:=by omega
   rw[a1]at h1;have d0:((D.drop a).take 20).length=20:=by rw[List.length_take,List.length_drop];have:=hn.out;omega
   have i1:D.take (a+20)=D.take a++(D.drop a).take 20:=by rw[List.take_add]
   replace h1:=Aa h1;replace x0:=Aa x0;replace U:=Aa U;replace i1:=Aa i1;replace d0:=Aa d0;replace a1:=Aa a1;go_wp2_with fail;refine h1.out.mono ?_;rintro e w1 ⟨rfl,S,hS,hT,hC⟩;replace hT:=Aa hT;replace hC:=Aa hC;replace hS:=Aa hS;go_wp2_with fail;go_roundw
   case rel=>exact⟨a+20,d++S,by go_num,by go_num,hb,Aa ⟨by rw[i1.out];exact .snoc _ _ _ _ hI.out.1 d0.out hS.out,by rw[List.append_assoc];exact hT.out,hI.out.2.2.trans hC.out fun _ _ h=>h⟩⟩
   case measure=>simp[intOf];omega
  ·have o2:¬ (a:Int)+20<=(n:Int):=by omega
   have h1:=Aa (q0.out a n _ d (D.drop a) [] wr hI.out.2.1 U (by rw[List.append_nil]) x0.symm (by rw[List.length_drop];have:=hn.out;omega));have O:(D.drop a).length<=20:=by rw[List.length_drop];have:=hn.out;omega
   have j1:=List.take_append_drop a D;obtain⟨wo,rfl⟩:=Ab wr;replace x0:=Aa x0;replace U:=Aa U;replace O:=Aa O;replace j1:=Aa j1;go_wp2_with fail;refine h1.out.mono ?_;rintro e w1 ⟨rfl,S,hS,hT,hC⟩;have r0:Bk 20 D (d++S):=by
    rw[<-j1.out];refine hI.out.1.bk (by omega) ?_;by_cases he:D.drop a = []
    ·have:=hS.2.len;rw[he]at this ⊢;rw[List.length_eq_zero_iff.1 this];exact .nil
    ·exact .last _ _ (List.length_pos_iff.2 he) O.out hS
   rw[List.append_nil]at hT;have q1:=hI.out.2.2.trans hC fun _ _ h=>h;replace r0:=Aa r0;replace hT:=Aa hT;replace q1:=Aa q1;replace hS:=Aa hS;replace hC:=Aa hC;clear h1;go_wp2_with fail
   go_loopw [6] (fun s6 wr=>∃(k:Nat) (E:List TmV),s6 = .int .i64 (k:Int)/\20<=k/\k<=2*n+20/\Hid (Bk k D E/\TR wr g E/\Chg (fun k=>k=g) w wr)) (fun s6 _=>n - (intOf s6).toNat)
   case atStart=>exact⟨20,d++S,rfl,Nat.le_refl _,by omega,Aa ⟨r0.out,hT.out,q1.out⟩⟩
   case round =>
    obtain⟨k,E,rfl,m3,b3,hJ⟩:=hrel;obtain⟨wq,rfl⟩:=Ab wr;by_cases d3:k<n
    ·have f1:Bk k D E:=hJ.out.1;have y1:=hJ.out.2.1;have k1:=hJ.out.2.2;replace f1:=Aa f1;replace y1:=Aa y1;replace k1:=Aa k1;go_wp2_with fail
     go_loopw [7,8] (fun s7 s8 wr=>∃(a b:Nat) (d e d' e':List TmV),s7 = .int .i64 (a:Int)/\s8 = .int .i64 (b:Int)/\a<=n/\b<=n+2*k/\Hid (b=a+2*k/\d.length=a/\BdS (2*k) d e/\Bk k d' e'/\D=d++d'/\TR wr g (e++e')/\Chg (fun k=>k=g) w wr)) (fun s7 _ _=>n - (intOf s7).toNat)
     case atStart=>exact⟨0,2*k,[],[],D,E,rfl,by congr 1,Nat.zero_le _,by omega,Aa ⟨by omega,rfl,.nil,f1.out,rfl,y1.out,k1.out⟩⟩
     case round =>
      obtain⟨a,b,d,e,d',e',rfl,rfl,f2,a3,hK⟩:=hrel;obtain⟨v0,f0,I,Z,h0,hT,hC⟩:=hK.out;have d1:=I.len;have i0:=Z.len;have c0:=hn.out;rw[h0,List.length_append]at c0;have U:(e++e').length=n:=by rw[List.length_append];omega
      have e0:((a+k:Nat):Int)=(a:Int)+(k:Int):=by omega
      by_cases i2:b<=n
      ·obtain⟨X,S,Y,T,d2,e2,G,y0,O,g0,H,J,o0⟩:=Z.two (by omega) (by omega);have h1:=p0.out a (a+k) b _ e S T e2 wr hT U (by rw[y0]) (by omega) (by rw[H.2.len];omega) (by rw[J.2.len];omega) H.1 J.1 (by rw[H.2.len];omega) (by rw[J.2.len];omega);rw[e0]at h1;replace h1:=Aa h1;replace v0:=Aa v0;replace f0:=Aa f0;replace I:=Aa I;replace h0:=Aa h0;replace hC:=Aa hC;replace G:=Aa G;replace O:=Aa O;replace g0:=Aa g0;replace H:=Aa H;replace J:=Aa J;replace o0:=Aa o0;clear hT Z d1 i0 c0 U e0 y0;go_wp2_with fail;refine h1.out.mono ?_;rintro en w1 ⟨rfl,M,hM,t0,m0⟩;replace hM:=Aa hM;replace t0:=Aa t0;replace m0:=Aa m0;go_wp2_with fail;go_roundw
       case rel=>exact⟨b,b+2*k,d++(X++Y),e++M,d2,e2,rfl,by congr 1,i2,by omega,Aa ⟨rfl,by rw[List.length_append,List.length_append];have:=v0.out;have:=f0.out;have:=O.out;have:=g0.out;omega,.snoc _ _ _ _ I.out (by rw[List.length_append];have:=O.out;have:=g0.out;omega) (H.out.mrg J.out hM.out),o0.out,by rw[h0.out,G.out];simp,by rw[List.append_assoc];exact t0.out,hC.out.trans m0.out fun _ _ h=>h⟩⟩
       case measure=>have:=v0.out;simp[intOf];omega
      ·have l0:=Z.few (by omega);by_cases hm:a+k<n
       ·rcases l0 with ⟨h1,h2⟩ | ⟨X,S,Y,T,G,y0,O,g0,H,J⟩
        ·omega
        ·have a2:n=a+k+Y.length:=by rw[G,List.length_append]at c0;omega
         have h1:=p0.out a (a+k) n _ e S T [] wr hT U (by rw[y0,List.append_nil]) (by omega) (by rw[H.2.len];omega) (by rw[J.2.len];omega) H.1 J.1 (by rw[H.2.len];omega) (by rw[J.2.len];omega);rw[e0]at h1;have j:∀(M:List TmV) (x:World),Mrg S T M->TR x g (e++(M ++ []))->Chg (fun k=>k=g) wr x->Bk (2*k) D (e++M)/\TR x g (e++M)/\Chg (fun k=>k=g) w x:=fun M x h2 h3 h4 =>
          ⟨by rw[h0];exact I.bk (by omega) (by rw[G];exact .last _ _ (by rw[List.length_append];omega) (by rw[List.length_append];omega) (H.mrg J h2)),by rw[List.append_nil]at h3;exact h3,hC.trans h4 fun _ _ h=>h⟩
         have k3:(a:Int)+(k:Int)<(n:Int):=by omega
         replace h1:=Aa h1;replace j:=Aa j;clear v0 f0 I Z h0 hT hC G y0 O g0 H J a2 hK d1 i0 c0 U e0;go_wp2_with fail;refine h1.out.mono ?_;rintro en w1 ⟨rfl,M,hM,t0,m0⟩;have hf:=Aa (j.out M w1 hM t0 m0);clear hM t0 m0;go_wp2_with fail;go_roundw
         case rel=>exact⟨2*k,e++M,by congr 1;omega,by omega,by omega,hf⟩
         case measure=>simp[intOf];omega
       ·have j:Bk (2*k) D (e++e'):=by
         rcases l0 with ⟨h1,h2⟩ | ⟨X,S,Y,T,G,y0,O,g0,H,J⟩
         ·rw[h0];exact I.bk (by omega) h2
         ·rw[G,List.length_append]at c0;omega
        have k3:¬ (a:Int)+(k:Int)<(n:Int):=by omega
        have hf:=Aa (And.intro j (And.intro hT hC));clear v0 f0 I Z h0 hT hC hK d1 i0 c0 U e0 l0 j;go_wp2_with fail;go_roundw
        case rel=>exact⟨2*k,e++e',by congr 1;omega,by omega,by omega,hf⟩
        case measure=>simp[intOf];omega
    ·have j:Std D E:=hJ.out.1.whole (by have:=hn.out;omega);replace j:=Aa j;go_wp2_with fail
     go_end0
     exact⟨rfl,E,j.out,hJ.out.2.1,hJ.out.2.2⟩
theorem Hw (g c:Nat) (D:List TmV) (w:World) (b:TR w g D) (j:D.length<=268435456) :
 Calls prog 131 #[.slice (some ⟨g,0,none⟩) D.length c,cmpV] w fun e w'=>e = .returned (.tuple #[])/\∃E,Std D E/\TR w' g E/\Chg (fun k=>k=g) w w':=by
 have h:=MA g c D w b j;obtain⟨n,hn⟩:=Ab D.length;rw[<-hn]at h j ⊢;unfold cmpV at h ⊢;replace h:=Aa h;replace hn:=Aa hn
 go_in
 go_wp2_with fail;refine h.out.mono ?_;rintro e w1 ⟨rfl,E,H,Y,a⟩;go_wp2_with fail
 go_end0
 exact⟨rfl,E,H,Y,a⟩
theorem EJ {β γ:Type} (g:β->γ) (l:List (List UInt8×β)) (s:List UInt8):valsOf (l.map fun x=>(x.1,g x.2)) s=(valsOf l s).map g:=by
 unfold valsOf;rw[List.filter_map,List.map_map,List.map_map];rfl
theorem Std.stabM {β γ:Type} {D E:List (List UInt8×β)} (h:Std D E) (g:β->γ):Stab (D.map fun x=>(x.1,g x.2)) (E.map fun x=>(x.1,g x.2)):=by
 refine⟨?_,fun s=>by rw[EJ,EJ,h.2.vals]⟩;rw[List.pairwise_map];exact h.1
structure TmsOk (w:World) (base:Nat) (D:List TmV) (R:List (List UInt8×List Int)):Prop where
  len:D.length=R.length
  each:∀(i:Nat) (x:TmV) (p:List UInt8×List Int),D[i]? = some x->R[i]? = some p->x.1=p.1/\Buf w base 3 x.2.1 x.2.2.1 x.2.2.2 (p.2.map IV)
  apart:∀(i j:Nat) (x y:TmV),D[i]? = some x->D[j]? = some y->i≠j->∀a b,x.2.1=some a->y.2.1=some b->a.block≠b.block
theorem TmsOk.nil (w:World) (base:Nat):TmsOk w base [] []:=⟨rfl,nofun,nofun⟩
theorem TmsOk.keep {base:Nat} {D:List TmV} {R:List (List UInt8×List Int)} (h:TmsOk w base D R) (hk:∀A n c xs,Buf w base 3 A n c xs->Buf w1 base 3 A n c xs):TmsOk w1 base D R :=
 ⟨h.len,fun i x p b j=>⟨(h.each i x p b j).1,hk _ _ _ _ (h.each i x p b j).2⟩,h.apart⟩
theorem TmsOk.ext {base:Nat} {D:List TmV} {R:List (List UInt8×List Int)} (h:TmsOk w base D R) (j:Ext w w1):TmsOk w1 base D R:=h.keep fun _ _ _ _ hb=>hb.ext j
theorem TmsOk.snoc {base:Nat} {D:List TmV} {R:List (List UInt8×List Int)} (h:TmsOk w base D R) (hk:∀A n c xs,Buf w base 3 A n c xs->Buf w1 base 3 A n c xs) {x:TmV} {p:List UInt8×List Int} (hx:x.1=p.1) (hb:Buf w1 base 3 x.2.1 x.2.2.1 x.2.2.2 (p.2.map IV)) (hn:∀a,x.2.1=some a->w.heap.size<=a.block):TmsOk w1 base (D ++ [x]) (R ++ [p]):=by
 have O:∀(i:Nat) (y:TmV),D[i]? = some y->∀b,y.2.1=some b->b.block<w.heap.size:=fun i y H b hb=>by
  have hi:=(List.getElem?_eq_some_iff.1 H).1;obtain⟨q,U⟩:∃q,R[i]? = some q:=⟨_,List.getElem?_eq_getElem (by rw[<-h.len];exact hi)⟩
  exact(h.each i y q H U).2.lt b hb
 have Y:∀(i:Nat) (y:TmV),(D ++ [x])[i]? = some y->D[i]? = some y\/(i=D.length/\y=x):=fun i y H=>by
  by_cases hi:i<D.length
  ·rw[List.getElem?_append_left hi]at H;exact .inl H
  ·rw[List.getElem?_append_right (by omega)]at H;have h2:=(List.getElem?_eq_some_iff.1 H).1;rw[List.length_singleton]at h2;have h3:i - D.length=0:=by omega
   rw[h3]at H;exact .inr ⟨by omega,by simpa using H.symm⟩
 refine⟨by rw[List.length_append,List.length_append,h.len];rfl,fun i y q H U=>?_,fun i j y z H hz I a b G J=>?_⟩
 ·rcases Y i y H with H | ⟨hi,rfl⟩
  ·have hi:=(List.getElem?_eq_some_iff.1 H).1;rw[List.getElem?_append_left (by rw[<-h.len];exact hi)]at U;have:=h.each i y q H U;exact⟨this.1,hk _ _ _ _ this.2⟩
  ·rw[List.getElem?_append_right (by rw[hi,h.len];exact Nat.le_refl _),hi,h.len,Nat.sub_self]at U;obtain rfl:p=q:=by simpa using U
   exact⟨hx,hb⟩
 ·rcases Y i y H with T | ⟨hi,rfl⟩ <;> rcases Y j z hz with Z | ⟨hj,rfl⟩
  ·exact h.apart i j y z T Z I a b G J
  ·have:=O i y T a G;have:=hn b J;omega
  ·have:=O j z Z b J;have:=hn a G;omega
  ·omega
def splitG:Nat->List UInt8->List (List UInt8)×Nat
 | 0,_=>([],0)
 | f+1,l=>if l = [] then ([],0) else match getF l with
  | .error k=>([],k)
  | .ok (p,r)=>(p::(splitG f r).1,(splitG f r).2)
def splitF (l:List UInt8):List (List UInt8)×Nat:=splitG l.length l
theorem Gj (f:Nat) (l:List UInt8):splitG (f+1) l=if l = [] then ([],0) else match getF l with
 | .error k=>([],k)
 | .ok (p,r)=>(p::(splitG f r).1,(splitG f r).2):=rfl
theorem Gi:∀(f g:Nat) (l:List UInt8),l.length<=f->l.length<=g->splitG f l=splitG g l
 | 0,0,l,_,_=>rfl
 | 0,g+1,l,h,_=>by
  have:l = []:=List.length_eq_zero_iff.1 (by omega);subst this;rfl
 | f+1,0,l,_,h=>by
  have:l = []:=List.length_eq_zero_iff.1 (by omega);subst this;rfl
 | f+1,g+1,l,h1,h2=>by
  unfold splitG;split
  ·rfl
  ·cases j:getF l with
   | error k=>rfl
   | ok q =>
    obtain⟨p,r⟩:=q;have:=(C1 j).1;simp only;rw[Gi f g r (by omega) (by omega)]
theorem Mx:splitF []=([],0):=rfl
theorem Mw (j:l ≠ []) (h:getF l = .error k):splitF l=([],k):=by
 have b:=List.length_pos_iff.2 j;unfold splitF;rw[show l.length=l.length - 1+1 by omega,Gj,if_neg j,h]
theorem I9 (j:l ≠ []) (h:getF l = .ok (p,r)):splitF l=(p::(splitF r).1,(splitF r).2):=by
 have b:=List.length_pos_iff.2 j;have a:=(C1 h).1;unfold splitF;rw[show l.length=l.length - 1+1 by omega,Gj,if_neg j,h];simp only;rw[Gi (l.length - 1) r.length r (by omega) (by omega)]
theorem CW:∀(ps:List (List UInt8)),(∀p∈ps,p.length<=16777216)->splitF (joinL ps)=(ps,0)
 | [],_=>rfl
 | p::ps,h=>by
  have j:getF (joinL (p::ps)) = .ok (p,joinL ps):=Pn (h p (List.mem_cons_self ..)) _;have b:joinL (p::ps) ≠ []:=by
   intro e;rw[e]at j;have:=(C1 j).1;simp at this
  rw[I9 b j,CW ps fun q a=>h q (List.mem_cons_of_mem _ a)]
theorem Fo:∀(f:Nat) (l:List UInt8),∀p∈(splitG f l).1,p.length<=16777216/\p.length<=l.length
 | 0,l,p,h=>by cases h
 | f+1,l,p,h=>by
  unfold splitG at h;split at h
  ·cases h
  ·cases j:getF l with
   | error k=>rw[j]at h;cases h
   | ok q =>
    obtain⟨p1,r⟩:=q;have b:=C1 j;rw[j]at h;rcases List.mem_cons.1 h with rfl | h
    ·exact⟨b.2.1,b.2.2⟩
    ·have:=Fo f r p h;exact⟨this.1,by omega⟩
theorem Fl (h:p∈(splitF l).1):p.length<=16777216/\p.length<=l.length:=Fo _ l p h
theorem Fm:∀(f:Nat) (l:List UInt8),(splitG f l).1.length<=f
 | 0,l=>Nat.le_refl _
 | f+1,l=>by
  unfold splitG;split
  ·exact Nat.zero_le _
  ·cases h:getF l with
   | error k=>exact Nat.zero_le _
   | ok q =>
    obtain⟨p1,r⟩:=q;have:=Fm f r;simp only[List.length_cons];omega
theorem JC (l:List UInt8):(splitF l).1.length<=l.length:=Fm _ l
def GotE (w0 w:World) (res:Option (Ev×List UInt8)) (e:Ending) (w':World):Prop:=Ext w w'/\match res with
 | some (ev,r)=>∃B d A c,e = .returned (.tuple #[ev.val B d,.slice A r.length c,.int .i64 0])/\ev.Own w' w.heap.size B d/\In8 w0 A r.length c r/\I64ok' ev.at_
 | none=>e = .returned (.tuple #[.agg #[.int .i64 0,.slice none 0 0],.slice none 0 0,.int .i64 100])
theorem GotE.no {res:Option (Ev×List UInt8)} (j:Ext w w') (h:res=none):GotE w0 w res (.returned (.tuple #[.agg #[.int .i64 0,.slice none 0 0],.slice none 0 0,.int .i64 100])) w':=by
 subst h;exact⟨j,rfl⟩
def aheadF (read:List Fd):Option (List Fd×List UInt8)->Option (List Fd×List UInt8)
 | none=>none
 | some (fs,r)=>some (read++fs,r)
theorem Le (x:Option (List Fd×List UInt8)):aheadF [] x=x:=by cases x <;> rfl
theorem LI {read:List Fd} (h:getFs k L=aheadF read (getFs (k - i) r)) (hi:i<k) (h1:getT 32 r = .ok (nm,r1)) (h2:getT 4096 r1 = .ok (tx,r2)):getFs k L=aheadF (read ++ [(nm,tx)]) (getFs (k - (i+1)) r2):=by
 obtain⟨j,b⟩:∃j,k - i=j+1:=⟨k - i - 1,by omega⟩
 rw[h,b,show k - (i+1)=j by omega]
 conv=>lhs;unfold getFs
 rw[h1];simp only;rw[h2];simp only;cases getFs j r2 with
 | none=>rfl
 | some p=>obtain⟨fs,r3⟩:=p;simp[aheadF]
theorem NS {read:List Fd} (h:getFs k L=aheadF read (getFs (k - i) r)) (hi:i<k) (h1:getT 32 r = .error x):getFs k L=none:=by
 obtain⟨j,b⟩:∃j,k - i=j+1:=⟨k - i - 1,by omega⟩
 rw[h,b];unfold getFs;rw[h1];rfl
theorem NT {read:List Fd} (h:getFs k L=aheadF read (getFs (k - i) r)) (hi:i<k) (h1:getT 32 r = .ok (nm,r1)) (h2:getT 4096 r1 = .error x):getFs k L=none:=by
 obtain⟨j,b⟩:∃j,k - i=j+1:=⟨k - i - 1,by omega⟩
 rw[h,b];unfold getFs;rw[h1];simp only;rw[h2];rfl
theorem NR {read:List Fd} (h:getFs k L=aheadF read (getFs (k - i) r)) (hi:k<=i):getFs k L=some (read,r):=by
 rw[h,show k - i=0 by omega];unfold getFs aheadF;simp
theorem Kf {most k:Nat} (h:getT most l = .error k):0<k:=by
 unfold getT at h;split at h
 ·rename_i j;injection h with h;rw[<-h];exact BK _ _ _ j
 ·split at h
  ·injection h with h;omega
  ·split at h
   ·injection h with h;omega
   ·cases h
def setEv (w:World) (g:Nat) (at_:Int) (A:Option Addr) (n c:Nat):World:=(w.setCell ⟨g,0,none⟩ (.int .i64 at_)).setCell ⟨g,1,none⟩ (.slice A n c)
theorem B9 {T:TypeId} {x y:Value} (h:Row w g T #[x,y]) (at_:Int) (A:Option Addr) (n c:Nat):Row (setEv w g at_ A n c) g T #[.int .i64 at_,.slice A n c]:=(h.put 0 _).put 1 _
theorem I5 (w:World) (g:Nat) (at_:Int) (A:Option Addr) (n c:Nat):Chg (fun k=>k=g) w (setEv w g at_ A n c):=(Chg.of_set (S:=fun k=>k=g) w _ rfl).trans (Chg.of_set (S:=fun k=>k=g) _ _ rfl) fun _ _ h=>h
theorem BZ (h:Ext w0 w) (b:w0.heap.size<=g) (at_:Int) (A:Option Addr) (n c:Nat):Ext w0 (setEv w g at_ A n c):=h.chg (I5 w g at_ A n c) fun i hi j=>by omega
theorem NF (A:Option Addr) (n c:Nat) (l:List UInt8) (w0 w:World) (h:In8 w0 A n c l) (hw:Ext w0 w) (v4:n<=1000000000) :
 Calls prog 95 #[.slice A n c] w fun e w'=>GotE w0 w (getE l) e w':=by
 obtain⟨W,hW⟩:=Ab (w.alloc (.cells #[.int .i64 0,.slice none 0 0] 69));have h1:Ext w W:=by rw[hW];exact(Ext.refl w).alloc _
 obtain⟨b,hb⟩:=Ab w.heap.size;have hr:Row W b 69 #[.int .i64 0,.slice none 0 0]:=by rw[hW,hb];exact Row.new w _ _
 have G:=Aa (Nat.le_of_eq hb.symm);have k2:=LJ A n c l w0 W h (hw.trans h1) v4;have t5:l.length<=1000000000:=by rw[<-h.len];exact v4
 obtain⟨Z,hZ⟩:=Ab (getE l);rw[<-hZ];unfold getE at hZ;replace hW:=Aa hW;replace hb:=Aa hb;clear h;cases o1:getV 0 l with
 | error k =>
  rw[o1]at k2 hZ;have hk:=BK l 0 k o1;have e3:((k:Int) != 0)=true:=by simp;omega
  have hg:=Aa k2;clear o1 hk k2
  go_in
  go_wp2_with fail;rw[<-hW.out,<-hb.out];refine hg.out.mono ?_;rintro e w1 ⟨p0,rfl⟩;have Y:=hr.ext p0;have f1:=fun i=>Y.free i;have d0:=Y.cell 0 rfl;have d1:=Y.cell 1 rfl;replace Y:=Aa Y;have m0:=Aa (h1.trans p0);replace hZ:=Aa hZ;go_wp2_with fail;obtain⟨wz,H⟩:∃wz,wz=setEv w1 b 0 none 0 0:=⟨_,rfl⟩;have hk:=B9 Y.out 0 none 0 0;rw[<-H]at hk;have U:=BZ m0.out G.out 0 none 0 0;rw[<-H]at U;unfold setEv at H;rw[<-H];have k0:wz.cell? ⟨b,0,none⟩=some (.int .i64 0):=hk.cell 0 rfl;have k1:wz.cell? ⟨b,1,none⟩=some (.slice none 0 0):=hk.cell 1 rfl;clear H hk;exact bodyPost_ret (v:= .tuple #[.agg #[.int .i64 0,.slice none 0 0],.slice none 0 0,.int .i64 100]) (by simp[results,Tryz.results95,go_sem,k0,k1]) rfl (GotE.no U hZ.out)
 | ok p =>
  obtain⟨u,r⟩:=p;have hu:=Ct o1;have o3:r.length<=1000000000:=by
   obtain⟨_,_,q,hq,_⟩:=Ck l 0 u r o1;rw[hq,List.length_append]at t5;omega
  rw[o1]at k2 hZ;simp only at hZ;have hg:=Aa k2;have h5:=K6 hu;obtain⟨at_,j4⟩:=Ab (unzig u);unfold GotI at hg;simp only at hg;rw[<-j4]at hg hZ h5;clear o1 k2 j4 hu;cases l0:getV 0 r with
  | error k =>
   rw[l0]at hZ;have hk:=BK r 0 k l0;have e3:((k:Int) != 0)=true:=by simp;omega
   have j0:=fun A c W h hE=>Cl A r.length c r w0 W h hE o3;rw[l0]at j0;replace j0:=Aa j0;replace hZ:=Aa hZ;clear l0 hk
   go_in
   go_wp2_with fail;rw[<-hW.out,<-hb.out];refine hg.out.mono ?_;rintro e w1 ⟨p0,A1,c1,rfl,hi1⟩;have e0:=Aa (j0.out A1 c1 w1 hi1 ((hw.trans h1).trans p0));go_wp2_with fail;refine e0.out.mono ?_;rintro e w2 ⟨o0,rfl⟩;have Y:=hr.ext (p0.trans o0);have f1:=fun i=>Y.free i;have d0:=Y.cell 0 rfl;have d1:=Y.cell 1 rfl;replace Y:=Aa Y;have m0:=Aa (h1.trans (p0.trans o0));go_wp2_with fail;obtain⟨wz,H⟩:∃wz,wz=setEv w2 b 0 none 0 0:=⟨_,rfl⟩;have hk:=B9 Y.out 0 none 0 0;rw[<-H]at hk;have U:=BZ m0.out G.out 0 none 0 0;rw[<-H]at U;unfold setEv at H;rw[<-H];have k0:wz.cell? ⟨b,0,none⟩=some (.int .i64 0):=hk.cell 0 rfl;have k1:wz.cell? ⟨b,1,none⟩=some (.slice none 0 0):=hk.cell 1 rfl;clear H hk;exact bodyPost_ret (v:= .tuple #[.agg #[.int .i64 0,.slice none 0 0],.slice none 0 0,.int .i64 100]) (by simp[results,Tryz.results95,go_sem,k0,k1]) rfl (GotE.no U hZ.out)
  | ok p =>
   obtain⟨m,r2⟩:=p;have l4:r2.length<=1000000000:=by
    obtain⟨_,_,q,hq,_⟩:=Ck r 0 m r2 l0;rw[hq,List.length_append]at o3;omega
   have d5:=Ct l0;rw[l0]at hZ;simp only at hZ;have j0:=fun A c W h hE=>Cl A r.length c r w0 W h hE o3;rw[l0]at j0;unfold Got at j0;simp only at j0;replace j0:=Aa j0;clear l0;by_cases m3:16<m
   ·rw[if_pos m3]at hZ;have v5:(16:Int)<m:=by omega
    replace hZ:=Aa hZ
    go_in
    go_wp2_with fail;rw[<-hW.out,<-hb.out];refine hg.out.mono ?_;rintro e w1 ⟨p0,A1,c1,rfl,hi1⟩;have e0:=Aa (j0.out A1 c1 w1 hi1 ((hw.trans h1).trans p0));go_wp2_with fail;refine e0.out.mono ?_;rintro e w2 ⟨o0,A2,c2,rfl,hi2⟩;have Y:=hr.ext (p0.trans o0);have f1:=fun i=>Y.free i;have d0:=Y.cell 0 rfl;have d1:=Y.cell 1 rfl;replace Y:=Aa Y;have m0:=Aa (h1.trans (p0.trans o0));go_wp2_with fail;obtain⟨wz,H⟩:∃wz,wz=setEv w2 b 0 none 0 0:=⟨_,rfl⟩;have hk:=B9 Y.out 0 none 0 0;rw[<-H]at hk;have U:=BZ m0.out G.out 0 none 0 0;rw[<-H]at U;unfold setEv at H;rw[<-H];have k0:wz.cell? ⟨b,0,none⟩=some (.int .i64 0):=hk.cell 0 rfl;have k1:wz.cell? ⟨b,1,none⟩=some (.slice none 0 0):=hk.cell 1 rfl;clear H hk;exact bodyPost_ret (v:= .tuple #[.agg #[.int .i64 0,.slice none 0 0],.slice none 0 0,.int .i64 100]) (by simp[results,Tryz.results95,go_sem,k0,k1]) rfl (GotE.no U hZ.out)
   ·rw[if_neg m3]at hZ;have v5:¬ (16:Int)<m:=by omega
    replace hZ:=Aa hZ
    go_in
    go_wp2_with fail;rw[<-hW.out,<-hb.out];refine hg.out.mono ?_;rintro e w1 ⟨p0,A1,c1,rfl,hi1⟩;have e0:=Aa (j0.out A1 c1 w1 hi1 ((hw.trans h1).trans p0));go_wp2_with fail;refine e0.out.mono ?_;rintro e w2 ⟨o0,A2,c2,rfl,hi2⟩;have Y:=hr.ext (p0.trans o0);have f1:=fun i=>Y.free i;have d0:=Y.cell 0 rfl;have d1:=Y.cell 1 rfl;replace Y:=Aa Y;have m0:=Aa (h1.trans (p0.trans o0));go_wp2_with fail;have o4:=Y.out.put 0 (.int .i64 at_);obtain⟨W3,o2⟩:=Ab (w2.setCell ⟨b,0,none⟩ (.int .i64 at_));have p4:Ext w W3:=by rw[o2];exact m0.out.setCell G.out _
    have a5:Row W3 b 69 #[.int .i64 at_,.slice none 0 0]:=by rw[o2];exact o4
    rw[<-o2];clear o4 Y m0 f1 d0 d1 e0 hg j0 o2
    go_loopw [3,33] (fun s3 s33 wr=>∃(i:Nat) (read:List Fd) (rr:List UInt8) (B A3:Option Addr) (d c3:Nat),s33 = .int .u64 (i:Int)/\s3 = .slice A3 rr.length c3/\i<=m/\rr.length<=1000000000/\Hid (i=read.length)/\Hid (getFs m r2=aheadF read (getFs (m - i) rr))/\Hid (∀f∈read,f.1.length<=1000000000/\f.2.length<=1000000000)/\Hid (Row wr b 69 #[.int .i64 at_,.slice B i d])/\Hid (wr.ownsRow (b+1) 91 2 (.slice B i d) i (fcells read))/\Hid (In8 w0 A3 rr.length c3 rr)/\Hid (Ext w wr)) (fun _ s33 _=>m - (intOf s33).toNat)
    case atStart=>exact⟨0,[],r2,none,A2,0,c2,rfl,rfl,by omega,l4,Aa rfl,Aa (by rw[Le];rfl),Aa nofun,Aa a5,Aa ⟨rfl,.inl ⟨rfl,rfl⟩⟩,Aa hi2,Aa p4⟩
    case round =>
     obtain⟨i,read,rr,B,A3,d,c3,rfl,rfl,hi,b5,d2,q3,x4,v0,f2,j3,hE⟩:=hrel;have q0:wr.cell? ⟨b,0,none⟩=some (.int .i64 at_):=v0.out.cell 0 rfl;have q1:wr.cell? ⟨b,1,none⟩=some (.slice B i d):=v0.out.cell 1 rfl;by_cases him:i<m
     ·have hi1:(i:Int)<m:=by omega
      obtain⟨fb,m1⟩:=Ab wr.heap.size;obtain⟨Wf,a1⟩:=Ab (wr.alloc (.cells #[.string ⟨#[]⟩,.string ⟨#[]⟩] 91));have q2:Ext wr Wf:=by rw[a1];exact(Ext.refl wr).alloc _
      have l3:Row Wf fb 91 #[.string ⟨#[]⟩,.string ⟨#[]⟩]:=by rw[a1,m1];exact Row.new wr _ _
      have l5:b<fb:=by rw[m1];exact v0.out.lt
      have b3:=fun A c W h hE=>DG A rr.length c 32 rr w0 W h hE b5 (by omega);have T:=b3 A3 c3 Wf j3.out (hw.trans (hE.out.trans q2));have a2:=Aa (hE.out.trans q2);replace a1:=Aa a1;replace m1:=Aa m1;cases f0:getT 32 rr with
      | error k =>
       have hk:=Kf f0;have e3:((k:Int) != 0)=true:=by simp;omega
       have i1:=Aa (NS q3.out him f0);rw[f0]at T;replace T:=Aa T;clear f0 hk b3;go_wp2_with fail;rw[<-a1.out,<-m1.out];refine T.out.mono ?_;rintro e w4 ⟨J,rfl⟩;have I:=l3.ext J;have O:=(v0.out.ext q2).ext J;have f4:=fun i=>I.free i;have d4:=I.cell 0 rfl;have y0:=O.away (p:=⟨fb,0,none⟩) (by simp only;omega) (.string ⟨#[]⟩);have f5:=fun i=>y0.free i;have e5:=y0.cell 0 rfl;have e6:=y0.cell 1 rfl;have h0:=Aa ((a2.out.trans J).setCell (p:=⟨fb,0,none⟩) (by simp only;have:=G.out;omega) (.string ⟨#[]⟩));have i2:Hid (Z=none):=Aa (by rw[hZ.out,i1.out]);replace y0:=Aa y0;go_wp2_with fail;obtain⟨wz,H⟩:∃wz,wz=setEv (w4.setCell ⟨fb,0,none⟩ (.string ⟨#[]⟩)) b 0 none 0 0:=⟨_,rfl⟩;have hk:=B9 y0.out 0 none 0 0;rw[<-H]at hk;have U:=BZ h0.out G.out 0 none 0 0;rw[<-H]at U;unfold setEv at H;rw[<-H];have k0:wz.cell? ⟨b,0,none⟩=some (.int .i64 0):=hk.cell 0 rfl;have k1:wz.cell? ⟨b,1,none⟩=some (.slice none 0 0):=hk.cell 1 rfl;clear H hk;exact bodyPost_ret (v:= .tuple #[.agg #[.int .i64 0,.slice none 0 0],.slice none 0 0,.int .i64 100]) (by simp[results,Tryz.results95,go_sem,k0,k1]) rfl (GotE.no U i2.out)
      | ok p =>
       obtain⟨nm,rn⟩:=p;obtain⟨n5,o5,_⟩:=Gu f0;rw[f0]at T;unfold GotT at T;simp only at T;replace T:=Aa T;have n4:rn.length<=1000000000:=by omega
       have t0:=Aa (fun A c W h hE=>DG A rn.length c 4096 rn w0 W h hE n4 (by omega));clear b3;cases y1:getT 4096 rn with
       | error k =>
        have hk:=Kf y1;have e3:((k:Int) != 0)=true:=by simp;omega
        have i1:=Aa (NT q3.out him f0 y1);rw[y1]at t0;clear f0 y1 hk;go_wp2_with fail;rw[<-a1.out,<-m1.out];refine T.out.mono ?_;rintro e w4 ⟨J,A4,c4,rfl,d3⟩;have I:=l3.ext J;have O:=(v0.out.ext q2).ext J;have f4:=fun i=>I.free i;have d4:=I.cell 0 rfl;obtain⟨w5,n0⟩:=Ab (w4.setCell ⟨fb,0,none⟩ (.string ⟨nm.toArray⟩));have h0:=(a2.out.trans J).setCell (p:=⟨fb,0,none⟩) (by simp only;have:=G.out;omega) (.string ⟨nm.toArray⟩);have x1:=I.put 0 (.string ⟨nm.toArray⟩);have y0:=O.away (p:=⟨fb,0,none⟩) (by simp only;omega) (.string ⟨nm.toArray⟩);rw[<-n0]at h0 x1 y0;have e0:=Aa (t0.out A4 c4 w5 d3 (hw.trans h0));replace n0:=Aa n0;go_wp2_with fail;rw[<-n0.out];refine e0.out.mono ?_;rintro e w6 ⟨r0,rfl⟩;have i0:=x1.ext r0;have i3:=y0.ext r0;have f6:=fun i=>i0.free i;have d6:=i0.cell 1 rfl;have c0:=i3.away (p:=⟨fb,1,none⟩) (by simp only;omega) (.string ⟨#[]⟩);have f7:=fun i=>c0.free i;have e5:=c0.cell 0 rfl;have e6:=c0.cell 1 rfl;have y2:=Aa ((h0.trans r0).setCell (p:=⟨fb,1,none⟩) (by simp only;have:=G.out;omega) (.string ⟨#[]⟩));have i2:Hid (Z=none):=Aa (by rw[hZ.out,i1.out]);replace c0:=Aa c0;go_wp2_with fail;obtain⟨wz,H⟩:∃wz,wz=setEv (w6.setCell ⟨fb,1,none⟩ (.string ⟨#[]⟩)) b 0 none 0 0:=⟨_,rfl⟩;have hk:=B9 c0.out 0 none 0 0;rw[<-H]at hk;have U:=BZ y2.out G.out 0 none 0 0;rw[<-H]at U;unfold setEv at H;rw[<-H];have k0:wz.cell? ⟨b,0,none⟩=some (.int .i64 0):=hk.cell 0 rfl;have k1:wz.cell? ⟨b,1,none⟩=some (.slice none 0 0):=hk.cell 1 rfl;clear H hk;exact bodyPost_ret (v:= .tuple #[.agg #[.int .i64 0,.slice none 0 0],.slice none 0 0,.int .i64 100]) (by simp[results,Tryz.results95,go_sem,k0,k1]) rfl (GotE.no U i2.out)
       | ok p =>
        obtain⟨tx,rt⟩:=p;obtain⟨h6,r5,_⟩:=Gu y1;rw[y1]at t0;unfold GotT at t0;simp only at t0;replace t0:=Aa t0;have h4:=Aa (LI q3.out him f0 y1);clear f0 y1;go_wp2_with fail;rw[<-a1.out,<-m1.out];refine T.out.mono ?_;rintro e w4 ⟨J,A4,c4,rfl,d3⟩;have I:=l3.ext J;have O:=(v0.out.ext q2).ext J;have x5:=J.owns (q2.owns f2.out);have f4:=fun i=>I.free i;have d4:=I.cell 0 rfl;obtain⟨w5,n0⟩:=Ab (w4.setCell ⟨fb,0,none⟩ (.string ⟨nm.toArray⟩));have h0:=(a2.out.trans J).setCell (p:=⟨fb,0,none⟩) (by simp only;have:=G.out;omega) (.string ⟨nm.toArray⟩);have x1:=I.put 0 (.string ⟨nm.toArray⟩);have y0:=O.away (p:=⟨fb,0,none⟩) (by simp only;omega) (.string ⟨nm.toArray⟩);have e4:(Value.slice B i d).ownBlock≠some fb:=by
         have f3:=f2.out;intro k5;obtain⟨_,r3,_⟩:=Ae f3 k5;have:=r3.lt;have:=m1.out;omega
        have z4:=G2 x5 (a:=⟨fb,0,none⟩) e4 (.string ⟨nm.toArray⟩);rw[<-n0]at h0 x1 y0 z4;have e0:=Aa (t0.out A4 c4 w5 d3 (hw.trans h0));replace n0:=Aa n0;go_wp2_with fail;rw[<-n0.out];refine e0.out.mono ?_;rintro e w6 ⟨r0,A6,c6,rfl,j5⟩;have i0:=x1.ext r0;have i3:=y0.ext r0;have y5:=r0.owns z4;have f6:=fun i=>i0.free i;have d6:=i0.cell 1 rfl;obtain⟨w7,q6⟩:=Ab (w6.setCell ⟨fb,1,none⟩ (.string ⟨tx.toArray⟩));have c0:=i3.away (p:=⟨fb,1,none⟩) (by simp only;omega) (.string ⟨tx.toArray⟩);have y3:Row (w6.setCell ⟨fb,1,none⟩ (.string ⟨tx.toArray⟩)) fb 91 #[.string ⟨nm.toArray⟩,.string ⟨tx.toArray⟩]:=i0.put 1 (.string ⟨tx.toArray⟩);have a4:=G2 y5 (a:=⟨fb,1,none⟩) e4 (.string ⟨tx.toArray⟩);have y2:=(h0.trans r0).setCell (p:=⟨fb,1,none⟩) (by simp only;have:=G.out;omega) (.string ⟨tx.toArray⟩);have f7:=c0.free 1;have e6:=c0.cell 1 rfl;have g0:=y3.cell 0 rfl;have g1:=y3.cell 1 rfl;have r4:b+1<=(w6.setCell ⟨fb,1,none⟩ (.string ⟨tx.toArray⟩)).heap.size:=c0.lt;go_wp2_with (at_builtin;refine AS (us:= [.string ⟨nm.toArray⟩,.string ⟨tx.toArray⟩]) (m:=1) Lu a4 (by simp[World.setCell]) (.tmp 56) (.tmp 58) rfl rfl rfl rfl rfl (Az rfl) (by omega) r4 (fun A8 c8 w8 b4 a3 m5=>?_);have t3:∀k,(Value.slice B i d).ownBlock=some k->b+1<=k:=(fun k hk=>by obtain⟨_,_,hb⟩:=Ae a4 hk;exact hb);have p3:=Row.grown c0 a3 (fun e=>by have:=t3 _ e.symm;omega);have f8:=p3.free 1;have e8:w8.cell? ⟨b,1,none⟩=some (.slice B i d):=p3.cell 1 rfl;have i4:=Aa p3;have x3:=Aa b4;have k4:=Aa (y2.grown a3 fun k hk=>by have:=t3 k hk;have:=G.out;omega);clear p3 b4 a3 m5);have y4:(Value.slice A8 (i+1) c8).ownBlock≠some b:=fun e=>by
         obtain⟨_,_,hb⟩:=Ae x3.out e;omega
        refine⟨⟨i+1,read ++ [(nm,tx)],rt,A8,A6,c8,c6,by go_num,rfl,by omega,by omega,Aa (by rw[List.length_append,<-d2.out];rfl),h4,Aa ?_,Aa (i4.out.put 1 _),Aa (by rw[F0];exact G2 x3.out y4 _),Aa j5,Aa (k4.out.setCell G.out _)⟩,?_⟩
        ·intro f hf;rcases List.mem_append.1 hf with hf | hf
         ·exact x4.out f hf
         ·rw[List.mem_singleton.1 hf];simp only;omega
        ·simp[intOf];omega
     ·obtain rfl:i=m:=by omega
      have m4:=NR q3.out (Nat.le_refl _);have h2:=hZ.out;rw[m4]at h2;simp only at h2;have j2:Ev.Own ⟨at_,read⟩ wr (b+1) B d:=⟨by simp only;rw[<-d2.out];exact f2.out,fun f hf=>by have:=x4.out f hf;omega,by simp only;have:=d2.out;omega⟩
      have j1:=Dj ⟨at_,read⟩ B d wr j2.ok;unfold Ev.val at j1;simp only at j1;rw[<-d2.out]at j1;obtain⟨j,hj⟩:=Ab (checkE read);rw[<-hj]at j1 h2;replace hj:=Aa hj;replace j1:=Aa j1;replace j2:=Aa j2;replace h2:=Aa h2;by_cases t4:j=0
      ·subst t4;go_wp2_with fail;refine j1.out.mono ?_;rintro e w4 ⟨rfl,J⟩;have O:=v0.out.ext J;have f4:=fun k=>O.free k;have g0:=O.cell 0 rfl;have g1:=O.cell 1 rfl;replace O:=Aa O;have x2:=Aa (hE.out.trans J);clear q0 q1;go_wp2_with fail;obtain⟨wz,H⟩:=Ab (setEv w4 b at_ B i d);have hk:=B9 O.out at_ B i d;have g4:=(I5 w4 b at_ B i d).owns (J.owns j2.out.1) (fun k hk h=>by obtain⟨_,_,hb⟩:=Ae (J.owns j2.out.1) hk;omega);have U:=BZ x2.out G.out at_ B i d;rw[<-H]at hk g4 U;unfold setEv at H;rw[<-H];have k0:wz.cell? ⟨b,0,none⟩=some (.int .i64 at_):=hk.cell 0 rfl;have k1:wz.cell? ⟨b,1,none⟩=some (.slice B i d):=hk.cell 1 rfl;clear H hk;have q5:=h2.out;rw[if_pos trivial]at q5;exact bodyPost_ret (v:= .tuple #[.agg #[.int .i64 at_,.slice B i d],.slice A3 rr.length c3,.int .i64 0]) (by simp[results,Tryz.results95,go_sem,k0,k1]) rfl (by rw[q5];exact⟨U,B,d,A3,c3,by unfold Ev.val;simp only;rw[<-d2.out],⟨AD g4 (by have:=G.out;omega),j2.out.2⟩,j3.out,h5⟩)
      ·have c5:¬ (j:Int)=0:=by omega
       have i2:Hid (Z=none):=Aa (by rw[h2.out,if_neg t4]);go_wp2_with fail;refine j1.out.mono ?_;rintro e w4 ⟨rfl,J⟩;have O:=v0.out.ext J;have f4:=fun k=>O.free k;have g0:=O.cell 0 rfl;have g1:=O.cell 1 rfl;replace O:=Aa O;have x2:=Aa (hE.out.trans J);clear q0 q1;go_wp2_with fail;obtain⟨wz,H⟩:∃wz,wz=setEv w4 b 0 none 0 0:=⟨_,rfl⟩;have hk:=B9 O.out 0 none 0 0;rw[<-H]at hk;have U:=BZ x2.out G.out 0 none 0 0;rw[<-H]at U;unfold setEv at H;rw[<-H];have k0:wz.cell? ⟨b,0,none⟩=some (.int .i64 0):=hk.cell 0 rfl;have k1:wz.cell? ⟨b,1,none⟩=some (.slice none 0 0):=hk.cell 1 rfl;clear H hk;exact bodyPost_ret (v:= .tuple #[.agg #[.int .i64 0,.slice none 0 0],.slice none 0 0,.int .i64 100]) (by simp[results,Tryz.results95,go_sem,k0,k1]) rfl (GotE.no U i2.out)
theorem SL (A:Option Addr) (n c:Nat) (l:List UInt8) (w0 w:World) (h:In8 w0 A n c l) (hw:Ext w0 w) (r3:n<=1000000000) :
 Calls prog 163 #[.slice A n c] w fun e w'=>GotE w0 w (getE l) e w':=by
 obtain⟨W,hW⟩:=Ab (w.alloc (.cells #[.int .i64 0,.slice none 0 0] 69));have e0:Ext w W:=by rw[hW];exact(Ext.refl w).alloc _
 obtain⟨b,hb⟩:=Ab w.heap.size;have hr:Row W b 69 #[.int .i64 0,.slice none 0 0]:=by rw[hW,hb];exact Row.new w _ _
 have l0:=Aa (Nat.le_of_eq hb.symm);have h1:=SH A n c l w0 W h (hw.trans e0) r3;have l4:l.length<=1000000000:=by rw[<-h.len];exact r3
 obtain⟨Z,hZ⟩:=Ab (getE l);rw[<-hZ];unfold getE at hZ;replace hW:=Aa hW;replace hb:=Aa hb;clear h;cases o0:getV 0 l with
 | error k =>
  rw[o0]at h1 hZ;have hk:=BK l 0 k o0;have m3:((k:Int) != 0)=true:=by simp;omega
  have hg:=Aa h1;clear o0 hk h1
  go_in
  go_wp2_with fail;rw[<-hW.out,<-hb.out];refine hg.out.mono ?_;rintro e w1 ⟨G,rfl⟩;have H:=hr.ext G;have f1:=fun i=>H.free i;have d0:=H.cell 0 rfl;have d1:=H.cell 1 rfl;replace H:=Aa H;have T:=Aa (e0.trans G);replace hZ:=Aa hZ;go_wp2_with fail;obtain⟨wz,a⟩:∃wz,wz=setEv w1 b 0 none 0 0:=⟨_,rfl⟩;have hk:=B9 H.out 0 none 0 0;rw[<-a]at hk;have J:=BZ T.out l0.out 0 none 0 0;rw[<-a]at J;unfold setEv at a;rw[<-a];have k0:wz.cell? ⟨b,0,none⟩=some (.int .i64 0):=hk.cell 0 rfl;have k1:wz.cell? ⟨b,1,none⟩=some (.slice none 0 0):=hk.cell 1 rfl;clear a hk;exact bodyPost_ret (v:= .tuple #[.agg #[.int .i64 0,.slice none 0 0],.slice none 0 0,.int .i64 100]) (by simp[results,Tryz.results163,go_sem,k0,k1]) rfl (GotE.no J hZ.out)
 | ok p =>
  obtain⟨u,r⟩:=p;have hu:=Ct o0;have x3:r.length<=1000000000:=by
   obtain⟨_,_,q,hq,_⟩:=Ck l 0 u r o0;rw[hq,List.length_append]at l4;omega
  rw[o0]at h1 hZ;simp only at hZ;have hg:=Aa h1;have x4:=K6 hu;obtain⟨at_,d3⟩:=Ab (unzig u);unfold GotI at hg;simp only at hg;rw[<-d3]at hg hZ x4;clear o0 h1 d3 hu;cases x0:getV 0 r with
  | error k =>
   rw[x0]at hZ;have hk:=BK r 0 k x0;have m3:((k:Int) != 0)=true:=by simp;omega
   have I:=fun A c W h hE=>Bq A r.length c r w0 W h hE x3;rw[x0]at I;replace I:=Aa I;replace hZ:=Aa hZ;clear x0 hk
   go_in
   go_wp2_with fail;rw[<-hW.out,<-hb.out];refine hg.out.mono ?_;rintro e w1 ⟨G,A1,c1,rfl,hi1⟩;have m0:=Aa (I.out A1 c1 w1 hi1 ((hw.trans e0).trans G));go_wp2_with fail;refine m0.out.mono ?_;rintro e w2 ⟨c0,rfl⟩;have H:=hr.ext (G.trans c0);have f1:=fun i=>H.free i;have d0:=H.cell 0 rfl;have d1:=H.cell 1 rfl;replace H:=Aa H;have T:=Aa (e0.trans (G.trans c0));go_wp2_with fail;obtain⟨wz,a⟩:∃wz,wz=setEv w2 b 0 none 0 0:=⟨_,rfl⟩;have hk:=B9 H.out 0 none 0 0;rw[<-a]at hk;have J:=BZ T.out l0.out 0 none 0 0;rw[<-a]at J;unfold setEv at a;rw[<-a];have k0:wz.cell? ⟨b,0,none⟩=some (.int .i64 0):=hk.cell 0 rfl;have k1:wz.cell? ⟨b,1,none⟩=some (.slice none 0 0):=hk.cell 1 rfl;clear a hk;exact bodyPost_ret (v:= .tuple #[.agg #[.int .i64 0,.slice none 0 0],.slice none 0 0,.int .i64 100]) (by simp[results,Tryz.results163,go_sem,k0,k1]) rfl (GotE.no J hZ.out)
  | ok p =>
   obtain⟨m,r2⟩:=p;have m4:r2.length<=1000000000:=by
    obtain⟨_,_,q,hq,_⟩:=Ck r 0 m r2 x0;rw[hq,List.length_append]at x3;omega
   have k5:=Ct x0;rw[x0]at hZ;simp only at hZ;have I:=fun A c W h hE=>Bq A r.length c r w0 W h hE x3;rw[x0]at I;unfold Got at I;simp only at I;replace I:=Aa I;clear x0;by_cases o2:16<m
   ·rw[if_pos o2]at hZ;have n4:(16:Int)<m:=by omega
    replace hZ:=Aa hZ
    go_in
    go_wp2_with fail;rw[<-hW.out,<-hb.out];refine hg.out.mono ?_;rintro e w1 ⟨G,A1,c1,rfl,hi1⟩;have m0:=Aa (I.out A1 c1 w1 hi1 ((hw.trans e0).trans G));go_wp2_with fail;refine m0.out.mono ?_;rintro e w2 ⟨c0,A2,c2,rfl,hi2⟩;have H:=hr.ext (G.trans c0);have f1:=fun i=>H.free i;have d0:=H.cell 0 rfl;have d1:=H.cell 1 rfl;replace H:=Aa H;have T:=Aa (e0.trans (G.trans c0));go_wp2_with fail;obtain⟨wz,a⟩:∃wz,wz=setEv w2 b 0 none 0 0:=⟨_,rfl⟩;have hk:=B9 H.out 0 none 0 0;rw[<-a]at hk;have J:=BZ T.out l0.out 0 none 0 0;rw[<-a]at J;unfold setEv at a;rw[<-a];have k0:wz.cell? ⟨b,0,none⟩=some (.int .i64 0):=hk.cell 0 rfl;have k1:wz.cell? ⟨b,1,none⟩=some (.slice none 0 0):=hk.cell 1 rfl;clear a hk;exact bodyPost_ret (v:= .tuple #[.agg #[.int .i64 0,.slice none 0 0],.slice none 0 0,.int .i64 100]) (by simp[results,Tryz.results163,go_sem,k0,k1]) rfl (GotE.no J hZ.out)
   ·rw[if_neg o2]at hZ;have n4:¬ (16:Int)<m:=by omega
    replace hZ:=Aa hZ
    go_in
    go_wp2_with fail;rw[<-hW.out,<-hb.out];refine hg.out.mono ?_;rintro e w1 ⟨G,A1,c1,rfl,hi1⟩;have m0:=Aa (I.out A1 c1 w1 hi1 ((hw.trans e0).trans G));go_wp2_with fail;refine m0.out.mono ?_;rintro e w2 ⟨c0,A2,c2,rfl,hi2⟩;have H:=hr.ext (G.trans c0);have f1:=fun i=>H.free i;have d0:=H.cell 0 rfl;have d1:=H.cell 1 rfl;replace H:=Aa H;have T:=Aa (e0.trans (G.trans c0));go_wp2_with fail;obtain⟨g,j1⟩:=Ab w2.heap.size;obtain⟨W3,j2⟩:=Ab (w2.alloc (.cells #[.int .i64 at_,.slice none 0 0] 69));have d2:Ext w2 W3:=by rw[j2];exact(Ext.refl w2).alloc _
    have z3:Ext w W3:=T.out.trans d2;have r4:Row W3 b 69 #[.int .i64 0,.slice none 0 0]:=H.out.ext d2;have b4:Row W3 g 69 #[.int .i64 at_,.slice none 0 0]:=by rw[j2,j1];exact Row.new w2 _ _
    have g5:b<g:=by rw[j1];exact H.out.lt
    have q5:w.heap.size<=g:=by rw[j1];exact T.out.size
    have y5:IntKind.i64.wrap (m:Int)=(m:Int):=by
     simp[IntKind.wrap,IntKind.bits,IntKind.signed];omega
    rw[<-j2,<-j1];replace j1:=Aa j1;clear H T f1 d0 d1 m0 hg I j2
    go_loopw [0,9] (fun s0 s9 wr=>∃(i:Nat) (read:List Fd) (rr:List UInt8) (B A3:Option Addr) (d c3:Nat),s9 = .int .i64 (i:Int)/\s0 = .slice A3 rr.length c3/\i<=m/\rr.length<=1000000000/\Hid (i=read.length)/\Hid (getFs m r2=aheadF read (getFs (m - i) rr))/\Hid (∀f∈read,f.1.length<=1000000000/\f.2.length<=1000000000)/\Hid (Row wr b 69 #[.int .i64 0,.slice none 0 0])/\Hid (Row wr g 69 #[.int .i64 at_,.slice B i d])/\Hid (wr.ownsRow (g+1) 91 2 (.slice B i d) i (fcells read))/\Hid (In8 w0 A3 rr.length c3 rr)/\Hid (Ext w wr)) (fun _ s9 _=>m - (intOf s9).toNat)
    case atStart=>exact⟨0,[],r2,none,A2,0,c2,rfl,rfl,by omega,m4,Aa rfl,Aa (by rw[Le];rfl),Aa nofun,Aa r4,Aa b4,Aa ⟨rfl,.inl ⟨rfl,rfl⟩⟩,Aa hi2,Aa z3⟩
    case round =>
     obtain⟨i,read,rr,B,A3,d,c3,rfl,rfl,hi,h5,i1,y2,h4,t0,h2,q3,i2,hE⟩:=hrel;have q0:wr.cell? ⟨g,0,none⟩=some (.int .i64 at_):=h2.out.cell 0 rfl;have q1:wr.cell? ⟨g,1,none⟩=some (.slice B i d):=h2.out.cell 1 rfl;by_cases him:i<m
     ·have hi1:(i:Int)<m:=by omega
      have O:=LR A3 rr.length c3 32 rr w0 wr i2.out (hw.trans hE.out) h5 (by omega);cases v0:getT 32 rr with
      | error k =>
       have hk:=Kf v0;have m3:((k:Int) != 0)=true:=by simp;omega
       have n0:=Aa (NS y2.out him v0);rw[v0]at O;have p4:In8 w0 none 0 0 []:=⟨rfl,.inl rfl,Nat.le_refl _,fun _=>rfl,nofun⟩
       have U:=fun W hE=>LR none 0 0 4096 [] w0 W p4 hE (by omega) (by omega);rw[show getT 4096 [] = .error 6 from rfl]at U;replace O:=Aa O;replace U:=Aa U;clear v0 hk;go_wp2_with fail;refine O.out.mono ?_;rintro e w4 ⟨Y,rfl⟩;have m0:=Aa (U.out w4 ((hw.trans hE.out).trans Y));go_wp2_with fail;refine m0.out.mono ?_;rintro e w5 ⟨a1,rfl⟩;have p0:=(t0.out.ext Y).ext a1;have f5:=fun i=>p0.free i;have e5:=p0.cell 0 rfl;have e6:=p0.cell 1 rfl;have y1:=Aa (hE.out.trans (Y.trans a1));have q2:Hid (Z=none):=Aa (by rw[hZ.out,n0.out]);replace p0:=Aa p0;go_wp2_with fail;obtain⟨wz,a⟩:∃wz,wz=setEv w5 b 0 none 0 0:=⟨_,rfl⟩;have hk:=B9 p0.out 0 none 0 0;rw[<-a]at hk;have J:=BZ y1.out l0.out 0 none 0 0;rw[<-a]at J;unfold setEv at a;rw[<-a];have k0:wz.cell? ⟨b,0,none⟩=some (.int .i64 0):=hk.cell 0 rfl;have k1:wz.cell? ⟨b,1,none⟩=some (.slice none 0 0):=hk.cell 1 rfl;clear a hk;exact bodyPost_ret (v:= .tuple #[.agg #[.int .i64 0,.slice none 0 0],.slice none 0 0,.int .i64 100]) (by simp[results,Tryz.results163,go_sem,k0,k1]) rfl (GotE.no J q2.out)
      | ok p =>
       obtain⟨nm,rn⟩:=p;obtain⟨m5,t5,_⟩:=Gu v0;rw[v0]at O;unfold GotT at O;simp only at O;replace O:=Aa O;have t4:rn.length<=1000000000:=by omega
       have U:=Aa (fun A c W h hE=>LR A rn.length c 4096 rn w0 W h hE t4 (by omega));cases i0:getT 4096 rn with
       | error k =>
        have hk:=Kf i0;have m3:((k:Int) != 0)=true:=by simp;omega
        have n0:=Aa (NT y2.out him v0 i0);rw[i0]at U;clear v0 i0 hk;go_wp2_with fail;refine O.out.mono ?_;rintro e w4 ⟨Y,A4,c4,rfl,j3⟩;have m0:=Aa (U.out A4 c4 w4 j3 ((hw.trans hE.out).trans Y));go_wp2_with fail;refine m0.out.mono ?_;rintro e w5 ⟨a1,rfl⟩;have p0:=(t0.out.ext Y).ext a1;have f5:=fun i=>p0.free i;have e5:=p0.cell 0 rfl;have e6:=p0.cell 1 rfl;have y1:=Aa (hE.out.trans (Y.trans a1));have q2:Hid (Z=none):=Aa (by rw[hZ.out,n0.out]);replace p0:=Aa p0;go_wp2_with fail;obtain⟨wz,a⟩:∃wz,wz=setEv w5 b 0 none 0 0:=⟨_,rfl⟩;have hk:=B9 p0.out 0 none 0 0;rw[<-a]at hk;have J:=BZ y1.out l0.out 0 none 0 0;rw[<-a]at J;unfold setEv at a;rw[<-a];have k0:wz.cell? ⟨b,0,none⟩=some (.int .i64 0):=hk.cell 0 rfl;have k1:wz.cell? ⟨b,1,none⟩=some (.slice none 0 0):=hk.cell 1 rfl;clear a hk;exact bodyPost_ret (v:= .tuple #[.agg #[.int .i64 0,.slice none 0 0],.slice none 0 0,.int .i64 100]) (by simp[results,Tryz.results163,go_sem,k0,k1]) rfl (GotE.no J q2.out)
       | ok p =>
        obtain⟨tx,rt⟩:=p;obtain⟨x5,v5,_⟩:=Gu i0;rw[i0]at U;unfold GotT at U;simp only at U;replace U:=Aa U;have y3:=Aa (LI y2.out him v0 i0);clear v0 i0;go_wp2_with fail;refine O.out.mono ?_;rintro e w4 ⟨Y,A4,c4,rfl,j3⟩;have m0:=Aa (U.out A4 c4 w4 j3 ((hw.trans hE.out).trans Y));go_wp2_with fail;refine m0.out.mono ?_;rintro e w6 ⟨k2,A6,c6,rfl,d4⟩;have t3:=(h2.out.ext Y).ext k2;have a4:=(t0.out.ext Y).ext k2;have k4:=k2.owns (Y.owns q3.out);have a3:=(hE.out.trans Y).trans k2;have e6:=t3.cell 1 rfl;have v4:g+1<=w6.heap.size:=t3.lt;go_wp2_with (at_builtin;refine Ch (us:= [.string ⟨nm.toArray⟩,.string ⟨tx.toArray⟩]) (m:=1) Lu k4 (.tmp 66) (.tmp 70) rfl rfl rfl rfl rfl (Az rfl) (by omega) v4 (fun A8 c8 w8 j4 x2 i4=>?_);have o1:∀k,(Value.slice B i d).ownBlock=some k->g+1<=k:=(fun k hk=>by obtain⟨_,_,hb⟩:=Ae k4 hk;exact hb);have a2:=Row.grown t3 x2 (fun e=>by have:=o1 _ e.symm;omega);have e3:=Row.grown a4 x2 (fun e=>by have:=o1 _ e.symm;omega);have f8:=a2.free 1;have e8:w8.cell? ⟨g,1,none⟩=some (.slice B i d):=a2.cell 1 rfl;have g4:=Aa a2;have f3:=Aa e3;have h3:=Aa j4;have b3:=Aa (a3.grown x2 fun k hk=>by have:=o1 k hk;omega);clear a2 e3 j4 x2 i4);have q4:(Value.slice A8 (i+1) c8).ownBlock≠some g:=fun e=>by
         obtain⟨_,_,hb⟩:=Ae h3.out e;omega
        refine⟨⟨i+1,read ++ [(nm,tx)],rt,A8,A6,c8,c6,by go_num,rfl,by omega,by omega,Aa (by rw[List.length_append,<-i1.out];rfl),y3,Aa ?_,Aa (f3.out.away (p:=⟨g,1,none⟩) (by simp only;omega) _),Aa (g4.out.put 1 _),Aa (by rw[F0];exact G2 h3.out q4 _),Aa d4,Aa (b3.out.setCell (p:=⟨g,1,none⟩) q5 _)⟩,?_⟩
        ·intro f hf;rcases List.mem_append.1 hf with hf | hf
         ·exact h4.out f hf
         ·rw[List.mem_singleton.1 hf];simp only;omega
        ·simp[intOf];omega
     ·obtain rfl:i=m:=by omega
      have l3:=NR y2.out (Nat.le_refl _);have r0:=hZ.out;rw[l3]at r0;simp only at r0;have m1:Ev.Own ⟨at_,read⟩ wr (g+1) B d:=⟨by simp only;rw[<-i1.out];exact q3.out,fun f hf=>by have:=h4.out f hf;omega,by simp only;have:=i1.out;omega⟩
      have f0:=Gd ⟨at_,read⟩ B d wr m1.ok;unfold Ev.val at f0;simp only at f0;rw[<-i1.out]at f0;obtain⟨j,hj⟩:=Ab (checkE read);rw[<-hj]at f0 r0;replace hj:=Aa hj;replace f0:=Aa f0;replace m1:=Aa m1;replace r0:=Aa r0;by_cases o3:j=0
      ·subst o3;go_wp2_with fail;refine f0.out.mono ?_;rintro e w4 ⟨rfl,Y⟩;have h0:=t0.out.ext Y;have f4:=fun k=>h0.free k;have g0:=Y.cell q0;have g1:=Y.cell q1;have g2:=h0.cell 0 rfl;have g3:=h0.cell 1 rfl;replace h0:=Aa h0;have x1:=Aa (hE.out.trans Y);clear q0 q1;go_wp2_with fail;obtain⟨wz,a⟩:=Ab (setEv w4 b at_ B i d);have hk:=B9 h0.out at_ B i d;have i3:=(I5 w4 b at_ B i d).owns (Y.owns m1.out.1) (fun k hk h=>by obtain⟨_,_,hb⟩:=Ae (Y.owns m1.out.1) hk;omega);have J:=BZ x1.out l0.out at_ B i d;rw[<-a]at hk i3 J;unfold setEv at a;rw[<-a];have k0:wz.cell? ⟨b,0,none⟩=some (.int .i64 at_):=hk.cell 0 rfl;have k1:wz.cell? ⟨b,1,none⟩=some (.slice B i d):=hk.cell 1 rfl;clear a hk;have y4:=r0.out;rw[if_pos trivial]at y4;exact bodyPost_ret (v:= .tuple #[.agg #[.int .i64 at_,.slice B i d],.slice A3 rr.length c3,.int .i64 0]) (by simp[results,Tryz.results163,go_sem,k0,k1]) rfl (by rw[y4];exact⟨J,B,d,A3,c3,by unfold Ev.val;simp only;rw[<-i1.out],⟨AD i3 (by omega),m1.out.2⟩,i2.out,x4⟩)
      ·have p5:¬ (j:Int)=0:=by omega
       have q2:Hid (Z=none):=Aa (by rw[r0.out,if_neg o3]);go_wp2_with fail;refine f0.out.mono ?_;rintro e w4 ⟨rfl,Y⟩;have h0:=t0.out.ext Y;have f4:=fun k=>h0.free k;have g2:=h0.cell 0 rfl;have g3:=h0.cell 1 rfl;replace h0:=Aa h0;have x1:=Aa (hE.out.trans Y);clear q0 q1;go_wp2_with fail;obtain⟨wz,a⟩:∃wz,wz=setEv w4 b 0 none 0 0:=⟨_,rfl⟩;have hk:=B9 h0.out 0 none 0 0;rw[<-a]at hk;have J:=BZ x1.out l0.out 0 none 0 0;rw[<-a]at J;unfold setEv at a;rw[<-a];have k0:wz.cell? ⟨b,0,none⟩=some (.int .i64 0):=hk.cell 0 rfl;have k1:wz.cell? ⟨b,1,none⟩=some (.slice none 0 0):=hk.cell 1 rfl;clear a hk;exact bodyPost_ret (v:= .tuple #[.agg #[.int .i64 0,.slice none 0 0],.slice none 0 0,.int .i64 100]) (by simp[results,Tryz.results163,go_sem,k0,k1]) rfl (GotE.no J q2.out)
theorem GP:∀ {k:Nat} {l r:List UInt8} {fs:List Fd},getFs k l=some (fs,r)->r.length<=l.length
 | 0,l,r,fs,h=>by unfold getFs at h;cases h;exact Nat.le_refl _
 | k+1,l,r,fs,h=>by
  unfold getFs at h;split at h
  ·cases h
  ·rename_i nm r1 h1;split at h
   ·cases h
   ·rename_i tx r2 h2;split at h
    ·cases h
    ·rename_i fs' r3 j;cases h;have a1:=(Gu h1).2.1;have a2:=(Gu h2).2.1;have a3:=GP j;omega
theorem Cs (h:getV 0 l = .ok (n,r)):r.length<l.length:=by
 obtain⟨_,_,q,b,j⟩:=Ck l 0 n r h;have:=List.length_pos_iff.2 j;rw[b,List.length_append];omega
theorem NP {e:Ev} (h:getE l=some (e,r)):r.length<l.length:=by
 unfold getE at h;split at h
 ·cases h
 ·rename_i u r1 h1;split at h
  ·cases h
  ·rename_i n r2 h2;split at h
   ·cases h
   ·split at h
    ·cases h
    ·rename_i fs r3 j;split at h
     ·cases h;have a1:=Cs h1;have a2:=Cs h2;have a3:=GP j;omega
     ·cases h
theorem IB:∀(l:List UInt8) (i k:Nat),getV i l = .error k->k=6\/k=20
 | [],i,k,h=>by unfold getV at h;injection h with h;omega
 | x::l,i,k,h=>by
  unfold getV at h;split at h
  ·injection h with h;omega
  ·split at h
   ·injection h with h;omega
   ·split at h
    ·cases h
    ·split at h
     ·cases h
     ·rename_i e j;injection h with h;subst h;exact IB l (i+1) _ j
def GotF (w0 w:World) (res:Except Nat (List UInt8×List UInt8)) (e:Ending) (w':World):Prop:=Ext w w'/\match res with
 | .ok (p,r)=>∃P cp A c,e = .returned (.tuple #[.slice P p.length cp,.slice A r.length c,.int .i64 0])/\In8 w' P p.length cp p/\In8 w0 A r.length c r
 | .error k=>e = .returned (.tuple #[.slice none 0 0,.slice none 0 0,.int .i64 k])
theorem Qx (l:List UInt8) (x:UInt8):be (l ++ [x])=be l*256+x.toNat:=by
 unfold be;rw[List.foldl_append];rfl
theorem GotF.no {res:Except Nat (List UInt8×List UInt8)} (j:Ext w w') (h:res = .error k):GotF w0 w res (.returned (.tuple #[.slice none 0 0,.slice none 0 0,.int .i64 k])) w':=by
 subst h;exact⟨j,rfl⟩
def GotFB (w0 w:World) (res:Except Nat (List UInt8×List UInt8)) (e:Ending) (w':World):Prop:=Ext w w'/\match res with
 | .ok (p,r)=>∃P cp A c base,e = .returned (.tuple #[.slice P p.length cp,.slice A r.length c,.int .i64 0])/\Buf w' base 5 P p.length cp (p.map B8)/\In8 w0 A r.length c r
 | .error k=>e = .returned (.tuple #[.slice none 0 0,.slice none 0 0,.int .i64 k])
theorem GotFB.no {res:Except Nat (List UInt8×List UInt8)} (j:Ext w w') (h:res = .error k):GotFB w0 w res (.returned (.tuple #[.slice none 0 0,.slice none 0 0,.int .i64 k])) w':=by
 subst h;exact⟨j,rfl⟩
theorem NK (A:Option Addr) (n c:Nat) (l:List UInt8) (w0 w:World) (h:In8 w0 A n c l) (hw:Ext w0 w) (f2:n<=1000000000) :
 Calls prog 145 #[.slice A n c] w fun e w'=>GotFB w0 w (getF l) e w':=by
 have U:=Cl A n c l w0 w h hw f2;have c0:=Aa h.len;obtain⟨Z,j⟩:=Ab (getF l);rw[<-j];unfold getF at j;cases hv:getV 0 l with
 | error k =>
  rw[hv]at U j;simp only at j;rcases IB l 0 k hv with rfl | rfl
  ·rw[if_pos rfl]at j;replace j:=Aa j;replace U:=Aa U;clear h hv
   go_in
   go_wp2_with fail;refine U.out.mono ?_;rintro e w1 ⟨b,rfl⟩;go_wp2_with fail;go_ret3;exact GotFB.no b j.out
  ·rw[if_neg (by omega)]at j;replace j:=Aa j;replace U:=Aa U;clear h hv
   go_in
   go_wp2_with fail;refine U.out.mono ?_;rintro e w1 ⟨b,rfl⟩;go_wp2_with fail;go_ret3;exact GotFB.no b j.out
 | ok p =>
  obtain⟨m,r⟩:=p;have j3:=Ct hv;have o2:=Cs hv;obtain⟨hd,x0,y2⟩:=Eu l 0 m r [] hv;have J:l.length - r.length=hd.length:=by rw[x0,List.length_append];omega
  rw[hv]at U j;simp only at j;unfold Got at U;simp only at U;replace U:=Aa U;clear hv y2;by_cases i0:16777216<m
  ·rw[if_pos i0]at j;replace j:=Aa j;have m2:(16777216:Int)<m:=by omega
   clear h
   go_in
   go_wp2_with fail;refine U.out.mono ?_;rintro e w1 ⟨b,A1,c1,rfl,hi1⟩;go_wp2_with fail;go_ret3;exact GotFB.no b j.out
  ·rw[if_neg i0]at j;have m2:¬ (16777216:Int)<m:=by omega
   have f3:IntKind.i64.wrap (m:Int)=(m:Int):=by
    simp[IntKind.wrap,IntKind.bits,IntKind.signed];omega
   by_cases o1:r.length<4+m
   ·rw[if_pos o1]at j;replace j:=Aa j;have h3:(r.length:Int)<4+(m:Int):=by omega
    clear h
    go_in
    go_wp2_with fail;refine U.out.mono ?_;rintro e w1 ⟨b,A1,c1,rfl,hi1⟩;go_wp2_with fail;go_ret3;exact GotFB.no b j.out
   ·rw[if_neg o1]at j;have h3:¬ (r.length:Int)<4+(m:Int):=by omega
    obtain⟨a2,y0⟩:=h.headk .i64 (k:=l.length - r.length) (by have:=c0.out;omega) (z:=(n:Int) - (r.length:Int)) (by have:=c0.out;omega);rw[J]at a2 y0;have d3:r.length<=n:=by have:=c0.out;omega
    have m3:r.length<=1000000000:=by omega
    replace j:=Aa j;replace y0:=Aa y0;replace J:=Aa J;replace x0:=Aa x0;clear h o2
    go_in
    go_wp2_with fail;refine U.out.mono ?_;rintro e w1 ⟨b,A1,c1,rfl,hi1⟩;obtain⟨z3,l0⟩:=hi1.headk .i64 (k:=4) (by omega) (z:=4) rfl;obtain⟨A2,c2,a3,j1⟩:=hi1.subk .i64 .i64 (fr:=4) (k:=m) (by omega) (z0:=4) (z:=4+(m:Int)) rfl rfl;obtain⟨A3,c3,e3,x1⟩:=hi1.fromk .i64 (fr:=4+m) (by omega) (z:=4+(m:Int)) (by omega);replace l0:=Aa l0;replace j1:=Aa j1;replace x1:=Aa x1;replace hi1:=Aa hi1;go_wp2_with fail
    go_loopw [7,9,43] (fun s7 _ s43 wr=>∃(i v:Nat),s43 = .int .i64 (i:Int)/\i<=4/\s7 = .int .u32 (v:Int)/\v<256^i/\Hid (v=be (r.take i))/\wr=w1) (fun _ _ s43 _=>4 - (intOf s43).toNat)
    case atStart=>exact⟨0,0,rfl,by omega,rfl,by decide,Aa (by simp[be]),rfl⟩
    case round =>
     obtain⟨i,v,rfl,hi,rfl,hv,k2,rfl⟩:=hrel;by_cases d2:i<4
     ·obtain⟨x,hx⟩:∃x,r[i]? = some x:=⟨_,List.getElem?_eq_getElem (by omega)⟩
      have d0:be (r.take (i+1))=v*256+x.toNat:=by rw[Ei hx,Qx,k2.out]
      have i3:=x.toNat_lt;have b3:(256:Nat)^i<=256^3:=Nat.pow_le_pow_right (by omega) (by omega);have x3:v<16777216:=by omega
      have i2:bits .or .u32 ((v:Int)*256) (x.toNat:Int)=((v*256+x.toNat:Nat):Int):=by
       have h1:=u32_or_nat (v*256) x.toNat (by omega) (by omega);have h2:=Nat.shiftLeft_add_eq_or_of_lt (show x.toNat<2^8 by omega) v;rw[Nat.shiftLeft_eq]at h2;rw[show (2:Nat)^8=256 from rfl]at h2;rw[h2,<-h1];simp
      have a:v*256+x.toNat<256^(i+1):=by rw[Nat.pow_succ];omega
      obtain⟨g,o,j2,hc⟩:=Cells.at_ (xs:=(r.take 4).map B8) (l0.out.bytes.ext (hw.trans b)) (by rw[List.length_map,List.length_take];omega);have r0:=hc i (B8 x) (by rw[List.getElem?_map,List.getElem?_take,if_pos d2,hx];rfl);unfold B8 at r0;subst j2;replace d0:=Aa d0;replace a:=Aa a;obtain⟨nx,k1⟩:=Ab (v*256+x.toNat);rw[<-k1]at i2 d0 a;replace k1:=Aa k1;clear hx hc;go_wp2_with fail;refine⟨⟨i+1,nx,by go_num,by omega,rfl,a.out,Aa d0.out.symm,trivial⟩,?_⟩;simp[intOf];omega
     ·obtain rfl:i=4:=by omega
      have H:((r.drop 4).take m).length=m:=by rw[List.length_take,List.length_drop];omega
      have I:(l.take hd.length).length=hd.length:=by rw[List.length_take,x0.out,List.length_append];omega
      have v0:(r.drop (4+m)).length=r.length - (4+m):=List.length_drop;have n0:=hw.trans b;have T:=j1.out.ext n0;obtain⟨pl,G⟩:=Ab ((r.drop 4).take m);obtain⟨hh,O⟩:=Ab (l.take hd.length);rw[<-G]at H T;have g0:=y0.out;rw[<-O]at I g0;have x2:=Aa (Cr A2 m c2 pl wr H.symm T.bytes T.nil_ (by omega));have e0:=j.out;rw[J.out,<-O,<-G,<-k2.out]at e0;replace e0:=Aa e0;replace G:=Aa G;replace O:=Aa O;replace H:=Aa H;replace I:=Aa I;replace v0:=Aa v0;have y3:v<4294967296:=hv;clear T;go_wp2_with fail;refine x2.out.mono ?_;rintro e w3 ⟨P,cp,rfl,o0,y1⟩;have m0:=o0.in8;have a1:=Aa o0;obtain⟨w4,p0⟩:=Ab (w3.alloc (.cells #[.slice A hd.length c,.slice P m cp] 24));have j0:Ext w3 w4:=by rw[p0];exact(Ext.refl w3).alloc _
      have i1:Row w4 w3.heap.size 24 #[.slice A hd.length c,.slice P m cp]:=by rw[p0];exact Row.new w3 _ _
      have h0:=Ng (some ⟨w3.heap.size,0,none⟩) 2 2 [(A,c,hh),(P,cp,pl)] w4 rfl (.inr ⟨w3.heap.size,0,rfl,fun i v hv=>by
       rw[Nat.zero_add];refine i1.cell i ?_;have e1:=I.out;have e2:=H.out;simpa [e1,e2]using hv⟩) (fun q hq=>by
       rcases List.mem_cons.1 hq with rfl | hq
       ·have h:=(g0.ext n0).ext (y1.trans j0);simp only;rw[I.out];exact h
       ·rw[List.mem_singleton.1 hq];have h:=m0.ext j0;simp only;rw[H.out];exact h) (fun q hq=>by
       rcases List.mem_cons.1 hq with rfl | hq
       ·simp only;rw[I.out];have:=c0.out;have:=J.out;omega
       ·rw[List.mem_singleton.1 hq];simp only;rw[H.out];omega) (by omega)
      rw[show ([(A,c,hh),(P,cp,pl)].map fun p:Option Addr×Nat×List UInt8=>p.2.2) = [hh,pl] from rfl,show csum 0 [hh,pl]=cnext 0 (hh++pl)from Io hh pl]at h0;obtain⟨s,hs⟩:=Ab (cnext 0 (hh++pl));have Y:=e0.out;rw[<-hs]at h0 Y;have f0:=Aa (b.trans (y1.trans j0));replace h0:=Aa h0;replace p0:=Aa p0;replace m0:=Aa (m0.ext j0);have d1:=Aa (a1.out.ext j0);replace hs:=Aa hs;clear o0 i1 n0 g0;by_cases q2:s=v
      ·subst q2;rw[if_pos rfl]at Y;replace Y:=Aa Y;go_wp2_with fail;rw[<-p0.out];refine h0.out.mono ?_;rintro e w5 ⟨rfl,t0⟩;have k0:=Aa (f0.out.trans t0);have f1:=Aa (d1.out.ext t0);go_wp2_with fail;refine AE (fun K hK=>?_);go_wp2_with fail;refine⟨by kernel_rfl,?_⟩;go_wp2_with fail;go_ret3;rw[Y.out];exact⟨k0.out.drew,P,cp,A3,c3,_,by rw[H.out,v0.out];rfl,by rw[H.out];exact f1.out.drew,by rw[v0.out];exact x1.out⟩
      ·have t3:¬ (s:Int)=v:=by omega
       rw[if_neg q2]at Y;replace Y:=Aa Y;go_wp2_with fail;rw[<-p0.out];refine h0.out.mono ?_;rintro e w5 ⟨rfl,t0⟩;have k0:=Aa (f0.out.trans t0);go_wp2_with fail;go_ret3;exact GotFB.no k0.out Y.out
end
section
open Go.RowKit
attribute [local go_sem] Oper.semAt_some AP Cp
def KeepS (B:Nat) (S:Nat->Prop) (W W':World):Prop:=(∀w0:World,w0.heap.size<=B->Ext w0 W->Ext w0 W')/\∀k,S k->∀o,W.heap[k]? = some o->W'.heap[k]? = some o
theorem KeepS.trans (B:Nat) (S:Nat->Prop) (A C D:World) (h:KeepS B S A C) (k:KeepS B S C D):KeepS B S A D:=⟨fun w0 j b=>k.1 w0 j (h.1 w0 j b),fun i hi o a=>k.2 i hi o (h.2 i hi o a)⟩
theorem KeepS.refl (B:Nat) (S:Nat->Prop) (A:World):KeepS B S A A:=⟨fun _ _ h=>h,fun _ _ _ h=>h⟩
theorem KeepS.alike {H B:Nat} (a:H<=B) (h1:∀k,S k->k<B) (A C:World) (h:Alike B A C):KeepS H S A C :=
 ⟨fun _ hs b=>h.ext b (by omega),fun k hk _ j=>(h.block k (Array.getElem?_eq_some_iff.1 j).1 (fun hn=>by have:=hn.1;have:=h1 k hk;omega)).trans j⟩
theorem KeepS.ext {A C:World} (h:Ext A C):KeepS B S A C :=
 ⟨fun _ _ b=>b.trans h,fun k _ _ j=>(Below.block h k (Array.getElem?_eq_some_iff.1 j).1).trans j⟩
theorem KeepS.row {A C:World} (h:KeepS B S A C) (hk:S k) (j:Row A k t cs):Row C k t cs:=h.2 k hk _ j
abbrev Pay:=Option Addr×Nat×List UInt8×Int
def Pay.val (x:Pay):Value:= .slice x.1 x.2.2.1.length x.2.1
def PayOk (W:World) (x:Pay):Prop:=∃base,Buf W base 5 x.1 x.2.2.1.length x.2.1 (x.2.2.1.map B8)
def pays (l:List Pay):List (List UInt8):=l.map fun x=>x.2.2.1
def NxF (b:List UInt8) (pre:List Pay) (x:Pay) (W:World):Prop:=PayOk W x/\∃r,splitF b=(pays (pre ++ [x])++(splitF r).1,(splitF r).2)
def FinF (b:List UInt8) (ew:Nat) (xs:List Pay) (W W':World):Prop:=(splitF b=(pays xs,0)/\Ext W W')\/∃k W3,k≠0/\splitF b=(pays xs,k)/\Ext W W3/\W'=W3.setCell ⟨ew,0,none⟩ (.int .i64 (k:Int))
def FrIter (b:List UInt8) (B b1 b2 ew:Nat) (w:World):Prop :=
 Iter prog 144 #[.pointer (some ⟨b1,0,none⟩),.pointer (some ⟨b2,0,none⟩)] (fun x:Pay=>#[.int .i64 x.2.2.2,x.val]) Ext (NxF b) (KeepS B fun k=>k=b1\/k=b2\/k=ew) (FinF b ew) w
theorem Kd (A:Option Addr) (n c:Nat) (b:List UInt8) (B b1 b2 ew:Nat) (w0 w:World) (h:In8 w0 A n c b) (hB:w0.heap.size<=B) (hw:Ext w0 w) (e0:n<=1000000000)
 (Z:Row w b1 24 #[.slice A n c]) (m0:Row w b2 174 #[.pointer (some ⟨ew,0,none⟩)]) (t0:Row w ew 25 #[.int .i64 0]):FrIter b B b1 b2 ew w:=by
 intro l J W hE p0 hY h0;replace Z:=Aa (Z.ext hE);replace m0:=Aa (m0.ext hE);replace t0:=Aa (t0.ext hE);replace hw:=Aa (hw.trans hE);clear hE;replace hY:=Aa hY;replace p0:=Aa p0;replace h0:=Aa h0;have i1:=Aa h.len;replace h:=Aa h;have g0:=Aa (fun A n c r W (h:In8 w0 A n c r) (hw:Ext w0 W) (e0:n<=1000000000)=>NK A n c r w0 W h hw e0);refine(callsIn_wide (n:=0)).1 ?_;refine callsIn_of_wp func144 rfl trivial ?_;simp only[ntmps144,List.size_toArray,List.length_cons,List.length_nil,Nat.reduceAdd,Nat.reduceSub,Array.replicate_succ,Array.replicate_zero,List.push_toArray,List.append_toArray,List.nil_append,List.cons_append];have k10:=Z.out.cell 0 rfl;gi_wp2_with fail
 gi_loopw [4] (fun s4 wr=>∃(A4:Option Addr) (n4 c4:Nat) (r:List UInt8) (pre:List Pay),s4 = .slice A4 n4 c4/\n4<=n/\Hid (In8 w0 A4 n4 c4 r)/\Hid (splitF b=(pays pre++(splitF r).1,(splitF r).2))/\Hid (J pre wr)/\Hid (Ext w0 wr)/\Hid (Row wr b1 24 #[.slice A n c])/\Hid (Row wr b2 174 #[.pointer (some ⟨ew,0,none⟩)])/\Hid (Row wr ew 25 #[.int .i64 0])) (fun s4 _=>match s4 with | .slice _ k _=>k | _=>0)
 case atStart=>exact⟨A,n,c,b,[],rfl,Nat.le_refl _,h,Aa rfl,h0,hw,Z,m0,t0⟩
 case round =>
  obtain⟨A4,n4,c4,r,pre,rfl,o1,hi,f0,hJ,hE,r1,r2,r3⟩:=hrel;have k1:=r1.out.cell 0 rfl;have k2:=r2.out.cell 0 rfl;have y0:=Aa hi.out.len;by_cases hz:n4=0
  ·have y1:¬ (0:Int)<n4:=by omega
   have j1:r = []:=List.length_eq_zero_iff.1 (by rw[<-y0.out];exact hz);subst j1;clear hY g0;gi_wp2_with fail
   go_end0
   refine⟨⟨_,rfl⟩,pre,_,hJ.out,.inl ⟨?_,Ext.refl _⟩⟩;have:=f0.out;rw[Mx,List.append_nil]at this;exact this
  ·have y1:(0:Int)<n4:=by omega
   have O:r ≠ []:=fun e=>by have:=y0.out;rw[e]at this;exact hz this
   have hg:=g0.out A4 n4 c4 r wr hi.out hE.out (by omega);have a:=f0.out;cases H:getF r with
   | error k =>
    rw[Mw O H,List.append_nil]at a;rw[H]at hg;have q1:k≠0:=by rcases NQ H with h | h <;> omega
    have f1:¬ (k:Int)=0:=by omega
    replace a:=Aa a;replace hg:=Aa hg;clear H hY O;gi_wp2_with fail;refine(callsIn_wide.2 hg.out).mono ?_;rintro e w2 ⟨j,rfl⟩;have k22:=(r2.out.ext j).cell 0 rfl;have k32:=(r3.out.ext j).cell 0 rfl;have k3f:=(r3.out.ext j).free 0;have d0:=Aa (p0.out _ _ _ hJ.out j);replace j:=Aa j;gi_wp2_with fail;exact bodyPost_ret (results_none rfl _ _ _) rfl ⟨⟨_,rfl⟩,pre,_,hJ.out,.inr ⟨k,_,q1,a.out,j.out,rfl⟩⟩
   | ok q =>
    obtain⟨p,r'⟩:=q;rw[I9 O H]at a;rw[H]at hg;have U:=(C1 H).1;have T:splitF b=(pays (pre ++ [(none,0,p,0)])++(splitF r').1,(splitF r').2):=by
     rw[a];simp[pays]
    replace a:=Aa a;replace T:=Aa T;replace hg:=Aa hg;clear H O;gi_wp2_with fail;refine(callsIn_wide.2 hg.out).mono ?_;rintro e w2 ⟨j,P,cp,A5,c5,base,rfl,G,I⟩;have r12:=Aa (r1.out.ext j);have r22:=Aa (r2.out.ext j);have r32:=Aa (r3.out.ext j);have k12:=r12.out.cell 0 rfl;have d0:=Aa (p0.out _ _ _ hJ.out j);have Y:splitF b=(pays (pre ++ [(P,cp,p,((n:Int) - r'.length))])++(splitF r').1,(splitF r').2):=by
     have:=T.out;simp only[pays,List.map_append,List.map_cons,List.map_nil]at this ⊢;exact this
    have x1:=hY.out pre (P,cp,p,((n:Int) - r'.length)) w2 d0.out ⟨⟨base,G⟩,r',Y⟩;obtain⟨fn,tmps,assign,body,hy,hR⟩:=x1;simp only[Pay.val]at hy hR;obtain⟨n5,v0⟩:=Ab r'.length;rw[<-v0]at I hy hR Y U ⊢;replace U:=Nat.lt_of_lt_of_eq U y0.out.symm;obtain⟨pl,x0⟩:=Ab p.length;rw[<-x0]at G hy ⊢;replace I:=Aa I;replace j:=Aa (hE.out.trans j);replace Y:=Aa Y;replace G:=Aa G;replace v0:=Aa v0;replace x0:=Aa x0;clear hY;gi_wp2_with fail;refine hR.mono ?_;rintro e W3 ⟨rfl,r0,q0⟩;have r13:=Aa (show Row W3 b1 24 #[.slice A n c] from q0.row (.inl rfl) r12.out);have r23:=Aa (show Row W3 b2 174 #[.pointer (some ⟨ew,0,none⟩)] from q0.row (.inr (.inl rfl)) r22.out);have o0:=Aa (q0.1 w0 hB j.out);have r33:=Aa (q0.row (.inr (.inr rfl)) r32.out);gi_wp2_with fail;exact⟨⟨A5,n5,c5,r',_,rfl,by omega,I,Y,Aa r0,o0,r13,r23,r33⟩,by omega⟩
end
end Go.Proofs.YtfifdilapbeiiaaGreat
