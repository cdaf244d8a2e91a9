/- Texts of one proof, joined. -/
import Derived.Test.YtfifdilapbeiiaaGreatPO08
import Derived.Laws.OwnMore
set_option linter.unusedSimpArgs false
set_option linter.unusedVariables false
set_option maxRecDepth 100000
set_option maxHeartbeats 16000000
namespace Go.Proofs.YtfifdilapbeiiaaGreat
open _root_.Go.Proofs.Tryz
variable {a0:Act} {listed:Array Bool} {ops:Array Oper} {vs:Array Value} {Q:Exit → Act → World → Prop} {la la0:Int} {L f l r r1 r2 s:List UInt8} {news xs:List Value} {M N c c' g g' i k m n:Nat} {S:Nat → Prop} {o:Oper} {A:Option Addr} {P:Program} {md:Region.Mode} {t:TypeId} {v:Value} {w w' w1 wx:World}
section
open Go.RowKit
def FilR (w:World) (g:Nat) (f:List UInt8):Prop:=∃A c,Row w g 172 #[.slice A f.length c]/\In8 w A f.length c f
theorem FilR.ext (h:FilR w g f) (j:Ext w w1):FilR w1 g f:=by
 obtain⟨A,c,b,hi⟩:=h;exact⟨A,c,b.ext j,hi.ext j⟩
theorem C2 (h:i<f.length):f.getD i 0=f[i]:=by rw[List.getD_eq_getElem?_getD,List.getElem?_eq_getElem h];rfl
theorem Pe {y:Nat} (h:y<256):bits .and .u8 (y:Int) 1=((y%2:Nat):Int):=by
 have j:∀k:Fin 256,bits .and .u8 ((k.val:Nat):Int) 1=((k.val%2:Nat):Int):=by decide +kernel
 exact j ⟨y,h⟩
theorem MZ (g k:Nat) (f:List UInt8) (w:World) (h:FilR w g f) (hk:k<8*f.length) (Z:k<1048576) :
 Calls prog 183 #[.pointer (some ⟨g,0,none⟩),.int .u64 (k:Int)] w fun e w'=>e = .returned (.bool (hasB f k))/\Ext w w':=by
 obtain⟨A,c,hr,hi⟩:=h;obtain⟨b,o,rfl,T⟩:=hi.bytes.at_ (by omega);have a:k / 8<f.length:=by omega
 have j:=T (k / 8) a;have H:=C2 a;have hb:hasB f k=decide ((f[k / 8].toNat / 2^(k%8)%2=1)):=by unfold hasB;rw[H]
 obtain⟨x,Y⟩:=Ab (f[k / 8].toNat);have O:x<256:=by rw[Y];exact f[k / 8].toNat_lt
 rw[<-Y]at j hb;rw[hb];have r0:=hr.cell 0 rfl;obtain⟨q,U⟩:=Ab (k / 8);obtain⟨m,J⟩:=Ab (k%8);rw[<-U]at j a;rw[<-J];have G:m<8:=by omega
 have h0:(k:Int) / 8=(q:Int):=by omega
 have I:(k:Int)%8=(m:Int):=by omega
 obtain⟨n,hn⟩:=Ab f.length;rw[<-hn]at r0 a;replace hn:=Aa hn;replace U:=Aa U;replace J:=Aa J;replace Y:=Aa Y;clear hb H T
 go_in
 go_wp2_with fail;go_ret;refine⟨Bf ?_,Ext.refl _⟩;have hy:x / 2^m<256:=Nat.lt_of_le_of_lt (Nat.div_le_self _ _) O;have e:(x:Int) / 2^m=((x / 2^m:Nat):Int):=by simp
 rw[e,Pe hy];rw[Bool.eq_iff_iff,beq_iff_eq,decide_eq_true_iff];omega
theorem KX (hk:k / 8<f.length) (h:hasB f k=true):setB f k=f:=by
 unfold setB;have j:(f.getD (k / 8) 0).toNat ||| 2^(k%8)=(f.getD (k / 8) 0).toNat:=by
  unfold hasB at h;have ht:(f.getD (k / 8) 0).toNat.testBit (k%8)=true:=by rw[Nat.testBit_eq_decide_div_mod_eq];exact h
  apply Nat.eq_of_testBit_eq;intro i;rw[Nat.testBit_or,Nat.testBit_two_pow];by_cases hi:k%8=i
  ·rw[<-hi,ht];rfl
  ·rw[decide_eq_false hi,Bool.or_false]
 rw[j,UInt8.ofNat_toNat];apply List.ext_getElem (by rw[List.length_set]);intro i h1 h2;rw[List.getElem_set];split
 ·rename_i e;subst e;exact C2 hk
 ·rfl
def FilO (w:World) (base g:Nat) (f:List UInt8):Prop:=∃b c cur,Row w g 172 #[.slice (some ⟨b,0,none⟩) f.length c]/\base<=b/\Row w b 5 cur/\f.length<=c/\c<=cur.size/\cur.toList.take f.length=f.map B8
theorem FilO.ext {base g:Nat} (h:FilO w base g f) (a:Ext w w1):FilO w1 base g f:=by
 obtain⟨b,c,cur,Y,hb,j,h1,h2,H⟩:=h;exact⟨b,c,cur,Y.ext a,hb,j.ext a,h1,h2,H⟩
theorem FilO.buf {base g:Nat} (h:FilO w base g f):∃A c,Row w g 172 #[.slice A f.length c]/\Buf w base 5 A f.length c (f.map B8):=by
 obtain⟨b,c,cur,H,hb,j,h1,h2,a⟩:=h;exact⟨_,c,H,List.length_map ..,h1,.inr ⟨b,cur,rfl,hb,j,h2,a⟩⟩
theorem FilO.fil {base g:Nat} (h:FilO w base g f):FilR w g f:=by
 obtain⟨A,c,j,hb⟩:=h.buf;exact⟨A,c,j,hb.in8⟩
def SetP (w:World) (base g:Nat) (f:List UInt8) (w':World):Prop:=FilO w' base g f/\∀w0,Ext w0 w->w0.heap.size<=base->Ext w0 w'
theorem Q8 (g k base:Nat) (f:List UInt8) (w:World) (h:FilO w base g f) (hk:k<8*f.length) (g0:k<1048576) :
 Calls prog 143 #[.pointer (some ⟨g,0,none⟩),.int .u64 (k:Int)] w fun e w'=>e = .returned (.bool (!hasB f k))/\SetP w base g (setB f k) w':=by
 have Y:=MZ g k f w h.fil hk g0;have j:k / 8<f.length:=by omega
 cases O:hasB f k with
 | true =>
  rw[O]at Y;have hs:=KX j O;rw[hs];replace Y:=Aa Y;replace hs:=Aa hs;replace O:=Aa O;replace h:=Aa h
  go_in
  go_wp2_with fail;refine Y.out.mono ?_;rintro e w1 ⟨rfl,a⟩;go_wp2_with fail;go_ret;exact⟨rfl,h.out.ext a,fun w0 h0 _=>h0.trans a⟩
 | false =>
  rw[O]at Y;replace O:=Aa O;obtain⟨b,c,cur,I,hb,H,h1,h2,h3⟩:=h;have J:cur[k / 8]? = some (B8 f[k / 8]):=by
   have:(cur.toList.take f.length)[k / 8]? = some (B8 f[k / 8]):=by rw[h3,List.getElem?_map,List.getElem?_eq_getElem j];rfl
   rw[List.getElem?_take,if_pos j]at this;simpa using this
  have j0:=C2 j;obtain⟨x,Z⟩:=Ab (f[k / 8].toNat);have G:x<256:=by rw[Z];exact f[k / 8].toNat_lt
  unfold B8 at J;rw[<-Z]at J;obtain⟨q,T⟩:=Ab (k / 8);obtain⟨m,hm⟩:=Ab (k%8);rw[<-T]at j;have U:m<8:=by omega
  have e0:(k:Int) / 8=(q:Int):=by omega
  have c0:(k:Int)%8=(m:Int):=by omega
  obtain⟨n,hn⟩:=Ab f.length;rw[<-hn]at I j;have k0:g≠b:=Row.unlike I H (by decide);replace hn:=Aa hn;replace T:=Aa T;replace hm:=Aa hm;replace Z:=Aa Z;replace Y:=Aa Y
  go_in
  go_wp2_with fail;refine Y.out.mono ?_;rintro e w1 ⟨rfl,a⟩;have r0:=(I.ext a).cell 0 rfl;have r1:=(H.ext a).cell (k / 8) J;rw[<-T.out]at r1;have r2:=(H.ext a).free q;replace a:=Aa a;go_wp2_with fail;go_ret;have x0:bits BinOp.or IntKind.u8 (x:Int) (2^m%256)=((x ||| 2^m:Nat):Int):=by
   have hp:2^m<256:=Nat.pow_lt_pow_right (n:=8) (by omega) U;have e:(2:Int)^m%256=((2^m:Nat):Int):=by
    have:∀k:Fin 8,(2:Int)^k.val%256=((2^k.val:Nat):Int):=by decide
    exact this ⟨m,U⟩
   rw[e,u8_or_nat _ _ G hp]
  rw[x0];have t0:=(H.ext a.out).put q (.int .u8 ((x ||| 2^m:Nat):Int));have v0:=(I.ext a.out).away (p:=⟨b,q,none⟩) (by simpa using k0) (.int .u8 ((x ||| 2^m:Nat):Int));have p0:B8 (UInt8.ofNat ((f.getD (k / 8) 0).toNat ||| 2^(k%8))) = .int .u8 ((x ||| 2^m:Nat):Int):=by
   unfold B8;rw[j0,<-Z.out,<-hm.out,UInt8.toNat_ofNat',Nat.mod_eq_of_lt (Rg G U)]
  refine⟨rfl,⟨b,c,_,by rw[Ce,<-hn.out];exact v0,hb,t0,by rw[Ce];exact h1,by rw[Array.size_setIfInBounds];exact h2,?_⟩,fun w0 h0 b0=>(h0.trans a.out).setCell (by simp only;omega) _⟩;unfold setB;rw[List.length_set,<-T.out,Array.toList_setIfInBounds,List.take_set,h3,List.map_set,T.out,p0]
theorem KZ (g:Nat) (f:List UInt8) (w:World) (h:FilR w g f) (j:f.length<=1000000000):Calls prog 142 #[.pointer (some ⟨g,0,none⟩)] w fun e w'=>e = .returned (.int .i64 ((8*f.length:Nat):Int))/\w'=w:=by
 obtain⟨A,c,b,hi⟩:=h;have r0:=b.cell 0 rfl;obtain⟨n,hn⟩:=Ab f.length;rw[<-hn]at r0 j ⊢;replace hn:=Aa hn
 go_in
 go_wp2_with fail;go_ret;exact⟨Fb (by omega),rfl⟩
theorem GL (g:Nat) (f:List UInt8) (w:World) (h:FilR w g f) (j:0<f.length):Calls prog 91 #[.pointer (some ⟨g,0,none⟩)] w fun e w'=>e = .returned (.bool false)/\w'=w:=by
 obtain⟨A,c,a,hi⟩:=h;have r0:=a.cell 0 rfl;obtain⟨n,hn⟩:=Ab f.length;rw[<-hn]at r0 j;have b:((n:Int)==0)=false:=beq_eq_false_iff_ne.2 (by omega);replace hn:=Aa hn
 go_in
 go_wp2_with fail;go_ret;exact⟨rfl,rfl⟩
def fplA (s:List UInt8) (m:Nat):Array Value:=#[.int .u64 (fpl s m 0:Int),.int .u64 (fpl s m 1:Int),.int .u64 (fpl s m 2:Int),.int .u64 (fpl s m 3:Int)]
theorem Dd (y:Int):IntKind.u64.wrap y=y%18446744073709551616:=by simp[IntKind.wrap,IntKind.bits,IntKind.signed]
theorem CA (h:m<18446744073709551616):IntKind.u64.wrap (m:Int)=(m:Int):=by rw[Dd];omega
theorem Ha (s:List UInt8) (m:Nat) (w:World) (hs:s.length<=1000000000) (hm:0<m) (p4:m<=1048576) :
 Calls prog 141 #[.string ⟨s.toArray⟩,.int .i64 (m:Int)] w fun e w'=>e = .returned (.agg (fplA s m))/\Ext w w':=by
 obtain⟨W0,J⟩:=Ab (w.alloc (.cells #[.int .u64 0,.int .u64 0,.int .u64 0,.int .u64 0] 228));obtain⟨c,w1,e0,hb,I,o1⟩:=FM s W0;clear o1;obtain⟨g4,O⟩:=Ab w.heap.size;have k1:Row W0 g4 228 #[.int .u64 0,.int .u64 0,.int .u64 0,.int .u64 0]:=by rw[J,O];exact Row.new w _ _
 have i1:=Aa (k1.ext I);have f0:Ext w W0:=by rw[J];exact(Ext.refl w).alloc _
 have c0:=Aa (f0.trans I);obtain⟨b8,l0⟩:=Ab W0.heap.size;rw[<-l0]at e0 hb;obtain⟨n,hn⟩:=Ab s.length;rw[<-hn]at e0 hs;obtain⟨h0,T⟩:=Ab (14695981039346656037:Nat);have d0:h0<18446744073709551616:=by omega
 have q0:h0=fnv []:=T;replace hb:=Aa hb;replace hn:=Aa hn;replace l0:=Aa l0;replace J:=Aa J;replace O:=Aa O;replace f0:=Aa f0;replace I:=Aa I;replace k1:=Aa k1;replace T:=Aa T;replace q0:=Aa q0
 go_in
 go_upto_region 2 with (fail)
 rw[<-J.out,<-O.out];go_wp2_with fail
 go_loopw [5,15] (fun s5 s15 wr=>∃(i h:Nat),s5 = .int .u64 (h:Int)/\s15 = .int .i64 (i:Int)/\i<=n/\h<18446744073709551616/\Hid (h=fnv (s.take i))/\wr=w1) (fun _ s15 _=>n - (intOf s15).toNat)
 case atStart=>exact⟨0,h0,by rw[T.out];rfl,rfl,by omega,d0,q0,rfl⟩
 case round =>
  obtain⟨i,h,rfl,rfl,hi,hh,hf,rfl⟩:=hrel;by_cases y1:i<n
  ·obtain⟨x,b0⟩:∃x,s[i]? = some x:=⟨_,List.getElem?_eq_getElem (by rw[<-hn.out];exact y1)⟩
   obtain⟨g,o,hA,m1⟩:=hb.out.at_ (by rw[<-hn.out];omega);obtain⟨rfl,rfl⟩:g=b8/\o=0:=by injection hA with hA;injection hA with h1 h2;exact⟨h1.symm,h2.symm⟩
   have d1:=m1 i (by rw[<-hn.out];exact y1);rw[(List.getElem?_eq_some_iff.1 b0).2,Nat.zero_add]at d1;have Y:=hf.out;have j0:fnv (s.take (i+1))=fnvS h x:=by rw[List.take_add_one,b0,Y];exact Kb _ x
   obtain⟨y,hy⟩:=Ab x.toNat;rw[<-hy]at d1;have v4:y<256:=by rw[hy];exact x.toNat_lt
   have q2:=u64_xor_nat h y hh (by omega);obtain⟨z,hz⟩:=Ab (h ^^^ y);rw[<-hz]at q2;have f1:IntKind.u64.wrap ((z:Int)*1099511628211)=((fnvS h x:Nat):Int):=by
    rw[Dd];unfold fnvS;rw[<-hy,<-hz];omega
   obtain⟨h2,k0⟩:=Ab (fnvS h x);have e1:h2<18446744073709551616:=by rw[k0];exact Jk h x
   rw[<-k0]at f1 j0;replace j0:=Aa j0.symm;replace k0:=Aa k0;replace hz:=Aa hz;replace hy:=Aa hy;replace b0:=Aa b0;clear Y m1 hA;go_wp2_with fail;exact⟨⟨i+1,h2,rfl,rfl,by omega,e1,j0,trivial⟩,by simp only[intOf];omega⟩
  ·obtain rfl:i=n:=by omega
   have Y:h=fnv s:=by rw[hf.out,List.take_of_length_le (by rw[<-hn.out];exact Nat.le_refl _)]
   obtain⟨fs,p0⟩:=Ab (h%4294967296);obtain⟨d,hd⟩:=Ab (h / 4294967296);obtain⟨sd,G⟩:=Ab (d ||| 1);have x1:d<4294967296:=by omega
   have k3:sd<4294967296:=by rw[G];exact Nat.or_lt_two_pow (n:=32) x1 (by decide)
   have i2:fs<4294967296:=by omega
   have x3:bits .and .u64 (h:Int) 4294967295=(fs:Int):=by
    rw[show (4294967295:Int)=((4294967295:Nat):Int)from rfl,u64_and_nat h 4294967295 hh (by omega),p0];exact congrArg _ (Nat.and_two_pow_sub_one_eq_mod h 32)
   have f3:(h:Int) / 4294967296=(d:Int):=by omega
   have k4:bits .or .u64 (d:Int) 1=(sd:Int):=by rw[G];exact u64_or_nat d 1 (by omega) (by omega)
   have r0:∀i,fpl s m i=(fs+i*sd)%m:=fun i=>by unfold fpl;rw[<-Y,<-p0,<-hd,<-G]
   have m4:=CA (m:=m) (by omega);replace p0:=Aa p0;replace hd:=Aa hd;replace G:=Aa G;replace r0:=Aa r0;replace Y:=Aa Y;clear T q0 d0;go_wp2_with fail;obtain⟨W2,H⟩:=Ab (wr.alloc (.cells #[.int .u64 0,.int .u64 0,.int .u64 0,.int .u64 0] 228));obtain⟨g10,b⟩:=Ab wr.heap.size;rw[<-H,<-b];have j1:Row W2 g10 228 #[.int .u64 0,.int .u64 0,.int .u64 0,.int .u64 0]:=by rw[H,b];exact Row.new wr _ _
   have i0:Ext w W2:=by rw[H];exact c0.out.alloc _
   have Z:Row W2 g4 228 #[.int .u64 0,.int .u64 0,.int .u64 0,.int .u64 0]:=by rw[H];exact i1.out.alloc _
   have q3:g4≠g10:=by have:=i1.out.lt;omega
   have o2:w.heap.size<=g10:=by rw[b];exact c0.out.size
   have a:w.heap.size<=g4:=by have:=O.out;omega
   replace j1:=Aa j1;replace i0:=Aa i0;replace Z:=Aa Z;replace H:=Aa H;replace b:=Aa b
   go_loopw [30] (fun s30 wv=>∃(j:Nat) (cs:Array Value),s30 = .int .i64 (j:Int)/\j<=4/\Hid (cs.size=4/\∀k,k<j->cs[k]? = some (.int .u64 (fpl s m k:Int)))/\Hid (Row wv g10 228 cs)/\Hid (Row wv g4 228 #[.int .u64 0,.int .u64 0,.int .u64 0,.int .u64 0])/\Hid (Ext w wv)) (fun s30 _=>4 - (intOf s30).toNat)
   case atStart=>exact⟨0,_,rfl,by omega,Aa ⟨rfl,fun k hk=>by omega⟩,j1,Z,i0⟩
   case round =>
    obtain⟨j,cs,rfl,hj,U,hr,g0,hE⟩:=hrel;by_cases a1:j<4
    ·obtain⟨p,hp⟩:=Ab (j*sd);have e3:p<17179869184:=by
      have:j*sd<=3*4294967296:=Nat.mul_le_mul (by omega) (by omega);omega
     obtain⟨t,ht⟩:=Ab (fs+p);obtain⟨v,hv⟩:=Ab (t%m);have o0:v=fpl s m j:=by rw[r0.out,hv,ht,hp]
     have j4:=CA (m:=j) (by omega);have h3:IntKind.u64.wrap ((j:Int)*(sd:Int))=(p:Int):=by
      rw[show (j:Int)*(sd:Int)=(p:Int)by rw[hp];simp];exact CA (by omega)
     have t3:(fs:Int)+(p:Int)=(t:Int):=by omega
     have t4:=CA (m:=t) (by omega);have d3:(t:Int)%(m:Int)=(v:Int):=by rw[hv];simp
     have q4:((m:Int)==0)=false:=beq_eq_false_iff_ne.2 (by omega);have f2:∃u,cs[j]? = some u:=⟨_,Array.getElem?_eq_getElem (by rw[U.out.1];exact a1)⟩
     obtain⟨u,hu⟩:=f2;have r3:=hr.out.cell j hu;have h4:=hr.out.free j;have a3:(j:Int)<4:=by omega
     replace hp:=Aa hp;replace ht:=Aa ht;replace hv:=Aa hv;replace o0:=Aa o0;replace hu:=Aa hu;go_wp2_with fail;refine⟨⟨j+1,cs.setIfInBounds j (.int .u64 (v:Int)),by congr 1,by omega,Aa ⟨by rw[Array.size_setIfInBounds];exact U.out.1,fun k hk=>?_⟩,Aa (hr.out.put j _),Aa (g0.out.away q3 _),Aa (hE.out.setCell o2 _)⟩,by simp only[intOf];omega⟩;rw[Array.getElem?_setIfInBounds];split
     ·rename_i e;subst e;rw[if_pos (by rw[U.out.1];exact a1),o0.out]
     ·exact U.out.2 k (by omega)
    ·have b3:¬ (j:Int)<4:=by omega
     have n0:cs=fplA s m:=by
      obtain⟨h1,h2⟩:=U.out;apply Array.ext_getElem?;intro k;by_cases hk:k<4
      ·rw[h2 k (by omega)];rcases (show k=0\/k=1\/k=2\/k=3 by omega)with rfl | rfl | rfl | rfl <;> rfl
      ·rw[Array.getElem?_eq_none (by omega),Array.getElem?_eq_none (by show 4<=k;omega)]
     rw[n0]at hr;unfold fplA at hr;obtain⟨v0,m0⟩:=Ab (fpl s m 0);obtain⟨v1,t0⟩:=Ab (fpl s m 1);obtain⟨v2,x0⟩:=Ab (fpl s m 2);obtain⟨v3,y0⟩:=Ab (fpl s m 3);rw[<-m0,<-t0,<-x0,<-y0]at hr;have i3:=g0.out.get;have o3:=g0.out.free;replace m0:=Aa m0;replace t0:=Aa t0;replace x0:=Aa x0;replace y0:=Aa y0;replace n0:=Aa n0;go_wp2_with (refine wpList_load_row rfl 228 (.tmp 10) rfl g10 rfl 228 _ (0,0) _ hr.out underlying228 rfl (by kernel_rfl) ?_);have p3:=(((g0.out.put 0 (.int .u64 (v0:Int))).put 1 (.int .u64 (v1:Int))).put 2 (.int .u64 (v2:Int))).put 3 (.int .u64 (v3:Int));have d2:=(((hE.out.setCell (p:=⟨g4,0,none⟩) a (.int .u64 (v0:Int))).setCell (p:=⟨g4,1,none⟩) a (.int .u64 (v1:Int))).setCell (p:=⟨g4,2,none⟩) a (.int .u64 (v2:Int))).setCell (p:=⟨g4,3,none⟩) a (.int .u64 (v3:Int));exact bodyPost_ret (results_cell_row rfl _ _ g4 228 #[.int .u64 (v0:Int),.int .u64 (v1:Int),.int .u64 (v2:Int),.int .u64 (v3:Int)] (0,0) _ rfl p3 underlying228 rfl (by kernel_rfl)) rfl ⟨by unfold fplA;rw[<-m0.out,<-t0.out,<-x0.out,<-y0.out],d2⟩
theorem Nd (hi:i<4) (W:World):(Instr.index 228 (.agg (fplA s m)) (.int .i64 (i:Int))).run prog W = .ok (.int .u64 (fpl s m i:Int)) W:=by
 unfold fplA;generalize fpl s m=F;rcases (show i=0\/i=1\/i=2\/i=3 by omega)with rfl | rfl | rfl | rfl
 ·show _=_
  kernel_rfl
 ·show _=_
  kernel_rfl
 ·show _=_
  kernel_rfl
 ·show _=_
  kernel_rfl
def pAdd (f s:List UInt8) (m:Nat):Nat->List UInt8
 | 0=>f
 | j+1=>setB (pAdd f s m j) (fpl s m j)
theorem Kt (f s:List UInt8) (m:Nat):∀j,(pAdd f s m j).length=f.length
 | 0=>rfl
 | j+1=>by rw[pAdd,Ce,Kt f s m j]
theorem PK (f s:List UInt8):pAdd f s (8*f.length) 4=addB f s:=rfl
theorem NM (f:List UInt8):∀l:List (List UInt8),(l.foldl addB f).length=f.length:=by
 intro l
 induction l generalizing f with
 | nil=>rfl
 | cons c l ih=>rw[List.foldl_cons,ih,EL]
theorem LF (f:List UInt8) {l:List (List UInt8)} {x:List UInt8} (h:l[i]? = some x):(l.take (i+1)).foldl addB f=addB ((l.take i).foldl addB f) x:=by
 rw[List.take_add_one,h,List.foldl_append];rfl
def AddP (w0:World) (base g:Nat) (f:List UInt8) (e:Ending) (w':World):Prop:=∃z:Int,e = .returned (.int .i64 z)/\FilO w' base g f/\Ext w0 w'
theorem Qp (g base:Nat) (f:List UInt8) (A:Option Addr) (n c:Nat) (ts:List (List UInt8)) (w0 w:World) (h:FilO w base g f) (hf:0<f.length) (y2:f.length<=131072) (hn:n=ts.length) (t0:Cells w0 A (ts.map strV)) (hE:Ext w0 w) (hb:w0.heap.size<=base) (a2:n<=1000000000) (hlen:∀t∈ts,t.length<=1000000000) :
 Calls prog 90 #[.pointer (some ⟨g,0,none⟩),.slice A n c] w fun e w'=>AddP w0 base g (ts.foldl addB f) e w':=by
 have y1:=Aa (GL g f w h.fil hf);obtain⟨m,hm⟩:=Ab (8*f.length);have g0:0<m:=by omega
 have e0:m<=1048576:=by omega
 have f1:=Aa (fun W (F:List UInt8) (O:FilO W base g F) (hl:F.length=f.length)=>KZ g F W O.fil (by omega));have d1:=Aa (fun s W (hs:s.length<=1000000000)=>Ha s m W hs g0 e0);have j1:=Aa (fun s i (hi:i<4) W=>Nd (s:=s) (m:=m) hi W);have e1:=Aa (fun s j W (F:List UInt8) (O:FilO W base g F) (hl:F.length=f.length)=>Q8 g (fpl s m j) base F W O (by rw[hl,<-hm];exact FC s j g0) (Nat.lt_of_lt_of_le (FC s j g0) e0));obtain⟨Z,hZ⟩:=Ab (ts.foldl addB f);rw[<-hZ];have r0:=h;obtain⟨b,cc,cur,hr,_⟩:=r0;have k0:=hr.cell 0 rfl;clear hr;replace hZ:=Aa hZ;replace hm:=Aa hm;replace h:=Aa h;replace hn:=Aa hn;replace t0:=Aa t0;replace hE:=Aa hE;replace hlen:=Aa hlen
 go_in
 go_wp2_with fail;refine y1.out.mono ?_;rintro e w1 ⟨rfl,hw⟩;obtain rfl:=hw.symm;go_wp2_with fail
 go_loopw [5,14] (fun s5 s14 wr=>∃(i:Nat) (z:Int),s5 = .int .i64 z/\s14 = .int .i64 (i:Int)/\i<=n/\Hid (FilO wr base g ((ts.take i).foldl addB f))/\Hid (Ext w0 wr)) (fun _ s14 _=>n - (intOf s14).toNat)
 case atStart=>exact⟨0,0,rfl,rfl,by omega,h,hE⟩
 case round =>
  obtain⟨i,z,rfl,rfl,hi,O,I⟩:=hrel;by_cases k1:i<n
  ·obtain⟨x,U⟩:∃x,ts[i]? = some x:=⟨_,List.getElem?_eq_getElem (by rw[<-hn.out];exact k1)⟩
   obtain⟨ga,o,hA,b0⟩:=t0.out.at_ (by rw[List.length_map,<-hn.out];omega);subst hA;have x1:=I.out.cell (b0 i (strV x) (by rw[List.getElem?_map,U];rfl));unfold strV at x1;have h2:=hlen.out x (List.mem_of_getElem? U);have G:=LF f U;obtain⟨F,T⟩:=Ab ((ts.take i).foldl addB f);rw[<-T]at O G;have J:F.length=f.length:=by rw[T];exact NM _ _
   have y0:=Aa (f1.out wr F O.out J);rw[J,<-hm.out]at y0;have q1:=Aa (fun W=>d1.out x W h2);have m0:=O.out;obtain⟨b2,cc2,cur2,i0,_⟩:=m0;have k2:=i0.cell 0 rfl;clear i0 b0;replace U:=Aa U;replace T:=Aa T;replace G:=Aa G;replace J:=Aa J;go_wp2_with fail;refine y0.out.mono ?_;rintro e w3 ⟨rfl,hw⟩;obtain rfl:=hw.symm;go_wp2_with fail;refine(q1.out _).mono ?_;rintro e w4 ⟨rfl,h0⟩;have h1:=Aa (O.out.ext h0);have v0:=Aa (I.out.trans h0);clear h0;go_wp2_with fail
   go_loopw [5,24] (fun s5 s24 wv=>∃(j:Nat) (z:Int),s5 = .int .i64 z/\s24 = .int .i64 (j:Int)/\j<=4/\Hid (FilO wv base g (pAdd F x m j))/\Hid (Ext w0 wv)) (fun _ s24 _=>4 - (intOf s24).toNat)
   case atStart=>exact⟨0,_,rfl,rfl,by omega,h1,v0⟩
   case round =>
    obtain⟨j,z2,rfl,rfl,hj,p0,q0⟩:=hrel;by_cases m1:j<4
    ·have hx:=j1.out x j m1;have c0:(j:Int)<4:=by omega
     have Y:=e1.out x j wr (pAdd F x m j) p0.out (by rw[Kt];exact J.out);have f0:setB (pAdd F x m j) (fpl x m j)=pAdd F x m (j+1):=rfl;rw[f0]at Y;obtain⟨p,hp⟩:=Ab (fpl x m j);rw[<-hp]at hx Y;obtain⟨v,hv⟩:=Ab (!hasB (pAdd F x m j) p);rw[<-hv]at Y;have m0:=p0.out;obtain⟨b3,cc3,cur3,l0,_⟩:=m0;have k3:=l0.cell 0 rfl;clear l0 f0;replace Y:=Aa Y;replace hp:=Aa hp;replace hv:=Aa hv;cases v with
     | true =>
      go_wp2_with fail;refine Y.out.mono ?_;rintro e w5 ⟨rfl,H,a⟩;replace H:=Aa H;replace a:=Aa (a w0 q0.out hb);go_wp2_with fail;exact⟨⟨j+1,_,rfl,by congr 1,by omega,H,a⟩,by simp only[intOf];omega⟩
     | false =>
      go_wp2_with fail;refine Y.out.mono ?_;rintro e w5 ⟨rfl,H,a⟩;replace H:=Aa H;replace a:=Aa (a w0 q0.out hb);go_wp2_with fail;exact⟨⟨j+1,_,rfl,by congr 1,by omega,H,a⟩,by simp only[intOf];omega⟩
    ·have c0:¬ (j:Int)<4:=by omega
     have x0:Hid (FilO wr base g ((ts.take (i+1)).foldl addB f)):=Aa (by
      rw[G.out,<-PK,J.out,<-hm.out];have:=p0.out;rw[show j=4 by omega]at this;exact this)
     go_wp2_with fail;exact⟨⟨i+1,_,rfl,rfl,by omega,x0,q0⟩,by simp only[intOf];omega⟩
  ·obtain rfl:i=n:=by omega
   have j0:FilO wr base g Z:=by
    have:=O.out;rw[List.take_of_length_le (by rw[<-hn.out];exact Nat.le_refl _)]at this;rw[hZ.out];exact this
   replace j0:=Aa j0;go_wp2_with fail;go_ret;exact⟨_,rfl,j0.out,I.out⟩
def NewF (w:World) (f:List UInt8) (e:Ending) (w':World):Prop:=∃g,e = .returned (.tuple #[.pointer (some ⟨g,0,none⟩),.int .i64 0])/\w.heap.size<=g/\FilO w' w.heap.size g f/\Ext w w'
theorem Tm (n:Nat) (w:World) (hn:n<=262144):Calls prog 89 #[.int .i64 (n:Int)] w fun e w'=>NewF w (List.replicate (filL n) 0) e w':=by
 obtain⟨x,J⟩:∃x:Nat,(x:Int)=max ((n*10:Nat):Int) 64:=⟨max (n*10) 64,by omega⟩
 have b:(x:Int)=max (10*(n:Int)) 64:=by omega
 obtain⟨y,a⟩:∃y:Nat,(y:Int)=min (x:Int) 1048576:=⟨min x 1048576,by omega⟩
 have H:=fun(W:World)=>Eg (P:=prog) #[3,3] 3 b W;have Y:=fun(W:World)=>AQ (P:=prog) #[3,3] 3 a W;obtain⟨k,hk⟩:=Ab ((y+7) / 8);have j:k=filL n:=by unfold filL;omega
 have Z:y<=1048576:=by omega
 have O:((y:Int)+7) / 8=(k:Int):=by omega
 have U:k<=131072:=by omega
 have T:∀W:World,(Instr.makeSlice 24 (.int .i64 (k:Int)) (.int .i64 (k:Int))).run prog W = .ok (.slice (some ⟨W.heap.size,0,none⟩) k k) (W.alloc (.cells (madeCells #[.int .u8 0] k) 5)):=fun W=>by
  have h:=run_make (P:=prog) W 24 5 _ _ underlying24 rfl rfl .i64 .i64 (k:Int) (k:Int) (by omega) (by omega) (by show (1:Int)*k<=_;omega) (by omega);rw[h];simp only[Int.toNat_natCast];show Result.ok _ (W.alloc (.cells (madeCells #[.int .u8 0] (k*1)) 5))=_;rw[Nat.mul_one]
 replace J:=Aa J;replace b:=Aa b;replace a:=Aa a;replace hk:=Aa hk;replace j:=Aa j
 go_in
 go_wp2_with fail;go_ret2;have h1:=Row.new w 5 (madeCells #[.int .u8 0] k);have h2:=Row.new (w.alloc (.cells (madeCells #[.int .u8 0] k) 5)) 172 #[.slice (some ⟨w.heap.size,0,none⟩) k k];rw[World.size_alloc]at h2;refine⟨w.heap.size+1,rfl,by omega,⟨w.heap.size,k,_,by rw[List.length_replicate,<-j.out];exact h2,Nat.le_refl _,h1.alloc _,by rw[List.length_replicate,<-j.out];exact Nat.le_refl _,by rw[size_madeCells];exact Nat.le_refl _,?_⟩,((Ext.refl w).alloc _).alloc _⟩;rw[List.length_replicate,<-j.out,toList_madeCells_one,List.take_of_length_le (by simp),List.map_replicate];rfl
def NewF1 (w:World) (f:List UInt8) (e:Ending) (w':World):Prop:=∃g,e = .returned (.pointer (some ⟨g,0,none⟩))/\w.heap.size<=g/\FilO w' w.heap.size g f/\Ext w w'
theorem QI (A:Option Addr) (n c:Nat) (ts:List (List UInt8)) (w:World) (hn:n=ts.length) (Y:Cells w A (ts.map strV)) (T:n<=1000000000) (hlen:∀t∈ts,t.length<=1000000000) :
 Calls prog 49 #[.slice A n c] w fun e w'=>NewF1 w (ofB ts) e w':=by
 obtain⟨x,G⟩:∃x:Nat,(x:Int)=min (n:Int) 262144:=⟨min n 262144,by omega⟩
 have I:=fun(W:World)=>AQ (P:=prog) #[3,3] 3 G W;have J:x=min ts.length 262144:=by omega
 have Z:=Aa (fun W=>Tm x W (by omega));have j:=Aa (fun g W (h:FilO W w.heap.size g (List.replicate (filL x) 0)) (U:Ext w W)=>Qp g w.heap.size (List.replicate (filL x) 0) A n c ts w W h (by rw[List.length_replicate];have:=EU x;omega) (by rw[List.length_replicate];have:=EU x;omega) hn Y U (Nat.le_refl _) T hlen);have H:ts.foldl addB (List.replicate (filL x) 0)=ofB ts:=by unfold ofB;rw[J]
 rw[H]at j;replace G:=Aa G;replace J:=Aa J;replace hn:=Aa hn;replace H:=Aa H;replace Y:=Aa Y;replace hlen:=Aa hlen
 go_in
 go_wp2_with fail;refine(Z.out _).mono ?_;rintro e w1 ⟨g,rfl,hg,O,U⟩;replace O:=Aa O;replace U:=Aa U;go_wp2_with fail;refine(j.out g _ O.out U.out).mono ?_;rintro e w2 ⟨z,rfl,a,b⟩;replace a:=Aa a;replace b:=Aa b;go_wp2_with fail;go_ret;exact⟨g,rfl,hg,a.out,b.out⟩
theorem LB (g:Nat) (f:List UInt8) (w:World) (h:FilR w g f) (J:0<f.length) (U:f.length<=131072) :
 Calls prog 50 #[.pointer (some ⟨g,0,none⟩)] w fun e w'=>NewB w f e w':=by
 have H:=Aa (GL g f w h J);obtain⟨A,c,Y,hi⟩:=h;have k0:=Y.cell 0 rfl;have j:=Aa (Cr A f.length c f w rfl hi.bytes hi.nil_ (by omega));obtain⟨n,hn⟩:=Ab f.length;rw[<-hn]at k0 j;replace hn:=Aa hn;replace Y:=Aa Y;replace hi:=Aa hi
 go_in
 go_wp2_with fail;refine H.out.mono ?_;rintro e w1 ⟨rfl,O⟩;obtain rfl:=O.symm;go_wp2_with fail;refine j.out.mono ?_;rintro e w2 ⟨A1,c1,rfl,b,a⟩;replace b:=Aa b;replace a:=Aa a;go_wp2_with fail;go_ret;exact⟨A1,c1,by rw[<-hn.out];rfl,by rw[<-hn.out];exact b.out,a.out⟩
theorem NO (A:Option Addr) (n c:Nat) (f:List UInt8) (w:World) (h:In8 w A n c f) (hf:8<=n) (T:n<=131072) :
 Calls prog 57 #[.slice A n c] w fun e w'=>NewF w f e w':=by
 have Y:=Aa (Cr A n c f w h.len h.bytes h.nil_ (by omega));have j:=Aa h.len;replace h:=Aa h
 go_in
 go_wp2_with fail;refine Y.out.mono ?_;rintro e w1 ⟨A1,c1,rfl,H,a⟩;replace H:=Aa H;replace a:=Aa a;go_wp2_with fail;go_ret2;have h2:=Row.new w1 172 #[.slice A1 n c1];obtain⟨G,J,U⟩:=H.out;rcases U with ⟨_,I⟩ | ⟨b,cur,rfl,hb,Z,O,ht⟩
 ·omega
 ·exact⟨w1.heap.size,rfl,a.out.size,⟨b,c1,cur,by rw[<-j.out];exact h2,hb,Z.alloc _,by rw[<-j.out];exact J,O,by rw[<-j.out];exact ht⟩,a.out.alloc _⟩
end
section
open Go.RowKit
def dstOf (ops:Array Oper) (j:Nat):Option Tmp:=(ops[j]?).bind (·.dst)
structure KnowOps (md:Region.Mode) (ops:Array Oper) (base:Array Bool) (N:Nat):Prop where
  acyc:(List.range ops.size).all (fun i=>((ops[i]?).map fun o=>o.after.all fun e=> !Region.binds md e || decide (e.on<i)).getD true)=true
  nodup:(ops.toList.filterMap (·.dst)).Nodup
  bound:ops.toList.all (fun o=>match o.dst with | some d=>decide (d<N) | none=>true)=true
  size:base.size=ops.size
def lack (ops:Array Oper) (listed:Array Bool):List Nat:=(List.range ops.size).filter fun i=> !listed.getD i true
theorem GW (hi:i∈lack ops listed):(lack ops (listed.setIfInBounds i true)).length<(lack ops listed).length:=by
 unfold lack at hi ⊢;obtain⟨H,a⟩:=List.mem_filter.1 hi;have b:i<listed.size:=by
  apply Decidable.byContradiction;intro h;rw[Array.getD_eq_getD_getElem?,Array.getElem?_eq_none (by omega)]at a;simp at a
 have h1:((List.range ops.size).filter fun j=> !(listed.setIfInBounds i true).getD j true)=(((List.range ops.size).filter fun j=> !listed.getD j true).filter fun j=>decide (j≠i)):=by
  rw[List.filter_filter];refine List.filter_congr fun j _=>?_;rw[Array.getD_eq_getD_getElem?,Array.getD_eq_getD_getElem?,Array.getElem?_setIfInBounds];by_cases h:i=j
  ·subst h;simp[b]
  ·have:¬ j=i:=fun e=>h e.symm;simp[h,this]
 rw[h1];exact List.length_filter_lt_length_iff_exists.2 ⟨i,hi,by simp⟩
theorem BU (hi:i∈Region.ready md ops listed):i∈lack ops listed/\∃o,ops[i]? = some o/\∀e∈o.after,Region.binds md e=true->listed.getD e.on false=true:=by
 unfold Region.ready at hi;obtain⟨a,h⟩:=List.mem_filter.1 hi;rw[Bool.and_eq_true]at h;refine⟨List.mem_filter.2 ⟨a,h.1⟩,?_⟩;cases j:ops[i]? with
 | none=>rw[j]at h;simp at h
 | some o =>
  rw[j]at h;simp only[Option.map_some,Option.getD_some]at h;refine⟨o,rfl,fun e b hb=>?_⟩;have h2:=h.2;rw[Array.all_eq_true_iff_forall_mem]at h2;have:=h2 e b;rw[hb]at this;simpa using this
theorem Ey {base listed:Array Bool} (hk:KnowOps md ops base N) (hs:listed.size=ops.size) (Z:Region.ready md ops listed = []):lack ops listed = []:=by
 apply Decidable.byContradiction;intro J;have key:∀i,i∉lack ops listed:=by
  intro i
  induction i using Nat.strongRecOn with
  | ind i ih =>
   intro hi;obtain⟨U,b⟩:=List.mem_filter.1 hi;have Y:i<ops.size:=List.mem_range.1 U;have:i∈Region.ready md ops listed:=by
    unfold Region.ready;refine List.mem_filter.2 ⟨U,?_⟩;rw[b,Bool.true_and];have T:ops[i]? = some ops[i]:=Array.getElem?_eq_getElem Y;rw[T,Option.map_some,Option.getD_some];rw[Array.all_eq_true_iff_forall_mem];intro e he;have j:=hk.acyc;rw[List.all_eq_true]at j;have h1:=j i U;rw[T,Option.map_some,Option.getD_some,Array.all_eq_true_iff_forall_mem]at h1;cases H:Region.binds md e with
    | false=>simp
    | true =>
    have h:=h1 e he;rw[H]at h;have h2:e.on<i:=by simpa using h
    have G:=ih e.on h2;have a:listed.getD e.on true=true:=by
     apply Decidable.byContradiction;intro I;exact G (List.mem_filter.2 ⟨List.mem_range.2 (by omega),by simpa using I⟩)
    have O:e.on<listed.size:=by omega
    rw[Array.getD_eq_getD_getElem?,Array.getElem?_eq_getElem O]at a;rw[Array.getD_eq_getD_getElem?,Array.getElem?_eq_getElem O];simp at a ⊢;rw[a]
    try simp
   rw[Z]at this;cases this
 cases b:lack ops listed with
 | nil=>exact J b
 | cons i t=>exact key i (by rw[b];exact List.mem_cons_self ..)
theorem FB (h:(ops.toList.filterMap (·.dst)).Nodup) {i j:Nat} {d:Tmp} (hi:dstOf ops i=some d) (O:dstOf ops j=some d):i=j:=by
 unfold dstOf at hi O;obtain⟨oi,J,b⟩:=Option.bind_eq_some_iff.1 hi;obtain⟨oj,U,a⟩:=Option.bind_eq_some_iff.1 O;have h1:ops.toList[i]? = some oi:=by simpa using J
 have h2:ops.toList[j]? = some oj:=by simpa using U
 generalize ops.toList=l at h h1 h2;clear J U hi O
 induction l generalizing i j with
 | nil=>simp at h1
 | cons x t ih =>
  have Y:∀ {k:Nat} {o:Oper},t[k]? = some o->o.dst=some d->d∈t.filterMap (·.dst):=fun {k o} hk T=>List.mem_filterMap.2 ⟨o,List.mem_of_getElem? hk,T⟩;cases H:x.dst with
  | none =>
   rw[List.filterMap_cons_none H]at h;cases i with
   | zero=>simp at h1;subst h1;rw[H]at b;cases b
   | succ i =>
    cases j with
    | zero=>simp at h2;subst h2;rw[H]at a;cases a
    | succ j=>exact congrArg (· + 1) (ih h (by simpa using h1) (by simpa using h2))
  | some dx =>
   rw[List.filterMap_cons_some H,List.nodup_cons]at h;cases i with
   | zero =>
    simp at h1;subst h1;rw[H]at b;cases b;cases j with
    | zero=>rfl
    | succ j=>exact absurd (Y (by simpa using h2) a) h.1
   | succ i =>
    cases j with
    | zero =>
     simp at h2;subst h2;rw[H]at a;cases a;exact absurd (Y (by simpa using h1) b) h.1
    | succ j=>exact congrArg (· + 1) (ih h.2 (by simpa using h1) (by simpa using h2))
structure KnowA (ops:Array Oper) (base:Array Bool) (a0:Act) (wx:World) (a:Act) (w:World):Prop where
  size:a.tmps.size=a0.tmps.size
  defers:a.defers=a0.defers
  same:∀(d:Nat) (_:(List.range ops.size).all (fun j=>base.getD j true || decide (dstOf ops j≠some d))=true:=by kernel_rfl),a.tmps[d]? = a0.tmps[d]?
  ext:Ext wx w
theorem DZ {S:World->Prop} {base:Array Bool} (hk:KnowOps md ops base a0.tmps.size) (H:Nat->Value->World->Prop)
 (hm:∀j v w w',H j v w->Ext w w'->H j v w') (hS:∀w,Ext wx w->S w)
 (q0:∀i o,ops[i]? = some o->base.getD i true=false->∀a w,KnowA ops base a0 wx a w->(∀e∈o.after,Region.binds md e=true->base.getD e.on true=false->∀d,dstOf ops e.on=some d->H e.on (a.tmps.getD d undef) w) ->
  if Region.wanted o (yielded ops a.tmps)=true then Oper.wp P o a w (fun a' w'=>∃v,a'=a.put o.dst v/\H i v w'/\Ext w w') Q else H i undef w)
 (v0:∀a w,KnowA ops base a0 wx a w->(∀j d,base.getD j true=false->dstOf ops j=some d->H j (a.tmps.getD d undef) w)->Q .normal a w) :
 ∀(fuel:Nat) (listed:Array Bool) (a:Act) (w:World),listed.size=ops.size->(lack ops listed).length<=fuel->(∀j,base.getD j true=true->listed.getD j true=true)->KnowA ops base a0 wx a w ->
  (∀j d,base.getD j true=false->listed.getD j true=true->dstOf ops j=some d->H j (a.tmps.getD d undef) w)->wpAnyH P md ops Q S fuel listed a w:=by
 have T:∀(listed:Array Bool) (a:Act) (w:World),lack ops listed = []->listed.size=ops.size->KnowA ops base a0 wx a w->(∀j d,base.getD j true=false->listed.getD j true=true->dstOf ops j=some d->H j (a.tmps.getD d undef) w)->Q .normal a w:=fun listed a w hl hs Y I=>v0 a w Y fun j d hb hd=>I j d hb (by
  apply Decidable.byContradiction;intro hn;have hj:j<ops.size:=by
   unfold dstOf at hd;obtain⟨o,ho,_⟩:=Option.bind_eq_some_iff.1 hd;exact(Array.getElem?_eq_some_iff.1 ho).1
  have:j∈lack ops listed:=List.mem_filter.2 ⟨List.mem_range.2 hj,by simpa using hn⟩;rw[hl]at this;cases this) hd
 intro fuel
 induction fuel with
 | zero =>
  intro listed a w hs hf hb Y I;have h0:lack ops listed = []:=List.length_eq_zero_iff.1 (by omega);refine⟨?_,T listed a w h0 hs Y I⟩;cases hr:Region.ready md ops listed with
  | nil=>rfl
  | cons i t =>
   have:=(BU (md:=md) (ops:=ops) (listed:=listed) (i:=i) (by rw[hr];exact List.mem_cons_self ..)).1;rw[h0]at this;cases this
 | succ fuel ih =>
  intro listed a w hs hf hb Y I;refine⟨fun h0=>T listed a w (Ey hk hs h0) hs Y I,fun i hi=>?_⟩;obtain⟨U,o,ho,t0⟩:=BU hi;have y0:=(List.mem_filter.1 U).2;have x0:i<listed.size:=by rw[hs];exact List.mem_range.1 (List.mem_filter.1 U).1
  have m0:base.getD i true=false:=by
   apply Decidable.byContradiction;intro hn;have:=hb i (by simpa using hn);rw[this]at y0;cases y0
  have O:=q0 i o ho m0 a w Y fun e he c0 d0 d hd=>I e.on d d0 (by
   have h1:=t0 e he c0;rw[Array.getD_eq_getD_getElem?]at h1 ⊢;cases hx:listed[e.on]? with
   | none=>simp
   | some b=>rw[hx]at h1;simpa using h1) hd
  have J:∀v w',H i v w'->Ext w w'->S w'/\wpAnyH P md ops Q S fuel (listed.setIfInBounds i true) (a.put o.dst v) w':=fun v w' hv hE=>by
   have l0:∀j,(listed.setIfInBounds i true).getD j true=true->j=i\/listed.getD j true=true:=fun j hj=>by
    by_cases e:j=i
    ·exact .inl e
    ·rw[Array.getD_eq_getD_getElem?,Array.getElem?_setIfInBounds_ne (fun h=>e h.symm),<-Array.getD_eq_getD_getElem?]at hj;exact .inr hj
   have Z:∀d,o.dst≠some d->(a.put o.dst v).tmps[d]? = a.tmps[d]? :=fun d hd=>by
    unfold Act.put;cases q1:o.dst with
    | none=>rfl
    | some d' =>
     simp only;rw[Array.getElem?_setIfInBounds_ne];intro e;exact hd (by rw[q1,e])
   have k1:(a.put o.dst v).tmps.size=a.tmps.size:=by
    unfold Act.put;cases o.dst with
    | none=>rfl
    | some d'=>simp
   have f0:(a.put o.dst v).defers=a.defers:=by
    unfold Act.put;cases o.dst <;> rfl
   have G:dstOf ops i=o.dst:=by unfold dstOf;rw[ho];rfl
   refine⟨hS _ (Y.ext.trans hE),ih _ _ _ (by simpa using hs) (by have:=GW U;omega) (fun j hj=>?_) ⟨by rw[k1];exact Y.size,by rw[f0];exact Y.defers,fun d hd=>?_,Y.ext.trans hE⟩ fun j d e0 n0 hd=>?_⟩
   ·have:=hb j hj;by_cases e:j=i
    ·subst e;rw[Array.getD_eq_getD_getElem?,Array.getElem?_setIfInBounds,if_pos rfl,if_pos x0];rfl
    ·rw[Array.getD_eq_getD_getElem?,Array.getElem?_setIfInBounds_ne (fun h=>e h.symm),<-Array.getD_eq_getD_getElem?];exact this
   ·rw[Z d (by
     rw[List.all_eq_true]at hd;have:=hd i (List.mem_filter.1 U).1;rw[m0,Bool.false_or]at this;rw[<-G];exact of_decide_eq_true this)]
    exact Y.same d hd
   ·by_cases e:j=i
    ·subst e;rw[G]at hd;have o0:d<a.tmps.size:=by
      have g0:=hk.bound;rw[List.all_eq_true]at g0;have:=g0 o (by simpa using Array.mem_of_getElem? ho);rw[hd]at this;rw[Y.size];exact of_decide_eq_true this
     have:(a.put o.dst v).tmps.getD d undef=v:=by
      unfold Act.put;rw[hd,Array.getD_eq_getD_getElem?,Array.getElem?_setIfInBounds,if_pos rfl,if_pos o0];rfl
     rw[this];exact hv
    ·have r0:o.dst≠some d:=fun h=>e (FB hk.nodup hd (G.trans h));rw[Array.getD_eq_getD_getElem?,Z d r0,<-Array.getD_eq_getD_getElem?];exact hm j _ _ _ (I j d e0 ((l0 j n0).resolve_left e) hd) hE
  unfold wpOp;rw[ho];simp only;split
  ·rename_i hw;rw[if_pos hw]at O;exact .inl (Oper.wp_mono (fun a' w' ⟨v,he,hv,hE⟩=>by rw[he];exact J v w' hv hE) O)
  ·rename_i hw;rw[if_neg hw]at O;exact J undef w O (Ext.refl w)
section
variable {P:Program} {ops:Array Oper} {Q:Exit->Act->World->Prop} {o:Oper} {a:Act} {w:World} {H:Value->World->Prop} {E0:Prop}
theorem Fg {f:Nat} {xs:Array Operand} {ts:Array TypeId} (J:o.op = .call { callee:= .value (.func f),args:=xs,argTypes:=ts }) (j:o.guard=none) (eg:∀args w,(callFunc f args).run P w = .ok (.enter f args) w) (O:xs.map a.eval=vs)
 (Y:Calls P f vs w fun e w'=>∃u,e = .returned u/\H u w'/\Ext w w'):if Region.wanted o (yielded ops a.tmps)=true then Oper.wp P o a w (fun a' w'=>∃v,a'=a.put o.dst v/\H v w'/\Ext w w') Q else E0:=by
 rw[if_pos (by simp[Region.wanted,j])];have U:(execOp a.eval o).run P w = .ok (.enter f vs) w:=by
  unfold execOp;simp[J,resolve,invoke,go_sem,eg,O]
 unfold Oper.wp;rw[U,Oper.upon_enter];refine Y.mono ?_;rintro e w' ⟨u,rfl,h,b⟩;exact⟨u,rfl,h,b⟩
theorem AC (Y:(execOp a.eval o).run P w = .ok (.value v) w') (j:o.guard=none) (h:H v w') (b:Ext w w'):if Region.wanted o (yielded ops a.tmps)=true then Oper.wp P o a w (fun a' w'=>∃v,a'=a.put o.dst v/\H v w'/\Ext w w') Q else E0:=by
 rw[if_pos (by simp[Region.wanted,j])];unfold Oper.wp;rw[Y,Oper.upon_value];exact⟨v,rfl,h,b⟩
theorem Ah {x:Operand} (h:o.op = .move x\/o.op = .assign x) (j:a.eval x=v):(execOp a.eval o).run P w = .ok (.value v) w:=by
 unfold execOp;rcases h with h | h <;> simp[h,j]
theorem AI {x:Operand} {q v:Value} (h:o.op = .load t x) (b:a.eval x=q) (j:(Instr.loadAt t q).run P w = .ok v w):(execOp a.eval o).run P w = .ok (.value v) w:=by
 unfold execOp;simp[h,b,j,Result.andThen]
theorem Ao {x:Operand} {q v:Value} (h:o.op = .fieldAddr t x k) (b:a.eval x=q) (j:(Instr.fieldAt t q k).run P w = .ok v w):(execOp a.eval o).run P w = .ok (.value v) w:=by
 unfold execOp;simp[h,b,j,Result.andThen]
theorem GK {x:Operand} (h:o.op = .extract x k) (b:a.eval x = .tuple vs) (j:(Instr.extract (.tuple vs) k).run P w = .ok v w):(execOp a.eval o).run P w = .ok (.value v) w:=by
 unfold execOp;simp[h,b,j,Result.andThen]
theorem C0 {parts:Array (Nat×Operand)} {vs:Array (Nat×Value)} (h:o.op = .buildSlice t n parts) (b:parts.map (fun p=>(p.1,a.eval p.2))=vs) (j:(Instr.buildSlice t n vs).run P w = .ok v w'):(execOp a.eval o).run P w = .ok (.value v) w':=by
 unfold execOp;simp[h,b,j,Result.andThen]
theorem Ac {t:Tmp} (h:a.tmps.getD t undef=v):a.eval (.tmp t)=v:=h
theorem Af {t:Tmp} (h:a.tmps[t]? = a0.tmps[t]?):a.eval (.tmp t)=a0.eval (.tmp t):=by
 show a.tmps.getD t undef=a0.tmps.getD t undef;rw[Array.getD_eq_getD_getElem?,Array.getD_eq_getD_getElem?,h]
end
def KStep (P:Program) (md:Region.Mode) (ops:Array Oper) (Q:Exit->Act->World->Prop) (base:Array Bool) (a0:Act) (wx:World) (H:Nat->Value->World->Prop) (i:Nat) (o:Oper):Prop :=
 ∀a w,KnowA ops base a0 wx a w->(∀(j d:Nat) (_:(o.after.any fun e=>e.on==j&&Region.binds md e)=true:=by kernel_rfl) (_:base.getD j true=false:=by kernel_rfl) (_:dstOf ops j=some d:=by kernel_rfl),H j (a.tmps.getD d undef) w) ->
  if Region.wanted o (yielded ops a.tmps)=true then Oper.wp P o a w (fun a' w'=>∃v,a'=a.put o.dst v/\H i v w'/\Ext w w') Q else H i undef w
def KSteps (P:Program) (md:Region.Mode) (ops:Array Oper) (Q:Exit->Act->World->Prop) (base:Array Bool) (a0:Act) (wx:World) (H:Nat->Value->World->Prop) (l:List Nat):Prop :=
 ∀i∈l,∀o,ops[i]? = some o->KStep P md ops Q base a0 wx H i o
section
variable {P:Program} {md:Region.Mode} {ops:Array Oper} {Q:Exit->Act->World->Prop} {base:Array Bool} {a0:Act} {wx:World} {H:Nat->Value->World->Prop}
theorem KSteps.nil:KSteps P md ops Q base a0 wx H []:=fun _ h=>absurd h List.not_mem_nil
theorem KSteps.cons {l:List Nat} (Y:ops[i]? = some o) (h:KStep P md ops Q base a0 wx H i o) (hs:KSteps P md ops Q base a0 wx H l):KSteps P md ops Q base a0 wx H (i::l):=fun j a o' b=>by
 rcases List.mem_cons.1 a with rfl | a
 ·rw[Y]at b;cases b;exact h
 ·exact hs j a o' b
theorem KSteps.all {l:List Nat} (hs:KSteps P md ops Q base a0 wx H l) (O:(List.range ops.size).all (fun i=>base.getD i true || l.contains i)=true) :
 ∀i o,ops[i]? = some o->base.getD i true=false->∀a w,KnowA ops base a0 wx a w->(∀e∈o.after,Region.binds md e=true->base.getD e.on true=false->∀d,dstOf ops e.on=some d->H e.on (a.tmps.getD d undef) w) ->
  if Region.wanted o (yielded ops a.tmps)=true then Oper.wp P o a w (fun a' w'=>∃v,a'=a.put o.dst v/\H i v w'/\Ext w w') Q else H i undef w:=fun i o T hb a w Z hd=>by
 rw[List.all_eq_true]at O;have h1:=O i (List.mem_range.2 (Array.getElem?_eq_some_iff.1 T).1);rw[hb,Bool.false_or]at h1;refine hs i (by simpa using h1) o T a w Z fun j d U b Y=>?_;rw[Array.any_eq_true']at U;obtain⟨e,G,h⟩:=U;rw[Bool.and_eq_true]at h;have J:e.on=j:=by simpa using h.1
 subst J;exact hd e G h.2 b d Y
def dsK (ops:Array Oper) (base:Array Bool):List Tmp:=(List.range ops.size).filterMap fun j=>if base.getD j true then none else dstOf ops j
theorem KnowA.act {a:Act} (h:KnowA ops base a0 wx a w) (ds:List Tmp) (H:dsK ops base=ds):a = { tmps:=ds.foldl (fun t d=>t.setIfInBounds d (a.tmps.getD d undef)) a0.tmps,defers:=a0.defers }:=by
 have key:∀(ds:List Tmp) (t0:Array Value),t0.size=a.tmps.size->(∀d,d∉ds->a.tmps[d]? = t0[d]?)->a.tmps=ds.foldl (fun t d=>t.setIfInBounds d (a.tmps.getD d undef)) t0:=by
  intro ds
  induction ds with
  | nil =>
   intro t0 hs hn;exact Array.ext_getElem? fun d=>hn d List.not_mem_nil
  | cons x xs ih =>
   intro t0 hs hn;refine ih _ (by simpa using hs) fun d hd=>?_;rw[Array.getElem?_setIfInBounds];by_cases e:x=d
   ·subst e;rw[if_pos rfl];by_cases b:x<t0.size
    ·rw[if_pos b,Array.getD_eq_getD_getElem?,Array.getElem?_eq_getElem (by rw[<-hs];exact b)];rfl
    ·rw[if_neg b,Array.getElem?_eq_none (by rw[<-hs];exact Nat.le_of_not_lt b)]
   ·rw[if_neg e];exact hn d fun U=>by
     rcases List.mem_cons.1 U with h | h
     ·exact e h.symm
     ·exact hd h
 have h1:=key ds a0.tmps h.size.symm fun d hd=>h.same d (by
  rw[List.all_eq_true];intro j J;cases hb:base.getD j true with
  | true=>rfl
  | false =>
   rw[Bool.false_or];refine decide_eq_true fun Y=>hd ?_;rw[<-H];exact List.mem_filterMap.2 ⟨j,J,by rw[hb];exact Y⟩)
 rw[<-h1,<-h.defers]
theorem FF {Hs:List (Value->World->Prop)} (h:∀p∈Hs,∀v w w',p v w->Ext w w'->p v w') (j:Nat) (v:Value) (w w':World) (b:(Hs.getD j fun _ _=>True) v w) (H:Ext w w'):(Hs.getD j fun _ _=>True) v w':=by
 rw[List.getD_eq_getElem?_getD]at b ⊢;cases a:Hs[j]? with
 | none=>trivial
 | some p =>
  rw[a]at b;exact h p (List.mem_of_getElem? a) v w w' b H
end
end
section
open Go.RowKit
theorem Bz {b k:Nat} (h:w.cell? ⟨b,k,none⟩=some v):(Instr.loadAt 3 (.pointer (some ⟨b,k,none⟩))).run prog w = .ok v w:=by
 go_simp
theorem Bn (w:World) (b:Nat):(Instr.fieldAt 79 (.pointer (some ⟨b,0,none⟩)) 2).run prog w = .ok (.pointer (some ⟨b,2,none⟩)) w/\(Instr.fieldAt 79 (.pointer (some ⟨b,0,none⟩)) 3).run prog w = .ok (.pointer (some ⟨b,3,none⟩)) w/\(Instr.fieldAt 79 (.pointer (some ⟨b,0,none⟩)) 4).run prog w = .ok (.pointer (some ⟨b,4,none⟩)) w/\(Instr.fieldAt 79 (.pointer (some ⟨b,0,none⟩)) 5).run prog w = .ok (.pointer (some ⟨b,5,none⟩)) w/\(Instr.fieldAt 79 (.pointer (some ⟨b,0,none⟩)) 6).run prog w = .ok (.pointer (some ⟨b,6,none⟩)) w:=by
 refine⟨?_,?_,?_,?_,?_⟩ <;> go_simp
theorem QA (w:World) (a b c d e:Int):(Instr.buildSlice 43 5 #[(0,.int .i64 a),(1,.int .i64 b),(2,.int .i64 c),(3,.int .i64 d),(4,.int .i64 e)]).run prog w = .ok (.slice (some ⟨w.heap.size,0,none⟩) 5 5) (w.alloc (.cells #[.int .i64 a,.int .i64 b,.int .i64 c,.int .i64 d,.int .i64 e] 3)):=by
 go_simp
theorem Ru (w:World) (a b c d e f:Option Addr) (na nb nc nd ne nf ca cb cc cd ce cf:Nat):(Instr.buildSlice 22 6 #[(0,.slice a na ca),(1,.slice b nb cb),(2,.slice c nc cc),(3,.slice d nd cd),(4,.slice e ne ce),(5,.slice f nf cf)]).run prog w = .ok (.slice (some ⟨w.heap.size,0,none⟩) 6 6) (w.alloc (.cells #[.slice a na ca,.slice b nb cb,.slice c nc cc,.slice d nd cd,.slice e ne ce,.slice f nf cf] 24)):=by
 go_simp
def kEq (u:Value) (v:Value) (_:World):Prop:=v=u
def kSl (D:List UInt8) (v:Value) (w:World):Prop:=∃A c b,v = .slice A D.length c/\Buf w b 5 A D.length c (D.map B8)
def kFi (D:List UInt8) (v:Value) (w:World):Prop:=∃g b,v = .pointer (some ⟨g,0,none⟩)/\FilO w b g D
def kRi (a b c d e:Int) (v:Value) (w:World):Prop:=∃g,v = .slice (some ⟨g,0,none⟩) 5 5/\Row w g 3 #[.int .i64 a,.int .i64 b,.int .i64 c,.int .i64 d,.int .i64 e]
def kSx (v1 v3 v4:Value) (DT D7 DV:List UInt8) (v:Value) (w:World):Prop:=∃g BT cT bT BY cY bY BV cV bV,v = .slice (some ⟨g,0,none⟩) 6 6/\Cells w (some ⟨g,0,none⟩) [v1,.slice BT DT.length cT,v3,v4,.slice BY D7.length cY,.slice BV DV.length cV] /\
 Buf w bT 5 BT DT.length cT (DT.map B8)/\Buf w bY 5 BY D7.length cY (D7.map B8)/\Buf w bV 5 BV DV.length cV (DV.map B8)
def kTu (base:Nat) (J:List UInt8) (v:Value) (w:World):Prop:=∃A c,v = .tuple #[.slice A J.length c,.int .i64 0]/\Own8 w base A J.length c J
def kSj (base:Nat) (J:List UInt8) (v:Value) (w:World):Prop:=∃A c,v = .slice A J.length c/\Own8 w base A J.length c J
theorem Pv (u:Value) (v:Value) (w w':World) (h:kEq u v w) (_:Ext w w'):kEq u v w':=h
theorem Sb (D:List UInt8) (v:Value) (w w':World) (h:kSl D v w) (j:Ext w w'):kSl D v w':=by obtain⟨A,c,b,h1,h2⟩:=h;exact⟨A,c,b,h1,h2.ext j⟩
theorem R4 (D:List UInt8) (v:Value) (w w':World) (h:kFi D v w) (j:Ext w w'):kFi D v w':=by obtain⟨g,b,h1,h2⟩:=h;exact⟨g,b,h1,h2.ext j⟩
theorem R9 (a b c d e:Int) (v:Value) (w w':World) (h:kRi a b c d e v w) (j:Ext w w'):kRi a b c d e v w':=by obtain⟨g,h1,h2⟩:=h;exact⟨g,h1,h2.ext j⟩
theorem Sc (v1 v3 v4:Value) (DT D7 DV:List UInt8) (v:Value) (w w':World) (h:kSx v1 v3 v4 DT D7 DV v w) (j:Ext w w'):kSx v1 v3 v4 DT D7 DV v w':=by
 obtain⟨g,BT,cT,bT,BY,cY,bY,BV,cV,bV,h1,h2,b,a,H⟩:=h;exact⟨g,BT,cT,bT,BY,cY,bY,BV,cV,bV,h1,h2.ext j,b.ext j,a.ext j,H.ext j⟩
theorem Sd (base:Nat) (J:List UInt8) (v:Value) (w w':World) (h:kTu base J v w) (j:Ext w w'):kTu base J v w':=by obtain⟨A,c,h1,h2⟩:=h;exact⟨A,c,h1,h2.1,h2.2.ext j⟩
theorem Sa (base:Nat) (J:List UInt8) (v:Value) (w w':World) (h:kSj base J v w) (j:Ext w w'):kSj base J v w':=by obtain⟨A,c,h1,h2⟩:=h;exact⟨A,c,h1,h2.1,h2.2.ext j⟩
theorem LY {X:World} {D:List UInt8} {f:Nat} (h:Calls prog f vs X fun e w'=>NewB X D e w'):Calls prog f vs X fun e w'=>∃u,e = .returned u/\kSl D u w'/\Ext X w':=h.mono (by
 rintro e w' ⟨A,c,rfl,hb,j⟩;exact⟨_,rfl,⟨A,c,_,rfl,hb⟩,j⟩)
end
section
open Go.RowKit Go.Maps
theorem IdxM.look {rows:List (List UInt8×List Po)} (h:IdxM w M rows) {r:List UInt8×List Po} (H:r∈rows) (hs:r.1.length<=9223372036854775807) :
 ∃(ps:List PoC) (A:Option Addr) (c:Nat),psP ps=r.2/\PosOk w A ps/\(∀a,A=some a->a.spot=none)/\ps.length<=c/\∀W,Ext w W->(Instr.lookup 94 (.map (some M)) (.string ⟨r.1.toArray⟩) false).run prog W = .ok (.slice A ps.length c) W:=by
 obtain⟨L,J,j⟩:=h;obtain⟨ps,A,c,b,h1,h2,U,O⟩:=j r H;refine⟨ps,A,c,h1,h2,U,O,fun W T=>?_⟩;have G:(zeroValue 47).run prog W = .ok (.slice none 0 0) W:=by kernel_rfl
 rcases (J.ext T).look Kk underlying94 (DJ hs) G false with ⟨u,Z,H⟩ | ⟨Y,_⟩
 ·rw[J.unique Z b]at H;exact H
 ·exact absurd rfl (Y _ b)
theorem MR:Elem prog 97 100 4 40:=⟨underlying97,⟨_,_,rfl,rfl,rfl,rfl,rfl⟩,by omega,by omega⟩
theorem L9 (P:List Dc):∃a b c d e,partD P = [a,b,c,d,e]:=by
 cases P with
 | nil=>exact⟨_,_,_,_,_,rfl⟩
 | cons x t=>exact⟨_,_,_,_,_,rfl⟩
theorem RZ {X:World} {a b c d e:Int} (h:Row X g 3 #[.int .i64 a,.int .i64 b,.int .i64 c,.int .i64 d,.int .i64 e]):Cells X (some ⟨g,0,none⟩) ([a,b,c,d,e].map (Value.int .i64)) :=
 .inr ⟨g,0,rfl,fun i v j=>by
  rw[Nat.zero_add,h.get];simpa using j⟩
theorem Rf {X:World} {a b c d e f:Option Addr×Nat×List UInt8} (j:In8 X a.1 a.2.2.length a.2.1 a.2.2/\a.2.2.length<=16777216) (hb:In8 X b.1 b.2.2.length b.2.1 b.2.2/\b.2.2.length<=16777216) (H:In8 X c.1 c.2.2.length c.2.1 c.2.2/\c.2.2.length<=16777216) (hd:In8 X d.1 d.2.2.length d.2.1 d.2.2/\d.2.2.length<=16777216)
 (Y:In8 X e.1 e.2.2.length e.2.1 e.2.2/\e.2.2.length<=16777216) (J:In8 X f.1 f.2.2.length f.2.1 f.2.2/\f.2.2.length<=16777216):∀p ∈ [a,b,c,d,e,f],In8 X p.1 p.2.2.length p.2.1 p.2.2/\p.2.2.length<=16777216:=fun p h=>by
 simp only[List.mem_cons,List.not_mem_nil,or_false]at h;rcases h with rfl | rfl | rfl | rfl | rfl | rfl <;> assumption
theorem Dr {a:Act} {t:Tmp} (h:a.tmps.getD t undef=v):#[Operand.tmp t].map a.eval=#[v]:=by
 simp only[List.map_toArray,List.map_cons,List.map_nil,Ac h]
theorem Lb {rest:List Oper} {a:Act} {t e bytes:Nat} (E:Elem prog t e 1 bytes) (hb:Cells w (some ⟨g,0,none⟩) xs) (hr:Cells w (some ⟨g',0,none⟩) news) (s x:Operand)
 (ho:o.op = .call { callee:= .builtin .append,args:=#[s,x],argTypes:=#[t,t] }) (I:o.guard=none) (hs:a.eval s = .slice (some ⟨g,0,none⟩) n c) (hx:a.eval x = .slice (some ⟨g',0,none⟩) m c') (hn:xs.length=n) (hl:news.length=m) (h1:∀u∈news,u.oneCell'=true) (h0:n+m<=4294967296) (U:c<n+m)
 (h:∀A1 c1 w',Buf w' w.heap.size e A1 (n+m) c1 (xs++news)->Ext w w'->wpList prog ops Q rest (a.put o.dst (.slice A1 (n+m) c1)) w'):wpList prog ops Q (o::rest) a w:=by
 obtain⟨i,z,hi,hz,h3,h4,h5⟩:=E.hi;have Y:(n+m)*bytes<=140737488355328:=Nat.le_trans (Nat.mul_le_mul h0 E.hb) (by omega);have H:∀ {g:Nat} {ys:List Value},Cells w (some ⟨g,0,none⟩) ys->∀j u,ys[j]? = some u->w.cell? ((⟨g,0,none⟩:Addr).add j)=some u:=fun {g ys} O j u T=>by
  rcases O with O | ⟨g1,o1,Z,O⟩
  ·rw[O]at T;cases T
  ·cases Z;rw[Addr.add_lit];exact O j u T
 refine wpList_append_grows w I s x t ho e i z 1 bytes E.ht hi hz h3 h4 h5 (by omega) (some ⟨g,0,none⟩) n c xs hs (fun Z=>by cases Z) (by omega) (fun b G j u T=>by cases G;exact H hb j u T) ⟨g',0,none⟩ m c' news hx (by omega) (H hr) h1 U (by unfold maxLen;omega) Y fun v' w' J hg=>?_;obtain⟨A1,c1,rfl⟩:=G3 J;exact h A1 c1 w' (Buf.of_own J) ((Ext.refl w).grown hg (fun k hk=>by cases hk))
theorem Pd (a:Act) (v:Value):a.eval (.const v)=v:=rfl
theorem Fe (ds:List DocC) (A:Option Addr) (m c:Nat) (w:World) (U:m=ds.length) (h:DocsOk w A ds) (G:∀a,A=some a->a.spot=none) (Z:m<=c) (T:m<=1000000000) (H:okDs (dcs ds)=false\/m=0) :
 Calls prog 23 #[.slice A m c] w fun e w'=>e = .returned (.tuple #[.slice none 0 0,.int .i64 130])/\Ext w w':=by
 by_cases Y:okDs (dcs ds)=false
 ·have j:=Aa (Gh ds A m c w U h T Y);clear H h U
  go_in
  go_wp2_with fail;refine j.out.mono ?_;rintro e w1 ⟨rfl,b⟩;go_wp2_with fail;go_ret2;exact⟨rfl,b⟩
 ·have O:m=0:=H.resolve_left Y;have J:ds = []:=List.length_eq_zero_iff.1 (by omega);subst J;subst O;have j:=Du [] A 0 c w rfl h G Z rfl (by simp[dcs,blockD]);replace j:=Aa j;clear H h U Y
  go_in
  go_wp2_with fail;refine j.out.mono ?_;rintro e w1 ⟨B,cB,rfl,_,b⟩;go_wp2_with fail;go_ret2;exact⟨rfl,b⟩
theorem Cj (l:List En) (x:En):encells (l ++ [x])=encells l++x.cells:=by
 unfold encells;rw[List.flatMap_append];simp
theorem CY (ds:List DocC) (A:Option Addr) (m c:Nat) (w:World) (hm:m=ds.length) (h:DocsOk w A ds) (hA:∀a,A=some a->a.spot=none) (h8:m<=c) (hs:SmP (dcs ds)) (h0:0<m) :
 Calls prog 23 #[.slice A m c] w fun e w'=>OkB w (segL (dcs ds)) e w':=by
 have Z:=hs.seg;have f4:(dcs ds).length=m:=by unfold dcs;rw[List.length_map,hm]
 have r7:m<=65536:=by rw[<-f4];exact Z.n
 have g4:=Du ds A m c w hm h hA h8 hs.ok (by have:=hs.sz;omega);have x5:=Aa (fun W (hE:Ext w W)=>NW ds A m c W hm (h.ext hE) r7 (by have:=Z.pairs;omega));have m7:=Aa (fun W (hE:Ext w W)=>K4 ds A m c W hm (h.ext hE) (by omega) h0);have t7:=Aa (fun W (hE:Ext w W)=>OQ ds A m c W hm (h.ext hE) (by omega));obtain⟨P,hP⟩:=Ab (dcs ds);rw[<-hP]at Z g4 x5 m7 t7;obtain⟨R,hR⟩:=Ab (rowsD P);rw[<-hR]at x5;have i4:=Z.rows;have b3:=Z.each;have t6:=Z.posts;rw[<-hR]at i4 b3 t6;replace Z:=Aa Z;replace hP:=Aa hP;replace hR:=Aa hR;replace f4:=Aa f4;replace g4:=Aa g4;replace b3:=Aa b3;replace hm:=Aa hm;replace h:=Aa h;replace hs:=Aa hs
 go_in
 go_wp2_with fail;refine g4.out.mono ?_;rintro e w1 ⟨B1,c1,rfl,z3,r5⟩;have y5:(encDs P).length<=16777216:=Z.out.docs;obtain⟨n1,h4⟩:=Ab ((encDs P).length);rw[<-h4]at z3 y5 ⊢;replace h4:=Aa h4;replace z3:=Aa z3;go_wp2_with fail;refine(x5.out w1 r5).mono ?_;rintro e w2 ⟨B2,n2,c2,M,rfl,p0,d3,d4,t3⟩;rw[<-p0]at i4;replace p0:=Aa p0;replace d3:=Aa d3;replace d4:=Aa d4;have m4:=Aa (r5.trans t3);replace t3:=Aa t3;go_wp2_with fail;obtain⟨b2,I⟩:=Ab w2.heap.size;have v8:w.heap.size<=b2:=by rw[I];exact m4.out.size
 have n4:=Nat.le_of_eq I;replace I:=Aa I
 go_loopw [8,9,11,12,13,39] (fun s8 s9 s11 s12 s13 s39 wr=>∃(i nB cB cE:Nat) (BA EA:Option Addr) (v11 v12 v13:Value),s11=v11/\s12=v12/\s13=v13/\s39 = .int .i64 (i:Int)/\s8 = .slice BA nB cB/\s9 = .slice EA i cE/\i<=n2/\nB<=5000000/\Hid (nB=(postB (R.take i)).length)/\Hid (Buf wr b2 5 BA nB cB ((postB (R.take i)).map B8))/\Hid (wr.ownsRow b2 100 4 (.slice EA i cE) i (encells (enOf 0 (R.take i))))/\Hid (Ext w2 wr)/\b2<=wr.heap.size) (fun _ _ _ _ _ s39 _=>n2 - (intOf s39).toNat)
 case atStart=>exact⟨0,0,0,0,none,none,_,_,_,rfl,rfl,rfl,rfl,rfl,rfl,by omega,by omega,Aa rfl,Aa (Buf.nil _ _ _),Aa (World.ownsRow_nil _ _ _ _),Aa (Ext.refl _),n4⟩
 case round =>
  obtain⟨i,nB,cB,cE,BA,EA,v11,v12,v13,rfl,rfl,rfl,rfl,rfl,rfl,hi,z4,x2,c4,y3,G,b7⟩:=hrel;by_cases n7:i<n2
  ·obtain⟨⟨rt,rl⟩,hr⟩:∃r,R[i]? = some r:=⟨_,List.getElem?_eq_getElem (by rw[<-p0.out];exact n7)⟩
   have j4:=List.mem_of_getElem? hr;have t0:=b3.out _ j4;have q8:=DW (P:=P) (r:=(rt,rl)) (by rw[<-hR.out];exact j4);simp only at t0 q8;obtain⟨g2,o2,f7,a6⟩:=d3.out.cells.at_ (by rw[List.length_map,<-p0.out];omega);subst f7;have i6:=G.out.cell (a6 i (strV rt) (by rw[List.getElem?_map,hr];rfl));unfold strV at i6;obtain⟨ps,Ap,cp,q7,r6,p7,o6,k2⟩:=d4.out.look j4 (by simp only;omega);have k0:psP ps=rl:=q7;have y2:ps.length=rl.length:=by rw[<-k0];unfold psP;rw[List.length_map]
   obtain⟨np,p4⟩:=Ab ps.length;rw[<-p4]at k2 o6 y2;have l6:=k2 wr G.out;have k4:=E7 ps Ap np cp wr p4 (r6.ext G.out) p7 o6 (by rw[k0];exact t0.1) (by rw[k0];exact t0.2.2.2.1);rw[k0]at k4;have a2:postB (R.take (i+1))=postB (R.take i)++encPs rl:=by
    rw[List.take_add_one,hr,Cx];unfold postB;simp
   have t5:enOf 0 (R.take (i+1))=enOf 0 (R.take i) ++ [⟨rt,nB,(encPs rl).length,rl.length⟩]:=by
    rw[List.take_add_one,hr,GG,<-x2.out,Nat.zero_add];rfl
   have d2:(postB (R.take (i+1))).length<=5000000:=by
    refine Nat.le_trans ?_ t6;have h1:=Cx (R.take (i+1)) (R.drop (i+1));rw[List.take_append_drop]at h1;rw[h1,List.length_append];omega
   have c7:=t0.2.2.2.2;have z8:=t0.2.2.1;rw[a2,List.length_append,<-x2.out]at d2;replace t0:=Aa t0;replace a2:=Aa a2;replace t5:=Aa t5;replace k2:=Aa k2;replace k4:=Aa k4;replace p4:=Aa p4;replace hr:=Aa hr;replace y2:=Aa y2;clear j4 a6 q7 r6 k0;go_wp2_with fail;refine k4.out.mono ?_;rintro e w5 ⟨B5,c5,rfl,a3,d1⟩;have x8:=k2.out w5 (G.out.trans d1);obtain⟨n5,n0⟩:=Ab ((encPs rl).length);rw[<-n0]at a3 c7 d2 ⊢;have p6:=Aa (G.out.trans d1);have O:=d1.owns y3.out;have x1:=c4.out.ext d1;have a4:b2<=w5.heap.size:=Nat.le_trans b7 d1.size;replace a3:=Aa a3;replace n0:=Aa n0;replace O:=Aa O;replace x1:=Aa x1;have j2:((encPs rl).map B8).length=n5:=by rw[List.length_map];exact n0.out.symm
   have y8:np<=70000:=by have:=y2.out;omega
   have b4:w2.heap.size<=b2:=by rw[I.out];exact Nat.le_refl _
   replace j2:=Aa j2;clear l6 i6;go_wp2_with (first
    | (at_builtin;refine AS (us:= [.string ⟨rt.toArray⟩,.int .i64 (nB:Int),.int .i64 (n5:Int),.int .i64 (np:Int)]) (m:=1) MR O.out rfl (.tmp 50) (.tmp 61) rfl rfl rfl rfl rfl (by simp[Value.oneCell']) (by omega) a4 (fun A8 c8 w8 a5 o1 o7=>?_);have f3:=Ci O.out o1 x1.out (by decide);have d5:=(Ci O.out o1 a3.out.2 (by decide)).cells;have j5:=CX O.out o1 p6.out b4;have k7:b2<=w8.heap.size:=Nat.le_trans a4 o1.size;replace f3:=Aa f3;replace d5:=Aa d5;replace j5:=Aa j5;replace a5:=Aa a5;clear o1 o7)
    | (at_builtin;refine Al Aw f3.out d5.out (.tmp 63) (.tmp 64) rfl rfl rfl rfl rfl j2.out (Ai _) (by omega) k7 (fun A9 c9 w9 m0 v5 r0 r3=>?_);have b5:=Gr f3.out v5 a5.out (by decide);have g5:=r0 _ j5.out b4;have p8:b2<=w9.heap.size:=Nat.le_trans k7 v5.size;replace m0:=Aa m0;replace b5:=Aa b5;replace g5:=Aa g5;clear v5 r3 r0))
   go_roundw
   case rel =>
    refine⟨i+1,nB+n5,c9,c8,A9,A8,_,_,_,rfl,rfl,rfl,by first | rfl | (congr 1;omega),rfl,rfl,by omega,d2,Aa ?_,Aa ?_,Aa ?_,g5,p8⟩
    ·rw[a2.out,List.length_append,<-x2.out,<-n0.out]
    ·rw[a2.out,List.map_append];exact m0.out
    ·rw[t5.out,Cj];rw[show (⟨rt,nB,(encPs rl).length,rl.length⟩:En).cells = [.string ⟨rt.toArray⟩,.int .i64 (nB:Int),.int .i64 (n5:Int),.int .i64 (np:Int)] by rw[<-n0.out,<-y2.out];rfl];exact b5.out
   case measure=>simp only[intOf];omega
  ·have b0:R.take i=R:=List.take_of_length_le (by rw[<-p0.out];omega);rw[b0]at x2 c4 y3;have f6:i=n2:=by omega
   subst f6;obtain⟨w3,j8⟩:=Ab wr;subst j8;have m5:=BN y3.out;have o3:=J0 (enOf 0 R) EA i cE w3 (by rw[Cc];exact p0.out) (Cells.of_own y3.out) m5.2 m5.1 (by rw[hR.out];exact Z.out.ens);have h6:=Aa (m4.out.trans G.out);have b6:(encEs (enOf 0 R)).length<=16777216:=by rw[hR.out];exact Z.out.dic
   obtain⟨D6,k3⟩:=Ab (encEs (enOf 0 R));rw[<-k3]at o3 b6;replace k3:=Aa k3;replace o3:=Aa o3;clear m5;go_wp2_with fail;refine o3.out.mono ?_;rintro e w6 ⟨B6,c6,rfl,m6,x3⟩;have t4:=Aa (h6.out.trans x3);have f2:=m7.out w6 t4.out;obtain⟨lo,J,fi,la,nn,o0⟩:=L9 P;rw[o0]at f2;have k0:prtA [lo,J,fi,la,nn]=#[.int .i64 0,.int .i64 0,.int .i64 lo,.int .i64 J,.int .i64 fi,.int .i64 la,.int .i64 nn]:=rfl;rw[k0]at f2;replace f2:=Aa f2;replace o0:=Aa o0;have v4:=Aa m6.2;have j1:=Aa (z3.out.2.ext (t3.out.trans (G.out.trans x3)));have m1:=Aa (c4.out.ext x3);have x4:=Aa (d3.out.ext (G.out.trans x3));clear k0 m6;go_wp2_with fail;refine f2.out.mono ?_;rintro e w7 ⟨rfl,f0⟩;have m8:=Aa (t4.out.trans f0);obtain rfl:=h4.out;obtain rfl:=x2.out;have y4:(timesD 0 P).length<=16777216:=Z.out.times;have c0:8<=(ofB (R.map (·.1))).length/\(ofB (R.map (·.1))).length<=131072:=by rw[hR.out];exact Z.out.bits
   have d0:(vall [lo,J,fi,la,nn]).length<=16777216/\I64ok' lo/\I64ok' J/\I64ok' fi/\I64ok' la/\I64ok' nn:=by
    have h7:I64ok' lo/\I64ok' J/\I64ok' fi/\I64ok' la/\I64ok' nn:=by
     obtain⟨x0,v7⟩:∃x,ds[0]? = some x:=⟨_,List.getElem?_eq_getElem (by have:=hm.out;omega)⟩
     obtain⟨xl,x7⟩:∃x,ds[m - 1]? = some x:=⟨_,List.getElem?_eq_getElem (by have:=hm.out;omega)⟩
     have h1:=C7 hm.out v7 x7;rw[<-hP.out,o0.out]at h1;injection h1 with e1 h1;injection h1 with e2 h1;injection h1 with e3 h1;injection h1 with e4 h1;injection h1 with e5 h1;have b0:∀d∈P,I64ok' d.2.at_:=fun d hd=>by
      rw[hP.out]at hd;unfold dcs at hd;obtain⟨x,hx,rfl⟩:=List.mem_map.1 hd;exact(h.out.each x hx).2.1
     have q0:=(h.out.each x0 (List.mem_of_getElem? v7)).2;have ql:=(h.out.each xl (List.mem_of_getElem? x7)).2;rw[e1,e2,e3,e4,e5];exact⟨E5 _ _ q0.1 b0,Ea _ _ q0.1 b0,q0.2,ql.2,by unfold I64ok';omega⟩
    refine⟨?_,h7⟩;have h2:=De [lo,J,fi,la,nn] (fun x hx=>by
     simp only[List.mem_cons,List.not_mem_nil,or_false]at hx;obtain⟨q1,q2,q3,q4,q5⟩:=h7;rcases hx with rfl | rfl | rfl | rfl | rfl <;> assumption) 5
    exact Nat.le_trans h2 (by decide)
   have n6:Hid (∀x ∈ [lo,J,fi,la,nn],-9223372036854775808<=x/\x<=9223372036854775807):=Aa (fun x hx=>by
    simp only[List.mem_cons,List.not_mem_nil,or_false]at hx;obtain⟨_,q1,q2,q3,q4,q5⟩:=d0;rcases hx with rfl | rfl | rfl | rfl | rfl <;> assumption)
   have m2:i=(R.map (·.1)).length:=by rw[List.length_map];exact p0.out
   have v6:Cells w7 B2 ((R.map (·.1)).map strV):=by
    have h1:=(x4.out.ext f0).cells;rw[List.map_map];exact h1
   have l4:∀t∈R.map (·.1),t.length<=1000000000:=fun t ht=>by
    obtain⟨r,hr,rfl⟩:=List.mem_map.1 ht;have:=DW (P:=P) (r:=r) (by rw[<-hR.out];exact hr);omega
   have l7:i<=1000000000:=Nat.le_trans i4 (by decide);obtain⟨DT,a1⟩:∃D,D=timesD 0 P:=⟨_,rfl⟩
   obtain⟨D7,y1⟩:∃D,D=ofB (R.map (·.1)):=⟨_,rfl⟩
   obtain⟨DV,e0⟩:∃D,D=vall [lo,J,fi,la,nn]:=⟨_,rfl⟩
   rw[<-a1]at y4;rw[<-y1]at c0;rw[<-e0]at d0;replace m2:=Aa m2;replace l4:=Aa l4;replace a1:=Aa a1;replace y1:=Aa y1;replace e0:=Aa e0;obtain⟨D1,p3⟩:∃D,D=encDs P:=⟨_,rfl⟩
   obtain⟨DP,j3⟩:∃D,D=postB R:=⟨_,rfl⟩
   rw[<-p3]at j1 y5 ⊢;rw[<-j3]at m1 z4 ⊢;replace p3:=Aa p3;replace j3:=Aa j3;go_upto_region 22 with fail;obtain⟨wx,j0⟩:=Ab (w7.alloc (Obj.cells #[Value.int IntKind.i64 0,Value.int IntKind.i64 0,Value.int IntKind.i64 lo,Value.int IntKind.i64 J,Value.int IntKind.i64 fi,Value.int IntKind.i64 la,Value.int IntKind.i64 nn] 79));rw[<-j0];obtain⟨bp,i3⟩:=Ab w7.heap.size;rw[<-i3];have U:Ext w7 wx:=by rw[j0];exact(Ext.refl w7).alloc _
   have v0:Row wx bp 79 #[Value.int IntKind.i64 0,Value.int IntKind.i64 0,Value.int IntKind.i64 lo,Value.int IntKind.i64 J,Value.int IntKind.i64 fi,Value.int IntKind.i64 la,Value.int IntKind.i64 nn]:=by rw[j0,i3];exact Row.new w7 _ _
   have j6:=Aa (m8.out.trans U);have H1:=Aa (j1.out.ext (f0.trans U));have HA:=Aa (m1.out.ext (f0.trans U));have H6:=Aa (v4.out.ext (f0.trans U));have HS:=Aa (v6.ext U);have hX:Hid (Ext wx wx):=Aa (Ext.refl wx);replace v0:=Aa v0;replace j0:=Aa j0;replace i3:=Aa i3;clear f0 U v6 j1 m1 v4 x4;have h5:∀X,Ext wx X->Calls prog 48 #[.slice A m c] X fun e w'=>NewB X DT e w':=fun X hx=>by rw[a1.out];exact t7.out X (j6.out.trans hx)
   have w4:∀X,Ext wx X->Calls prog 49 #[.slice B2 i c2] X fun e w'=>NewF1 X D7 e w':=fun X hx=>by
    have h:=QI B2 i c2 (R.map (·.1)) X m2.out (HS.out.ext hx) l7 l4.out;rw[<-y1.out]at h;exact h
   have k5:∀X g b,FilO X b g D7->Calls prog 50 #[.pointer (some ⟨g,0,none⟩)] X fun e w'=>NewB X D7 e w':=fun X g b hf=>LB g D7 X hf.fil (Nat.lt_of_lt_of_le (by decide) c0.1) c0.2;have p5:∀X g,Row X g 3 #[.int .i64 lo,.int .i64 J,.int .i64 fi,.int .i64 la,.int .i64 nn]->Calls prog 51 #[.slice none 0 0,.slice (some ⟨g,0,none⟩) 5 5] X fun e w'=>NewB X DV e w':=fun X g hr=>by
    have h1:=Ma none (some ⟨g,0,none⟩) 0 0 5 5 [lo,J,fi,la,nn] [] X rfl (.inl rfl) (fun _=>rfl) rfl (RZ hr) (by decide) n6.out;rw[List.nil_append,<-e0.out]at h1;exact h1
   obtain⟨JN,i0⟩:=Ab (joinL (framesD P));have g6:joinL [D1,DT,DP,D6,D7,DV]=JN:=by rw[i0,p3.out,a1.out,j3.out,k3.out,y1.out,e0.out,<-o0.out,hR.out];rfl
   have r4:∀(X:World) g BT cT bT BY cY bY BV cV bV,Ext wx X->Cells X (some ⟨g,0,none⟩) [.slice B1 D1.length c1,.slice BT DT.length cT,.slice BA DP.length cB,.slice B6 D6.length c6,.slice BY D7.length cY,.slice BV DV.length cV]->Buf X bT 5 BT DT.length cT (DT.map B8)->Buf X bY 5 BY D7.length cY (D7.map B8)->Buf X bV 5 BV DV.length cV (DV.map B8) ->
    Calls prog 47 #[.slice (some ⟨g,0,none⟩) 6 6] X fun e w'=>∃u,e = .returned u/\kTu wx.heap.size JN u w'/\Ext X w':=fun X g BT cT bT BY cY bY BV cV bV hx hC hT hY hV=>by
    have h1:=NL (some ⟨g,0,none⟩) 6 6 [(B1,c1,D1),(BT,cT,DT),(BA,cB,DP),(B6,c6,D6),(BY,cY,D7),(BV,cV,DV)] X rfl hC (Rf ⟨(H1.out.ext hx).in8,y5⟩ ⟨hT.in8,y4⟩ ⟨(HA.out.ext hx).in8,Nat.le_trans z4 (by decide)⟩ ⟨(H6.out.ext hx).in8,b6⟩ ⟨hY.in8,Nat.le_trans c0.2 (by decide)⟩ ⟨hV.in8,d0.1⟩) (by decide);refine h1.mono ?_;rintro e w' ⟨AJ,cJ,rfl,hO,hE⟩;have a7:joinL (List.map (fun(x:Option Addr×Nat×List UInt8)=>x.2.2) [(B1,c1,D1),(BT,cT,DT),(BA,cB,DP),(B6,c6,D6),(BY,cY,D7),(BV,cV,DV)])=JN:=g6;rw[a7]at hO ⊢;exact⟨_,rfl,⟨AJ,cJ,rfl,hO.1,hO.2.lower hx.size⟩,hE⟩
   replace i0:=Aa i0;replace h5:=Aa h5;replace w4:=Aa w4;replace k5:=Aa k5;replace p5:=Aa p5;replace r4:=Aa r4
   go_cut [5,16] (fun s5 s16 wy=>∃AJ cJ,s5 = .int .i64 0/\s16 = .slice AJ JN.length cJ/\Hid (Own8 wy wx.heap.size AJ JN.length cJ JN)/\Hid (Ext w wy))
   case first =>
    have T:Ext wx wx.drew:=(Ext.refl wx).drew;refine wp_region_held_drew (S:=fun _=>True) (by kernel_rfl) trivial (fun _=>?_);refine DZ (base:=Array.replicate 27 false) (wx:=wx.drew) ⟨by kernel_rfl,of_decide_eq_true (by kernel_rfl),by kernel_rfl,by kernel_rfl⟩ (fun j v w=>([kEq (.slice B1 D1.length c1),kEq (.slice A m c),kSl DT,kEq (.slice BA DP.length cB),kEq (.slice B6 D6.length c6),kEq (.slice B2 i c2),kFi D7,kSl D7,kEq (.pointer (some ⟨bp,2,none⟩)),kEq (.int .i64 lo),kEq (.pointer (some ⟨bp,3,none⟩)),kEq (.int .i64 J),kEq (.pointer (some ⟨bp,4,none⟩)),kEq (.int .i64 fi),kEq (.pointer (some ⟨bp,5,none⟩)),kEq (.int .i64 la),kEq (.pointer (some ⟨bp,6,none⟩)),kEq (.int .i64 nn),kRi lo J fi la nn,kSl DV,kSx (.slice B1 D1.length c1) (.slice BA DP.length cB) (.slice B6 D6.length c6) DT D7 DV,kTu wx.heap.size JN,kTu wx.heap.size JN,kSj wx.heap.size JN,kEq (.int .i64 0),kSj wx.heap.size JN,kEq (.int .i64 0)].getD j fun _ _=>True) v w) (FF ?mono) (fun _ _=>trivial) ?hstep ?fin _ _ _ _ (by kernel_rfl) (Nat.le_of_eq (by kernel_rfl)) (fun _ h=>h) ⟨rfl,rfl,fun _ _=>rfl,Ext.refl _⟩ (fun j d h1 h2 _=>absurd (h1.symm.trans h2) (by simp))
    case mono =>
     intro p hp;simp only[List.mem_cons,List.not_mem_nil,or_false]at hp;rcases hp with rfl | rfl | rfl | rfl | rfl | rfl | rfl | rfl | rfl | rfl | rfl | rfl | rfl | rfl | rfl | rfl | rfl | rfl | rfl | rfl | rfl | rfl | rfl | rfl | rfl | rfl | rfl <;> first | exact Pv _ | exact Sb _ | exact R4 _ | exact R9 _ _ _ _ _ | exact Sc _ _ _ _ _ _ | exact Sd _ _ | exact Sa _ _
    case hstep =>
     apply KSteps.all (H:=(fun j v w=>([kEq (.slice B1 D1.length c1),kEq (.slice A m c),kSl DT,kEq (.slice BA DP.length cB),kEq (.slice B6 D6.length c6),kEq (.slice B2 i c2),kFi D7,kSl D7,kEq (.pointer (some ⟨bp,2,none⟩)),kEq (.int .i64 lo),kEq (.pointer (some ⟨bp,3,none⟩)),kEq (.int .i64 J),kEq (.pointer (some ⟨bp,4,none⟩)),kEq (.int .i64 fi),kEq (.pointer (some ⟨bp,5,none⟩)),kEq (.int .i64 la),kEq (.pointer (some ⟨bp,6,none⟩)),kEq (.int .i64 nn),kRi lo J fi la nn,kSl DV,kSx (.slice B1 D1.length c1) (.slice BA DP.length cB) (.slice B6 D6.length c6) DT D7 DV,kTu wx.heap.size JN,kTu wx.heap.size JN,kSj wx.heap.size JN,kEq (.int .i64 0),kSj wx.heap.size JN,kEq (.int .i64 0)].getD j fun _ _=>True) v w)) (l:= [0,1,2,3,4,5,6,7,8,9,10,11,12,13,14,15,16,17,18,19,20,21,22,23,24,25,26]);rotate_left
     ·kernel_rfl
     refine KSteps.cons rfl (fun a w Y hd=>?_) ?_
     ·exact AC (Ah (v:= .slice B1 D1.length c1) (.inl rfl) (Af (Y.same 4))) rfl rfl (Ext.refl w)
     refine KSteps.cons rfl (fun a w Y hd=>?_) ?_
     ·exact AC (Ah (v:= .slice A m c) (.inl rfl) (Af (Y.same 0))) rfl rfl (Ext.refl w)
     refine KSteps.cons rfl (fun a w Y hd=>?_) ?_
     ·exact Fg rfl rfl (enters_of func48 (by kernel_rfl) rfl) (Dr (hd 1 81)) (LY (h5.out w (T.trans Y.ext)))
     refine KSteps.cons rfl (fun a w Y hd=>?_) ?_
     ·exact AC (Ah (v:= .slice BA DP.length cB) (.inl rfl) (Af (Y.same 8))) rfl rfl (Ext.refl w)
     refine KSteps.cons rfl (fun a w Y hd=>?_) ?_
     ·exact AC (Ah (v:= .slice B6 D6.length c6) (.inl rfl) (Af (Y.same 14))) rfl rfl (Ext.refl w)
     refine KSteps.cons rfl (fun a w Y hd=>?_) ?_
     ·exact AC (Ah (v:= .slice B2 i c2) (.inl rfl) (Af (Y.same 6))) rfl rfl (Ext.refl w)
     refine KSteps.cons rfl (fun a w Y hd=>?_) ?_
     ·exact Fg rfl rfl (enters_of func49 (by kernel_rfl) rfl) (Dr (hd 5 85)) ((w4.out w (T.trans Y.ext)).mono (by rintro e w' ⟨g,rfl,_,hf,hE⟩;exact⟨_,rfl,⟨g,_,rfl,hf⟩,hE⟩))
     refine KSteps.cons rfl (fun a w Y hd=>?_) ?_
     ·obtain⟨g,b,hg,hf⟩:kFi D7 (a.tmps.getD 86 undef) w:=hd 6 86;exact Fg rfl rfl (enters_of func50 (by kernel_rfl) rfl) (Dr hg) (LY (k5.out w g b hf))
     refine KSteps.cons rfl (fun a w Y hd=>?_) ?_
     ·exact AC (Ao (q:= .pointer (some ⟨bp,0,none⟩)) rfl (Af (Y.same 15)) (Bn w bp).1) rfl rfl (Ext.refl w)
     refine KSteps.cons rfl (fun a w Y hd=>?_) ?_
     ·exact AC (AI (q:= .pointer (some ⟨bp,2,none⟩)) rfl (Ac (hd 8 88)) (Bz ((v0.out.ext (T.trans Y.ext)).cell 2 rfl))) rfl rfl (Ext.refl w)
     refine KSteps.cons rfl (fun a w Y hd=>?_) ?_
     ·exact AC (Ao (q:= .pointer (some ⟨bp,0,none⟩)) rfl (Af (Y.same 15)) (Bn w bp).2.1) rfl rfl (Ext.refl w)
     refine KSteps.cons rfl (fun a w Y hd=>?_) ?_
     ·exact AC (AI (q:= .pointer (some ⟨bp,3,none⟩)) rfl (Ac (hd 10 90)) (Bz ((v0.out.ext (T.trans Y.ext)).cell 3 rfl))) rfl rfl (Ext.refl w)
     refine KSteps.cons rfl (fun a w Y hd=>?_) ?_
     ·exact AC (Ao (q:= .pointer (some ⟨bp,0,none⟩)) rfl (Af (Y.same 15)) (Bn w bp).2.2.1) rfl rfl (Ext.refl w)
     refine KSteps.cons rfl (fun a w Y hd=>?_) ?_
     ·exact AC (AI (q:= .pointer (some ⟨bp,4,none⟩)) rfl (Ac (hd 12 92)) (Bz ((v0.out.ext (T.trans Y.ext)).cell 4 rfl))) rfl rfl (Ext.refl w)
     refine KSteps.cons rfl (fun a w Y hd=>?_) ?_
     ·exact AC (Ao (q:= .pointer (some ⟨bp,0,none⟩)) rfl (Af (Y.same 15)) (Bn w bp).2.2.2.1) rfl rfl (Ext.refl w)
     refine KSteps.cons rfl (fun a w Y hd=>?_) ?_
     ·exact AC (AI (q:= .pointer (some ⟨bp,5,none⟩)) rfl (Ac (hd 14 94)) (Bz ((v0.out.ext (T.trans Y.ext)).cell 5 rfl))) rfl rfl (Ext.refl w)
     refine KSteps.cons rfl (fun a w Y hd=>?_) ?_
     ·exact AC (Ao (q:= .pointer (some ⟨bp,0,none⟩)) rfl (Af (Y.same 15)) (Bn w bp).2.2.2.2) rfl rfl (Ext.refl w)
     refine KSteps.cons rfl (fun a w Y hd=>?_) ?_
     ·exact AC (AI (q:= .pointer (some ⟨bp,6,none⟩)) rfl (Ac (hd 16 96)) (Bz ((v0.out.ext (T.trans Y.ext)).cell 6 rfl))) rfl rfl (Ext.refl w)
     refine KSteps.cons rfl (fun a w Y hd=>?_) ?_
     ·have q0:a.tmps.getD 89 undef = .int .i64 lo:=hd 9 89;have q1:a.tmps.getD 91 undef = .int .i64 J:=hd 11 91;have q2:a.tmps.getD 93 undef = .int .i64 fi:=hd 13 93;have q3:a.tmps.getD 95 undef = .int .i64 la:=hd 15 95;have q4:a.tmps.getD 97 undef = .int .i64 nn:=hd 17 97;exact AC (C0 (vs:=#[(0,.int .i64 lo),(1,.int .i64 J),(2,.int .i64 fi),(3,.int .i64 la),(4,.int .i64 nn)]) rfl (by simp only[List.map_toArray,List.map_cons,List.map_nil,Ac q0,Ac q1,Ac q2,Ac q3,Ac q4]) (QA w lo J fi la nn)) rfl ⟨w.heap.size,rfl,Row.new w _ _⟩ ((Ext.refl w).alloc _)
     refine KSteps.cons rfl (fun a w Y hd=>?_) ?_
     ·obtain⟨g,hg,hr⟩:kRi lo J fi la nn (a.tmps.getD 98 undef) w:=hd 18 98;exact Fg (vs:=#[.slice none 0 0,.slice (some ⟨g,0,none⟩) 5 5]) rfl rfl (enters_of func51 (by kernel_rfl) rfl) (by simp only[List.map_toArray,List.map_cons,List.map_nil,Ac hg,Pd]) (LY (p5.out w g hr))
     refine KSteps.cons rfl (fun a w Y hd=>?_) ?_
     ·have q0:a.tmps.getD 80 undef = .slice B1 D1.length c1:=hd 0 80;obtain⟨BT,cT,bT,q1,hT⟩:kSl DT (a.tmps.getD 82 undef) w:=hd 2 82;have q2:a.tmps.getD 83 undef = .slice BA DP.length cB:=hd 3 83;have q3:a.tmps.getD 84 undef = .slice B6 D6.length c6:=hd 4 84;obtain⟨BY,cY,bY,q4,hY⟩:kSl D7 (a.tmps.getD 87 undef) w:=hd 7 87;obtain⟨BV,cV,bV,q5,hV⟩:kSl DV (a.tmps.getD 99 undef) w:=hd 19 99;exact AC (C0 (vs:=#[(0,.slice B1 D1.length c1),(1,.slice BT DT.length cT),(2,.slice BA DP.length cB),(3,.slice B6 D6.length c6),(4,.slice BY D7.length cY),(5,.slice BV DV.length cV)]) rfl (by simp only[List.map_toArray,List.map_cons,List.map_nil,Ac q0,Ac q1,Ac q2,Ac q3,Ac q4,Ac q5]) (Ru w B1 BT BA B6 BY BV _ _ _ _ _ _ _ _ _ _ _ _)) rfl ⟨w.heap.size,BT,cT,bT,BY,cY,bY,BV,cV,bV,rfl,AN w [.slice B1 D1.length c1,.slice BT DT.length cT,.slice BA DP.length cB,.slice B6 D6.length c6,.slice BY D7.length cY,.slice BV DV.length cV] _,hT.ext ((Ext.refl w).alloc _),hY.ext ((Ext.refl w).alloc _),hV.ext ((Ext.refl w).alloc _)⟩ ((Ext.refl w).alloc _)
     refine KSteps.cons rfl (fun a w Y hd=>?_) ?_
     ·obtain⟨g,BT,cT,bT,BY,cY,bY,BV,cV,bV,q0,hC,hT,hY,hV⟩:kSx (.slice B1 D1.length c1) (.slice BA DP.length cB) (.slice B6 D6.length c6) DT D7 DV (a.tmps.getD 100 undef) w:=hd 20 100;exact Fg rfl rfl (enters_of func47 (by kernel_rfl) rfl) (Dr q0) (r4.out w g BT cT bT BY cY bY BV cV bV (T.trans Y.ext) hC hT hY hV)
     refine KSteps.cons rfl (fun a w Y hd=>?_) ?_
     ·exact AC (Ah (.inl rfl) rfl) rfl (hd 21 101) (Ext.refl w)
     refine KSteps.cons rfl (fun a w Y hd=>?_) ?_
     ·obtain⟨AJ,cJ,q0,hO⟩:kTu wx.heap.size JN (a.tmps.getD 79 undef) w:=hd 22 79;exact AC (GK (v:= .slice AJ JN.length cJ) rfl (Ac q0) rfl) rfl ⟨AJ,cJ,rfl,hO⟩ (Ext.refl w)
     refine KSteps.cons rfl (fun a w Y hd=>?_) ?_
     ·obtain⟨AJ,cJ,q0,hO⟩:kTu wx.heap.size JN (a.tmps.getD 79 undef) w:=hd 22 79;exact AC (GK (v:= .int .i64 0) rfl (Ac q0) rfl) rfl rfl (Ext.refl w)
     refine KSteps.cons rfl (fun a w Y hd=>?_) ?_
     ·exact AC (Ah (.inr rfl) rfl) rfl (hd 23 102) (Ext.refl w)
     refine KSteps.cons rfl (fun a w Y hd=>?_) ?_
     ·exact AC (Ah (.inr rfl) rfl) rfl (hd 24 103) (Ext.refl w)
     exact KSteps.nil
    case fin =>
     intro a w9 Y hh;obtain⟨AJ,cJ,q16,l0⟩:kSj wx.heap.size JN (a.tmps.getD 16 undef) w9:=hh 25 16 (by kernel_rfl) (by kernel_rfl);have q5:a.tmps.getD 5 undef = .int .i64 0:=hh 26 5 (by kernel_rfl) (by kernel_rfl);have y0:=Y.act [80,81,82,83,84,85,86,87,88,89,90,91,92,93,94,95,96,97,98,99,100,101,79,102,103,16,5] (by kernel_rfl);have z7:=Aa (j6.out.trans (T.trans Y.ext));simp only[List.foldl_cons,List.foldl_nil]at y0;rw[q16,q5]at y0;replace l0:=Aa l0;clear Y hh q16 q5;obtain⟨fv,e6⟩:∃f:Nat->Value,∀d,a.tmps.getD d undef=f d:=⟨_,fun _=>rfl⟩
     simp only[e6]at y0;clear e6;subst y0;simp only[Bv,Bw,By];go_wp2_with fail
     go_meet
     case rel=>exact⟨AJ,cJ,rfl,rfl,l0,z7⟩
   case rest =>
    obtain⟨AJ,cJ,rfl,rfl,l0,k6⟩:=hcut;have d8:1<=JN.length:=by
     rw[i0.out];unfold framesD joinL;rw[List.flatMap_cons,List.length_append];have:1<=(frameL (encDs P)).length:=by
      have h2:(be4 (cnext 0 (vb (encDs P).length++encDs P))).length=4:=rfl;unfold frameL;rw[List.length_append,List.length_append,h2];omega
     omega
    obtain⟨gJ,e7⟩:∃g,AJ=some ⟨g,0,none⟩:=by
     obtain⟨q1,q2,q3⟩:=l0.out.2;rcases q3 with ⟨_,h0⟩ | ⟨g,_,h,_⟩
     ·omega
     ·exact⟨g,h⟩
    subst e7;have k8:=P4 wc #[.int .u8 76,.int .u8 83,.int .u8 69,.int .u8 71] 4 4;obtain⟨Wq,i1⟩:=Ab (wc.alloc (Obj.cells #[Value.int IntKind.u8 76,Value.int IntKind.u8 83,Value.int IntKind.u8 69,Value.int IntKind.u8 71] 5 (4,5)));have f1:Ext wc Wq:=by rw[i1];exact(Ext.refl wc).alloc _
    have o4:Cells Wq (some ⟨wc.heap.size,0,none⟩) (([76,83,69,71]:List UInt8).map B8):=by
     rw[i1];exact .inr ⟨wc.heap.size,0,rfl,fun i v hv=>by
      have e:([76,83,69,71]:List UInt8).map B8 = [Value.int IntKind.u8 76,Value.int IntKind.u8 83,Value.int IntKind.u8 69,Value.int IntKind.u8 71]:=rfl;rw[e]at hv;rw[Nat.zero_add,cell_of_row _ _ _ _ _ _ (heap_alloc_new wc _)];simpa using hv⟩
    have g8:w.heap.size<=wc.heap.size:=k6.out.size;have f5:Cells Wq (some ⟨gJ,0,none⟩) (JN.map B8):=(l0.out.2.ext f1).cells;have z5:(JN.map B8).length=JN.length:=List.length_map ..;have e8:JN.length<=200000000:=by
     have h1:=Cv (ps:=framesD P) (fun p hp=>by
      unfold framesD at hp;simp only[List.mem_cons,List.not_mem_nil,or_false]at hp;have q1:=Z.out.docs;have q2:=Z.out.times;have q3:=Z.out.posts;have q4:=Z.out.dic;have q5:=Z.out.bits;have q6:=d0.1;rw[e0.out,<-o0.out]at q6;rcases hp with rfl | rfl | rfl | rfl | rfl | rfl
      ·exact q1
      ·exact q2
      ·exact Nat.le_trans q3 (by decide)
      ·exact q4
      ·exact Nat.le_trans q5.2 (by decide)
      ·exact q6)
     rw[i0.out];exact Nat.le_trans h1 (by show 16777236*6<=_;decide)
    have g7:w.heap.size<=Wq.heap.size:=Nat.le_trans g8 f1.size;replace o4:=Aa o4;replace f5:=Aa f5;replace z5:=Aa z5;replace i1:=Aa i1;replace f1:=Aa f1;go_wp2_with (at_builtin;rw[<-i1.out];refine Lb Aw o4.out f5.out (.tmp 107) (.tmp 108) rfl rfl rfl rfl rfl z5.out (Ai _) (by omega) (by omega) (fun A9 c9 w9 m0 r0=>?_);replace m0:=Aa m0;replace r0:=Aa r0);go_ret2;have j7:segL (dcs ds) = [76,83,69,71]++JN:=by rw[<-hP.out,i0.out];rfl
    have r3:(segL (dcs ds)).length=4+JN.length:=by rw[j7,List.length_append];rfl
    refine⟨A9,c9,by rw[r3];rfl,⟨rfl,?_⟩,(k6.out.trans f1.out).trans r0.out⟩;rw[r3,j7,List.map_append];exact m0.out.lower g7
end
section
theorem DH:∀(l:List UInt8) (i n:Nat) (r:List UInt8),getV i l = .ok (n,r)->l=vb n++r/\(0<i->0<n)
 | [],i,n,r,h=>by unfold getV at h;cases h
 | x::l,i,n,r,h=>by
  have U:=x.toNat_lt;unfold getV at h;split at h
  ·cases h
  ·split at h
   ·cases h
   ·rename_i h2;split at h
    ·rename_i b;injection h with h;injection h with e1 e2;subst e1 e2;refine⟨?_,fun hi=>?_⟩
     ·rw[Gn b];simp
     ·rcases Nat.eq_zero_or_pos x.toNat with j | j
      ·exact absurd (.inr ⟨hi,j⟩) h2
      ·exact j
    ·rename_i b;split at h
     ·rename_i m r1 a;injection h with h;injection h with e1 e2;subst e1 e2;obtain⟨H,Y⟩:=DH l (i+1) m r1 a;have J:=Y (by omega);refine⟨?_,fun _=>by omega⟩;rw[Je (n:=x.toNat - 128+128*m) (by omega),show (x.toNat - 128+128*m) / 128=m by omega,show (x.toNat - 128+128*m)%128+128=x.toNat by omega,List.cons_append,<-H];simp
     ·cases h
theorem Kg {most:Nat} (h:getT most l = .ok (s,r)):l=txL s++r:=by
 unfold getT at h;split at h
 ·cases h
 ·rename_i n r0 j;split at h
  ·cases h
  ·split at h
   ·cases h
   ·injection h with h;injection h with h1 h2;have b:=(DH l 0 n r0 j).1;have hn:s.length=n:=by rw[<-h1,List.length_take];omega
    unfold txL;rw[hn,b,<-h1,<-h2,List.append_assoc,List.take_append_drop]
theorem Iz:∀(k:Nat) (l:List UInt8) (fs:List Fd) (r:List UInt8),getFs k l=some (fs,r)->l=putFs fs++r/\fs.length=k
 | 0,l,fs,r,h=>by
  unfold getFs at h;injection h with h;injection h with h1 h2;subst h1 h2;exact⟨rfl,rfl⟩
 | k+1,l,fs,r,h=>by
  unfold getFs at h;split at h
  ·cases h
  ·rename_i nm r1 h1;split at h
   ·cases h
   ·rename_i tx r2 h2;split at h
    ·cases h
    ·rename_i fs2 r3 j;injection h with h;injection h with e1 e2;subst e1 e2;obtain⟨b,hk⟩:=Iz k r2 fs2 r3 j;refine⟨?_,by rw[List.length_cons,hk]⟩;rw[Kg h1,Kg h2,b];unfold putFs;rw[List.flatMap_cons];unfold putF;simp
theorem OT {u:Nat}:zig (unzig u)=u:=by
 unfold zig unzig;split <;> split <;> omega
theorem Pk {e:Ev} (h:getE l=some (e,r)):l=putE e++r/\I64ok' e.at_/\checkE e.fs=0:=by
 unfold getE at h;split at h
 ·cases h
 ·rename_i u r1 h1;split at h
  ·cases h
  ·rename_i n r2 h2;split at h
   ·cases h
   ·split at h
    ·cases h
    ·rename_i fs r3 j;split at h
     ·rename_i b;injection h with h;injection h with e1 e2;subst e1 e2;obtain⟨a,hk⟩:=Iz n r2 fs r3 j;refine⟨?_,K6 (Ct h1),b⟩;unfold putE;simp only;rw[OT,hk,(DH l 0 u r1 h1).1,(DH r1 0 n r2 h2).1,a];simp
     ·cases h
def skipV:Nat->List UInt8->Option (List UInt8)
 | 0,l=>some l
 | k+1,l=>match getV 0 l with
  | .error _=>none
  | .ok (_,r)=>skipV k r
def readD:Nat->Int->List UInt8->Option (List Dc)
 | 0,_,_=>some []
 | k+1,last,l=>match getV 0 l with
  | .error _=>none
  | .ok (s,r)=>if 1099511627776<s then none else match getE r with
   | none=>none
   | some (e,r2)=>if 1099511627776<last+1+s then none else match readD k (last+1+s) r2 with
    | none=>none
    | some ds=>some ((last+1+s,e)::ds)
def decDs (b:List UInt8):Option (List Dc):=match getV 0 b with
 | .error _=>none
 | .ok (n,r)=>if 65536<n then none else match skipV (2*((n+15) / 16)) r with
  | none=>none
  | some r2=>match readD n 0 r2 with
   | none=>none
   | some ds=>if okDs ds=true/\encDs ds=b then some ds else none
theorem Iq {b:List UInt8} {ds:List Dc} (h:decDs b=some ds):okDs ds=true/\encDs ds=b:=by
 unfold decDs at h;split at h
 ·cases h
 ·split at h
  ·cases h
  ·split at h
   ·cases h
   ·split at h
    ·cases h
    ·split at h
     ·rename_i j;injection h with h;subst h;exact j
     ·cases h
theorem IT:∀(k:Nat) (last:Int) (l:List UInt8) (ds:List Dc),readD k last l=some ds->(blockD last ds).length<=l.length/\ds.length=k/\∀d∈ds,I64ok' d.2.at_/\checkE d.2.fs=0
 | 0,last,l,ds,h=>by
  unfold readD at h;injection h with h;subst h;exact⟨Nat.zero_le _,rfl,nofun⟩
 | k+1,last,l,ds,h=>by
  unfold readD at h;split at h
  ·cases h
  ·rename_i s r h1;split at h
   ·cases h
   ·split at h
    ·cases h
    ·rename_i e r2 h2;split at h
     ·cases h
     ·split at h
      ·cases h
      ·rename_i ds2 j;injection h with h;subst h;obtain⟨i1,i2,i3⟩:=IT k _ r2 ds2 j;obtain⟨j1,j2,j3⟩:=Pk h2;have b:=(DH l 0 s r h1).1;refine⟨?_,by rw[List.length_cons,i2],fun d hd=>?_⟩
       ·show (oneD last (last+1+s,e)++blockD (last+1+s) ds2).length<=_;unfold oneD;simp only;rw[show (last+1+(s:Int) - last - 1).toNat=s by omega,b,j1];simp only[List.length_append];omega
       ·rcases List.mem_cons.1 hd with rfl | hd
        ·exact⟨j2,j3⟩
        ·exact i3 d hd
theorem Ht:∀(bs:List (List Dc)) (lo:Int) (r:List UInt8),(∀k:Nat,lastD lo ((bs.take k).flatMap id)<9223372036854775808/\(blockD lo ((bs.take k).flatMap id)).length<9223372036854775808)->skipV (2*bs.length) (headD lo bs++r)=some r
 | [],lo,r,_=>rfl
 | b::bs,lo,r,h=>by
  have h1:=h 1;rw[List.take_succ_cons,List.take_zero,List.flatMap_cons,List.flatMap_nil,List.append_nil]at h1;simp only[id]at h1;have ih:=Ht bs (lastD lo b) r fun k=>by
   have:=h (k+1);rw[List.take_succ_cons,List.flatMap_cons,C4,Bj,List.length_append]at this;simp only[id]at this;exact⟨this.1,by omega⟩
  show skipV (2*(bs.length+1)) ((vb (lastD lo b).toNat++vb (blockD lo b).length++headD (lastD lo b) bs)++r)=_;rw[show 2*(bs.length+1)=2*bs.length+1+1 by omega,List.append_assoc,List.append_assoc];unfold skipV;rw[BD (by omega)];simp only;unfold skipV;rw[BD (by omega)];exact ih
theorem Gc:∀(P:List Dc) (lo:Int),risB 1099511627777 lo (P.map (·.1))=true->0<=lo->(∀d∈P,I64ok' d.2.at_/\checkE d.2.fs=0)->readD P.length lo (blockD lo P)=some P
 | [],lo,_,_,_=>rfl
 | d::P,lo,h,H,a=>by
  rw[List.map_cons,risB,Bool.and_eq_true,Bool.and_eq_true]at h;have h1:=of_decide_eq_true h.1.1;have h2:=of_decide_eq_true h.1.2;obtain⟨j,b⟩:=a d (List.mem_cons_self ..);have ih:=Gc P d.1 h.2 (by omega) fun x Y=>a x (List.mem_cons_of_mem _ Y);show readD (P.length+1) lo (oneD lo d++blockD d.1 P)=_;unfold readD oneD;rw[List.append_assoc,BD (by omega)];simp only;rw[if_neg (by omega),Pm j b];simp only;rw[show lo+1+(((d.1 - lo - 1).toNat:Nat):Int)=d.1 by omega,if_neg (by omega),ih]
theorem J1 {P:List Dc} (h:okDs P=true) (O:∀d∈P,I64ok' d.2.at_) (Z:(blockD 0 P).length<=50000000):decDs (encDs P)=some P:=by
 have j:=h;unfold okDs at h;rw[Bool.and_eq_true,Bool.and_eq_true]at h;obtain⟨J,U,T⟩:=h;have J:=of_decide_eq_true J;have a:(chunkL 16 P).length=(P.length+15) / 16:=AO (by omega) P;have hk:∀k:Nat,lastD 0 (((chunkL 16 P).take k).flatMap id)<9223372036854775808/\(blockD 0 (((chunkL 16 P).take k).flatMap id)).length<9223372036854775808:=fun k=>by
  rw[BF (by omega)];have h1:=(Uy (l:=P.take (k*16)) (lo:=0) (n:=1099511627777) (by rw[List.map_take];exact Bp _ U) (by omega)).2;have h2:=CV P (k*16);omega
 have b:=Ht (chunkL 16 P) 0 (blockD 0 P) hk;have H:=Gc P 0 U (by omega) fun d hd=>⟨O d hd,of_decide_eq_true (List.all_eq_true.1 T d hd)⟩
 rw[a]at b;have Y:encDs P=vb P.length++(headD 0 (chunkL 16 P)++blockD 0 P):=by unfold encDs;rw[List.append_assoc]
 unfold decDs;rw[Y,BD (by omega)];simp only;rw[if_neg (by omega),b];simp only;rw[H];simp only;rw[if_pos ⟨j,by rw[Y]⟩]
end
section
open Go.RowKit
structure DocsOwn (w:World) (base:Nat) (A:Option Addr) (c:Nat) (l:List DocC):Prop where
  own:w.ownsRow base 71 3 (.slice A l.length c) l.length (dcells l)
  each:∀x∈l,x.e.Own w base x.A x.c
  ints:∀x∈l,I64ok' x.e.at_/\I64ok' x.seq
theorem DocsOwn.ok {base c:Nat} {l:List DocC} (h:DocsOwn w base A c l):DocsOk w A l:=⟨Cells.of_own h.own,fun x j=>⟨(h.each x j).ok,h.ints x j⟩⟩
theorem DocsOwn.nil (w:World) (base:Nat):DocsOwn w base none 0 []:=⟨⟨rfl,.inl ⟨rfl,rfl⟩⟩,nofun,nofun⟩
theorem DocsOwn.chg {base c:Nat} {l:List DocC} (h:DocsOwn w base A c l) (Y:Chg S w w') (H:∀g t cs,Row w g t cs->t=91\/t=71->base<=g->¬ S g):DocsOwn w' base A c l :=
 ⟨Y.owns h.own fun g j=>by obtain⟨cs,b,hb⟩:=Ae h.own j;exact H g _ cs b (.inr rfl) hb,fun x a=>⟨Y.owns (h.each x a).1 fun g j=>by obtain⟨cs,b,hb⟩:=Ae (h.each x a).1 j;exact H g _ cs b (.inl rfl) hb,(h.each x a).2⟩,h.ints⟩
theorem DocsOwn.ext {base c:Nat} {l:List DocC} (h:DocsOwn w base A c l) (j:Ext w w'):DocsOwn w' base A c l:=⟨j.owns h.own,fun x b=>⟨j.owns (h.each x b).1,(h.each x b).2⟩,h.ints⟩
theorem DocsOwn.lower {base b c:Nat} {l:List DocC} (h:DocsOwn w base A c l) (hb:b<=base):DocsOwn w b A c l:=⟨AD h.own hb,fun x j=>⟨AD (h.each x j).1 hb,(h.each x j).2⟩,h.ints⟩
theorem DocsOwn.cap {base c:Nat} {l:List DocC} (h:DocsOwn w base A c l):l.length<=c/\∀a,A=some a->a.spot=none:=BN h.own
theorem MQ:Elem prog 30 71 3 40:=⟨underlying30,⟨_,_,rfl,rfl,rfl,rfl,rfl⟩,by omega,by omega⟩
theorem FX (l:List DocC) (x:DocC):dcells (l ++ [x])=dcells l++x.cells:=by
 unfold dcells;rw[List.flatMap_append];simp
theorem BJ (l:List DocC) (x:DocC):dcs (l ++ [x])=dcs l ++ [x.dc]:=by unfold dcs;rw[List.map_append];rfl
def SdecP (w:World) (res:Option (List Dc)) (e:Ending) (w':World):Prop:=Ext w w'/\match res with
 | some P=>∃(l:List DocC) (A:Option Addr) (c:Nat),dcs l=P/\e = .returned (.tuple #[.slice A l.length c,.int .i64 0])/\DocsOwn w' w.heap.size A c l
 | none=>e = .returned (.tuple #[.slice none 0 0,.int .i64 120])
theorem SdecP.no {res:Option (List Dc)} (j:Ext w w') (h:res=none):SdecP w res (.returned (.tuple #[.slice none 0 0,.int .i64 120])) w':=by
 subst h;exact⟨j,rfl⟩
def aheadD (read:List Dc):Option (List Dc)->Option (List Dc)
 | none=>none
 | some l=>some (read++l)
theorem Ld (x:Option (List Dc)):aheadD [] x=x:=by cases x <;> rfl
theorem Mt (h:skipV k L=skipV (k - i) r) (hi:i<k) (h1:getV 0 r = .ok (n,r1)):skipV k L=skipV (k - (i+1)) r1:=by
 obtain⟨j,b⟩:∃j,k - i=j+1:=⟨k - i - 1,by omega⟩
 rw[h,b,show k - (i+1)=j by omega]
 conv=>lhs;unfold skipV
 rw[h1]
theorem P8 {e:Nat} (h:skipV k L=skipV (k - i) r) (hi:i<k) (h1:getV 0 r = .error e):skipV k L=none:=by
 obtain⟨j,b⟩:∃j,k - i=j+1:=⟨k - i - 1,by omega⟩
 rw[h,b];unfold skipV;rw[h1]
theorem OB (h:skipV k L=skipV (k - i) r) (hi:k<=i):skipV k L=some r:=by
 rw[h,show k - i=0 by omega];rfl
section
variable {k i:Nat} {la0 la:Int} {read:List Dc} {L r:List UInt8} (h:readD k la0 L=aheadD read (readD (k - i) la r)) (hi:i<k)
include h hi
theorem Od {e:Nat} (h1:getV 0 r = .error e):readD k la0 L=none:=by
 obtain⟨j,b⟩:∃j,k - i=j+1:=⟨k - i - 1,by omega⟩
 rw[h,b];unfold readD;rw[h1];rfl
theorem Oe {s:Nat} (h1:getV 0 r = .ok (s,r1)) (h2:1099511627776<s):readD k la0 L=none:=by
 obtain⟨j,b⟩:∃j,k - i=j+1:=⟨k - i - 1,by omega⟩
 rw[h,b];unfold readD;rw[h1];simp only;rw[if_pos h2];rfl
theorem Og {s:Nat} (h1:getV 0 r = .ok (s,r1)) (h2:getE r1=none):readD k la0 L=none:=by
 obtain⟨j,b⟩:∃j,k - i=j+1:=⟨k - i - 1,by omega⟩
 rw[h,b];unfold readD;rw[h1];simp only;rw[h2];split <;> rfl
theorem Oh {s:Nat} {e:Ev} (h1:getV 0 r = .ok (s,r1)) (h2:getE r1=some (e,r2)) (b:1099511627776<la+1+s):readD k la0 L=none:=by
 obtain⟨j,a⟩:∃j,k - i=j+1:=⟨k - i - 1,by omega⟩
 rw[h,a];unfold readD;rw[h1];simp only;rw[h2];simp only;rw[if_pos b];split <;> rfl
theorem Mf {s:Nat} {e:Ev} (h1:getV 0 r = .ok (s,r1)) (b:¬ 1099511627776<s) (h2:getE r1=some (e,r2)) (a:¬ 1099511627776<la+1+s):readD k la0 L=aheadD (read ++ [(la+1+s,e)]) (readD (k - (i+1)) (la+1+s) r2):=by
 obtain⟨j,H⟩:∃j,k - i=j+1:=⟨k - i - 1,by omega⟩
 rw[h,H,show k - (i+1)=j by omega]
 conv=>lhs;unfold readD
 rw[h1];simp only;rw[if_neg b,h2];simp only;rw[if_neg a];cases readD j (la+1+s) r2 with
 | none=>rfl
 | some p=>simp[aheadD]
end
theorem Oc {read:List Dc} (h:readD k la0 L=aheadD read (readD (k - i) la r)) (hi:k<=i):readD k la0 L=some read:=by
 rw[h,show k - i=0 by omega];simp[readD,aheadD]
end
section
open Go.RowKit
theorem JA (A:Option Addr) (n c:Nat) (bs:List UInt8) (w:World) (h:In8 w A n c bs) (x2:n<=50000000) :
 Calls prog 54 #[.slice A n c] w fun e w'=>SdecP w (decDs bs) e w':=by
 have k1:=Cl A n c bs w w h (Ext.refl w) (by omega);have q6:bs.length<=50000000:=by rw[<-h.len];exact x2
 obtain⟨Z,hZ⟩:=Ab (decDs bs);rw[<-hZ];unfold decDs at hZ;cases a1:getV 0 bs with
 | error k =>
  rw[a1]at k1 hZ;have hk:=BK bs 0 k a1;have n4:((k:Int) != 0)=true:=by simp;omega
  have hg:=Aa k1;replace hZ:=Aa hZ;clear a1 hk k1
  go_in
  go_wp2_with fail;refine hg.out.mono ?_;rintro e w1 ⟨q1,rfl⟩;go_wp2_with fail;go_ret2;exact SdecP.no q1 hZ.out
 | ok p =>
  obtain⟨q,r⟩:=p;have z5:r.length<=50000000:=by have:=Cs a1;omega
  rw[a1]at k1 hZ;simp only at hZ;have hg:=Aa k1;unfold Got at hg;simp only at hg;clear a1 k1;by_cases d3:65536<q
  ·rw[if_pos d3]at hZ;have y5:(65536:Int)<q:=by omega
   replace hZ:=Aa hZ
   go_in
   go_wp2_with fail;refine hg.out.mono ?_;rintro e w1 ⟨q1,A1,c1,rfl,hi1⟩;go_wp2_with fail;go_ret2;exact SdecP.no q1 hZ.out
  ·rw[if_neg d3]at hZ;have y5:¬ (65536:Int)<q:=by omega
   obtain⟨K,hK⟩:=Ab (2*((q+15) / 16));rw[<-hK]at hZ;replace hZ:=Aa hZ
   go_in
   go_wp2_with fail;refine hg.out.mono ?_;rintro e w1 ⟨q1,A1,c1,rfl,hi1⟩;go_wp2_with fail;have v4:2*(((q:Int)+16 - 1) / 16)=(K:Int):=by omega
   rw[v4];have h6:K<=100000:=by omega
   replace hK:=Aa hK;have t4:=Aa q1;have i4:=Aa hi1;clear v4 hg q1 hi1;have b3:=Aa (fun A n c r W (h:In8 w A n c r) (hw:Ext w W) (x2:n<=1000000000)=>Cl A n c r w W h hw x2)
   go_loopw [5,31] (fun s5 s31 wr=>∃(i:Nat) (rr:List UInt8) (A3:Option Addr) (c3:Nat),s31 = .int .u64 (i:Int)/\s5 = .slice A3 rr.length c3/\i<=K/\rr.length<=50000000/\Hid (skipV K r=skipV (K - i) rr)/\Hid (In8 w A3 rr.length c3 rr)/\Hid (Ext w wr)) (fun _ s31 _=>K - (intOf s31).toNat)
   case atStart=>exact⟨0,r,A1,c1,rfl,rfl,by omega,z5,Aa rfl,i4,t4⟩
   case round =>
    obtain⟨i,rr,A3,c3,rfl,rfl,hi,a5,x3,j2,hE⟩:=hrel;by_cases l4:i<K
    ·have b:=b3.out A3 rr.length c3 rr wr j2.out hE.out (by omega);cases hv:getV 0 rr with
     | error k =>
      have I:=P8 x3.out l4 hv;have hk:=BK rr 0 k hv;have n4:((k:Int) != 0)=true:=by simp;omega
      rw[hv]at b;have Y:Z=none:=by rw[hZ.out,I]
      replace Y:=Aa Y;replace b:=Aa b;clear hv hk I;go_wp2_with fail;refine b.out.mono ?_;rintro e w2 ⟨a,rfl⟩;go_wp2_with fail;go_ret2;exact SdecP.no (hE.out.trans a) Y.out
     | ok p =>
      obtain⟨v,r1⟩:=p;have e5:=Aa (Mt x3.out l4 hv);have p4:=Cs hv;rw[hv]at b;unfold Got at b;simp only at b;replace b:=Aa b;clear hv;go_wp2_with fail;refine b.out.mono ?_;rintro e w2 ⟨a,A4,c4,rfl,m5⟩;go_wp2_with fail;exact⟨⟨i+1,r1,A4,c4,by go_num,rfl,by omega,by omega,e5,Aa m5,Aa (hE.out.trans a)⟩,by simp only[intOf];omega⟩
    ·obtain rfl:i=K:=by omega
     have v0:=OB x3.out (Nat.le_refl _);have m0:=hZ.out;rw[v0]at m0;simp only at m0;replace m0:=Aa m0;clear v0 x3;go_wp2_with fail;have e4:=Aa (fun A n c r W (h:In8 w A n c r) (hw:Ext w W) (x2:n<=1000000000)=>NF A n c r w W h hw x2)
     go_loopw [5,7,8,43] (fun s5 s7 s8 s43 wr=>∃(j:Nat) (read:List DocC) (rr2:List UInt8) (A3 B:Option Addr) (c3 d:Nat) (la:Int),s43 = .int .u64 (j:Int)/\s5 = .slice A3 rr2.length c3/\s7 = .slice B j d/\s8 = .int .i64 la/\j<=q/\rr2.length<=50000000/\0<=la/\la<=1099511627776/\Hid (j=read.length)/\Hid (readD q 0 rr=aheadD (dcs read) (readD (q - j) la rr2))/\Hid (DocsOwn wr w.heap.size B d read)/\Hid (In8 w A3 rr2.length c3 rr2)/\Hid (Ext w wr)) (fun _ _ _ s43 _=>q - (intOf s43).toNat)
     case atStart=>exact⟨0,[],rr,A3,none,c3,0,0,rfl,rfl,rfl,rfl,by omega,a5,by omega,by omega,Aa rfl,Aa (by show _=aheadD [] _;rw[Ld];rfl),Aa (DocsOwn.nil _ _),j2,hE⟩
     case round =>
      clear j2 hE;obtain⟨j,read,rr2,A4,B,c4,d,la,rfl,rfl,rfl,rfl,hj,n5,i5,l5,j1,f0,c0,j2,hE⟩:=hrel;by_cases m2:j<q
      ·have b:=b3.out A4 rr2.length c4 rr2 wr j2.out hE.out (by omega);have Y:readD q 0 rr=none->Hid (Z=none):=fun hn=>Aa (by rw[m0.out,hn]);replace Y:=Aa Y;cases hv:getV 0 rr2 with
       | error k =>
        have I:=Y.out (Od f0.out m2 hv);have hk:=BK rr2 0 k hv;have n4:((k:Int) != 0)=true:=by simp;omega
        rw[hv]at b;replace b:=Aa b;clear hv hk;go_wp2_with fail;refine b.out.mono ?_;rintro e w2 ⟨a,rfl⟩;go_wp2_with fail;go_ret2;exact SdecP.no (hE.out.trans a) I.out
       | ok p =>
        obtain⟨s,r1⟩:=p;have p4:=Cs hv;rw[hv]at b;unfold Got at b;simp only at b;replace b:=Aa b;by_cases e3:1099511627776<s
        ·have I:=Y.out (Oe f0.out m2 hv e3);have b5:(1099511627776:Int)<s:=by omega
         clear hv;go_wp2_with fail;refine b.out.mono ?_;rintro e w2 ⟨a,A5,c5,rfl,r3⟩;go_wp2_with fail;go_ret2;exact SdecP.no (hE.out.trans a) I.out
        ·have b5:¬ (1099511627776:Int)<s:=by omega
         have p6:IntKind.i64.wrap (s:Int)=(s:Int):=BP (by omega) (by omega);obtain⟨sq,x1⟩:=Ab (la+1+s:Int);have o5:0<=sq:=by omega
         have r5:sq<=2199023255553:=by omega
         have g0:=fun(hn:getE r1=none)=>Y.out (Og f0.out m2 hv hn);have n0:=fun e r2 (h1:getE r1=some (e,r2)) (h2:1099511627776<sq)=>Y.out (Oh f0.out m2 hv h1 (by rw[<-x1];exact h2));have O:=fun e r2 (h1:getE r1=some (e,r2)) (h2:¬ 1099511627776<sq)=>Mf f0.out m2 hv e3 h1 (by rw[<-x1];exact h2);rw[<-x1]at O;replace x1:=Aa x1;replace g0:=Aa g0;replace n0:=Aa n0;replace O:=Aa O;clear hv f0;go_wp2_with fail;refine b.out.mono ?_;rintro e w2 ⟨a,A5,c5,rfl,r3⟩;go_wp2_with fail;rw[<-x1.out];obtain⟨g,hg⟩:=Ab w2.heap.size;obtain⟨W3,o1⟩:=Ab (w2.alloc (.cells #[.int .i64 sq,.int .i64 0,.slice none 0 0] 71));have l0:Ext w2 W3:=by rw[o1];exact(Ext.refl w2).alloc _
         have t3:Row W3 g 71 #[.int .i64 sq,.int .i64 0,.slice none 0 0]:=by rw[o1,hg];exact Row.new w2 _ _
         rw[<-o1,<-hg];have j3:w.heap.size<=g:=by rw[hg];exact(hE.out.trans a).size
         have j4:=Aa (c0.out.ext a);have d0:=Aa ((hE.out.trans a).trans l0);have G:=e4.out A5 r1.length c5 r1 W3 r3 d0.out (by omega);replace o1:=Aa o1;replace t3:=Aa t3;replace hg:=Aa hg;replace l0:=Aa l0;clear r3;cases x0:getE r1 with
         | none =>
          have I:=g0.out x0;rw[x0]at G;replace G:=Aa G;clear x0;go_wp2_with fail;refine G.out.mono ?_;rintro e w4 ⟨U,rfl⟩;have H:=t3.out.ext U;have e1:=H.cell 1 rfl;have e2:=H.cell 2 rfl;have f1:=H.free 1;have f2:=H.free 2;replace H:=Aa H;replace U:=Aa (d0.out.trans U);go_wp2_with fail;go_ret2;exact SdecP.no ((U.out.setCell (p:=⟨g,1,none⟩) j3 _).setCell (p:=⟨g,2,none⟩) j3 _) I.out
         | some p =>
          obtain⟨ev,r2⟩:=p;have q5:=NP x0;have j5:=Aa (n0.out ev r2 x0);have d5:=Aa (O.out ev r2 x0);rw[x0]at G;unfold GotE at G;simp only at G;replace G:=Aa G;clear x0 n0 O g0;go_wp2_with fail;refine G.out.mono ?_;rintro e w4 ⟨U,B4,d4,A6,c6,rfl,t0,q4,i3⟩;unfold Ev.val;obtain⟨at_,fs⟩:=ev;simp only;have H:=t3.out.ext U;have e1:=H.cell 1 rfl;have e2:=H.cell 2 rfl;have f1:=H.free 1;have f2:=H.free 2;obtain⟨w5,q0⟩:=Ab ((w4.setCell ⟨g,1,none⟩ (.int .i64 at_)).setCell ⟨g,2,none⟩ (.slice B4 fs.length d4));have o2:Row w5 g 71 #[.int .i64 sq,.int .i64 at_,.slice B4 fs.length d4]:=by rw[q0];exact(H.put 1 _).put 2 _
          have i1:Ext w w5:=by rw[q0];exact((d0.out.trans U).setCell (p:=⟨g,1,none⟩) j3 _).setCell (p:=⟨g,2,none⟩) j3 _
          have y3:Chg (fun k=>k=g) w4 w5:=by rw[q0];exact(Chg.of_set (S:=fun k=>k=g) w4 _ rfl).trans (Chg.of_set (S:=fun k=>k=g) _ _ rfl) fun _ _ h=>h
          have z4:Chg (fun k=>k=g) w2 w5:=(Chg.of_ext (l0.out.trans U) _).trans y3 fun _ _ h=>h;have e0:DocsOwn w5 w.heap.size B d read:=j4.out.chg z4 fun g' t cs hr _ _ hk=>by have:=hr.lt;have:=hg.out;omega
          have f4:=d0.out.size;have b0:Ev.Own ⟨at_,fs⟩ w5 w.heap.size B4 d4:=⟨y3.owns (AD t0.1 f4) fun k hk=>by
           obtain⟨cs,hr,_⟩:=Ae t0.1 hk;exact fun e=>Row.unlike hr H (by decide) e,t0.2⟩
          have y0:=o2.cell 0 rfl;have y1:=o2.cell 1 rfl;have y2:=o2.cell 2 rfl;rw[q0]at y0 y1 y2;replace H:=Aa H;replace q0:=Aa q0;replace o2:=Aa o2;replace i1:=Aa i1;replace e0:=Aa e0;replace b0:=Aa b0;replace t0:=Aa t0;replace q4:=Aa q4;replace i3:=Aa i3;by_cases hb:1099511627776<sq
          ·have I:=j5.out hb;go_wp2_with fail;go_ret2;rw[<-q0.out];exact SdecP.no i1.out I.out
          ·have o4:=Aa (d5.out (by omega));have i2:w5.ownsRow w.heap.size 71 3 (.slice B j d) j (dcells read):=by have:=e0.out.own;rw[<-j1.out]at this;exact this
           have f3:=i1.out.size;obtain⟨fl,q2⟩:=Ab fs.length;rw[<-q2]at y0 y1 y2 q0;have J:=i2;have q3:=f3;rw[q0.out]at J q3;rw[<-q2];replace q2:=Aa q2;clear i2 f3;go_wp2_with (at_builtin;refine AS (us:= [.int .i64 sq,.int .i64 at_,.slice B4 fl d4]) (m:=1) MQ J (by simp) (.tmp 79) (.tmp 81) rfl rfl rfl rfl rfl (Az rfl) (by omega) q3 (fun A8 c8 w8 k4 k2 v5=>?_);rw[<-q0.out]at k2 J;replace k4:=Aa k4;replace k2:=Aa k2;have r0:=Aa J;clear J v5);have hlen:(read ++ [(⟨sq,⟨at_,fs⟩,B4,d4⟩:DocC)]).length=j+1:=by rw[List.length_append,<-j1.out];rfl
           have a4:Chg (fun k'=>(Value.slice B j d).ownBlock=some k') w5 w8:=Chg.of_grown k2.out fun k' _ t5=>t5;have r4:∀k cs,Row w5 k 91 cs->¬ (Value.slice B j d).ownBlock=some k:=fun k cs hr=>Am r0.out hr (by decide);have p5:Ext w w8:=i1.out.grown k2.out fun k hk=>by obtain⟨_,_,hb⟩:=Ae r0.out hk;omega
           refine⟨⟨j+1,read ++ [⟨sq,⟨at_,fs⟩,B4,d4⟩],r2,A6,A8,c6,c8,sq,by go_num,rfl,rfl,rfl,by omega,by omega,by omega,by omega,Aa hlen.symm,Aa (by rw[BJ];exact o4.out),Aa ⟨?_,?_,?_⟩,q4,Aa p5⟩,by simp only[intOf];omega⟩
           ·rw[hlen,FX];show w8.ownsRow _ _ _ _ _ (dcells read ++ [.int .i64 sq,.int .i64 at_,.slice B4 fs.length d4]);rw[<-q2.out];exact k4.out
           ·intro x hx;rcases List.mem_append.1 hx with hx | hx
            ·exact⟨a4.owns (e0.out.each x hx).1 fun g' o3=>by obtain⟨cs,hr,_⟩:=Ae (e0.out.each x hx).1 o3;exact r4 _ _ hr,(e0.out.each x hx).2⟩
            ·rw[List.mem_singleton.1 hx];exact⟨a4.owns b0.out.1 fun g' o3=>by obtain⟨cs,hr,_⟩:=Ae b0.out.1 o3;exact r4 _ _ hr,b0.out.2⟩
           ·intro x hx;rcases List.mem_append.1 hx with hx | hx
            ·exact e0.out.ints x hx
            ·rw[List.mem_singleton.1 hx];exact⟨i3.out,by show -9223372036854775808<=sq/\sq<=9223372036854775807;omega⟩
      ·obtain rfl:j=q:=by omega
       have v0:=Oc f0.out (Nat.le_refl _);have T:=m0.out;rw[v0]at T;simp only at T;have x5:=(IT _ _ _ _ v0).1;have z3:=c0.out.cap;obtain⟨P,hP⟩:=Ab (dcs read);have k3:=Du read B j d wr j1.out c0.out.ok z3.2 (by rw[j1.out];exact z3.1);have p3:=Gh read B j d wr j1.out c0.out.ok (by omega);rw[<-hP]at T k3 p3 x5;have y4:(blockD 0 P).length<=50000000:=by omega
       cases m1:okDs P with
       | false =>
        have Y:Z=none:=by rw[T,m1];simp
        have b4:=Aa (p3 m1);replace Y:=Aa Y;clear k3 p3 T m0 hZ;go_wp2_with fail;refine b4.out.mono ?_;rintro e w2 ⟨rfl,a⟩;go_wp2_with fail;go_ret2;exact SdecP.no (hE.out.trans a) Y.out
       | true =>
        have a3:=Aa (k3 m1 y4);rw[m1]at T;replace T:=Aa T;clear k3 p3 m0 hZ;go_wp2_with fail;refine a3.out.mono ?_;rintro e w2 ⟨A9,c9,rfl,x4,a⟩;have g5:(encDs P).length<=60000000:=by
         have h1:=Gy m1 y4 (chunkL 16 P).length;rw[List.take_length]at h1;have d2:=m1;unfold okDs at d2;rw[Bool.and_eq_true]at d2;have h2:=of_decide_eq_true d2.1;have h3:=Ag (n:=P.length) (by omega);have h4:=AO (k:=16) (by omega) P;unfold encDs;rw[List.length_append,List.length_append];omega
        have j0:=GJ A9 A (encDs P).length n c9 c (encDs P) bs w2 x4.2.in8 (h.ext (hE.out.trans a)) (by omega) (by omega);obtain⟨ne,a2⟩:=Ab ((encDs P).length);rw[<-a2]at j0 ⊢;have d0:=Aa (hE.out.trans a);have g4:=Aa (c0.out.ext a);replace a2:=Aa a2;clear x4 g5 a3;by_cases he:encDs P=bs
        ·have k0:=T.out;rw[if_pos ⟨trivial,he⟩]at k0;rw[decide_eq_true he]at j0;replace j0:=Aa j0;replace k0:=Aa k0;replace hP:=Aa hP;clear he;go_wp2_with fail;refine j0.out.mono ?_;rintro e w3 ⟨rfl,U⟩;go_wp2_with fail;go_ret2;rw[k0.out];refine⟨d0.out.trans U,read,B,d,hP.out.symm,by rw[<-j1.out];rfl,g4.out.ext U⟩
        ·have k0:=T.out;rw[if_neg (fun x=>he x.2)]at k0;rw[decide_eq_false he]at j0;replace j0:=Aa j0;replace k0:=Aa k0;clear he;go_wp2_with fail;refine j0.out.mono ?_;rintro e w3 ⟨rfl,U⟩;go_wp2_with fail;go_ret2;exact SdecP.no (d0.out.trans U) k0.out
end
end Go.Proofs.YtfifdilapbeiiaaGreat
