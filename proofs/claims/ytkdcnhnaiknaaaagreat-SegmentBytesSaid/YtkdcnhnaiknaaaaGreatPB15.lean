/- Texts of one proof, joined. -/
import Derived.Test.YtkdcnhnaiknaaaaGreatPB11
import Derived.Test.YtkdcnhnaiknaaaaGreatPB08
import Derived.Test.YtkdcnhnaiknaaaaGreatPB01
import Derived.Test.YtkdcnhnaiknaaaaGreatPB13
import Derived.Test.YtkdcnhnaiknaaaaGreatPB12
import Derived.Deep.CutRange
import Derived.Deep.DeepCutAuto
import Derived.Test.YtkdcnhnaiknaaaaGreatPB10
import Derived.Test.YtkdcnhnaiknaaaaGreatPB14
import Derived.Test.YtkdcnhnaiknaaaaGreatPB06
import Derived.Test.YtkdcnhnaiknaaaaGreatPB09
import Derived.Test.YtkdcnhnaiknaaaaGreatPB07
import Derived.Test.YtkdcnhnaiknaaaaGreatPB03
import Derived.Test.YtkdcnhnaiknaaaaGreatPB04
set_option linter.unusedSimpArgs false
set_option linter.unusedVariables false
set_option maxRecDepth 100000
set_option maxHeartbeats 16000000
namespace Go.Proofs.YtkdcnhnaiknaaaaGreat
section
open Go.RowKit Go.Maps
theorem ZHU (s:List UInt8) (w:World) (hs:s.length<=9223372036854775807):Calls Tryz.prog 128 #[.string ⟨s.toArray⟩] w fun e w'=>e = .returned (.int .u64 (fnv s:Int))/\w'=w:=by
 obtain⟨n,hn⟩:∃n,n=s.length:=⟨_,rfl⟩
 have a0:(⟨s.toArray⟩:ByteArray).size=n:=by rw[hn];exact ByteArray.size_mk_toArray s
 rw[<-hn]at hs;obtain⟨h0,q0⟩:∃h0:Nat,h0=14695981039346656037:=⟨_,rfl⟩
 have g0:h0<18446744073709551616:=by omega
 have j0:h0=fnv []:=q0;obtain⟨R,hR⟩:∃R,R=fnv s:=⟨_,rfl⟩
 rw[<-hR];replace hR:=ZA hR;replace hn:=ZA hn;replace q0:=ZA q0;replace j0:=ZA j0;go_enter Tryz.func128,Tryz.ntmps128;go_wp2_with fail
 go_loopw [3,4] (fun s3 s4 wr=>∃(i h:Nat),s3 = .int .u64 (h:Int)/\s4 = .int .i64 (i:Int)/\i<=n/\h<18446744073709551616/\Hid (h=fnv (s.take i))/\wr=w) (fun _ s4 _=>n - (intOf s4).toNat)
 case atStart=>exact⟨0,h0,by rw[q0.out];rfl,rfl,by omega,g0,j0,rfl⟩
 case round =>
  obtain⟨i,h,rfl,rfl,hi,hh,hf,rfl⟩:=hrel;by_cases u0:i<n
  ·have z0:i<s.length:=by rw[<-hn.out];exact u0
   obtain⟨x,hx⟩:∃x,x=s[i]:=⟨_,rfl⟩
   have x0:s[i]? = some x:=by rw[hx];exact List.getElem?_eq_getElem z0
   have k0:fnv (s.take (i+1))=fnvS h x:=by rw[List.take_add_one,x0,hf.out];exact ZHz _ x
   obtain⟨y,hy⟩:∃y,y=x.toNat:=⟨_,rfl⟩
   have b0:((⟨s.toArray⟩:ByteArray)[i]'(by rw[a0];exact u0)).toNat=y:=by rw[hy,hx];rfl
   have c0:y<256:=by rw[hy];exact x.toNat_lt
   have v0:=u64_xor_nat h y hh (by omega);obtain⟨z,hz⟩:∃z,z=h ^^^ y:=⟨_,rfl⟩
   rw[<-hz]at v0;have t0:IntKind.u64.wrap ((z:Int)*1099511628211)=((fnvS h x:Nat):Int):=by
    rw[ZBS];unfold fnvS;rw[<-hy,<-hz];omega
   obtain⟨h2,p0⟩:∃h2,h2=fnvS h x:=⟨_,rfl⟩
   have m0:h2<18446744073709551616:=by rw[p0];exact ZHf h x
   rw[<-p0]at t0 k0;replace k0:=ZA k0.symm;replace p0:=ZA p0;replace hz:=ZA hz;replace hy:=ZA hy;replace hx:=ZA hx;replace hf:=ZA hf;clear x0;go_wp2_with fail;go_roundw
   case rel=>exact⟨i+1,h2,rfl,by go_num,by omega,m0,k0,trivial⟩
   case measure=>simp only[intOf];omega
  ·obtain rfl:i=n:=by omega
   have y0:h=R:=by rw[hf.out,hR.out,List.take_of_length_le (by rw[<-hn.out];exact Nat.le_refl _)]
   subst y0;go_wp2_with fail;go_ret;exact⟨rfl,rfl⟩
theorem ZMj (s:List UInt8) (A:Option Addr) (n c i:Nat) (w:World) (hs:s.length<=9223372036854775807) (hn:0<n) (r0:n<=131072) (hi:i<4) :
 Calls Tryz.prog 74 #[.agg #[.slice A n c],.string ⟨s.toArray⟩,.int .i64 (i:Int)] w fun e w'=>e = .returned (.int .i64 (fpl s (8*n) i:Int))/\Ext w w':=by
 have c0:=ZOV s;obtain⟨h,hh⟩:∃h,h=fnv s:=⟨_,rfl⟩
 have v0:=fun W=>ZHU s W hs;rw[<-hh]at c0 v0;obtain⟨fs,m0⟩:∃fs,fs=h%4294967296:=⟨_,rfl⟩
 obtain⟨d,hd⟩:∃d,d=h / 4294967296:=⟨_,rfl⟩
 obtain⟨sd,k0⟩:∃sd,sd=d ||| 1:=⟨_,rfl⟩
 have b0:d<4294967296:=by omega
 have h0:sd=if d%2=0 then d+1 else d:=by
  have h1:(d ||| 1) / 2=d / 2:=by rw[Nat.or_div_two];simp
  have h2:(d ||| 1)%2=1:=Nat.or_mod_two_eq_one.2 (.inr rfl);rw[k0];split <;> omega
 have f0:(h:Int)%4294967296=(fs:Int):=by omega
 have e0:(h:Int) / 4294967296=(d:Int):=by omega
 have p0:fpl s (8*n) i=(fs+i*sd)%(8*n):=by unfold fpl;rw[<-hh,<-m0,<-hd,<-k0]
 have y0:sd<4294967296:=by rw[h0];split <;> omega
 have t0:IntKind.u64.wrap ((i:Int)*(sd:Int))=((i*sd:Nat):Int):=by
  rw[ZBS,<-Int.natCast_mul];have:i*sd<=3*4294967296:=Nat.mul_le_mul (by omega) (by omega);omega
 obtain⟨isd,q0⟩:∃isd,isd=i*sd:=⟨_,rfl⟩
 have u0:isd<=12884901888:=by rw[q0];exact Nat.mul_le_mul (show i<=3 by omega) (show sd<=4294967296 by omega)
 rw[<-q0]at t0 p0;have g0:IntKind.u64.wrap ((fs:Int)+(isd:Int))=((fs+isd:Nat):Int):=by rw[ZBS];omega
 obtain⟨q,hq⟩:∃q,q=fs+isd:=⟨_,rfl⟩
 obtain⟨m,hm⟩:∃m,m=8*n:=⟨_,rfl⟩
 rw[<-hq]at g0 p0;rw[<-hm]at p0 ⊢;have n0:IntKind.i64.wrap (8*(n:Int))=(m:Int):=by rw[ZAK (by omega) (by omega)];omega
 have o0:IntKind.u64.wrap (m:Int)=(m:Int):=ZAr (by omega);have i0:IntKind.u64.wrap (i:Int)=(i:Int):=ZAr (by omega);obtain⟨r,hr⟩:∃r,r=q%m:=⟨_,rfl⟩
 have s0:(q:Int)%(m:Int)=(r:Int):=by omega
 have l0:((m:Int)==0)=false:=by simp;omega
 have w0:r<m:=by rw[hr];exact Nat.mod_lt _ (by omega)
 have q1:IntKind.i64.wrap (r:Int)=(r:Int):=ZAK (by omega) (by omega);rw[p0,<-hr];have x0:=Row.new w 61 #[.slice A n c];have k1:(w.alloc (.cells #[.slice A n c] 61)).cell? ⟨w.heap.size,0,none⟩=some (.slice A n c):=x0.cell 0 rfl;have j0:Ext w (w.alloc (.cells #[.slice A n c] 61)):=(Ext.refl w).alloc _;have d0:=ZA (v0 (w.alloc (.cells #[.slice A n c] 61)));replace hr:=ZA hr;replace hm:=ZA hm;replace hq:=ZA hq;replace q0:=ZA q0;replace k0:=ZA k0;replace hd:=ZA hd;replace m0:=ZA m0;replace hh:=ZA hh;replace j0:=ZA j0;clear p0 x0 v0;by_cases h2:d%2=0
 case' pos =>
  rw[if_pos h2]at h0;have z0:((d:Int)%2==0)=true:=by simp;omega
  have a0:IntKind.u64.wrap ((d:Int)+1)=(sd:Int):=by rw[ZBS];omega
 case' neg =>
  rw[if_neg h2]at h0;have z0:((d:Int)%2==0)=false:=by simp;omega
  have a0:(d:Int)=(sd:Int):=by omega
 all_goals
  replace h0:=ZA h0;go_enter Tryz.func74,Tryz.ntmps74;go_wp2_with fail;refine d0.out.mono ?_;rintro e w1 ⟨rfl,rfl⟩;go_wp2_with fail;go_ret;exact⟨rfl,j0.out⟩
end
section
open Go.RowKit Go.Maps
theorem ZMZ (f:List UInt8) (A:Option Addr) (n c k:Nat) (w:World) (hn:n=f.length) (hb:Bs w A f) (hk:k<8*n) (u0:n<=131072) :
 Calls Tryz.prog 73 #[.agg #[.slice A n c],.int .i64 (k:Int)] w fun e w'=>e = .returned (.bool (hasB f k))/\Ext w w':=by
 obtain⟨b,o,hA,hc⟩:=hb.at_ (by omega);have p0:k / 8<f.length:=by omega
 have h0:=hc (k / 8) p0;have j0:=ZBL p0;have k0:hasB f k=decide ((f[k / 8].toNat / 2^(k%8)%2=1)):=by unfold hasB;rw[j0]
 obtain⟨x,hx⟩:∃x,x=f[k / 8].toNat:=⟨_,rfl⟩
 have z0:x<256:=by rw[hx];exact f[k / 8].toNat_lt
 rw[<-hx]at h0 k0;rw[k0];obtain⟨q,hq⟩:∃q,q=k / 8:=⟨_,rfl⟩
 obtain⟨m,hm⟩:∃m,m=k%8:=⟨_,rfl⟩
 rw[<-hq]at h0 p0;rw[<-hm];have t0:m<8:=by omega
 have x0:(k:Int) / 8=(q:Int):=by omega
 have v0:(k:Int)%8=(m:Int):=by omega
 have q0:Ext w (w.alloc (.cells #[.slice A n c] 61)):=(Ext.refl w).alloc _;have g0:Row (w.alloc (.cells #[.slice A n c] 61)) w.heap.size 61 #[.slice A n c]:=Row.new w _ _;have y0:(w.alloc (.cells #[.slice A n c] 61)).cell? ⟨w.heap.size,0,none⟩=some (.slice A n c):=g0.cell 0 rfl;have y1:=q0.cell h0;rw[<-hn]at p0;subst hA;obtain⟨v,hv⟩:∃v:Bool,v=decide (x / 2^m%2=1):=⟨_,rfl⟩
 rw[<-hv];replace hn:=ZA hn;replace hq:=ZA hq;replace hm:=ZA hm;replace hx:=ZA hx;replace q0:=ZA q0;clear k0 j0 hc h0 g0 hb;have m0:m=0\/m=1\/m=2\/m=3\/m=4\/m=5\/m=6\/m=7:=by omega
 rcases m0 with rfl | rfl | rfl | rfl | rfl | rfl | rfl | rfl
 all_goals
  replace hv:=ZA hv;go_enter Tryz.func73,Tryz.ntmps73;go_wp2_with fail;go_ret;refine⟨Zw ?_,q0.out⟩;rw[hv.out,Bool.eq_iff_iff];simp only[beq_iff_eq,decide_eq_true_iff];omega
end
section
open Go.RowKit Go.Maps
def setN (f:List UInt8) (s:List UInt8):Nat->List UInt8
 | 0=>f
 | i+1=>setB (setN f s i) (fpl s (8*f.length) i)
theorem ZIO (f s:List UInt8):∀i,(setN f s i).length=f.length
 | 0=>rfl
 | i+1=>by rw[setN,ZAa,ZIO f s i]
theorem ZOa {x m:Nat} (hx:x<256) (hm:m<8) (h:¬ x / 2^m%2=1):x+2^m=x ||| 2^m:=by
 have key:∀(a:Fin 256) (b:Fin 8),¬ a.val / 2^b.val%2=1->a.val+2^b.val=a.val ||| 2^b.val:=by decide +kernel
 exact key ⟨x,hx⟩ ⟨m,hm⟩ h
theorem ZKc (y:Int):IntKind.u8.wrap y=y%256:=by simp[IntKind.wrap,IntKind.bits,IntKind.signed]
def AddF (w:World) (F:List UInt8) (n:Nat) (e:Ending) (w':World):Prop:=∃(A:Option Addr) (c:Nat) (k:Int),e = .returned (.tuple #[.agg #[.slice A n c],.int .i64 k])/\0<=k/\k<=4/\Buf w' w.heap.size 5 A n c (F.map B8)/\Ext w w'
theorem ZLu (f s:List UInt8) (A:Option Addr) (n c:Nat) (w:World) (hn:n=f.length) (hb:Bs w A f) (hs:s.length<=9223372036854775807) (h0:0<n) (w1:n<=131072) :
 Calls Tryz.prog 168 #[.agg #[.slice A n c],.string ⟨s.toArray⟩] w fun e w'=>AddF w (addB f s) n e w':=by
 have d0:Ext w ((w.alloc (.cells #[.slice A n c] 61)).alloc (.cells #[.slice none 0 0] 61)):=((Ext.refl w).alloc _).alloc _;have e0:Ext w ((((w.alloc (.cells #[.slice A n c] 61)).alloc (.cells #[.slice none 0 0] 61))).alloc (.cells #[] 5)):=d0.alloc _;have r1:Row ((w.alloc (.cells #[.slice A n c] 61)).alloc (.cells #[.slice none 0 0] 61)) w.heap.size 61 #[.slice A n c]:=(Row.new w _ _).alloc _;have r2:Row ((w.alloc (.cells #[.slice A n c] 61)).alloc (.cells #[.slice none 0 0] 61)) (w.heap.size+1) 61 #[.slice none 0 0]:=by
  have h:=Row.new (w.alloc (.cells #[.slice A n c] 61)) 61 #[.slice none 0 0];simpa using h
 have y0:(((((w.alloc (.cells #[.slice A n c] 61)).alloc (.cells #[.slice none 0 0] 61))).alloc (.cells #[] 5))).cell? ⟨w.heap.size,0,none⟩=some (.slice A n c):=(r1.alloc _).cell 0 rfl;have t1:Buf ((((w.alloc (.cells #[.slice A n c] 61)).alloc (.cells #[.slice none 0 0] 61))).alloc (.cells #[] 5)) (((w.alloc (.cells #[.slice A n c] 61)).alloc (.cells #[.slice none 0 0] 61))).heap.size 5 (some ⟨(((w.alloc (.cells #[.slice A n c] 61)).alloc (.cells #[.slice none 0 0] 61))).heap.size,0,none⟩) 0 0 []:=ZCT ((w.alloc (.cells #[.slice A n c] 61)).alloc (.cells #[.slice none 0 0] 61)) [] 5 (by simp);have x2:=hb.ext e0;have a2:(f.map B8).length=n:=by rw[List.length_map,hn]
 have d1:(((w.alloc (.cells #[.slice A n c] 61)).alloc (.cells #[.slice none 0 0] 61))).heap.size<=(((((w.alloc (.cells #[.slice A n c] 61)).alloc (.cells #[.slice none 0 0] 61))).alloc (.cells #[] 5))).heap.size:=((Ext.refl ((w.alloc (.cells #[.slice A n c] 61)).alloc (.cells #[.slice none 0 0] 61))).alloc _).size;have p0:=r1.alloc (.cells #[] 5);have k0:=r2.alloc (.cells #[] 5);have e1:=d0.size;have s0:(((w.alloc (.cells #[.slice A n c] 61)).alloc (.cells #[.slice none 0 0] 61))).heap.size=w.heap.size+2:=by simp
 rw[s0]at t1;replace s0:=ZA s0;replace hn:=ZA hn;replace d0:=ZA d0;replace e0:=ZA e0;replace p0:=ZA p0;replace k0:=ZA k0;replace r1:=ZA r1;replace r2:=ZA r2;clear hb;go_enter Tryz.func168,Tryz.ntmps168;go_wp2_with (at_builtin;refine ZG ZV t1 x2 (.tmp 9) (.tmp 11) rfl rfl rfl rfl rfl a2 (ZF _) (by omega) (by simp) (fun A3 c3 w3 m0 y1 i1 t2=>?_);rw[Nat.zero_add,List.nil_append]at m0;have a0:=ZA (i1 w e0.out (by omega));have r13:=p0.out.grown y1 (by simp[Value.ownBlock]);have r23:=k0.out.grown y1 (by simp[Value.ownBlock]);have z0:=r13.cell 0 rfl;have zf:=r13.free 0;replace m0:=ZA m0;replace r13:=ZA r13;replace r23:=ZA r23;clear y1 i1 t2 y0 t1);obtain⟨W4,j0⟩:∃W4,W4=w3.setCell ⟨w.heap.size,0,none⟩ (.slice A3 n c3):=⟨_,rfl⟩
 rw[<-j0];obtain⟨gb,x0⟩:∃gb,gb=w.heap.size:=⟨_,rfl⟩
 rw[<-x0]at j0 r13 r23 m0 ⊢;have r14:Row W4 gb 61 #[.slice A3 n c3]:=by rw[j0];exact r13.out.put 0 _
 have r24:Row W4 (gb+1) 61 #[.slice none 0 0]:=by rw[j0];exact r23.out.away (p:=⟨gb,0,none⟩) (by simp) _
 have y2:Buf W4 (gb+2) 5 A3 n c3 (f.map B8):=by rw[j0];exact m0.out.setCell (m0.out.unlike r13.out (by decide)) _
 have b0:Ext w W4:=by rw[j0];exact a0.out.setCell (p:=⟨gb,0,none⟩) (by simp only;omega) _
 obtain⟨_,d2,⟨h9,i2⟩ | ⟨b,cur0,v2,z2,j2,n1,g2⟩⟩:=y2
 ·omega
 subst v2;have u1:=ZA (fun(i:Nat) (hi:i<4) W=>ZMj s (some ⟨b,0,none⟩) n c3 i W hs h0 w1 hi);have a1:=ZA (fun(F:List UInt8) k W (hF:n=F.length) (hB:Bs W (some ⟨b,0,none⟩) F) (hk:k<8*n)=>ZMZ F (some ⟨b,0,none⟩) n c3 k W hF hB hk w1);replace j0:=ZA j0;replace x0:=ZA x0;clear z0 zf r13 r23 m0 a0 p0 k0 r1 r2 s0 d1 e1
 go_loopw [6,7] (fun s6 s7 wr=>∃(i:Nat) (cnt:Int) (F:List UInt8) (cur:Array Value),s6 = .int .i64 cnt/\s7 = .int .i64 (i:Int)/\i<=4/\0<=cnt/\cnt<=i/\Hid (F=setN f s i)/\Hid (Row wr gb 61 #[.slice (some ⟨b,0,none⟩) n c3])/\Hid (Row wr (gb+1) 61 #[.slice none 0 0])/\Hid (Row wr b 5 cur)/\Hid (c3<=cur.size/\cur.toList.take n=F.map B8)/\Hid (Ext w wr)) (fun _ s7 _=>4 - (intOf s7).toNat)
 case atStart=>exact⟨0,0,f,cur0,rfl,rfl,by omega,by omega,by omega,ZA rfl,ZA r14,ZA r24,ZA j2,ZA ⟨n1,g2⟩,ZA b0⟩
 case round =>
  clear r14 r24 j2 n1 g2 b0;obtain⟨i,cnt,F,cur,rfl,rfl,hi,l1,n2,hF,r1,r2,rb,t0,hE⟩:=hrel;have y0:wr.cell? ⟨gb,0,none⟩=some (.slice (some ⟨b,0,none⟩) n c3):=r1.out.cell 0 rfl;by_cases b2:i<4
  ·have c0:n=F.length:=by rw[hF.out,ZIO,<-hn.out]
   obtain⟨k,hk⟩:∃k,k=fpl s (8*n) i:=⟨_,rfl⟩
   have c2:k<8*n:=by rw[hk];exact ZGh s i (by omega)
   have l0:=u1.out i b2 wr;rw[<-hk]at l0;have i0:setB F k=setN f s (i+1):=by rw[setN,<-hF.out,<-hn.out,<-hk]
   have w0:∀W,Ext wr W->Bs W (some ⟨b,0,none⟩) F:=fun W u2=> .inr ⟨b,0,rfl,fun j v hj=>by
    have h1:=(rb.out.ext u2).get j;rw[Nat.zero_add,h1];have h2:=t0.out.2;rw[<-h2,List.getElem?_take]at hj;split at hj
    ·simpa using hj
    ·cases hj⟩
   have r0:k / 8<F.length:=by omega
   replace hk:=ZA hk;replace l0:=ZA l0;replace i0:=ZA i0;replace c0:=ZA c0;replace w0:=ZA w0;go_wp2_with fail;refine l0.out.mono ?_;rintro e w5 ⟨rfl,f0⟩;have y0:=f0.cell y0;have hh:=a1.out F k w5 c0.out (w0.out w5 f0) c2;cases hv:hasB F k with
   | true =>
    rw[hv]at hh;have c1:=ZIP r0 hv;replace hh:=ZA hh;replace hv:=ZA hv;replace c1:=ZA c1;go_wp2_with fail;refine hh.out.mono ?_;rintro e w6 ⟨rfl,k1⟩;have q0:=f0.trans k1;have q1:=ZA (r1.out.ext q0);have q2:=ZA (r2.out.ext q0);have q3:=ZA (rb.out.ext q0);have j1:=ZA (hE.out.trans q0);clear q0 y0;go_wp2_with fail;go_roundw
    case rel=>exact⟨i+1,cnt,F,cur,rfl,by go_num,by omega,l1,by omega,ZA (by rw[<-i0.out,c1.out]),q1,q2,q3,t0,j1⟩
    case measure=>simp only[intOf];omega
   | false =>
    rw[hv]at hh;replace hh:=ZA hh;go_wp2_with fail;refine hh.out.mono ?_;rintro e w6 ⟨rfl,k1⟩;have q0:=f0.trans k1;have q1:=r1.out.ext q0;have q2:=r2.out.ext q0;have q3:=rb.out.ext q0;have j1:=ZA (hE.out.trans q0);have y0:w6.cell? ⟨gb,0,none⟩=some (.slice (some ⟨b,0,none⟩) n c3):=q1.cell 0 rfl;have z1:=ZBL r0;obtain⟨x,hx⟩:∃x,x=F[k / 8].toNat:=⟨_,rfl⟩
    have m2:x<256:=by rw[hx];exact F[k / 8].toNat_lt
    have o1:cur[k / 8]? = some (.int .u8 (x:Int)):=by
     have h1:(cur.toList.take n)[k / 8]? = some (B8 F[k / 8]):=by rw[t0.out.2,List.getElem?_map,List.getElem?_eq_getElem r0];rfl
     rw[List.getElem?_take,if_pos (by rw[c0.out];exact r0)]at h1;unfold B8 at h1;rw[<-hx]at h1;simpa using h1
    have f1:¬ x / 2^(k%8)%2=1:=by
     unfold hasB at hv;rw[z1,<-hx]at hv;exact of_decide_eq_false hv
    obtain⟨q,hq⟩:∃q,q=k / 8:=⟨_,rfl⟩
    obtain⟨m,hm⟩:∃m,m=k%8:=⟨_,rfl⟩
    have b1:m<8:=by omega
    rw[<-hm]at f1;have m1:=ZOa m2 b1 f1;have k2:=ZN9 m2 b1;have h3:(k:Int) / 8=(q:Int):=by omega
    have o2:(k:Int)%8=(m:Int):=by omega
    have k3:(q:Int)<n:=by have:=c0.out;omega
    have r1c:w6.cell? ⟨b,q,none⟩=some (.int .u8 (x:Int)):=q3.cell q (by rw[hq];exact o1);have r1f:=q3.free q;have w2:(2:Int)^m%256=((2^m:Nat):Int):=by
     have:∀k:Fin 8,(2:Int)^k.val%256=((2^k.val:Nat):Int):=by decide
     exact this ⟨m,b1⟩
    have g0:IntKind.u8.wrap ((x:Int)+((2^m:Nat):Int))=((x ||| 2^m:Nat):Int):=by rw[ZKc,<-m1];omega
    have n0:B8 (UInt8.ofNat ((F.getD (k / 8) 0).toNat ||| 2^(k%8))) = .int .u8 ((x ||| 2^m:Nat):Int):=by
     unfold B8;rw[z1,<-hx,<-hm,UInt8.toNat_ofNat',Nat.mod_eq_of_lt k2]
    obtain⟨y,hy⟩:∃y,y=x ||| 2^m:=⟨_,rfl⟩
    rw[<-hy]at g0 n0;have l2:b≠gb:=by omega
    have f2:((x:Int)+2^m)%256=(y:Int):=by
     rw[ZKc]at g0;rw[<-g0];simp
    replace q1:=ZA q1;replace q2:=ZA q2;replace q3:=ZA q3;replace hq:=ZA hq;replace hm:=ZA hm;replace hx:=ZA hx;replace hy:=ZA hy;replace n0:=ZA n0;replace m1:=ZA m1;clear q0 z1 o1 f1 k2 hv;go_wp2_with fail;refine ZB follows (by kernel_rfl) (by kernel_rfl) (fun K hK=>?_);go_wp2_with fail;refine⟨by kernel_rfl,?_⟩;go_wp2_with fail;have s1:=x0.out;have p1:=Row.drew (q1.out.away (p:=⟨b,q,none⟩) (by simp only;omega) (.int .u8 (y:Int)));have p2:=Row.drew (q2.out.away (p:=⟨b,q,none⟩) (by simp only;omega) (.int .u8 (y:Int)));have p3:=Row.drew (q3.out.put q (.int .u8 (y:Int)));have g1:=Ext.drew (j1.out.setCell (p:=⟨b,q,none⟩) (by simp only;omega) (.int .u8 (y:Int)));replace s1:=ZA s1;replace p1:=ZA p1;replace p2:=ZA p2;replace p3:=ZA p3;replace g1:=ZA g1;have x1:c3<=(cur.setIfInBounds q (.int .u8 (y:Int))).size/\(cur.setIfInBounds q (.int .u8 (y:Int))).toList.take n=(setB F k).map B8:=by
     refine⟨by rw[Array.size_setIfInBounds];exact t0.out.1,?_⟩;unfold setB;rw[Array.toList_setIfInBounds,List.take_set,t0.out.2,List.map_set,n0.out,hq.out]
    exact⟨⟨i+1,cnt+1,setB F k,cur.setIfInBounds q (.int .u8 (y:Int)),rfl,by go_num,by omega,by omega,by omega,i0,p1,p2,p3,ZA x1,g1⟩,by simp only[intOf];omega⟩
  ·obtain rfl:i=4:=by omega
   have v0:F=addB f s:=hF.out;have u0:n=(addB f s).length:=by rw[ZCx,<-hn.out]
   have z0:=r2.out.cell 0 rfl;have zf:=r2.out.free 0;have o0:Buf wr (gb+2) 5 (some ⟨b,0,none⟩) n c3 ((addB f s).map B8):=⟨by rw[List.length_map];exact u0.symm,d2,.inr ⟨b,cur,rfl,z2,rb.out,t0.out.1,by rw[t0.out.2,v0]⟩⟩
   have s2:b≠gb+1:=by omega
   replace v0:=ZA v0;replace u0:=ZA u0;replace o0:=ZA o0;go_wp2_with fail;have e2:=r2.out.put 0 (.slice (some ⟨b,0,none⟩) n c3);have v1:=o0.out.setCell (p:=⟨gb+1,0,none⟩) (o0.out.unlike r2.out (by decide)) (.slice (some ⟨b,0,none⟩) n c3);refine bodyPost_ret (ZT rfl _ _ (gb+1) #[.slice (some ⟨b,0,none⟩) n c3] rfl (run_loadVar_row _ (gb+1) 61 61 _ (0,0) _ e2 Tryz.underlying61 rfl (by kernel_rfl))) rfl ⟨some ⟨b,0,none⟩,c3,cnt,rfl,l1,by omega,v1.lower (by have:=x0.out;omega),hE.out.setCell (p:=⟨gb+1,0,none⟩) (by have:=x0.out;simp only;omega) _⟩
end
section
open Go.RowKit Go.Maps
def AddFs (w:World) (F:List UInt8) (n:Nat) (e:Ending) (w':World):Prop:=∃(A:Option Addr) (c:Nat) (k:Int),e = .returned (.tuple #[.agg #[.slice A n c],.int .i64 k])/\In8 w' A n c F/\Ext w w'
theorem ZGG:∀(l:List (List UInt8)) (f:List UInt8),(l.foldl addB f).length=f.length
 | [],f=>rfl
 | c::l,f=>by rw[List.foldl_cons,ZGG l,ZCx]
theorem ZFG {w:World} {A B:Option Addr} {n c m d:Nat} {l:List UInt8} {p:Addr} (h:In8 w A n c l) (hp:w.cell? p=some (.slice B m d)) (v:Value):In8 (w.setCell p v) A n c l :=
 ⟨h.len,ZGS h.bytes hp (fun u hu e=>by
  obtain⟨x,_,rfl⟩:=List.mem_map.1 hu;cases e) v,h.cap,h.nil_,fun a ha=>⟨(h.at_ a ha).1,by rw[World.size_setCell];exact(h.at_ a ha).2⟩⟩
theorem ZHh (f : List UInt8) (ts : List (List UInt8)) (A B : Option Addr) (n c k c2 : Nat) (w : World) (hf : In8 w A n c f) (hk : k = ts.length) (hB : Cells w B (ts.map strV)) (hs : ∀ s ∈ ts, s.length ≤ 9223372036854775807) (h0 : 0 < n) (c1 : n ≤ 131072) (s1 : k ≤ 1000000000) :
    Calls Tryz.prog 122 #[.agg #[.slice A n c], .slice B k c2] w fun e w' => AddFs w (ts.foldl addB f) n e w' := by
  have v0 : Ext w ((w.alloc (.cells #[.slice A n c] 61)).alloc (.cells #[.slice none 0 0] 61)) := ((Ext.refl w).alloc _).alloc _
  have r1 : Row ((w.alloc (.cells #[.slice A n c] 61)).alloc (.cells #[.slice none 0 0] 61)) w.heap.size 61 #[.slice A n c] := (Row.new w _ _).alloc _
  have r2 : Row ((w.alloc (.cells #[.slice A n c] 61)).alloc (.cells #[.slice none 0 0] 61)) (w.heap.size + 1) 61 #[.slice none 0 0] := by
    have h := Row.new (w.alloc (.cells #[.slice A n c] 61)) 61 #[.slice none 0 0]
    simpa using h
  have h1 := hf.ext v0
  have j1 := hf.len
  have o0 := ZA (fun F s A c W (hn : n = F.length) (hb : Bs W A F) (hs : s.length ≤ 9223372036854775807) => ZLu F s A n c W hn hb hs h0 c1)
  have a1 := ZA (fun i => (show n = ((ts.take i).foldl addB f).length by rw [ZGG, j1]))
  replace j1 := ZA j1
  replace hk := ZA hk
  replace hB := ZA hB
  replace hs := ZA hs
  clear hf
  go_enter Tryz.func122, Tryz.ntmps122
  go_wp2_with fail
  obtain ⟨W1, n0⟩ : ∃ W1, W1 = ((w.alloc (.cells #[.slice A n c] 61)).alloc (.cells #[.slice none 0 0] 61)) := ⟨_, rfl⟩
  obtain ⟨gb, t0⟩ : ∃ gb, gb = w.heap.size := ⟨_, rfl⟩
  rw [← n0] at v0 r1 r2 h1 ⊢
  rw [← t0] at r1 r2 ⊢
  replace n0 := ZA n0
  replace t0 := ZA t0
  go_loopw [6, 7] (fun s6 s7 wr => ∃ (i : Nat) (al : Int) (A : Option Addr) (c : Nat), s6 = .int .i64 al ∧ s7 = .int .i64 (i : Int) ∧ i ≤ k ∧ 0 ≤ al ∧ al ≤ 4 * i ∧ Hid (Row wr gb 61 #[.slice A n c]) ∧ Hid (Row wr (gb + 1) 61 #[.slice none 0 0]) ∧ Hid (In8 wr A n c ((ts.take i).foldl addB f)) ∧ Hid (Ext w wr)) (fun _ s7 _ => k - (intOf s7).toNat)
  case atStart => exact ⟨0, 0, A, c, rfl, rfl, by omega, by omega, by omega, ZA r1, ZA r2, ZA h1, ZA v0⟩
  case round =>
    clear r1 r2 h1 v0
    obtain ⟨i, al, A, c, rfl, rfl, hi, i1, l1, r1, r2, t1, hE⟩ := hrel
    have y0 : wr.cell? ⟨gb, 0, none⟩ = some (.slice A n c) := r1.out.cell 0 rfl
    by_cases b1 : i < k
    · obtain ⟨s, d0⟩ : ∃ s, ts[i]? = some s := ⟨_, List.getElem?_eq_getElem (by rw [← hk.out]; exact b1)⟩
      obtain ⟨g, o, x1, m1⟩ := hB.out.at_ (by rw [List.length_map, ← hk.out]; omega)
      have l0 : wr.cell? ⟨g, o + i, none⟩ = some (.string ⟨s.toArray⟩) := hE.out.cell (m1 i _ (by rw [List.getElem?_map, d0]; rfl))
      have g1 := ZA (fun W (hW : Ext wr W) => o0.out _ s A c W (a1.out i) (t1.out.ext hW).bytes (hs.out s (List.mem_of_getElem? d0)))
      have v1 : (ts.take (i + 1)).foldl addB f = addB ((ts.take i).foldl addB f) s := by rw [List.take_add_one, d0, List.foldl_append]; rfl
      obtain ⟨F2, a0⟩ : ∃ F2, F2 = (ts.take (i + 1)).foldl addB f := ⟨_, rfl⟩
      rw [← v1, ← a0] at g1
      subst x1
      replace a0 := ZA a0
      clear d0 m1 v1
      go_upto_region 5 with fail
      go_cut [8, 9] (fun s8 s9 wy => ∃ (g8 c3 : Nat) (A3 : Option Addr) (cnt : Int), s8 = .pointer (some ⟨g8, 0, none⟩) ∧ s9 = .int .i64 cnt ∧ 0 ≤ cnt ∧ cnt ≤ 4 ∧ wr.heap.size ≤ g8 ∧ Hid (Row wy g8 61 #[.slice A3 n c3]) ∧ Hid (In8 wy A3 n c3 F2) ∧ Hid (Ext wr wy))
      case first =>
        have g0 : Ext wr wr.drew := (Ext.refl wr).drew
        have m0 : Ext wr (wr.alloc (.cells #[.slice none 0 0] 61)).drew := ((Ext.refl wr).alloc _).drew
        have j0 : Row (wr.alloc (.cells #[.slice none 0 0] 61)).drew wr.heap.size 61 #[.slice none 0 0] := (Row.new wr _ _).drew
        have y0e := m0.cell y0
        have l0e := m0.cell l0
        have y0d := g0.cell y0
        have l0d := g0.cell l0
        have o1 : (0 : Int) ≤ i := by omega
        have hi1 : (i : Int) < k := by omega
        replace j0 := ZA j0
        replace g0 := ZA g0
        replace m0 := ZA m0
        go_region_with ((go_at_call 168; refine (g1.out _ (by first | exact g0.out | exact m0.out)).mono ?_; rintro e w6 ⟨A3, c3, cnt, rfl, s0, w0, r0, x0⟩; (first | (have r6 := j0.out.ext x0; have c0 := r6.get; have f0 := r6.free; have q0 := ZA (m0.out.trans x0); have b0 := ZA (r0.lower (Nat.le_refl _)); replace r6 := ZA r6) | (have q0 := ZA (g0.out.trans x0); have b0 := ZA (r0.lower (Nat.le_refl _)))); clear r0 x0))
        all_goals
          go_wp2_with fail
          go_meet
          case rel =>
            first
            | (have r6' := r6.out
               have e1 : Row (w6.setCell ⟨wr.heap.size, 0, none⟩ (.slice A3 n c3)) wr.heap.size 61 #[.slice A3 n c3] := r6'.put 0 (.slice A3 n c3)
               have z1 := b0.out.setCell (p := ⟨wr.heap.size, 0, none⟩) (b0.out.unlike r6' (by decide)) (.slice A3 n c3)
               exact ⟨wr.heap.size, c3, A3, cnt, rfl, rfl, s0, w0, Nat.le_refl _, ZA e1, ZA z1.in8, ZA (q0.out.setCell (p := ⟨wr.heap.size, 0, none⟩) (Nat.le_refl _) _)⟩)
            | exact ⟨w6.heap.size, c3, A3, cnt, rfl, rfl, s0, w0, q0.out.size, ZA (Row.new w6 _ _), ZA (b0.out.in8.ext ((Ext.refl w6).alloc _)), ZA (q0.out.alloc _)⟩
      case rest =>
        obtain ⟨g8, c3, A3, cnt, rfl, rfl, s0, w0, n1, r8, k1, e0⟩ := hcut
        have u0 : wc.cell? ⟨g8, 0, none⟩ = some (.slice A3 n c3) := r8.out.cell 0 rfl
        have u1 := r1.out.ext e0.out
        have u2 := r2.out.ext e0.out
        have z0 := u1.cell 0 rfl
        have zf := u1.free 0
        have y1 := hE.out.size
        have p1 := u1.put 0 (.slice A3 n c3)
        have p2 := u2.away (p := ⟨gb, 0, none⟩) (by simp) (.slice A3 n c3)
        have i0 := (hE.out.trans e0.out).setCell (p := ⟨gb, 0, none⟩) (by have := t0.out; simp only; omega) (.slice A3 n c3)
        replace p1 := ZA p1
        replace p2 := ZA p2
        replace i0 := ZA i0
        have k0 := ZA (show In8 (wc.setCell ⟨gb, 0, none⟩ (.slice A3 n c3)) A3 n c3 ((ts.take (i + 1)).foldl addB f) from by
          rw [← a0.out]
          exact ZFG k1.out z0 _)
        go_wp2_with fail
        go_roundw
        case rel => exact ⟨i + 1, al + cnt, A3, c3, rfl, by go_num, by omega, by omega, by omega, p1, p2, k0, i0⟩
        case measure => simp only [intOf]; omega
    · obtain rfl : i = k := by omega
      have f1 : ts.take i = ts := List.take_of_length_le (by rw [← hk.out]; exact Nat.le_refl _)
      have p0 := t1.out
      rw [f1] at p0
      have z0 := r2.out.cell 0 rfl
      have zf := r2.out.free 0
      have q1 := t0.out
      replace p0 := ZA p0
      replace q1 := ZA q1
      go_wp2_with fail
      have d1 := r2.out.put 0 (.slice A n c)
      have k0 := ZFG p0.out (r2.out.cell 0 rfl) (.slice A n c)
      refine bodyPost_ret (ZT rfl _ _ (gb + 1) #[.slice A n c] rfl (run_loadVar_row _ (gb + 1) 61 61 _ (0, 0) _ d1 Tryz.underlying61 rfl (by kernel_rfl))) rfl ⟨A, c, al, rfl, k0, hE.out.setCell (p := ⟨gb + 1, 0, none⟩) (by have := q1.out; simp only; omega) _⟩
end
section
open Go.RowKit Go.Maps
theorem ZFb (n:Nat) (w:World) (hn:n<=262144):Calls Tryz.prog 167 #[.int .i64 (n:Int)] w fun e w'=>e = .returned (.int .i64 (filL n:Int))/\w'=w:=by
 obtain⟨x,hx⟩:∃x:Nat,(x:Int)=max (10*(n:Int)) 64:=⟨max (10*n) 64,by omega⟩
 obtain⟨y,hy⟩:∃y:Nat,(y:Int)=min (x:Int) 1048576:=⟨min x 1048576,by omega⟩
 have p0:=fun(W:World)=>ZBH (P:=Tryz.prog) #[3,3] 3 hx W;have k0:=fun(W:World)=>Zf (P:=Tryz.prog) #[3,3] 3 hy W;obtain⟨k,hk⟩:∃k,k=(y+7) / 8:=⟨_,rfl⟩
 have h0:k=filL n:=by unfold filL;omega
 have j0:y<=1048576:=by omega
 have q0:((y:Int)+7) / 8=(k:Int):=by omega
 rw[<-h0];replace hx:=ZA hx;replace hy:=ZA hy;replace hk:=ZA hk;replace h0:=ZA h0;go_enter Tryz.func167,Tryz.ntmps167;go_wp2_with fail;go_ret;exact⟨ZCc q0,rfl⟩
def NewQ (w:World) (n:Nat) (e:Ending) (w':World):Prop:=∃(A:Option Addr) (c:Nat),e = .returned (.tuple #[.agg #[.slice A n c],.int .i64 0])/\In8 w' A n c (List.replicate n 0)/\Ext w w'
theorem ZM1 (n:Nat) (w:World) (hn:n<=262144):Calls Tryz.prog 121 #[.int .i64 (n:Int)] w (NewQ w (filL n)):=by
 have h0:=ZFb n (w.alloc (.cells #[.slice none 0 0] 61)) hn;obtain⟨k,hk⟩:∃k,k=filL n:=⟨_,rfl⟩
 have k0:k<=131072:=by rw[hk];exact(ZDU n).2
 rw[<-hk]at h0 ⊢;have j0:∀W:World,(Instr.makeSlice 25 (.int .i64 (k:Int)) (.int .i64 (k:Int))).run Tryz.prog W = .ok (.slice (some ⟨W.heap.size,0,none⟩) k k) (W.alloc (.cells (madeCells #[.int .u8 0] k) 5)):=fun W=>by
  have h:=run_make (P:=Tryz.prog) W 25 5 _ _ Tryz.underlying25 rfl rfl .i64 .i64 (k:Int) (k:Int) (by omega) (by omega) (by show (1:Int)*k<=_;omega) (by omega);rw[h];simp only[Int.toNat_natCast];show Result.ok _ (W.alloc (.cells (madeCells #[.int .u8 0] (k*1)) 5))=_;rw[Nat.mul_one]
 have r1:=Row.new w 61 #[.slice none 0 0];have r1':=r1.alloc (.cells (madeCells #[.int .u8 0] k) 5);have z0:=r1'.cell 0 rfl;have zf:=r1'.free 0;have r2:=Row.new (w.alloc (.cells #[.slice (some ⟨w.heap.size+1,0,none⟩) k k] 61)) 5 (madeCells #[.int .u8 0] k);have hb:Buf (((w.alloc (.cells #[.slice (some ⟨w.heap.size+1,0,none⟩) k k] 61))).alloc (.cells (madeCells #[.int .u8 0] k) 5)) ((w.alloc (.cells #[.slice (some ⟨w.heap.size+1,0,none⟩) k k] 61))).heap.size 5 (some ⟨((w.alloc (.cells #[.slice (some ⟨w.heap.size+1,0,none⟩) k k] 61))).heap.size,0,none⟩) k k ((List.replicate k (0:UInt8)).map B8) :=
  ⟨by simp,Nat.le_refl _,.inr ⟨_,_,rfl,Nat.le_refl _,r2,by rw[size_madeCells];exact Nat.le_refl _,by rw[toList_madeCells_one,List.take_of_length_le (by simp),List.map_replicate];rfl⟩⟩
 rw[World.size_alloc]at hb;have q0:=(Row.new w 61 #[.slice (some ⟨w.heap.size+1,0,none⟩) k k]).alloc (.cells (madeCells #[.int .u8 0] k) 5);replace h0:=ZA h0;replace hk:=ZA hk;replace hb:=ZA hb;replace q0:=ZA q0;clear r1 r2 r1';go_enter Tryz.func121,Tryz.ntmps121;go_wp2_with fail;refine h0.out.mono ?_;rintro e w1 ⟨rfl,p0⟩;obtain rfl:=p0.symm;go_wp2_with fail;exact bodyPost_ret (ZT rfl _ _ w.heap.size #[.slice (some ⟨w.heap.size+1,0,none⟩) k k] rfl (run_loadVar_row _ w.heap.size 61 61 _ (0,0) _ q0.out Tryz.underlying61 rfl (by kernel_rfl))) rfl ⟨_,k,rfl,hb.out.in8,((Ext.refl w).alloc _).alloc _⟩
theorem ZN1 (ts:List (List UInt8)) (B:Option Addr) (k c2:Nat) (w:World) (hk:k=ts.length) (hB:Cells w B (ts.map strV)) (hs:∀s∈ts,s.length<=9223372036854775807) (l0:k<=1000000000) :
 Calls Tryz.prog 67 #[.slice B k c2] w fun e w'=>∃(A:Option Addr) (n c:Nat),e = .returned (.agg #[.slice A n c])/\In8 w' A n c (ofB ts)/\Ext w w':=by
 obtain⟨x,hx⟩:∃x:Nat,(x:Int)=min (k:Int) 262144:=⟨min k 262144,by omega⟩
 have n0:=fun(W:World)=>Zf (P:=Tryz.prog) #[3,3] 3 hx W;have c0:x=min ts.length 262144:=by omega
 have x0:Ext w (w.alloc (.cells #[.slice none 0 0] 61)):=(Ext.refl w).alloc _;have r1:=Row.new w 61 #[.slice none 0 0];have m0:=ZM1 x (w.alloc (.cells #[.slice none 0 0] 61)) (by omega);obtain⟨n,hn⟩:∃n,n=filL x:=⟨_,rfl⟩
 have o0:8<=n/\n<=131072:=by rw[hn];exact ZDU x
 rw[<-hn]at m0;have f0:ts.foldl addB (List.replicate n 0)=ofB ts:=by unfold ofB;rw[hn,c0]
 have k0:=ZA (fun A c W (hE:Ext w W) (hf:In8 W A n c (List.replicate n 0))=>ZHh (List.replicate n 0) ts A B n c k c2 W hf hk (hB.ext hE) hs (by omega) o0.2 l0);rw[f0]at k0;replace m0:=ZA m0;replace hx:=ZA hx;replace c0:=ZA c0;replace hn:=ZA hn;replace r1:=ZA r1;replace x0:=ZA x0;clear f0 hk hB hs;go_enter Tryz.func67,Tryz.ntmps67;go_wp2_with fail;refine m0.out.mono ?_;rintro e w1 ⟨A1,c1,rfl,j0,d0⟩;have r2:=ZA (r1.out.ext d0);have y0:=ZA (x0.out.trans d0);have q0:=j0.ext ((Ext.refl w1).alloc (.cells #[.slice A1 n c1] 61));have r3:=Row.new w1 61 #[.slice A1 n c1];have y3:(w1.alloc (.cells #[.slice A1 n c1] 61)).cell? ⟨w1.heap.size,0,none⟩=some (.slice A1 n c1):=r3.cell 0 rfl;have h0:=y0.out.alloc (.cells #[.slice A1 n c1] 61);have e0:=ZA (k0.out A1 c1 _ h0 q0);replace r3:=ZA r3;replace h0:=ZA h0;clear j0 q0 m0;go_wp2_with fail;refine e0.out.mono ?_;rintro e w3 ⟨A3,c3,cnt,rfl,g0,t0⟩;have r33:=r3.out.ext t0;have r23:=(r2.out.alloc (.cells #[.slice A1 n c1] 61)).ext t0;have u0:=ZA (h0.out.trans t0);obtain⟨g3,a0⟩:∃g3,g3=w1.heap.size:=⟨_,rfl⟩
 obtain⟨g2,v0⟩:∃g2,g2=w.heap.size:=⟨_,rfl⟩
 have i0:g2<g3:=by have:=r2.out.lt;omega
 rw[<-a0]at r33 ⊢;rw[<-v0]at r23 ⊢;have z3:=r33.cell 0 rfl;have f3:=r33.free 0;have p3:=r33.put 0 (.slice A3 n c3);have p2:=r23.away (p:=⟨g3,0,none⟩) (by simp only;omega) (.slice A3 n c3);have p0:=ZFG g0 z3 (.slice A3 n c3);have z0:=u0.out.setCell (p:=⟨g3,0,none⟩) (by simp only;omega) (.slice A3 n c3);have y3:(w3.setCell ⟨g3,0,none⟩ (.slice A3 n c3)).cell? ⟨g3,0,none⟩=some (.slice A3 n c3):=p3.cell 0 rfl;have z2:=p2.cell 0 rfl;have f2:=p2.free 0;have r0:g2≠g3:=by omega
 replace r33:=ZA r33;replace r23:=ZA r23;replace a0:=ZA a0;replace v0:=ZA v0;replace p3:=ZA p3;replace p2:=ZA p2;replace p0:=ZA p0;replace z0:=ZA z0;clear g0 t0 e0;go_wp2_with fail;have p9:=p2.out.put 0 (.slice A3 n c3);have b0:=ZFG p0.out z2 (.slice A3 n c3);exact bodyPost_ret (results_cell_row rfl _ _ g2 61 #[.slice A3 n c3] (0,0) _ rfl p9 Tryz.underlying61 rfl (by kernel_rfl)) rfl ⟨A3,n,c3,rfl,b0,z0.out.setCell (p:=⟨g2,0,none⟩) (by have:=v0.out;simp only;omega) _⟩
end
section
open Go.RowKit Go.Maps
theorem ZLD {w w1:World} {b1 b2 e1 e2 s1 s2 n1 n2:Nat} {v1 v2:Value} {xs1 xs2:List Value} (h1:w.ownsRow b1 e1 s1 v1 n1 xs1) (hg:w.grownBy w1 v1.ownBlock) (h2:w.ownsRow b2 e2 s2 v2 n2 xs2) (h0:e2≠e1):w1.ownsRow b2 e2 s2 v2 n2 xs2 :=
 (Chg.of_grown (S:=fun q=>v1.ownBlock=some q) hg (fun _ _ e=>e)).owns h2 fun q hq e=>by
  obtain⟨cu,hr,_⟩:=ZC h1 e;exact ZJ h2 hr h0 hq
theorem ZNs (A:Option Addr) (n c:Nat) (W:World):(Instr.field 61 (.agg #[.slice A n c]) 0).run Tryz.prog W = .ok (.slice A n c) W:=by
 unfold Instr.field;simp only[Sem.run_bind,run_underlying Tryz.underlying61,Result.andThen_ok]
 kernel_rfl
theorem ZKm {ds:List DocC} {m:Nat} {A:Option Addr} {w:World} (hm:m=ds.length) (h:DocsOk w A ds) (h0:0<m) (g0:m<=1000000):∀x∈partD (dcs ds),I64ok' x:=by
 obtain⟨x0,k0⟩:∃x,ds[0]? = some x:=⟨_,List.getElem?_eq_getElem (by omega)⟩
 obtain⟨xl,j0⟩:∃x,ds[m - 1]? = some x:=⟨_,List.getElem?_eq_getElem (by omega)⟩
 have p0:∀d∈dcs ds,I64ok' d.2.at_:=fun d hd=>by
  unfold dcs at hd;obtain⟨x,hx,rfl⟩:=List.mem_map.1 hd;exact(h.each x hx).2.1
 have q0:=(h.each x0 (List.mem_of_getElem? k0)).2;have ql:=(h.each xl (List.mem_of_getElem? j0)).2;rw[ZBa hm k0 j0];intro x hx;simp only[List.mem_cons,List.not_mem_nil,or_false]at hx;rcases hx with rfl | rfl | rfl | rfl | rfl
 ·exact ZCr _ _ q0.1 p0
 ·exact ZCB _ _ q0.1 p0
 ·exact q0.2
 ·exact ql.2
 ·unfold I64ok';omega
theorem ZCl (ds:List DocC) (A:Option Addr) (m c:Nat) (w:World) (hm:m=ds.length) (h:DocsOk w A ds) (j0:m<=1000000000) (p0:okDs (dcs ds)=false\/m=0) :
 Calls Tryz.prog 18 #[.slice A m c] w fun e w'=>e = .returned (.tuple #[.slice none 0 0,.int .i64 130])/\Ext w w':=by
 by_cases hk:okDs (dcs ds)=false
 ·have q0:=ZA (ZCj ds A m c w hm h j0 hk);clear hk p0 hm h;go_enter Tryz.func18,Tryz.ntmps18;go_wp2_with fail;refine q0.out.mono ?_;rintro e w1 ⟨rfl,h0⟩;go_wp2_with fail;go_ret2;exact⟨rfl,h0⟩
 ·have k0:m=0:=by
   rcases p0 with h1 | h1
   ·exact absurd h1 hk
   ·exact h1
  subst k0;obtain rfl:ds = []:=List.length_eq_zero_iff.1 hm.symm;have q0:=ZA (ZA2 [] A 0 c w rfl h rfl (by simp[dcs,blockD]));clear hk p0 hm h;go_enter Tryz.func18,Tryz.ntmps18;go_wp2_with fail;refine q0.out.mono ?_;rintro e w1 ⟨B1,c1,rfl,_,h0⟩;go_wp2_with fail;go_ret2;exact⟨rfl,h0⟩
theorem ZB2 (ds:List DocC) (A:Option Addr) (m c:Nat) (w:World) (hm:m=ds.length) (h:DocsOk w A ds) (hs:SmP (dcs ds)) (h0:0<m) :
 Calls Tryz.prog 18 #[.slice A m c] w fun e w'=>OkB w (segL (dcs ds)) e w':=by
 have hB:=hs.seg;have k4:(dcs ds).length=m:=by unfold dcs;rw[List.length_map,hm]
 have q7:m<=65536:=by rw[<-k4];exact hB.n
 have d3:=ZA2 ds A m c w hm h hs.ok (by have:=hs.sz;omega);have j5:=ZA (fun W (hE:Ext w W)=>ZLd ds A m c W hm (h.ext hE) (by omega) (by have:=hB.pairs;omega));have y5:=ZA (fun W (hE:Ext w W)=>ZHk ds A m c W hm (h.ext hE) (by omega) h0);have z5:=ZA (fun W (hE:Ext w W)=>ZJb ds A m c W hm (h.ext hE) (by omega));have c3:=ZKm hm h h0 (by omega);obtain⟨P,hP⟩:∃P,P=dcs ds:=⟨_,rfl⟩
 rw[<-hP]at hB d3 j5 y5 z5 c3;obtain⟨R,hR⟩:∃R,R=rowsD P:=⟨_,rfl⟩
 have s4:=hB.rows;have m3:=hB.each;have w4:=hB.posts;rw[<-hR]at s4 m3 w4;have t3:∀r∈R,1<=r.1.length/\r.1.length<=65:=fun r hr=>ZCq (P:=P) (by rw[<-hR];exact hr);replace hB:=ZA hB;replace hP:=ZA hP;replace hR:=ZA hR;replace k4:=ZA k4;replace d3:=ZA d3;replace m3:=ZA m3;replace t3:=ZA t3;replace hm:=ZA hm;replace h:=ZA h;replace hs:=ZA hs;replace c3:=ZA c3;have h7:(m:Int)≠0:=by omega
 go_enter Tryz.func18,Tryz.ntmps18;go_wp2_with fail;refine d3.out.mono ?_;rintro e w1 ⟨B1,c1,rfl,g3,i4⟩;have y4:(encDs P).length<=16777216:=hB.out.docs;obtain⟨n1,y3⟩:∃n1,n1=(encDs P).length:=⟨_,rfl⟩
 rw[<-y3]at g3 y4 ⊢;replace y3:=ZA y3;replace g3:=ZA g3;go_wp2_with fail;refine(j5.out w1 i4).mono ?_;rintro e w2 ⟨E,B2,n2,c2,rfl,z0,q3⟩;have g1:n2=R.length:=by rw[z0.len,<-ZDe,z0.rows,hR.out];rfl
 have o3:idR E=R:=by rw[z0.rows,hR.out];rfl
 have f5:=ZA z0.len;rw[<-g1]at s4;replace g1:=ZA g1;replace o3:=ZA o3;have j6:=ZA (Cells.of_own z0.own);have f6:=ZA (fun x (hx:x∈E)=>And.intro (z0.each x hx) (z0.pos x hx));clear z0;have z1:=ZA (i4.trans q3);replace q3:=ZA q3;have b6:decide (262144<n2)=false:=decide_eq_false (by omega);go_wp2_with fail;obtain⟨b2,j0⟩:∃b2,b2=w2.heap.size:=⟨_,rfl⟩
 have s5:w.heap.size<=b2:=by rw[j0];exact z1.out.size
 have o1:=Nat.le_of_eq j0;replace j0:=ZA j0
 go_loopw [7,8,9,10] (fun s7 s8 s9 s10 wr=>∃(i nB cB cE cT:Nat) (BA EA TA:Option Addr),s10 = .int .i64 (i:Int)/\s7 = .slice BA nB cB/\s8 = .slice EA i cE/\s9 = .slice TA i cT/\i<=n2/\nB<=5000000/\Hid (nB=(postB (R.take i)).length)/\Hid (Buf wr b2 5 BA nB cB ((postB (R.take i)).map B8))/\Hid (wr.ownsRow b2 97 4 (.slice EA i cE) i (encells (enOf 0 (R.take i))))/\Hid (wr.ownsRow b2 9 1 (.slice TA i cT) i (((R.take i).map (·.1)).map strV))/\Hid (Ext w2 wr)/\b2<=wr.heap.size) (fun _ _ _ s10 _=>n2 - (intOf s10).toNat)
 case atStart=>exact⟨0,0,0,0,0,none,none,none,rfl,rfl,rfl,rfl,by omega,by omega,ZA rfl,ZA (Buf.nil _ _ _),ZA (World.ownsRow_nil _ _ _ _),ZA (World.ownsRow_nil _ _ _ _),ZA (Ext.refl _),o1⟩
 case round =>
  obtain⟨i,nB,cB,cE,cT,BA,EA,TA,rfl,rfl,rfl,rfl,hi,t2,j2,u1,q1,f1,p1,k6⟩:=hrel;by_cases u6:i<n2
  ·obtain⟨x,hx⟩:∃x,E[i]? = some x:=⟨_,List.getElem?_eq_getElem (by rw[<-f5.out];exact u6)⟩
   have hr:R[i]? = some (x.s,psP x.ps):=by rw[<-o3.out];exact ZFi hx
   have d4:=List.mem_of_getElem? hr;have y0:=m3.out _ d4;have v5:=t3.out _ d4;simp only at y0 v5;obtain⟨g2,o2,v6,e0⟩:=ZBT j6.out hx;obtain⟨f3,i3⟩:=f6.out x (List.mem_of_getElem? hx);have e2:=ZAL f3;have c4:PosOk w2 x.A x.ps:=⟨Cells.of_own f3,fun y hy=>⟨(i3 y hy).1.cells,(i3 y hy).2⟩⟩
   have i0:x.ps.length=(psP x.ps).length:=by unfold psP;rw[List.length_map]
   obtain⟨l0,l1⟩:=e0 wr p1.out;obtain⟨rt,ps,xA,xc⟩:=x;simp only at hr y0 v5 e0 f3 i3 e2 c4 i0 l0 l1;obtain⟨rl,x2⟩:∃rl,rl=psP ps:=⟨_,rfl⟩
   rw[<-x2]at hr y0 i0;obtain⟨np,z3⟩:∃np,np=ps.length:=⟨_,rfl⟩
   rw[<-z3]at e0 e2 i0 l1;have b3:=ZE8 ps xA np xc wr z3 (c4.ext p1.out) e2.2 e2.1 (by rw[<-x2];exact y0.1) (by rw[<-x2];exact y0.2.2.2.1);rw[<-x2]at b3;have y2:postB (R.take (i+1))=postB (R.take i)++encPs rl:=by
    rw[List.take_add_one,hr,ZAm];unfold postB;simp
   have x4:enOf 0 (R.take (i+1))=enOf 0 (R.take i) ++ [⟨rt,nB,(encPs rl).length,rl.length⟩]:=by
    rw[List.take_add_one,hr,ZFd,<-j2.out,Nat.zero_add];rfl
   have e4:((R.take (i+1)).map (·.1)).map strV=((R.take i).map (·.1)).map strV ++ [.string ⟨rt.toArray⟩]:=by
    rw[List.take_add_one,hr,List.map_append,List.map_append];rfl
   have o0:(postB (R.take (i+1))).length<=5000000:=by
    refine Nat.le_trans ?_ w4;have h1:=ZAm (R.take (i+1)) (R.drop (i+1));rw[List.take_append_drop]at h1;rw[h1,List.length_append];omega
   have m6:=y0.2.2.2.2;have i6:=y0.2.2.1;rw[y2,List.length_append,<-j2.out]at o0;subst v6;replace y2:=ZA y2;replace x4:=ZA x4;replace e4:=ZA e4;replace b3:=ZA b3;replace z3:=ZA z3;replace hr:=ZA hr;replace i0:=ZA i0;replace e0:=ZA e0;clear d4 c4 y0 f3 i3 e2 x2;go_wp2_with fail;refine b3.out.mono ?_;rintro e w5 ⟨B5,c5,rfl,s3,s0⟩;obtain⟨n5,m1⟩:∃n5,n5=(encPs rl).length:=⟨_,rfl⟩
   rw[<-m1]at s3 m6 o0 ⊢;have c0:=p1.out.trans s0;obtain⟨l0,l1⟩:=e0.out w5.drew c0.drew;have k0:=ZA ((s0.drew).owns q1.out);have j4:=ZA ((s0.drew).owns f1.out);have l3:=ZA (u1.out.ext s0.drew);have o6:=ZA (s3.2.drew);have a2:b2<=w5.drew.heap.size:=Nat.le_trans k6 s0.drew.size;have a1:=ZA c0.drew;replace m1:=ZA m1;have f0:((encPs rl).map B8).length=n5:=by rw[List.length_map];exact m1.out.symm
   have d6:np<=70000:=by have:=i0.out;omega
   have r0:w2.heap.size<=b2:=by rw[j0.out];exact Nat.le_refl _
   replace f0:=ZA f0;clear c0 s3 s0 q1 f1 u1 p1;go_wp2_with fail;refine ZB follows (by kernel_rfl) (by kernel_rfl) (fun K hK=>?_);go_wp2_with (at_builtin;refine ZR (us:= [.string ⟨rt.toArray⟩,.int .i64 (nB:Int),.int .i64 (n5:Int),.int .i64 (np:Int)]) (m:=1) ZLO k0.out rfl (.tmp 51) (.tmp 68) rfl rfl rfl rfl rfl (by simp[Value.oneCell']) (by omega) a2 (fun A8 c8 w8 a4 k1 x6=>?_);have q6:=ZA (ZA7 k0.out k1 l3.out (by decide));have e1:=ZA (ZLD k0.out k1 j4.out (by decide));have r6:=ZA (ZA7 k0.out k1 o6.out (by decide));have w0:=ZDw k0.out k1 a1.out r0;have u5:=Nat.le_trans a2 k1.size;obtain⟨l0,l1⟩:=e0.out w8 w0;replace w0:=ZA w0;replace a4:=ZA a4;clear k1 x6);refine⟨by kernel_rfl,?_⟩;go_wp2_with (first
    | (at_builtin;refine ZR (us:= [.string ⟨rt.toArray⟩]) (m:=1) ZLF e1.out rfl (.tmp 70) (.tmp 76) rfl rfl rfl rfl rfl (by simp[Value.oneCell']) (by omega) u5 (fun A9 c9 w9 b4 j1 y6=>?_);have m4:=ZA (ZA7 e1.out j1 q6.out (by decide));have o5:=ZA (ZLD e1.out j1 a4.out (by decide));have f4:=(ZA7 e1.out j1 r6.out (by decide)).cells;have d0:=ZDw e1.out j1 w0.out r0;have x5:=Nat.le_trans u5 j1.size;replace d0:=ZA d0;replace b4:=ZA b4;replace f4:=ZA f4;clear j1 y6)
    | (at_builtin;refine ZG ZV m4.out f4.out (.tmp 78) (.tmp 79) rfl rfl rfl rfl rfl f0.out (ZF _) (by omega) x5 (fun AA cA wA t4 x3 a5 z6=>?_);have e6:=ZA (ZFN m4.out x3 b4.out (by decide));have r5:=ZA (ZFN m4.out x3 o5.out (by decide));have g6:=ZA (a5 _ d0.out r0);have l6:b2<=wA.heap.size:=Nat.le_trans x5 x3.size;replace t4:=ZA t4;clear x3 a5 z6))
   refine⟨⟨i+1,nB+n5,cA,c8,c9,AA,A8,A9,by go_num,rfl,rfl,rfl,by omega,o0,ZA ?_,ZA ?_,ZA ?_,ZA ?_,g6,l6⟩,by simp only[intOf];omega⟩
   ·rw[y2.out,List.length_append,<-j2.out,<-m1.out]
   ·rw[y2.out,List.map_append];exact t4.out
   ·rw[x4.out,ZCg];rw[show (⟨rt,nB,(encPs rl).length,rl.length⟩:En).cells = [.string ⟨rt.toArray⟩,.int .i64 (nB:Int),.int .i64 (n5:Int),.int .i64 (np:Int)] by rw[<-m1.out,<-i0.out];rfl];exact r5.out
   ·rw[e4.out];exact e6.out
  ·obtain rfl:i=n2:=by omega
   have i1:R.take i=R:=List.take_of_length_le (by rw[<-g1.out];exact Nat.le_refl _);rw[i1]at j2 u1 q1 f1;obtain⟨w3,n6⟩:∃w3,w3=wr:=⟨_,rfl⟩
   subst n6;have u4:=ZAL q1.out;have r1:=ZFF (enOf 0 R) EA i cE w3 (by rw[ZA5];exact g1.out) (Cells.of_own q1.out) u4.2 u4.1 (by rw[hR.out];exact hB.out.ens);have n3:=ZA (z1.out.trans p1.out);have k5:(encEs (enOf 0 R)).length<=16777216:=by rw[hR.out];exact hB.out.dic
   obtain⟨D6,i2⟩:∃D6,D6=encEs (enOf 0 R):=⟨_,rfl⟩
   rw[<-i2]at r1 k5;have m2:decide (16777216<nB)=false:=decide_eq_false (by omega);replace i2:=ZA i2;replace r1:=ZA r1;clear u4 i1;go_wp2_with fail;refine r1.out.mono ?_;rintro e w6 ⟨B6,c6,rfl,r4,k3⟩;have b0:=ZA (n3.out.trans k3);have d2:=y5.out w6 b0.out;obtain⟨lo,t0,fi,la,nn,a3⟩:=ZNC P;have g0:=c3.out;rw[a3]at d2 g0;have t5:prtA [lo,t0,fi,la,nn]=#[.int .i64 0,.int .i64 0,.int .i64 lo,.int .i64 t0,.int .i64 fi,.int .i64 la,.int .i64 nn]:=rfl;rw[t5]at d2;have h4:=ZA r4.2;have t1:=ZA (g3.out.2.ext (q3.out.trans (p1.out.trans k3)));have v1:=ZA (u1.out.ext k3);have g4:=ZA ((Cells.of_own f1.out).ext k3);replace d2:=ZA d2;replace a3:=ZA a3;replace g0:=ZA g0;clear t5 r4 u1 f1 q1 r1;go_wp2_with fail;refine d2.out.mono ?_;rintro e w7 ⟨rfl,l4⟩;obtain⟨wx,m0⟩:∃wx,wx=w7.alloc (Obj.cells #[Value.int IntKind.i64 0,Value.int IntKind.i64 0,Value.int IntKind.i64 lo,Value.int IntKind.i64 t0,Value.int IntKind.i64 fi,Value.int IntKind.i64 la,Value.int IntKind.i64 nn] 74):=⟨_,rfl⟩
   obtain⟨bp,u3⟩:∃bp,bp=w7.heap.size:=⟨_,rfl⟩
   have d1:Ext w7 wx:=by rw[m0];exact(Ext.refl w7).alloc _
   have n0:Row wx bp 74 #[Value.int IntKind.i64 0,Value.int IntKind.i64 0,Value.int IntKind.i64 lo,Value.int IntKind.i64 t0,Value.int IntKind.i64 fi,Value.int IntKind.i64 la,Value.int IntKind.i64 nn]:=by rw[m0,u3];exact Row.new w7 _ _
   have p2:=n0.cell 2 rfl;have p3:=n0.cell 3 rfl;have p4:=n0.cell 4 rfl;have p5:=n0.cell 5 rfl;have p6:=n0.cell 6 rfl;have b1:=ZA (l4.trans d1);have d5:=ZA (b0.out.trans b1.out);have v3:=ZLv (some ⟨wx.heap.size,0,none⟩) 5 5 [lo,t0,fi,la,nn] (wx.alloc (.cells #[.int .i64 lo,.int .i64 t0,.int .i64 fi,.int .i64 la,.int .i64 nn] 3)) rfl (Zg wx [.int .i64 lo,.int .i64 t0,.int .i64 fi,.int .i64 la,.int .i64 nn] _) (by decide) g0.out;obtain⟨DV,h3⟩:∃D,D=vall [lo,t0,fi,la,nn]:=⟨_,rfl⟩
   have k2:(vall [lo,t0,fi,la,nn]).length<=16777216:=Nat.le_trans (ZBE [lo,t0,fi,la,nn] g0.out 5) (by decide);rw[<-h3]at v3 k2;replace v3:=ZA v3;replace h3:=ZA h3;replace n0:=ZA n0;replace m0:=ZA m0;replace u3:=ZA u3;clear l4 d1;go_upto_region 21 with fail;rw[<-m0.out,<-u3.out];go_wp2_with fail;refine v3.out.mono ?_;rintro e w8 ⟨BV,cV,rfl,q5,w0⟩;have p0:=ZA (b1.out.trans (((Ext.refl wx).alloc _).trans w0));have y1:=ZA (b0.out.trans p0.out);obtain rfl:=y3.out;obtain rfl:=j2.out;have q2:(timesD 0 P).length<=16777216:=hB.out.times;have h2:8<=(ofB (R.map (·.1))).length/\(ofB (R.map (·.1))).length<=131072:=by rw[hR.out];exact hB.out.bits
   have e3:=z5.out w8 y1.out;have u2:=ZA (fun W (hE:Ext w8 W)=>ZN1 (R.map (·.1)) TA i cT W (by rw[List.length_map];exact g1.out) (g4.out.ext (p0.out.trans hE)) (fun s hs=>by obtain⟨r,hr,rfl⟩:=List.mem_map.1 hs;have:=(t3.out r hr).2;omega) (by omega));obtain⟨DT,s2⟩:∃D,D=timesD 0 P:=⟨_,rfl⟩
   obtain⟨D7,l2⟩:∃D,D=ofB (R.map (·.1)):=⟨_,rfl⟩
   obtain⟨D1,f2⟩:∃D,D=encDs P:=⟨_,rfl⟩
   obtain⟨DP,r2⟩:∃D,D=postB R:=⟨_,rfl⟩
   rw[<-s2]at q2 e3;rw[<-l2]at h2 u2;rw[<-f2]at t1 y4 ⊢;rw[<-r2]at v1 t2 m2 ⊢;obtain⟨JN,j3⟩:∃JN,JN=joinL (framesD P):=⟨_,rfl⟩
   have v0:joinL [D1,DT,DP,D6,D7,DV]=JN:=by rw[j3,f2,s2,r2,i2.out,l2,h3.out,<-a3.out,hR.out];rfl
   have u0:segL P = [76,83,69,71]++JN:=by rw[j3];rfl
   have l5:JN.length<=100663416:=by
    rw[<-v0];exact ZB3 (ps:= [D1,DT,DP,D6,D7,DV]) (fun p hp=>by
     simp only[List.mem_cons,List.not_mem_nil,or_false]at hp;rcases hp with rfl | rfl | rfl | rfl | rfl | rfl <;> omega)
   replace e3:=ZA e3;replace j3:=ZA j3;replace v0:=ZA v0;replace u0:=ZA u0;replace s2:=ZA s2;replace l2:=ZA l2;replace f2:=ZA f2;replace r2:=ZA r2;clear p2 p3 p4 p5 p6;go_wp2_with fail;refine e3.out.mono ?_;rintro e w9 ⟨BT,cT2,rfl,h5,d0⟩;have m5:=ZA (u2.out w9 d0);go_wp2_with fail;refine m5.out.mono ?_;rintro e w10 ⟨AF,nF,cF,rfl,hF,a0⟩;obtain rfl:=hF.len;have q0:=d0.trans a0;have s1:=ZJn (some ⟨w10.heap.size,0,none⟩) 6 6 [(B1,c1,D1),(BT,cT2,DT),(BA,cB,DP),(B6,c6,D6),(AF,cF,D7),(BV,cV,DV)] (w10.alloc (.cells #[.slice B1 D1.length c1,.slice BT DT.length cT2,.slice BA DP.length cB,.slice B6 D6.length c6,.slice AF D7.length cF,.slice BV DV.length cV] 25)) rfl (Zg w10 [.slice B1 D1.length c1,.slice BT DT.length cT2,.slice BA DP.length cB,.slice B6 D6.length c6,.slice AF D7.length cF,.slice BV DV.length cV] _) (ZOE ⟨((t1.out.ext (p0.out.trans q0)).ext ((Ext.refl _).alloc _)).in8,y4⟩ ⟨((h5.ext a0).ext ((Ext.refl _).alloc _)).in8,q2⟩ ⟨((v1.out.ext (p0.out.trans q0)).ext ((Ext.refl _).alloc _)).in8,Nat.le_trans t2 (by decide)⟩ ⟨((h4.out.ext (p0.out.trans q0)).ext ((Ext.refl _).alloc _)).in8,k5⟩ ⟨hF.ext ((Ext.refl _).alloc _),Nat.le_trans h2.2 (by decide)⟩ ⟨((q5.ext q0).ext ((Ext.refl _).alloc _)).in8,k2⟩) (by decide);have o4:joinL (List.map (fun(x:Option Addr×Nat×List UInt8)=>x.2.2) [(B1,c1,D1),(BT,cT2,DT),(BA,cB,DP),(B6,c6,D6),(AF,cF,D7),(BV,cV,DV)])=JN:=v0.out;rw[o4]at s1;have x1:=ZA (y1.out.trans q0);replace s1:=ZA s1;have s6:=ZNs AF D7.length cF w10;clear h5 hF d0 a0 q0 q5 o4 m5;go_wp2_with fail;refine s1.out.mono ?_;rintro e w11 ⟨AJ,cJ,rfl,q4,n4⟩;obtain⟨nJ,v2⟩:∃nJ,nJ=JN.length:=⟨_,rfl⟩
   rw[<-v2]at q4 l5 ⊢;have h6:Buf (w11.alloc (.cells #[.int .u8 76,.int .u8 83,.int .u8 69,.int .u8 71] 5)) w11.heap.size 5 (some ⟨w11.heap.size,0,none⟩) 4 4 [.int .u8 76,.int .u8 83,.int .u8 69,.int .u8 71] :=
    Buf.of_own ⟨rfl,.inr ⟨w11.heap.size,4,#[.int .u8 76,.int .u8 83,.int .u8 69,.int .u8 71],rfl,Nat.le_refl _,heap_alloc_new w11 _,Nat.le_refl _,by unfold maxLen;omega,rfl,rfl⟩⟩
   have i5:=(q4.2.ext ((Ext.refl w11).alloc (.cells #[.int .u8 76,.int .u8 83,.int .u8 69,.int .u8 71] 5))).cells;have r3:(JN.map B8).length=nJ:=by rw[List.length_map,v2]
   have x0:=ZA (x1.out.trans (((Ext.refl w10).alloc _).trans n4));have z2:w11.heap.size<=(w11.alloc (.cells #[.int .u8 76,.int .u8 83,.int .u8 69,.int .u8 71] 5)).heap.size:=((Ext.refl w11).alloc _).size;replace v2:=ZA v2;clear q4 n4 s1;go_wp2_with (at_builtin;refine ZG ZV h6 i5 (.tmp 119) (.tmp 120) rfl rfl rfl rfl rfl r3 (ZF _) (by omega) z2 (fun AZ cZ wZ v4 t6 b5 a6=>?_);have e5:=ZA (b5 w11 ((Ext.refl w11).alloc _) (Nat.le_refl _));replace v4:=ZA v4;clear t6 b5 a6);go_ret2;have z4:(segL P).length=4+nJ:=by rw[u0.out,List.length_append,v2.out];rfl
   have g5:(segL P).map B8 = [.int .u8 76,.int .u8 83,.int .u8 69,.int .u8 71]++JN.map B8:=by rw[u0.out,List.map_append];rfl
   rw[hP.out]at z4 g5;refine⟨AZ,cZ,by rw[z4];rfl,⟨rfl,?_⟩,x0.out.trans e5.out⟩;rw[z4,g5];exact v4.out.lower x0.out.size
end
section
def skipC:Nat->List UInt8->Option (List UInt8)
 | 0,l=>some l
 | k+1,l=>match getV 0 l with
  | .error _=>none
  | .ok (n,r)=>if 1099511627776<n then none else match getV 0 r with
   | .error _=>none
   | .ok (m,r2)=>if 1099511627776<m then none else skipC k r2
def readC:Nat->Int->List UInt8->Option (List Dc)
 | 0,_,_=>some []
 | k+1,last,l=>match getV 0 l with
  | .error _=>none
  | .ok (s,r)=>if 1099511627776<s then none else match getE r with
   | none=>none
   | some (e,r2)=>match readC k (last+1+s) r2 with
    | none=>none
    | some ds=>some ((last+1+s,e)::ds)
def decC (b:List UInt8):Option (List Dc):=match getV 0 b with
 | .error _=>none
 | .ok (n,r)=>if 65536<n\/b.length<n then none else match skipC ((n+15) / 16) r with
  | none=>none
  | some r2=>match readC n 0 r2 with
   | none=>none
   | some ds=>if okDs ds=true/\encDs ds=b then some ds else none
theorem ZC6:∀(k:Nat) (last:Int) (l:List UInt8) (ds:List Dc),readC k last l=some ds->(blockD last ds).length<=l.length/\ds.length=k/\(∀d∈ds,I64ok' d.2.at_/\checkE d.2.fs=0)
 | 0,last,l,ds,h=>by
  unfold readC at h;injection h with h;subst h;exact⟨Nat.zero_le _,rfl,nofun⟩
 | k+1,last,l,ds,h=>by
  unfold readC at h;split at h
  ·cases h
  ·rename_i s r h1;split at h
   ·cases h
   ·split at h
    ·cases h
    ·rename_i e r2 h2;split at h
     ·cases h
     ·rename_i ds2 h3;injection h with h;subst h;obtain⟨i1,i2,i3⟩:=ZC6 k _ r2 ds2 h3;obtain⟨j1,j2,j3⟩:=ZIg h2;have hl:=(ZBe l 0 s r h1).1;refine⟨?_,by rw[List.length_cons,i2],fun d hd=>?_⟩
      ·show (oneD last (last+1+s,e)++blockD (last+1+s) ds2).length<=_;unfold oneD;simp only;rw[show (last+1+(s:Int) - last - 1).toNat=s by omega,hl,j1];simp only[List.length_append];omega
      ·rcases List.mem_cons.1 hd with rfl | hd
       ·exact⟨j2,j3⟩
       ·exact i3 d hd
theorem ZEi:∀(bs:List (List Dc)) (lo:Int) (r:List UInt8),(∀k:Nat,lastD lo ((bs.take k).flatMap id)<=1099511627776/\(blockD lo ((bs.take k).flatMap id)).length<=1099511627776)->skipC bs.length (headD lo bs++r)=some r
 | [],lo,r,_=>rfl
 | b::bs,lo,r,h=>by
  have h1:=h 1;rw[List.take_succ_cons,List.take_zero,List.flatMap_cons,List.flatMap_nil,List.append_nil]at h1;simp only[id]at h1;have ih:=ZEi bs (lastD lo b) r fun k=>by
   have:=h (k+1);rw[List.take_succ_cons,List.flatMap_cons,ZAh,Zs,List.length_append]at this;simp only[id]at this;exact⟨this.1,by omega⟩
  show skipC (bs.length+1) ((vb (lastD lo b).toNat++vb (blockD lo b).length++headD (lastD lo b) bs)++r)=_;rw[List.append_assoc,List.append_assoc];unfold skipC;rw[Zm (by omega)];simp only;rw[if_neg (by omega),Zm (by omega)];simp only;rw[if_neg (by omega)];exact ih
theorem ZDs:∀(P:List Dc) (lo:Int),risB 1099511627777 lo (P.map (·.1))=true->0<=lo->(∀d∈P,I64ok' d.2.at_/\checkE d.2.fs=0)->readC P.length lo (blockD lo P)=some P
 | [],lo,_,_,_=>rfl
 | d::P,lo,h,p0,ha=>by
  rw[List.map_cons,risB,Bool.and_eq_true,Bool.and_eq_true]at h;have h1:=of_decide_eq_true h.1.1;have h2:=of_decide_eq_true h.1.2;obtain⟨h0,q0⟩:=ha d (List.mem_cons_self ..);have ih:=ZDs P d.1 h.2 (by omega) fun x hx=>ha x (List.mem_cons_of_mem _ hx);show readC (P.length+1) lo (oneD lo d++blockD d.1 P)=_;unfold readC oneD;rw[List.append_assoc,Zm (by omega)];simp only;rw[if_neg (by omega),ZHw h0 q0];simp only;rw[show lo+1+(((d.1 - lo - 1).toNat:Nat):Int)=d.1 by omega,ih]
theorem ZGH:∀(P:List Dc) (lo:Int),P.length<=(blockD lo P).length
 | [],_=>Nat.zero_le _
 | d::P,lo=>by
  have h1:=ZGH P d.1;have h2:=ZKS (d.1 - lo - 1).toNat;show (d::P).length<=(oneD lo d++blockD d.1 P).length;unfold oneD;rw[List.length_cons,List.length_append,List.length_append];omega
theorem ZNj {P:List Dc} (h0:okDs P=true) (ha:∀d∈P,I64ok' d.2.at_) (m0:(blockD 0 P).length<=50000000):decC (encDs P)=some P:=by
 have q0:=h0;unfold okDs at h0;rw[Bool.and_eq_true,Bool.and_eq_true]at h0;obtain⟨hl,hr,hc⟩:=h0;have hl:=of_decide_eq_true hl;have k0:(chunkL 16 P).length=(P.length+15) / 16:=ZZ (by omega) P;have hk:∀k:Nat,lastD 0 (((chunkL 16 P).take k).flatMap id)<=1099511627776/\(blockD 0 (((chunkL 16 P).take k).flatMap id)).length<=1099511627776:=fun k=>by
  rw[Zx (by omega)];have h1:=(ZAu (l:=P.take (k*16)) (lo:=0) (n:=1099511627777) (by rw[List.map_take];exact Zv _ hr) (by omega)).2;have h2:=ZAX P (k*16);omega
 have p0:=ZEi (chunkL 16 P) 0 (blockD 0 P) hk;have j0:=ZDs P 0 hr (by omega) fun d hd=>⟨ha d hd,of_decide_eq_true (List.all_eq_true.1 hc d hd)⟩
 rw[k0]at p0;have he:encDs P=vb P.length++(headD 0 (chunkL 16 P)++blockD 0 P):=by unfold encDs;rw[List.append_assoc]
 have g0:=ZGH P 0;have hlen:¬ (65536<P.length\/(encDs P).length<P.length):=by
  rw[he,List.length_append,List.length_append];omega
 unfold decC;rw[he]at hlen ⊢;rw[Zm (by omega)];simp only;rw[if_neg hlen,p0];simp only;rw[j0];simp only;rw[if_pos ⟨q0,by rw[he]⟩]
theorem ZKd (b:List UInt8) (hb:b.length<=50000000):decC b=decDs b:=by
 cases h:decDs b with
 | some P =>
  have h0:=ZAV h;have h1:(blockD 0 P).length<=50000000/\∀d∈P,I64ok' d.2.at_:=by
   unfold decDs at h;split at h
   ·cases h
   ·rename_i n r e1;split at h
    ·cases h
    ·split at h
     ·cases h
     ·rename_i r2 e2;split at h
      ·cases h
      ·rename_i ds e3;split at h
       ·injection h with h;subst h;have q:=ZB5 _ _ _ _ e3;refine⟨?_,fun d hd=>(q.2.2 d hd).1⟩;have:(encDs ds).length=b.length:=by rw[h0.2]
        unfold encDs at this;rw[List.length_append]at this;omega
       ·cases h
  have h2:=ZNj h0.1 h1.2 h1.1;rw[h0.2]at h2;exact h2
 | none =>
  cases h2:decC b with
  | none=>rfl
  | some P =>
   unfold decC at h2;split at h2
   ·cases h2
   ·rename_i n r e1;split at h2
    ·cases h2
    ·split at h2
     ·cases h2
     ·rename_i r2 e2;split at h2
      ·cases h2
      ·rename_i ds e3;split at h2
       ·rename_i hh;injection h2 with h2;subst h2;have q:=ZC6 _ _ _ _ e3;have hlen:(blockD 0 ds).length<=50000000:=by
         have:(encDs ds).length=b.length:=by rw[hh.2]
         unfold encDs at this;rw[List.length_append]at this;omega
        have h3:=ZIL hh.1 (fun d hd=>(q.2.2 d hd).1) hlen;rw[hh.2,h]at h3;cases h3
       ·cases h2
def aheadO (read:List Dc):Option (List Dc)->Option (List Dc)
 | none=>none
 | some l=>some (read++l)
theorem ZEh (k:Nat) (l:List UInt8):skipC (k+1) l=match getV 0 l with
 | .error _=>none
 | .ok (n,r)=>if 1099511627776<n then none else match getV 0 r with
  | .error _=>none
  | .ok (m,r2)=>if 1099511627776<m then none else skipC k r2:=rfl
theorem ZEN (k:Nat) (last:Int) (l:List UInt8):readC (k+1) last l=match getV 0 l with
 | .error _=>none
 | .ok (s,r)=>if 1099511627776<s then none else match getE r with
  | none=>none
  | some (e,r2)=>match readC k (last+1+s) r2 with
   | none=>none
   | some ds=>some ((last+1+s,e)::ds):=rfl
theorem ZJC {k i:Nat} {L r r1 r2:List UInt8} {n m:Nat} (h:skipC k L=skipC (k - i) r) (hi:i<k) (h1:getV 0 r = .ok (n,r1)) (hn:¬ 1099511627776<n) (h2:getV 0 r1 = .ok (m,r2)) (hm:¬ 1099511627776<m):skipC k L=skipC (k - (i+1)) r2:=by
 obtain⟨j,hj⟩:∃j,k - i=j+1:=⟨k - i - 1,by omega⟩
 rw[h,hj,show k - (i+1)=j by omega];rw[ZEh,h1];simp only;rw[if_neg hn,h2];simp only;rw[if_neg hm]
theorem ZIe {k i:Nat} {L r:List UInt8} (h:skipC k L=skipC (k - i) r) (hi:i<k) (h1:∀n r1,getV 0 r = .ok (n,r1)->n<=1099511627776->∀m r2,getV 0 r1 = .ok (m,r2)->m<=1099511627776->False):skipC k L=none:=by
 obtain⟨j,hj⟩:∃j,k - i=j+1:=⟨k - i - 1,by omega⟩
 rw[h,hj,ZEh];cases e1:getV 0 r with
 | error e=>rfl
 | ok p =>
  obtain⟨n,r1⟩:=p;simp only;by_cases hn:1099511627776<n
  ·rw[if_pos hn]
  ·rw[if_neg hn];cases e2:getV 0 r1 with
   | error e=>rfl
   | ok p =>
    obtain⟨m,r2⟩:=p;simp only;by_cases hm:1099511627776<m
    ·rw[if_pos hm]
    ·exact(h1 n r1 e1 (by omega) m r2 e2 (by omega)).elim
theorem ZIf {k i:Nat} {la0 la:Int} {read:List Dc} {L r:List UInt8} (h:readC k la0 L=aheadO read (readC (k - i) la r)) (hi:i<k) (h1:∀s r1,getV 0 r = .ok (s,r1)->s<=1099511627776->getE r1=none):readC k la0 L=none:=by
 obtain⟨j,hj⟩:∃j,k - i=j+1:=⟨k - i - 1,by omega⟩
 rw[h,hj,ZEN];cases e1:getV 0 r with
 | error e=>rfl
 | ok p =>
  obtain⟨s,r1⟩:=p;simp only;by_cases hn:1099511627776<s
  ·rw[if_pos hn];rfl
  ·rw[if_neg hn,h1 s r1 e1 (by omega)];rfl
theorem ZI1 {k i:Nat} {la0 la:Int} {read:List Dc} {L r r1 r2:List UInt8} {s:Nat} {e:Ev} (h:readC k la0 L=aheadO read (readC (k - i) la r)) (hi:i<k) (h1:getV 0 r = .ok (s,r1)) (hs:¬ 1099511627776<s) (h2:getE r1=some (e,r2)):readC k la0 L=aheadO (read ++ [(la+1+s,e)]) (readC (k - (i+1)) (la+1+s) r2):=by
 obtain⟨j,hj⟩:∃j,k - i=j+1:=⟨k - i - 1,by omega⟩
 rw[h,hj,show k - (i+1)=j by omega];rw[ZEN,h1];simp only;rw[if_neg hs,h2];simp only;cases readC j (la+1+s) r2 with
 | none=>rfl
 | some l=>show some _=some _;simp
theorem ZJ2 {k i:Nat} {la0 la:Int} {read:List Dc} {L r:List UInt8} (h:readC k la0 L=aheadO read (readC (k - i) la r)) (hi:k<=i):readC k la0 L=some read:=by
 rw[h,show k - i=0 by omega];show some (read ++ [])=_;rw[List.append_nil]
end
section
open Go.RowKit
def GotM (w0 w:World) (most:Nat) (l:List UInt8) (e:Ending) (w':World):Prop:=Ext w w' /\
 ((∃v r A c,getV 0 l = .ok (v,r)/\v<=most/\e = .returned (.tuple #[.int .i64 (v:Int),.slice A r.length c,.bool true])/\In8 w0 A r.length c r) \/
  ((∀v r,getV 0 l = .ok (v,r)->most<v)/\e = .returned (.tuple #[.int .i64 0,.slice none 0 0,.bool false])))
theorem ZJF (A:Option Addr) (n c:Nat) (l:List UInt8) (most:Int) (w0 w:World) (h:In8 w0 A n c l) (hw:Ext w0 w) (k0:n<=1000000000) (g0:0<=most) (m0:most<=1099511627776) :
 Calls Tryz.prog 125 #[.slice A n c,.int .i64 most] w fun e w'=>GotM w0 w most.toNat l e w':=by
 have hg:=ZBX A n c l w0 w h hw k0;have t0:IntKind.u64.wrap most=most:=by simp[IntKind.wrap,IntKind.bits,IntKind.signed];omega
 cases hv:getV 0 l with
 | error k =>
  rw[hv]at hg;have hk:=Zl l 0 k hv;have j0:((k:Int) != 0)=true:=by simp;omega
  have h0:=ZA (show ∀v r,getV 0 l = .ok (v,r)->most.toNat<v from fun v r e=>by rw[hv]at e;cases e);replace hg:=ZA hg;clear hv hk;go_enter Tryz.func125,Tryz.ntmps125;go_wp2_with fail;refine hg.out.mono ?_;rintro e w1 ⟨q0,rfl⟩;go_wp2_with fail;go_ret3;exact⟨q0,.inr ⟨h0.out,rfl⟩⟩
 | ok p =>
  obtain⟨v,r⟩:=p;rw[hv]at hg;unfold Got at hg;simp only at hg;replace hg:=ZA hg;by_cases hq:most<v
  ·have h0:=ZA (show ∀v r,getV 0 l = .ok (v,r)->most.toNat<v from fun v' r' e=>by rw[hv]at e;cases e;omega);clear hv;go_enter Tryz.func125,Tryz.ntmps125;go_wp2_with fail;refine hg.out.mono ?_;rintro e w1 ⟨q0,A1,c1,rfl,hi1⟩;go_wp2_with fail;go_ret3;exact⟨q0,.inr ⟨h0.out,rfl⟩⟩
  ·have v0:IntKind.i64.wrap (v:Int)=(v:Int):=ZAK (by omega) (by omega);have p0:=ZA (show v<=most.toNat by omega);replace hv:=ZA hv;go_enter Tryz.func125,Tryz.ntmps125;go_wp2_with fail;refine hg.out.mono ?_;rintro e w1 ⟨q0,A1,c1,rfl,hi1⟩;go_wp2_with fail;go_ret3;exact⟨q0,.inl ⟨v,r,A1,c1,hv.out,p0.out,rfl,hi1⟩⟩
theorem ZB9 (A:Option Addr) (n c:Nat) (bs:List UInt8) (w:World) (h:In8 w A n c bs) (y1:n<=50000000) :
 Calls Tryz.prog 69 #[.slice A n c] w fun e w'=>SdecP w (decC bs) e w':=by
 have q4:bs.length<=50000000:=by rw[<-h.len];exact y1
 have z2:=ZA h.len;have y0:=ZA (fun A n c r most W (h:In8 w A n c r) (hw:Ext w W) (y1:n<=1000000000) (h0:0<=most) (h1:most<=1099511627776)=>ZJF A n c r most w W h hw y1 h0 h1);have l2:=ZA (y0.out A n c bs 65536 w h (Ext.refl w) (by omega) (by omega) (by omega));obtain⟨Z,hZ⟩:∃Z,Z=decC bs:=⟨_,rfl⟩
 rw[<-hZ];unfold decC at hZ;go_enter Tryz.func69,Tryz.ntmps69;go_wp2_with fail;refine l2.out.mono ?_;rintro e w1 ⟨g1,(⟨q,r,A1,c1,l1,hq,rfl,hi1⟩ | ⟨p0,rfl⟩)⟩
 ·rw[l1]at hZ;simp only at hZ;have x3:q<=65536:=by omega
  by_cases b2:bs.length<q
  ·rw[if_pos (.inr b2)]at hZ;replace hZ:=ZA hZ;have y3:decide (n<q)=true:=decide_eq_true (by rw[z2.out];exact b2);have z3:=Zk l1;clear l1;go_wp2_with fail;go_ret2;exact SdecP.no g1 hZ.out
  ·rw[if_neg (by omega)]at hZ;have y3:decide (n<q)=false:=decide_eq_false (by rw[z2.out];exact b2);have z3:=Zk l1;obtain⟨K,hK⟩:∃K,K=(q+15) / 16:=⟨_,rfl⟩
   rw[<-hK]at hZ;replace hZ:=ZA hZ;replace hK:=ZA hK;replace g1:=ZA g1;replace hi1:=ZA hi1;clear l1 l2;go_wp2_with fail
   go_loopw [5,7] (fun s5 s7 wr=>∃(i z:Nat) (rr:List UInt8) (A3:Option Addr) (c3:Nat),s7 = .int .i64 (z:Int)/\s5 = .slice A3 rr.length c3/\z<q+16/\Hid (z=i*16)/\rr.length<=50000000/\Hid (skipC K r=skipC (K - i) rr)/\Hid (In8 w A3 rr.length c3 rr)/\Hid (Ext w wr)) (fun _ s7 _=>q+16 - (intOf s7).toNat)
   case atStart=>exact⟨0,0,r,A1,c1,rfl,rfl,by omega,ZA rfl,by omega,ZA rfl,hi1,g1⟩
   case round =>
    obtain⟨i,z,rr,A3,c3,rfl,rfl,p4,hz,a3,d1,u1,hE⟩:=hrel;by_cases s3:z<q
    ·have l0:i<K:=by have:=hK.out;have:=hz.out;omega
     have r3:(z:Int)<q:=by omega
     have u2:=ZA (y0.out A3 rr.length c3 rr 1099511627776 wr u1.out hE.out (by omega) (by omega) (by omega));go_wp2_with fail;refine u2.out.mono ?_;rintro e w2 ⟨g0,(⟨v,r1,A4,c4,hv,o3,rfl,k3⟩ | ⟨p0,rfl⟩)⟩
     ·have z1:=Zk hv;have q0:=hE.out.trans g0;have w0:=ZA (y0.out A4 r1.length c4 r1 1099511627776 w2 k3 q0 (by omega) (by omega) (by omega));replace q0:=ZA q0;have c2:¬ 1099511627776<v:=by omega
      replace hv:=ZA hv;clear g0;go_wp2_with fail;refine w0.out.mono ?_;rintro e w3 ⟨t0,(⟨m,r2,A5,c5,hm,u3,rfl,q2⟩ | ⟨p0,rfl⟩)⟩
      ·have q1:=Zk hm;have k1:=ZA (ZJC d1.out l0 hv.out c2 hm (by omega));have u0:=ZA (q0.out.trans t0);clear hm;go_wp2_with fail;go_roundw
       case rel=>exact⟨i+1,z+16,r2,A5,c5,by go_num,rfl,by omega,ZA (by have:=hz.out;omega),by omega,k1,ZA q2,u0⟩
       case measure=>simp only[intOf];omega
      ·have z0:=ZIe d1.out l0 fun v' r' e1 _ m' r'' e2 h3=>by
        rw[hv.out]at e1;cases e1;have:=p0 m' r'' e2;omega
       have k0:Z=none:=by rw[hZ.out,z0]
       replace k0:=ZA k0;clear z0 p0;go_wp2_with fail;go_ret2;exact SdecP.no (q0.out.trans t0) k0.out
     ·have z0:=ZIe d1.out l0 fun v' r' e1 h2 _ _ _ _=>by
       have:=p0 v' r' e1;omega
      have k0:Z=none:=by rw[hZ.out,z0]
      replace k0:=ZA k0;have q0:=hE.out.trans g0;have w0:=ZA (y0.out none 0 0 [] 1099511627776 w2 ⟨rfl,.inl rfl,Nat.le_refl _,fun _=>rfl,nofun⟩ q0 (by omega) (by omega) (by omega));replace q0:=ZA q0;clear z0 p0 g0;go_wp2_with fail;refine w0.out.mono ?_;rintro e w3 ⟨t0,(⟨m,r2,A5,c5,hm,u3,rfl,q2⟩ | ⟨p0,rfl⟩)⟩
      ·cases hm
      ·clear p0;go_wp2_with fail;go_ret2;exact SdecP.no (q0.out.trans t0) k0.out
    ·have l0:K<=i:=by have:=hK.out;have:=hz.out;omega
     have r3:¬ (z:Int)<q:=by omega
     have x0:skipC K r=some rr:=by
      rw[d1.out,show K - i=0 by omega];rfl
     have f0:=hZ.out;rw[x0]at f0;simp only at f0;replace f0:=ZA f0;clear x0 d1;go_wp2_with fail;have m1:=ZA (fun A n c r W (h:In8 w A n c r) (hw:Ext w W) (y1:n<=1000000000)=>ZJQ A n c r w W h hw y1)
     go_loopw [5,14,15,16] (fun s5 s14 s15 s16 wr=>∃(j:Nat) (read:List DocC) (rr2:List UInt8) (A3 B:Option Addr) (c3 d:Nat) (la:Int),s16 = .int .i64 (j:Int)/\s5 = .slice A3 rr2.length c3/\s14 = .slice B j d/\s15 = .int .i64 la/\j<=q/\rr2.length<=50000000/\0<=la/\la<=1099511627777*j/\Hid (j=read.length)/\Hid (readC q 0 rr=aheadO (dcs read) (readC (q - j) la rr2))/\Hid (DocsOwn wr w.heap.size B d read)/\Hid (In8 w A3 rr2.length c3 rr2)/\Hid (Ext w wr)) (fun _ _ _ s16 _=>q - (intOf s16).toNat)
     case atStart=>exact⟨0,[],rr,A3,none,c3,0,0,rfl,rfl,rfl,rfl,by omega,a3,by omega,by omega,ZA rfl,ZA (by rw[Nat.sub_zero];show _=aheadO [] _;cases readC q 0 rr <;> rfl),ZA (DocsOwn.nil _ _),u1,hE⟩
     case round =>
      clear u1 hE;obtain⟨j,read,rr2,A4,B,c4,d,la,rfl,rfl,rfl,rfl,hj,b3,m3,t3,x1,b1,a0,u1,hE⟩:=hrel;by_cases y2:j<q
      ·have u2:=ZA (y0.out A4 rr2.length c4 rr2 1099511627776 wr u1.out hE.out (by omega) (by omega) (by omega));have h4:(j:Int)<q:=by omega
       go_wp2_with fail;refine u2.out.mono ?_;rintro e w2 ⟨g0,(⟨s,r1,A5,c5,hv,o3,rfl,q2⟩ | ⟨p0,rfl⟩)⟩
       ·have z1:=Zk hv;have q0:=hE.out.trans g0;have g2:=ZA g0;have v0:=m1.out A5 r1.length c5 r1 w2 q2 q0 (by omega);replace q0:=ZA q0;have d3:¬ 1099511627776<s:=by omega
        cases s0:getE r1 with
        | none =>
         have z0:=ZIf b1.out y2 fun s' r' e1 _=>by rw[hv]at e1;cases e1;exact s0
         have k0:Z=none:=by rw[f0.out,z0]
         replace k0:=ZA k0;rw[s0]at v0;replace v0:=ZA v0;clear hv s0 z0 g0;go_wp2_with fail;refine v0.out.mono ?_;rintro e w3 ⟨t0,rfl⟩;have u0:=ZA (q0.out.trans t0);clear t0;go_wp2_with fail;go_ret2;exact SdecP.no (u0.out.alloc _) k0.out
        | some p =>
         obtain⟨ev,r2⟩:=p;have q1:=ZF1 s0;have k1:=ZI1 b1.out y2 hv d3 s0;obtain⟨sq,j2⟩:∃sq:Int,sq=la+1+s:=⟨_,rfl⟩
         rw[<-j2]at k1;have e3:0<=sq:=by omega
         have f3:sq<=1099511627777*(j+1):=by omega
         replace k1:=ZA k1;replace j2:=ZA j2;rw[s0]at v0;unfold GotE at v0;simp only at v0;replace v0:=ZA v0;clear hv s0 g0 b1;go_wp2_with fail;refine v0.out.mono ?_;rintro e w3 ⟨t0,B4,d4,A6,c6,rfl,r0,x2,m2⟩;unfold Ev.val;obtain⟨at_,fs⟩:=ev;simp only;obtain⟨fl,s1⟩:∃fl,fl=fs.length:=⟨_,rfl⟩
         rw[<-s1];obtain⟨g,hg⟩:∃g,g=w3.heap.size:=⟨_,rfl⟩
         obtain⟨W4,o0⟩:∃W4,W4=w3.alloc (.cells #[.int .i64 at_,.slice B4 fl d4] 37):=⟨_,rfl⟩
         have d0:Ext w3 W4:=by rw[o0];exact(Ext.refl w3).alloc _
         have k2:Row W4 g 37 #[.int .i64 at_,.slice B4 fl d4]:=by rw[o0,hg];exact Row.new w3 _ _
         have e0:=k2.cell 0 rfl;have e1:=k2.cell 1 rfl;rw[o0,hg]at e0 e1;have j1:=ZA ((q0.out.trans t0).trans d0);have m0:=ZA (a0.out.ext ((g2.out.trans t0).trans d0));have p1:=ZA (show Ev.Own ⟨at_,fs⟩ W4 w.heap.size B4 d4 from⟨d0.owns (ZN r0.1 q0.out.size),r0.2⟩);have j0:W4.ownsRow w.heap.size 39 3 (.slice B j d) j (dcells read):=by have:=m0.out.own;rw[<-x1.out]at this;exact this
         have i1:=j1.out.size;have i3:la+1+(s:Int)=sq:=j2.out.symm;rw[o0]at j0 i1;replace o0:=ZA o0;replace hg:=ZA hg;replace k2:=ZA k2;replace s1:=ZA s1;replace x2:=ZA x2;replace m2:=ZA m2;clear d0 r0;go_wp2_with (at_builtin;refine ZR (us:= [.int .i64 sq,.int .i64 at_,.slice B4 fl d4]) (m:=1) ZFO j0 (by simp) (.tmp 90) (.tmp 94) rfl rfl rfl rfl rfl (ZS rfl) (by omega) i1 (fun A8 c8 w8 a2 v1 g3=>?_);rw[<-o0.out]at v1 j0;replace a2:=ZA a2;replace v1:=ZA v1;have b0:=ZA j0;clear j0 g3);have hlen:(read ++ [(⟨sq,⟨at_,fs⟩,B4,d4⟩:DocC)]).length=j+1:=by rw[List.length_append,<-x1.out];rfl
         have f2:Chg (fun k'=>(Value.slice B j d).ownBlock=some k') W4 w8:=Chg.of_grown v1.out fun k' _ j3=>j3;have n2:∀k cs,Row W4 k 105 cs->¬ (Value.slice B j d).ownBlock=some k:=fun k cs hr=>ZJ b0.out hr (by decide);have o2:Ext w w8:=j1.out.grown v1.out fun k hk=>by obtain⟨_,_,hb⟩:=ZC b0.out hk;omega
         refine⟨⟨j+1,read ++ [⟨sq,⟨at_,fs⟩,B4,d4⟩],r2,A6,A8,c6,c8,sq,by go_num,rfl,rfl,rfl,by omega,by omega,by omega,by omega,ZA hlen.symm,ZA (by rw[Z6];exact k1.out),ZA ⟨?_,?_,?_⟩,x2,ZA o2⟩,by simp only[intOf];omega⟩
         ·rw[hlen,ZBs];show w8.ownsRow _ _ _ _ _ (dcells read ++ [.int .i64 sq,.int .i64 at_,.slice B4 fs.length d4]);rw[<-s1.out];exact a2.out
         ·intro x hx;rcases List.mem_append.1 hx with hx | hx
          ·exact⟨f2.owns (m0.out.each x hx).1 fun g' v2=>by obtain⟨cs,hr,_⟩:=ZC (m0.out.each x hx).1 v2;exact n2 _ _ hr,(m0.out.each x hx).2⟩
          ·rw[List.mem_singleton.1 hx];exact⟨f2.owns p1.out.1 fun g' v2=>by obtain⟨cs,hr,_⟩:=ZC p1.out.1 v2;exact n2 _ _ hr,p1.out.2⟩
         ·intro x hx;rcases List.mem_append.1 hx with hx | hx
          ·exact m0.out.ints x hx
          ·rw[List.mem_singleton.1 hx];exact⟨m2.out,by show -9223372036854775808<=sq/\sq<=9223372036854775807;omega⟩
       ·have z0:=ZIf b1.out y2 fun s' r' e1 h2=>by
         have:=p0 s' r' e1;omega
        have k0:Z=none:=by rw[f0.out,z0]
        replace k0:=ZA k0;have q0:=hE.out.trans g0;have v0:=m1.out none 0 0 [] w2 ⟨rfl,.inl rfl,Nat.le_refl _,fun _=>rfl,nofun⟩ q0 (by omega);have i2:getE []=none:=rfl;rw[i2]at v0;replace v0:=ZA v0;replace q0:=ZA q0;clear z0 p0 g0 i2;go_wp2_with fail;refine v0.out.mono ?_;rintro e w3 ⟨t0,rfl⟩;have u0:=ZA (q0.out.trans t0);clear t0;go_wp2_with fail;go_ret2;exact SdecP.no (u0.out.alloc _) k0.out
      ·obtain rfl:j=q:=by omega
       have x0:=ZJ2 b1.out (Nat.le_refl _);have c0:=f0.out;rw[x0]at c0;simp only at c0;have v3:=(ZC6 _ _ _ _ x0).1;have q3:=a0.out.cap;obtain⟨P,hP⟩:∃P,P=dcs read:=⟨_,rfl⟩
       have o1:=ZA2 read B j d wr x1.out a0.out.ok;have n1:=ZCj read B j d wr x1.out a0.out.ok (by omega);rw[<-hP]at c0 o1 n1 v3;have s2:(blockD 0 P).length<=50000000:=by omega
       cases p2:okDs P with
       | false =>
        have k0:Z=none:=by rw[c0,p2];simp
        have t2:=ZA (n1 p2);replace k0:=ZA k0;clear o1 n1 c0 f0 hZ;go_wp2_with fail;refine t2.out.mono ?_;rintro e w2 ⟨rfl,g0⟩;go_wp2_with fail;go_ret2;exact SdecP.no (hE.out.trans g0) k0.out
       | true =>
        have t1:=ZA (o1 p2 s2);rw[p2]at c0;replace c0:=ZA c0;clear o1 n1 f0 hZ;go_wp2_with fail;refine t1.out.mono ?_;rintro e w2 ⟨A9,c9,rfl,d2,g0⟩;have f1:=fun m (hm:m=(encDs P).length)=>Zr (A:=A9) (l:=encDs P) (w:=w2) d2.2.cells m c9 hm;have l3:=Zr (A:=A) (l:=bs) (w:=w2) (h.ext (hE.out.trans g0)).bytes n c z2.out;obtain⟨ne,n0⟩:∃ne,ne=(encDs P).length:=⟨_,rfl⟩
        have n3:=f1 ne n0;rw[<-n0];have t0:=ZA (hE.out.trans g0);have a1:=ZA (a0.out.ext g0);replace n0:=ZA n0;clear d2 t1 f1;by_cases he:encDs P=bs
        ·have i0:=c0.out;rw[if_pos ⟨trivial,he⟩]at i0;replace i0:=ZA i0;replace hP:=ZA hP;have p3:(!(encDs P==bs))=false:=by rw[he];simp
         go_wp2_with fail;go_ret2;rw[i0.out];refine⟨t0.out,read,B,d,hP.out.symm,by rw[<-x1.out];rfl,a1.out⟩
        ·have i0:=c0.out;rw[if_neg (fun x=>he x.2)]at i0;replace i0:=ZA i0;replace hP:=ZA hP;have p3:(!(encDs P==bs))=true:=by simp[he]
         go_wp2_with fail;go_ret2;exact SdecP.no t0.out i0.out
 ·have k0:Z=none:=by
   cases hv:getV 0 bs with
   | error k=>rw[hv]at hZ;exact hZ
   | ok p =>
    obtain⟨q,r⟩:=p;rw[hv]at hZ;simp only at hZ;have:=p0 q r hv;rw[if_pos (.inl (by omega))]at hZ;exact hZ
  replace k0:=ZA k0;clear hZ p0;go_wp2_with fail;go_ret2;exact SdecP.no g1 k0.out
def fewE (e:Ev):Ev:=⟨e.at_,(e.fs.take 8).map fun f=>(f.1,f.2.take 300)⟩
def fewD (P:List Dc):List Dc:=(P.take 40).map fun d=>(d.1,fewE d.2)
structure Few8 (P:List Dc):Prop where
  n:P.length<=25
  each:∀d∈P,I64ok' d.2.at_/\d.2.fs.length<=8/\∀f∈d.2.fs,f.2.length<=300
theorem ZNP {P:List Dc} (h:∀d∈P,I64ok' d.2.at_):Few8 (fewD (P.take 25)):=by
 refine⟨?_,fun d hd=>?_⟩
 ·unfold fewD;simp only[List.length_map,List.length_take];omega
 ·unfold fewD at hd;obtain⟨x,hx,rfl⟩:=List.mem_map.1 hd;refine⟨h x (List.mem_of_mem_take (List.mem_of_mem_take hx)),?_,fun f hf=>?_⟩
  ·unfold fewE;simp only[List.length_map,List.length_take];omega
  ·unfold fewE at hf;obtain⟨g,_,rfl⟩:=List.mem_map.1 hf;simp only[List.length_take];omega
theorem ZFq:∀ {fs:List Fd},(∀f∈fs,f.1.length<=32/\f.2.length<=300)->(putFs fs).length<=335*fs.length
 | [],_=>by simp[putFs]
 | f::fs,h=>by
  have h1:=ZFq (fs:=fs) fun x hx=>h x (List.mem_cons_of_mem _ hx);have hf:=h f (List.mem_cons_self ..);have h2:=ZES 1 f.1.length (by omega);have h3:=ZES 2 f.2.length (by omega);have h4:(putFs (f::fs)).length=(txL f.1).length+(txL f.2).length+(putFs fs).length:=by unfold putFs;rw[List.flatMap_cons,List.length_append];unfold putF;rw[List.length_append]
  unfold txL at h4;rw[List.length_append,List.length_append]at h4;rw[h4,List.length_cons];omega
theorem ZFv:∀(P:List Dc) (lo:Int),0<=lo->risB 1099511627777 lo (P.map (·.1))=true->P.all okD=true->(∀d∈P,I64ok' d.2.at_/\d.2.fs.length<=8/\∀f∈d.2.fs,f.2.length<=300)->(blockD lo P).length<=2701*P.length
 | [],_,_,_,_,_=>by simp[blockD]
 | d::t,lo,h0,hr,hk,h=>by
  rw[List.map_cons,risB,Bool.and_eq_true,Bool.and_eq_true]at hr;obtain⟨⟨q0,p0⟩,j0⟩:=hr;have q0:=of_decide_eq_true q0;have p0:=of_decide_eq_true p0;rw[List.all_cons,Bool.and_eq_true]at hk;have ih:=ZFv t d.1 (by omega) j0 hk.2 fun x hx=>h x (List.mem_cons_of_mem _ hx);obtain⟨ha,hn,hf⟩:=h d (List.mem_cons_self ..);have hc:=of_decide_eq_true hk.1;obtain⟨_,k0⟩:=Zd hc;have h1:=ZFq (fs:=d.2.fs) fun f hm=>⟨(k0 f hm).1,hf f hm⟩
  have h2:=ZAt (ZBB ha.1 ha.2);have h3:=ZES 1 d.2.fs.length (by omega);have h4:=ZAt (n:=(d.1 - lo - 1).toNat) (by omega);rw[blockD,List.length_append,List.length_cons];unfold oneD putE;simp only[List.length_append];omega
theorem Few8.sm {P:List Dc} (h:Few8 P) (hk:okDs P=true):SmP P:=by
 refine⟨hk,?_⟩;unfold okDs at hk;rw[Bool.and_eq_true,Bool.and_eq_true]at hk;have h1:=ZFv P 0 (by omega) hk.2.1 hk.2.2 h.each;have:=h.n;omega
end
section
open Go.RowKit Go.Maps
def few1 (d:Dc):Dc:=(d.1,fewE d.2)
def fewF (fs:List Fd):List Fd:=fs.map fun f=>(f.1,f.2.take 300)
structure FwJ (wo wi:World) (bk k dd:Nat) (sq at_:Int) (C:Option Addr) (xs:List Fd):Prop where
  row:Row wi bk 39 #[.int .i64 sq,.int .i64 at_,.slice C k dd]
  evs:wi.ownsRow wo.heap.size 105 2 (.slice C k dd) k (fcells xs)
  len:xs.length=k
  long:∀f∈xs,f.1.length<=9223372036854775807/\f.2.length<=9223372036854775807
  low:wo.heap.size<=bk
  ext:Ext wo wi
theorem FwJ.start (w:World) (sq at_:Int):FwJ w (w.alloc (.cells #[.int .i64 sq,.int .i64 at_,.slice none 0 0] 39)) w.heap.size 0 0 sq at_ none [] :=
 ⟨Row.new w _ _,⟨rfl,.inl ⟨rfl,rfl⟩⟩,rfl,nofun,Nat.le_refl _,(Ext.refl w).alloc _⟩
theorem FwJ.mid {wo wi w5 w8:World} {bk k dd:Nat} {sq at_:Int} {C:Option Addr} {xs:List Fd} (h:FwJ wo wi bk k dd sq at_ C xs) (h0:Ext wi w5) (q0:w5.grownBy w8 (Value.slice C k dd).ownBlock):Row w8 bk 39 #[.int .i64 sq,.int .i64 at_,.slice C k dd]:=by
 refine Row.grown (h.row.ext h0) q0 fun e=>?_;obtain⟨cs,hr,_⟩:=ZC h.evs e.symm;exact Row.unlike h.row hr (by decide) rfl
theorem FwJ.step {wo wi w5 w8:World} {bk k dd c8:Nat} {sq at_:Int} {C A8:Option Addr} {xs:List Fd} {y:Fd} (h:FwJ wo wi bk k dd sq at_ C xs) (h0:Ext wi w5) (hy:y.1.length<=9223372036854775807/\y.2.length<=9223372036854775807)
 (p0:w8.ownsRow wo.heap.size 105 2 (.slice A8 (k+1) c8) (k+1) (fcells xs++y.cells)) (q0:w5.grownBy w8 (Value.slice C k dd).ownBlock) :
 FwJ wo (w8.setCell ⟨bk,2,none⟩ (.slice A8 (k+1) c8)) bk (k+1) c8 sq at_ A8 (xs ++ [y]):=by
 have k0:=h.mid h0 q0;have j0:Chg (fun g=>g=bk) w8 (w8.setCell ⟨bk,2,none⟩ (.slice A8 (k+1) c8)):=Chg.of_set w8 _ rfl;refine⟨?_,?_,by rw[List.length_append,h.len];rfl,fun z hz=>?_,h.low,?_⟩
 ·have:=Row.put k0 2 (.slice A8 (k+1) c8);simpa using this
 ·rw[ZBi];refine j0.owns p0 fun g hg g0=>?_;obtain⟨cs,hr,_⟩:=ZC p0 hg;subst g0;exact Row.unlike hr k0 (by decide) rfl
 ·rcases List.mem_append.1 hz with hz | hz
  ·exact h.long z hz
  ·rw[List.mem_singleton.1 hz];exact hy
 ·exact((h.ext.trans h0).grown q0 fun g m0=>(by obtain⟨_,_,hb⟩:=ZC h.evs m0;exact hb)).setCell h.low _
theorem ZKf (A0:Option Addr) (c0 n:Nat) (ds:List DocC) (w:World) (hn:n=ds.length) (h:DocsOk w A0 ds) :
 Calls Tryz.prog 37 #[.slice A0 n c0] w fun e w'=>DocsA (fewD (dcs ds)) w e w':=by
 replace hn:=ZA hn;replace h:=ZA h;go_enter Tryz.func37,Tryz.ntmps37;go_wp2_with fail
 go_loopw [3,4] (fun s3 s4 wr=>∃(i d:Nat) (B:Option Addr) (outs:List DocC),s3 = .slice B i d/\s4 = .int .i64 (i:Int)/\i<=n/\i<=40/\Hid (outs.length=i)/\Hid (dcs outs=((dcs ds).take i).map few1)/\Hid (DocsOwn wr w.heap.size B d outs)/\Hid (Ext w wr)) (fun _ s4 _=>40 - (intOf s4).toNat)
 case atStart=>exact⟨0,0,none,[],rfl,rfl,by omega,by omega,ZA rfl,ZA rfl,ZA (DocsOwn.nil _ _),ZA (Ext.refl _)⟩
 case round =>
  obtain⟨i,d,B,outs,rfl,rfl,hi,x1,n0,h2,q2,hE⟩:=hrel;by_cases o1:i<n/\i<40
  ·obtain⟨s1,f2⟩:=o1;have r1:(i:Int)<40:=by omega
   obtain⟨x,hx⟩:∃x,ds[i]? = some x:=⟨_,List.getElem?_eq_getElem (by rw[<-hn.out];exact s1)⟩
   obtain⟨h1,g1,m1⟩:=h.out.each x (List.mem_of_getElem? hx);obtain⟨g,o,hA,l0,l1,l2⟩:=ZU (h.out.cells) hx;have q0:dcs (outs ++ [(⟨x.seq,fewE x.e,x.A,x.c⟩:DocC)])=((dcs ds).take (i+1)).map few1:=by
    rw[Z6,h2.out];have:(dcs ds)[i]? = some x.dc:=by unfold dcs;rw[List.getElem?_map,hx];rfl
    rw[List.take_add_one,this,List.map_append];rfl
   rw[Z6]at q0;obtain⟨sq,⟨at_,fs⟩,fA,fc⟩:=x;simp only at l0 l1 l2 h1 g1 m1 q0;obtain⟨fn,e0⟩:∃fn,fn=fs.length:=⟨_,rfl⟩
   rw[<-e0]at l2;have k0:=hE.out.cell l0;have k1:=hE.out.cell l1;have k2:=hE.out.cell l2;have j2:=ZA (FwJ.start wr sq at_);have a2:=ZA (fun W (hE:Ext w W)=>hE.cell l2);subst hA;replace e0:=ZA e0;replace h1:=ZA h1;replace g1:=ZA g1;replace m1:=ZA m1;replace q0:=ZA q0;clear hx l0 l1 l2;go_wp2_with fail;clear k0 k1 k2;obtain⟨wo,rfl⟩:∃wo,wo=wr:=⟨_,rfl⟩
   go_loopw [6] (fun s6 wi=>∃(k dd:Nat) (C:Option Addr),s6 = .int .i64 (k:Int)/\k<=8/\k<=fn/\Hid (FwJ wo wi wo.heap.size k dd sq at_ C (fewF (fs.take k)))) (fun s6 _=>8 - (intOf s6).toNat)
   case atStart=>exact⟨0,0,none,rfl,by omega,by omega,j2⟩
   case round =>
    clear j2;obtain⟨k,dd,C,rfl,i2,n2,p0⟩:=hrel;have t1:=ZA p0.out.ext;have m0:=ZA (hE.out.trans t1.out);obtain⟨bk,v1⟩:∃bk,bk=wo.heap.size:=⟨_,rfl⟩
    rw[<-v1]at p0 ⊢;have d2:=p0.out.row.lt;replace v1:=ZA v1;have q1:=a2.out wr m0.out;by_cases y2:k<fn/\k<8
    ·obtain⟨w1,z1⟩:=y2;have z2:(k:Int)<8:=by omega
     obtain⟨f,hf⟩:∃f,fs[k]? = some f:=⟨_,List.getElem?_eq_getElem (by rw[<-e0.out];exact w1)⟩
     have n1:=h1.out.long f (List.mem_of_getElem? hf);obtain⟨g2,o2,u2,j0,j1⟩:=Zu (h1.out.cells.ext m0.out) hf;have s0:fewF (fs.take (k+1))=fewF (fs.take k) ++ [(f.1,f.2.take 300)]:=by
      rw[List.take_add_one,hf];unfold fewF;rw[List.map_append];rfl
     obtain⟨nm,tx⟩:=f;simp only at n1 j0 j1 s0;unfold strV at j0 j1;obtain⟨u1,x2⟩:=n1;obtain⟨mm,c1⟩:∃mm:Nat,mm=min tx.length 300:=⟨_,rfl⟩
     have c2:=Zf (P:=Tryz.prog) #[3,3] 3 (x:=(tx.length:Int)) (y:=300) (m:=(mm:Int)) (by omega);have p2:=ZDK tx mm (by omega);have m2:tx.take mm=tx.take 300:=by
      rw[c1];rcases Nat.le_total tx.length 300 with h3 | h3
      ·rw[Nat.min_eq_left h3,List.take_length,List.take_of_length_le h3]
      ·rw[Nat.min_eq_right h3]
     rw[m2]at p2;have t2:(tx.take 300).length<=9223372036854775807:=by rw[List.length_take];omega
     obtain⟨tt,i1⟩:∃tt,tt=tx.take 300:=⟨_,rfl⟩
     rw[<-i1]at p2 s0 t2;subst u2;replace c1:=ZA c1;replace i1:=ZA i1;replace s0:=ZA s0;clear hf m2;obtain⟨w5,i0⟩:∃w5,w5=wr.alloc (.cells #[.string ⟨nm.toArray⟩,.string ⟨tt.toArray⟩] 105):=⟨_,rfl⟩
     have p1:Row w5 wr.heap.size 105 #[.string ⟨nm.toArray⟩,.string ⟨tt.toArray⟩]:=by rw[i0];exact Row.new wr _ _
     have a0:Ext wr w5:=by rw[i0];exact(Ext.refl wr).alloc _
     have y0:=p1.cell 0 rfl;have y1:=p1.cell 1 rfl;have b2:=(p0.out.row.ext a0).cell 2 rfl;have u0:=a0.owns p0.out.evs;have w0:=(t1.out.trans a0).size;have z0:=w0;have g0:=u0;rw[i0]at y0 y1 b2 g0 z0;replace i0:=ZA i0;replace p1:=ZA p1;replace a0:=ZA a0;clear u0 w0;go_wp2_with (at_builtin;refine ZR (us:= [.string ⟨nm.toArray⟩,.string ⟨tt.toArray⟩]) (m:=1) ZIZ g0 (by simp) (.tmp 58) (.tmp 60) rfl rfl rfl rfl rfl (ZS rfl) (by omega) z0 (fun A8 c8 w8 f0 t0 a1=>?_);rw[<-i0.out]at t0;have e1:=p0.out.mid a0.out t0;have q4:w8.cell? ⟨bk,2,none⟩=some (.slice C k dd):=e1.cell 2 rfl;have qf:=e1.free 2;have x0:=ZA (FwJ.step (y:=(nm,tt)) p0.out a0.out ⟨u1,t2⟩ f0 t0);clear f0 t0 a1 e1 y0 y1 b2);rw[<-s0.out]at x0;go_roundw
     case rel=>exact⟨k+1,c8,A8,by go_num,by omega,by omega,x0⟩
     case measure=>simp[intOf];omega
    ·have h0:fewF (fs.take k)=(fewE ⟨at_,fs⟩).fs:=by
      unfold fewF fewE;simp only;rcases Nat.lt_or_ge k fn with h7 | h7
      ·have:k=8:=by omega
       rw[this]
      ·rw[List.take_of_length_le (by rw[<-e0.out];exact h7),List.take_of_length_le (by rw[<-e0.out];omega)]
     have o0:=ZA (q2.out.ext t1.out);have f1:w.heap.size<=wr.heap.size:=m0.out.size;have v0:wr.ownsRow w.heap.size 39 3 (.slice B i d) i (dcells outs):=by have:=o0.out.own;rw[n0.out]at this;exact this
     have b0:=p0.out.row.cell 0 rfl;have b1:=p0.out.row.cell 1 rfl;have b2:=p0.out.row.cell 2 rfl;replace h0:=ZA h0;by_cases w1:k<fn
     case' pos=>have z1:¬ (k:Int)<8:=by omega
     all_goals
      go_wp2_with (at_builtin;refine ZR (us:= [.int .i64 sq,.int .i64 at_,.slice C k dd]) (m:=1) ZFO v0 rfl (.tmp 64) (.tmp 66) rfl rfl rfl rfl rfl (ZS rfl) (by omega) f1 (fun A8 c8 w8 f0 t0 a1=>?_);replace f0:=ZA f0;replace t0:=ZA t0;clear a1 b0 b1 b2);have hlen:=p0.out.len;have d1:Ev.Own (fewE ⟨at_,fs⟩) wr w.heap.size C dd:=by
       refine⟨?_,?_,?_⟩
       ·rw[<-h0.out,hlen];exact ZN p0.out.evs hE.out.size
       ·rw[<-h0.out];exact p0.out.long
       ·rw[<-h0.out,hlen];omega
      have r0:=DocsOwn.push (x:=⟨sq,fewE ⟨at_,fs⟩,C,dd⟩) o0.out d1 ⟨g1.out,m1.out⟩ (by rw[n0.out];unfold DocC.cells;simp only;rw[<-h0.out,hlen];exact f0.out) (by rw[n0.out];exact t0.out);have v2:Ext w w8:=m0.out.grown t0.out fun k hk=>by obtain⟨_,_,hb⟩:=ZC v0 hk;exact hb
      go_roundw
      case rel=>exact⟨i+1,c8,A8,_,rfl,by go_num,by omega,by omega,ZA (by rw[List.length_append,n0.out];rfl),ZA (by rw[Z6];exact q0.out),ZA r0,ZA v2⟩
      case measure=>simp[intOf];omega
  ·have d0:dcs outs=fewD (dcs ds):=by
    rw[h2.out];unfold fewD;show ((dcs ds).take i).map few1=((dcs ds).take 40).map few1;have e2:(dcs ds).length=n:=by unfold dcs;rw[List.length_map,hn.out]
    rcases Nat.lt_or_ge i n with h7 | h7
    ·have:i=40:=by omega
     rw[this]
    ·rw[List.take_of_length_le (by omega),List.take_of_length_le (by omega)]
   replace d0:=ZA d0;by_cases s1:i<n
   case' pos=>have x1:¬ (i:Int)<40:=by omega
   all_goals
    clear o1;go_wp2_with fail;go_ret;exact⟨hE.out,outs,B,d,d0.out,by rw[n0.out];rfl,q2.out⟩
end
section
open Go.RowKit
theorem ZGe (l m:List DocC) (A B:Option Addr) (c c2:Nat) (w:World) (hl:DocsOk w A l) (hm:DocsOk w B m) (j0:dcs l=dcs m) (hb:l.length<=1000000000) :
 Calls Tryz.prog 20 #[.slice A l.length c,.slice B m.length c2] w fun en w'=>en = .returned (.bool true)/\Ext w w':=by
 have hlen:m.length=l.length:=by
  have:=congrArg List.length j0;unfold dcs at this;rw[List.length_map,List.length_map]at this;exact this.symm
 obtain⟨n,hn⟩:∃n,n=l.length:=⟨_,rfl⟩
 rw[hlen,<-hn];rw[<-hn]at hb hlen;replace hn:=ZA hn;replace hlen:=ZA hlen;replace j0:=ZA j0;go_enter Tryz.func20,Tryz.ntmps20;go_wp2_with fail
 go_loopw [5] (fun s5 wr=>∃i:Nat,s5 = .int .i64 (i:Int)/\i<=n/\Hid (Ext w wr)) (fun s5 _=>n - (intOf s5).toNat)
 case atStart=>exact⟨0,rfl,by omega,ZA (Ext.refl w)⟩
 case round =>
  obtain⟨i,rfl,hi,hE⟩:=hrel;by_cases y0:i<n
  ·obtain⟨x,hx⟩:∃x,l[i]? = some x:=⟨_,List.getElem?_eq_getElem (by rw[<-hn.out];exact y0)⟩
   obtain⟨y,hy⟩:∃y,m[i]? = some y:=⟨_,List.getElem?_eq_getElem (by rw[hlen.out];exact y0)⟩
   have z0:x.dc=y.dc:=by
    have h1:(dcs l)[i]? = some x.dc:=by unfold dcs;rw[List.getElem?_map,hx];rfl
    have h2:(dcs m)[i]? = some y.dc:=by unfold dcs;rw[List.getElem?_map,hy];rfl
    rw[j0.out,h2]at h1;exact(Option.some.inj h1).symm
   obtain⟨g,o,hA,k0,k1,k2⟩:=ZU (hl.cells.ext hE.out) hx;obtain⟨g2,o2,hB,k3,k4,k5⟩:=ZU (hm.cells.ext hE.out) hy;have v0:=(hl.each x (List.mem_of_getElem? hx)).1;have x0:=(hm.each y (List.mem_of_getElem? hy)).1;obtain⟨sq,⟨at_,fs⟩,C,d⟩:=x;obtain⟨sq2,e2,D,d2⟩:=y;unfold DocC.dc at z0;injection z0 with h1 h2;simp only at h1 h2 k0 k1 k2 k3 k4 k5 v0 x0;subst h1 h2 hA hB;have p0:=fun W (hE:Ext w W)=>ZJP ⟨at_,fs⟩ ⟨at_,fs⟩ C D d d2 W (v0.ext hE) (x0.ext hE);rw[show sameE ⟨at_,fs⟩ ⟨at_,fs⟩=true from decide_eq_true ⟨rfl,rfl⟩]at p0;unfold Ev.val at p0;simp only at p0 k4 k5;obtain⟨k,hk⟩:∃k,k=fs.length:=⟨_,rfl⟩
   rw[<-hk]at p0 k2 k5;have t0:∀x,(x.cell? ⟨g,o+i*3,none⟩=some (.int .i64 sq)/\x.cell? ⟨g,o+i*3+1,none⟩=some (.int .i64 at_)/\x.cell? ⟨g,o+i*3+2,none⟩=some (.slice C k d)/\x.cell? ⟨g2,o2+i*3,none⟩=some (.int .i64 sq)/\x.cell? ⟨g2,o2+i*3+1,none⟩=some (.int .i64 at_)/\x.cell? ⟨g2,o2+i*3+2,none⟩=some (.slice D k d2)/\Ext w x)->Calls Tryz.prog 70 #[.agg #[.int .i64 at_,.slice C k d],.agg #[.int .i64 at_,.slice D k d2]] x fun e y=>e = .returned (.bool true)/\(y.cell? ⟨g,o+i*3,none⟩=some (.int .i64 sq)/\y.cell? ⟨g,o+i*3+1,none⟩=some (.int .i64 at_)/\y.cell? ⟨g,o+i*3+2,none⟩=some (.slice C k d)/\y.cell? ⟨g2,o2+i*3,none⟩=some (.int .i64 sq)/\y.cell? ⟨g2,o2+i*3+1,none⟩=some (.int .i64 at_)/\y.cell? ⟨g2,o2+i*3+2,none⟩=some (.slice D k d2)/\Ext w y):=fun x ⟨h0,h1,h2,h3,h4,h5,hE⟩ =>
    (p0 x hE).mono fun e y ⟨he,q0⟩=>⟨he,q0.cell h0,q0.cell h1,q0.cell h2,q0.cell h3,q0.cell h4,q0.cell h5,hE.trans q0⟩
   have g0:wr.cell? ⟨g,o+i*3,none⟩=some (.int .i64 sq)/\wr.cell? ⟨g,o+i*3+1,none⟩=some (.int .i64 at_)/\wr.cell? ⟨g,o+i*3+2,none⟩=some (.slice C k d)/\wr.cell? ⟨g2,o2+i*3,none⟩=some (.int .i64 sq)/\wr.cell? ⟨g2,o2+i*3+1,none⟩=some (.int .i64 at_)/\wr.cell? ⟨g2,o2+i*3+2,none⟩=some (.slice D k d2)/\Ext w wr:=⟨k0,k1,k2,k3,k4,k5,hE.out⟩
   have m0:wr.drew.cell? ⟨g,o+i*3,none⟩=some (.int .i64 sq)/\wr.drew.cell? ⟨g,o+i*3+1,none⟩=some (.int .i64 at_)/\wr.drew.cell? ⟨g,o+i*3+2,none⟩=some (.slice C k d)/\wr.drew.cell? ⟨g2,o2+i*3,none⟩=some (.int .i64 sq)/\wr.drew.cell? ⟨g2,o2+i*3+1,none⟩=some (.int .i64 at_)/\wr.drew.cell? ⟨g2,o2+i*3+2,none⟩=some (.slice D k d2)/\Ext w wr.drew:=⟨k0,k1,k2,k3,k4,k5,hE.out.drew⟩
   have u0:∀x,(x.cell? ⟨g,o+i*3,none⟩=some (.int .i64 sq)/\x.cell? ⟨g,o+i*3+1,none⟩=some (.int .i64 at_)/\x.cell? ⟨g,o+i*3+2,none⟩=some (.slice C k d)/\x.cell? ⟨g2,o2+i*3,none⟩=some (.int .i64 sq)/\x.cell? ⟨g2,o2+i*3+1,none⟩=some (.int .i64 at_)/\x.cell? ⟨g2,o2+i*3+2,none⟩=some (.slice D k d2)/\Ext w x)->Ext w x:=fun x h=>h.2.2.2.2.2.2;have c0:(0:Int)<=i:=by omega
   have hi1:(i:Int)<n:=by omega
   replace t0:=ZA t0;replace g0:=ZA g0;replace m0:=ZA m0;replace u0:=ZA u0;clear hx hy v0 x0 p0 hk;go_wp2_with fail
   go_region_held3 (fun x=>x.cell? ⟨g,o+i*3,none⟩=some (.int .i64 sq)/\x.cell? ⟨g,o+i*3+1,none⟩=some (.int .i64 at_)/\x.cell? ⟨g,o+i*3+2,none⟩=some (.slice C k d)/\x.cell? ⟨g2,o2+i*3,none⟩=some (.int .i64 sq)/\x.cell? ⟨g2,o2+i*3+1,none⟩=some (.int .i64 at_)/\x.cell? ⟨g2,o2+i*3+2,none⟩=some (.slice D k d2)/\Ext w x) (first | exact m0.out | exact g0.out | exact ‹_›) (first | (go_at_call 70;refine(t0.out _ ‹_›).mono ?_;rintro e w3 ⟨rfl,b0⟩))
   go_wp2_with fail;have a0:=ZA (u0.out _ ‹_›);go_roundw
   case rel=>exact⟨i+1,by go_num,by omega,a0⟩
   case measure=>simp[intOf];omega
  ·go_wp2_with fail;go_ret;exact⟨rfl,hE.out⟩
end
section
open Go.RowKit Go.Maps
theorem ZKD:∀(rs:List (List UInt8×List Po)) (pre:List (List UInt8×List Po)) (e:En),e∈enOf (postB pre).length rs->∃r∈rs,e.t=r.1/\e.len=(encPs r.2).length/\e.off+e.len<=(postB (pre++rs)).length/\((postB (pre++rs)).drop e.off).take e.len=encPs r.2
 | [],pre,e,h=>by cases h
 | r::t,pre,e,h=>by
  unfold enOf at h;have h0:postB (pre++r::t)=postB pre++(encPs r.2++postB t):=by rw[ZAm];rfl
  rcases List.mem_cons.1 h with rfl | h
  ·refine⟨r,List.mem_cons_self ..,rfl,rfl,by rw[h0];simp only[List.length_append];omega,?_⟩;simp only[h0];rw[List.drop_left,List.take_left]
  ·have q0:(postB (pre ++ [r])).length=(postB pre).length+(encPs r.2).length:=by rw[ZAm,List.length_append];congr 1;unfold postB;simp
   rw[<-q0]at h;obtain⟨r',p0,h1,h2,h3,h4⟩:=ZKD t (pre ++ [r]) e h;rw[List.append_assoc,List.singleton_append]at h3 h4;exact⟨r',List.mem_cons_of_mem _ p0,h1,h2,h3,h4⟩
def PostsR (P:List Dc) (t:List UInt8) (w:World) (e:Ending) (w':World):Prop:=Ext w w'/\((∃r∈rowsD P,r.1=t/\∃(ps:List PoC) (A:Option Addr) (c:Nat),psP ps=r.2/\e = .returned (.slice A r.2.length c)/\PosOk w' A ps)\/((∀r∈rowsD P,r.1≠t)/\e = .returned (.slice none 0 0)))
theorem ZJA (g:Nat) (P:List Dc) (t:List UInt8) (w:World) (h:SegR w g P) (hP:SegP P):Calls Tryz.prog 14 #[.pointer (some ⟨g,0,none⟩),.string ⟨t.toArray⟩] w fun e w'=>PostsR P t w e w':=by
 have hn:=ZA (h.none hP);have hB:=hP.sm.seg;obtain⟨ds,A,c,lo,hi,fi,la,B,cB,gd,gf,h1,h2,h3,h4,h5,h6,h7⟩:=h;have k8:=h1.cell 8 rfl;have hg:=ZA (ZML gd _ t w h5 hB.ens);obtain⟨nB,k0⟩:∃nB,nB=(postB (rowsD P)).length:=⟨_,rfl⟩
 rw[<-k0]at h1 h6;have r0:=hB.posts;rw[<-k0]at r0;replace h1:=ZA h1;replace h6:=ZA h6;replace k0:=ZA k0;replace hB:=ZA hB;clear h2 h3 h4 h5 h7;go_enter Tryz.func14,Tryz.ntmps14;go_wp2_with fail;refine hn.out.mono ?_;rintro e w1 ⟨rfl,rfl⟩;go_wp2_with fail;refine hg.out.mono ?_;rintro e w2 ⟨g0,b0⟩;rcases b0 with ⟨x,hx,f0,rfl⟩ | ⟨i0,rfl⟩
 ·obtain⟨r,hr,a0,l0,v0,u0⟩:=ZKD (rowsD P) [] x hx;rw[List.nil_append]at v0 u0;rw[<-k0.out]at v0;obtain⟨xo,d0⟩:∃xo,xo=x.off:=⟨_,rfl⟩
  obtain⟨xn,c0⟩:∃xn,xn=x.len:=⟨_,rfl⟩
  rw[<-d0,<-c0]at v0 u0 ⊢;have m0:=hB.out.each r hr;obtain⟨A5,c5,q1,t0⟩:=(h6.out.ext g0).subk .i64 .i64 (fr:=xo) (k:=xn) v0 (z0:=(xo:Int)) (z:=(xo:Int)+(xn:Int)) rfl rfl;rw[u0]at t0;have h0:=fun W (hE:Ext w2 W)=>ZGJ A5 xn c5 (encPs r.2) W r.2 (t0.ext hE) m0.1 rfl m0.2.2.2.1;have p1:wrap64 ((xo:Int)+(xn:Int))=(xo:Int)+(xn:Int):=by unfold wrap64;omega
  replace d0:=ZA d0;replace c0:=ZA c0;replace h0:=ZA h0;replace m0:=ZA m0;replace t0:=ZA t0;replace hr:=ZA hr;have j0:=h1.out.ext g0;have k9:=j0.cell 9 rfl;have o0:=j0.lt;replace j0:=ZA j0;clear u0 hx;replace f0:=ZA f0;replace a0:=ZA a0;replace l0:=ZA l0;go_wp2_with fail;obtain⟨W5,p0⟩:∃W5,W5=w2.alloc (Obj.cells #[.string ⟨x.t.toArray⟩,.int .i64 (xo:Int),.int .i64 (xn:Int),.int .i64 (x.n:Int)] 97):=⟨_,rfl⟩
  rw[<-p0];have x0:Ext w2 W5:=by rw[p0];exact(Ext.refl w2).alloc _
  have r5:Row W5 w2.heap.size 97 #[.string ⟨x.t.toArray⟩,.int .i64 (xo:Int),.int .i64 (xn:Int),.int .i64 (x.n:Int)]:=by rw[p0];exact Row.new w2 _ _
  obtain⟨g5,y0⟩:∃g5,g5=w2.heap.size:=⟨_,rfl⟩
  rw[<-y0]at r5 ⊢;have y1:=r5.cell 1 rfl;have y2:=r5.cell 2 rfl;have k95:=x0.cell k9;replace r5:=ZA r5;replace p0:=ZA p0;replace y0:=ZA y0;refine ZB follows (by kernel_rfl) (by kernel_rfl) (fun K hK=>?_);go_wp2_with fail;refine(h0.out W5.drew x0.drew).mono ?_;rintro e w6 ⟨ps,A6,c6,w0,rfl,s0,_,_,n0⟩;go_wp2_with fail;refine⟨by kernel_rfl,?_⟩;go_wp2_with fail;go_ret;exact⟨g0.trans (x0.drew.trans n0),.inl ⟨r,hr.out,a0.out.symm.trans f0.out,ps,A6,c6,w0,rfl,s0⟩⟩
 ·have q0:∀r∈rowsD P,r.1≠t:=fun r hr e=>by
   have key:∀(rs:List (List UInt8×List Po)) (o:Nat),r∈rs->∃x∈enOf o rs,x.t=r.1:=by
    intro rs
    induction rs with
    | nil=>intro o h;cases h
    | cons q qs ih =>
     intro o h;unfold enOf;rcases List.mem_cons.1 h with rfl | h
     ·exact⟨_,List.mem_cons_self ..,rfl⟩
     ·obtain⟨x,hx,e0⟩:=ih _ h;exact⟨x,List.mem_cons_of_mem _ hx,e0⟩
   obtain⟨x,hx,e0⟩:=key _ 0 hr;exact i0 x hx (e0.trans e)
  unfold noEn;replace q0:=ZA q0;clear i0;go_wp2_with fail;go_ret;exact⟨g0.alloc _,.inr ⟨q0.out,rfl⟩⟩
end
section
open Go.RowKit
theorem ZDp {P:List Dc} (hP:SegP P) (h0:∀p∈framesD P,p.length<=16777216) (ha:∀d∈P,I64ok' d.2.at_):openD (segL P)=some P:=by
 have h1:(segL P).take 4 = [76,83,69,71]:=rfl;have h2:(segL P).drop 4=joinL (framesD P):=rfl;have h3:=ZIL hP.sm.ok ha (by have:=hP.sm.sz;omega);unfold openD;rw[if_pos h1,h2,ZBy _ h0,if_pos ⟨rfl,rfl⟩];show (match decDs (encDs P)with | some Q=>if 0<Q.length/\segL Q=segL P then some Q else none | none=>none)=some P;rw[h3];show (if 0<P.length/\segL P=segL P then some P else none)=some P;rw[if_pos ⟨hP.ne,rfl⟩]
theorem ZGR {b:List UInt8} {P:List Dc} (h:openD b=some P):0<P.length/\segL P=b/\okDs P=true:=by
 unfold openD at h;split at h
 ·split at h
  ·split at h
   ·rename_i Q hQ;split at h
    ·rename_i hc;injection h with h;subst h;exact⟨hc.1,hc.2,(ZAV hQ).1⟩
    ·cases h
   ·cases h
  ·cases h
 ·cases h
theorem ZC5 {b:List UInt8} (hb:b.length<=60000) (P:List Dc) (h:decDs ((splitF (b.drop 4)).1.headD [])=some P):(blockD 0 P).length<=70000:=by
 have h1:=ZAV h;have h2:((splitF (b.drop 4)).1.headD []).length<=b.length:=by
  cases hs:(splitF (b.drop 4)).1 with
  | nil=>simp
  | cons p t =>
   have:=(ZCm (l:=b.drop 4) (p:=p) (by rw[hs];exact List.mem_cons_self ..)).2;rw[List.length_drop]at this;simp only[List.headD_cons];omega
 rw[<-h1.2]at h2;unfold encDs at h2;simp only[List.length_append]at h2;omega
def aw1:List Dc:= [(1,⟨7,[([109,115,103],[120])]⟩)]
def aw2:List Dc:= [(4,⟨0,[]⟩)]
theorem ZOI:okDs aw1=true:=by kernel_rfl
theorem ZOR:okDs aw2=true:=by kernel_rfl
theorem ZNZ:(blockD 0 aw1).length=9:=by kernel_rfl
theorem ZN3:(blockD 0 aw2).length=3:=by kernel_rfl
theorem ZIF:rowsD aw1 = [([109,115,103,58,120],[(0,[0])])]:=by kernel_rfl
theorem ZIU:rowsD aw2 = []:=by kernel_rfl
theorem ZCd:SegP aw1:=⟨⟨ZOI,by rw[ZNZ];decide⟩,by decide⟩
theorem ZDm:SegP aw2:=⟨⟨ZOR,by rw[ZN3];decide⟩,by decide⟩
theorem ZMs:partD aw1 = [7,7,1,1,1]:=by kernel_rfl
theorem ZNk:mayB (ofB ((rowsD aw1).map (·.1))) [109,115,103,58,120]=true:=by
 rw[ZIF]
 kernel_rfl
theorem ZNL:mayB (ofB ((rowsD aw2).map (·.1))) [109,115,103,58,120]=false:=by
 rw[ZIU]
 kernel_rfl
theorem ZON:(framesD aw1).all (fun p=>decide (p.length<=16777216))=true:=by kernel_rfl
theorem ZOB:(framesD aw2).all (fun p=>decide (p.length<=16777216))=true:=by kernel_rfl
theorem ZOO:decide ((segL aw1).length<=60000)=true:=by kernel_rfl
theorem ZOG:decide ((segL aw2).length<=60000)=true:=by kernel_rfl
theorem ZL0:openD (segL aw1)=some aw1:=ZDp ZCd (fun p hp=>of_decide_eq_true (List.all_eq_true.1 ZON p hp)) (fun d hd=>by
 unfold aw1 at hd;rw[List.mem_singleton.1 hd];unfold I64ok';decide)
theorem ZMv:openD (segL aw2)=some aw2:=ZDp ZDm (fun p hp=>of_decide_eq_true (List.all_eq_true.1 ZOB p hp)) (fun d hd=>by
 unfold aw2 at hd;rw[List.mem_singleton.1 hd];unfold I64ok';decide)
end
end Go.Proofs.YtkdcnhnaiknaaaaGreat
