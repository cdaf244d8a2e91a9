/- Texts of one proof, joined. -/
import Derived.Test.YtkdcnhnaiknaaaaGreatPB12
import Derived.Test.YtkdcnhnaiknaaaaGreatPB02
import Derived.Test.YtkdcnhnaiknaaaaGreatPB04
import Derived.Test.YtkdcnhnaiknaaaaGreatPB06
import Derived.Test.YtkdcnhnaiknaaaaGreatPB08
import Derived.Test.YtkdcnhnaiknaaaaGreatPB07
import Derived.Test.YtkdcnhnaiknaaaaGreatPB10
import Derived.BigQuiet
import Derived.Deep.RegionLaw
import Derived.Test.YtkdcnhnaiknaaaaGreatPB03
import Derived.Test.YtkdcnhnaiknaaaaGreatPB11
import Derived.Test.YtkdcnhnaiknaaaaGreatPB09
import Derived.Test.YtkdcnhnaiknaaaaGreatPB01
import Derived.Deep.CutRange
import Derived.Deep.DeepCutAuto
set_option linter.unusedSimpArgs false
set_option linter.unusedVariables false
set_option maxRecDepth 100000
set_option maxHeartbeats 16000000
namespace Go.Proofs.YtkdcnhnaiknaaaaGreat
section
open Go.RowKit
def rowOk (t:List UInt8) (kk:Nat):Bool:=decide (kk<=t.length)&&(t.take kk).all contB
theorem ZFD (l:List UInt8) (at_ n0 kk:Nat) (w:World) (hl:l.length<=1073741824) (y0:n0<32) (f0:kk<=3) (ha:at_<l.length) :
 Calls Tryz.prog 186 #[.string ⟨l.toArray⟩,.int .i64 (at_:Int),.int .i64 (n0:Int),.int .i64 ((kk:Int)+1)] w fun e w'=>e = .returned (.tuple #[.int .i64 ((if rowOk (l.drop (at_+1)) kk=true then foldR n0 ((l.drop (at_+1)).take kk) else 0:Nat):Int),.bool (rowOk (l.drop (at_+1)) kk)])/\Ext w w':=by
 have c0:=ZA (fun a r W ha hr=>ZKb l a r W hl hr ha);obtain⟨t,ht⟩:∃t,t=l.drop (at_+1):=⟨_,rfl⟩
 rw[<-ht];have x0:∀j,l[at_+(j+1)]? = t[j]? :=fun j=>by rw[ht,List.getElem?_drop];congr 1;omega
 obtain⟨Z,hZ⟩:∃Z,Z=(if rowOk t kk=true then foldR n0 (t.take kk) else 0:Nat):=⟨_,rfl⟩
 obtain⟨B,hB⟩:∃B,B=rowOk t kk:=⟨_,rfl⟩
 rw[<-hZ,<-hB];replace x0:=ZA x0;replace hZ:=ZA hZ;replace hB:=ZA hB;replace ht:=ZA ht;go_enter Tryz.func186,Tryz.ntmps186;go_wp2_with fail
 go_loopw [2,10] (fun s2 s10 wr=>∃j X:Nat,s2 = .int .i64 (X:Int)/\s10 = .int .i64 ((j:Int)+1)/\j<=kk/\Hid (X=foldR n0 (t.take j))/\Hid (rowOk t j=true)/\Hid (Ext w wr)) (fun _ s10 _=>10 - (intOf s10).toNat)
 case atStart=>exact⟨0,n0,rfl,rfl,by omega,ZA rfl,ZA (by simp[rowOk]),ZA (Ext.refl w)⟩
 case round =>
  obtain⟨j,X,rfl,rfl,hj,hX,z0,hE⟩:=hrel;by_cases h:j<kk
  ·have h0:=z0.out;unfold rowOk at h0;simp only[Bool.and_eq_true,decide_eq_true_eq]at h0;have d0:X<8388608:=by rw[hX.out];exact ZAZ y0 (by rw[List.length_take];omega)
   have hc:=fun W=>c0.out (at_+(j+1)) X W (by omega) (by omega);rw[x0.out j]at hc;have u0:((at_+(j+1):Nat):Int)=(at_:Int)+((j:Int)+1):=by omega
   rw[u0]at hc;replace u0:=ZA u0;cases hb:t[j]? with
   | none =>
    rw[hb]at hc;have e0:=List.getElem?_eq_none_iff.1 hb;have g0:B=false:=by
     rw[hB.out];unfold rowOk;rw[decide_eq_false (by omega),Bool.false_and]
    have v0:Z=0:=by rw[hZ.out,<-hB.out,g0,if_neg (by simp)]
    subst g0;subst v0;simp only at hc;replace hc:=ZA hc;replace h0:=ZA h0;replace hb:=ZA hb;go_wp2_with fail;refine(hc.out _).mono ?_;rintro e w2 ⟨rfl,m0⟩;go_wp2_with fail;go_ret2;exact⟨rfl,hE.out.trans m0⟩
   | some b =>
    rw[hb]at hc;have i0:=(List.getElem?_eq_some_iff.1 hb).1;have j0:t.take (j+1)=t.take j ++ [b]:=by rw[List.take_add_one,hb];rfl
    cases q0:contB b with
    | true =>
     simp only[q0,if_true]at hc;have k0:rowOk t (j+1)=true:=by
      unfold rowOk;rw[j0,List.all_append,h0.2];simp[q0];omega
     have t0:X*64+b.toNat%64=foldR n0 (t.take (j+1)):=by rw[j0,ZEM,<-hX.out]
     obtain⟨X2,p0⟩:∃X2,X2=X*64+b.toNat%64:=⟨_,rfl⟩
     rw[<-p0]at hc t0;replace p0:=ZA p0;replace hc:=ZA hc;replace h0:=ZA h0;replace hb:=ZA hb;replace j0:=ZA j0;replace t0:=ZA t0;replace k0:=ZA k0;replace q0:=ZA q0;go_wp2_with fail;refine(hc.out _).mono ?_;rintro e w2 ⟨rfl,m0⟩;go_wp2_with fail;exact⟨⟨j+1,X2,rfl,by go_num,by omega,t0,k0,ZA (hE.out.trans m0)⟩,by simp only[intOf];omega⟩
    | false =>
     have g0:B=false:=by
      rw[hB.out];unfold rowOk;have:(t.take kk).all contB=false:=by
       rw[List.all_eq_false];exact⟨b,List.mem_of_getElem? (i:=j) (by rw[List.getElem?_take,if_pos h];exact hb),by simp[q0]⟩
      rw[this,Bool.and_false]
     have v0:Z=0:=by rw[hZ.out,<-hB.out,g0,if_neg (by simp)]
     subst g0;subst v0;simp only[q0,Bool.false_eq_true,if_false]at hc;replace hc:=ZA hc;replace h0:=ZA h0;replace hb:=ZA hb;replace j0:=ZA j0;replace q0:=ZA q0;go_wp2_with fail;refine(hc.out _).mono ?_;rintro e w2 ⟨rfl,m0⟩;go_wp2_with fail;go_ret2;exact⟨rfl,hE.out.trans m0⟩
  ·obtain rfl:j=kk:=by omega
   have a0:B=true:=by rw[hB.out];exact z0.out
   have b0:Z=X:=by rw[hZ.out,z0.out,if_pos rfl];exact hX.out.symm
   subst a0;subst b0;go_wp2_with fail;go_ret2;exact⟨rfl,hE.out⟩
theorem ZHK (lo hi n k:Nat) (t:List UInt8):okR lo hi n k t=(rowOk t k&&decide (lo<=foldR n (t.take k))&&decide (foldR n (t.take k)<=hi) && !(decide (55296<=foldR n (t.take k))&&decide (foldR n (t.take k)<=57343))):=rfl
theorem ZO0 {b:UInt8} {t:List UInt8} (h:b.toNat / 32=6):decR (b::t)=if rowOk t 1=true/\128<=foldR (b.toNat%32) (t.take 1) then (foldR (b.toNat%32) (t.take 1),2) else (65533,1):=by
 have hF:=ZFj (b.toNat%32) (t.take 1);have hp:64^(t.take 1).length<=64^1:=Nat.pow_le_pow_right (by omega) (by rw[List.length_take];omega);have h0:foldR (b.toNat%32) (t.take 1)<32*64^1:=Nat.lt_of_lt_of_le hF (Nat.mul_le_mul (by omega) hp);have h2:(b.toNat / 16==14)=false:=by rw[beq_eq_false_iff_ne];omega
 have h3:(b.toNat / 8==30)=false:=by rw[beq_eq_false_iff_ne];omega
 have h1:(b.toNat / 32==6)=true:=beq_iff_eq.2 h;rw[decR,if_neg (by omega),h1,h2,h3,ZHK];simp only[Bool.true_and,Bool.false_and,Bool.false_eq_true,if_false];congr 1;simp only[Bool.and_eq_true,Bool.not_eq_true',Bool.and_eq_false_iff,decide_eq_true_eq,decide_eq_false_iff_not,eq_iff_iff];constructor
 ·rintro⟨⟨⟨h,h4⟩,h5⟩,h6⟩;exact⟨h,h4⟩
 ·rintro⟨h,h4⟩;exact⟨⟨⟨h,h4⟩,by omega⟩,by omega⟩
theorem ZO1 {b:UInt8} {t:List UInt8} (h:b.toNat / 16=14):decR (b::t)=if rowOk t 2=true/\2048<=foldR (b.toNat%16) (t.take 2)/\(foldR (b.toNat%16) (t.take 2)<55296\/57343<foldR (b.toNat%16) (t.take 2)) then (foldR (b.toNat%16) (t.take 2),3) else (65533,1):=by
 have hF:=ZFj (b.toNat%16) (t.take 2);have hp:64^(t.take 2).length<=64^2:=Nat.pow_le_pow_right (by omega) (by rw[List.length_take];omega);have h0:foldR (b.toNat%16) (t.take 2)<16*64^2:=Nat.lt_of_lt_of_le hF (Nat.mul_le_mul (by omega) hp);have h2:(b.toNat / 32==6)=false:=by rw[beq_eq_false_iff_ne];omega
 have h3:(b.toNat / 8==30)=false:=by rw[beq_eq_false_iff_ne];omega
 have h1:(b.toNat / 16==14)=true:=beq_iff_eq.2 h;rw[decR,if_neg (by omega),h1,h2,h3,ZHK 2048];simp only[Bool.true_and,Bool.false_and,Bool.false_eq_true,if_false];congr 1;simp only[Bool.and_eq_true,Bool.not_eq_true',Bool.and_eq_false_iff,decide_eq_true_eq,decide_eq_false_iff_not,eq_iff_iff];constructor
 ·rintro⟨⟨⟨h,h4⟩,h5⟩,h6⟩;exact⟨h,h4,by omega⟩
 ·rintro⟨h,h4,h5⟩;exact⟨⟨⟨h,h4⟩,by omega⟩,by omega⟩
theorem ZO3 {b:UInt8} {t:List UInt8} (h:b.toNat / 8=30):decR (b::t)=if rowOk t 3=true/\65536<=foldR (b.toNat%8) (t.take 3)/\foldR (b.toNat%8) (t.take 3)<=1114111 then (foldR (b.toNat%8) (t.take 3),4) else (65533,1):=by
 have h2:(b.toNat / 32==6)=false:=by rw[beq_eq_false_iff_ne];omega
 have h3:(b.toNat / 16==14)=false:=by rw[beq_eq_false_iff_ne];omega
 have h1:(b.toNat / 8==30)=true:=beq_iff_eq.2 h;rw[decR,if_neg (by omega),h1,h2,h3,ZHK 65536];simp only[Bool.true_and,Bool.false_and,Bool.false_eq_true,if_false];congr 1;simp only[Bool.and_eq_true,Bool.not_eq_true',Bool.and_eq_false_iff,decide_eq_true_eq,decide_eq_false_iff_not,eq_iff_iff];constructor
 ·rintro⟨⟨⟨h,h4⟩,h5⟩,h6⟩;exact⟨h,h4,h5⟩
 ·rintro⟨h,h4,h5⟩;exact⟨⟨⟨h,h4⟩,h5⟩,by omega⟩
theorem ZO2 {b:UInt8} {t:List UInt8} (h:¬ b.toNat<128) (h1:¬ b.toNat / 32=6) (h2:¬ b.toNat / 16=14) (h3:¬ b.toNat / 8=30):decR (b::t)=(65533,1):=by
 rw[decR,if_neg h,beq_eq_false_iff_ne.2 h1,beq_eq_false_iff_ne.2 h2,beq_eq_false_iff_ne.2 h3];simp
theorem ZLT (l:List UInt8) (at_:Nat) (b:UInt8) (w:World) (hb:l[at_]? = some b) (hl:l.length<=1073741824) (hq:b.toNat / 32=6) :
 Calls Tryz.prog 156 #[.string ⟨l.toArray⟩,.int .i64 (at_:Int)] w fun e w'=>e = .returned (.tuple #[.int .i64 (decR (l.drop at_)).1,.int .i64 (decR (l.drop at_)).2])/\Ext w w':=by
 have t0:=(List.getElem?_eq_some_iff.1 hb).1;have u0:=fun W=>ZO hb (z:=(at_:Int)) rfl W;have h0:=fun W=>ZFD l at_ (b.toNat%32) 1 W hl (by omega) (by omega) t0;simp only[show (((1:Nat):Int)+1)=2 from rfl]at h0;have m0:l.drop at_=b::l.drop (at_+1):=by
  rw[List.drop_eq_getElem_cons t0];congr 1;exact(List.getElem?_eq_some_iff.1 hb).2
 rw[m0];obtain⟨t,ht⟩:∃t,t=l.drop (at_+1):=⟨_,rfl⟩
 rw[<-ht]at h0 ⊢;have q0:=ZO0 (t:=t) hq;obtain⟨n0,g0⟩:∃n0,n0=b.toNat%32:=⟨_,rfl⟩
 obtain⟨F,hF⟩:∃F,F=foldR (b.toNat%32) (t.take 1):=⟨_,rfl⟩
 rw[<-hF]at q0 h0;rw[<-g0]at h0;obtain⟨x,hx⟩:∃x,x=b.toNat:=⟨_,rfl⟩
 have v0:=b.toNat_lt;rw[<-hx]at u0 g0 hq v0;obtain⟨B,hB⟩:∃B,B=rowOk t 1:=⟨_,rfl⟩
 rw[<-hB]at h0 q0;have j0:F<8388608:=by rw[hF];exact ZAZ (by omega) (by rw[List.length_take];omega)
 obtain⟨R,hR⟩:∃R,R=decR (b::t):=⟨_,rfl⟩
 rw[<-hR]at q0 ⊢;have g1:¬ (x:Int)<128:=by omega
 have g2:(x:Int) / 32=6:=by omega
 have g3:¬ (x:Int) / 16=14:=by omega
 have g4:¬ (x:Int) / 8=30:=by omega
 have g5:(x:Int)%32=(n0:Int):=by omega
 replace g0:=ZA g0;replace hF:=ZA hF;replace hx:=ZA hx;replace hb:=ZA hb;replace hB:=ZA hB;replace hR:=ZA hR;replace ht:=ZA ht;replace m0:=ZA m0;replace hq:=ZA hq;cases B with
 | false =>
  rw[if_neg (by simp)]at q0;simp only[Bool.false_eq_true,if_false]at h0;replace h0:=ZA h0;subst q0;go_enter Tryz.func156,Tryz.ntmps156;go_wp2_with fail;refine(h0.out _).mono ?_;rintro e w2 ⟨rfl,p0⟩;go_wp2_with fail;go_ret2;exact⟨rfl,p0⟩
 | true =>
  simp only[if_true]at h0;obtain⟨z,hz⟩:∃z:Int,z=(F:Int):=⟨_,rfl⟩
  rw[<-hz]at h0;have gz:0<=z:=by omega
  have gz8:z<8388608:=by omega
  replace h0:=ZA h0;simp only[true_and]at q0;by_cases hc:128<=F
  ·have k0:128<=z:=by omega
   rw[if_pos (by omega)]at q0;subst q0;replace j0:=ZA j0;simp only;rw[<-hz];replace hz:=ZA hz;go_enter Tryz.func156,Tryz.ntmps156;go_wp2_with fail;refine(h0.out _).mono ?_;rintro e w2 ⟨rfl,p0⟩;go_wp2_with fail;go_ret2;exact⟨rfl,p0⟩
  ·have k0:¬ 128<=z:=by omega
   rw[if_neg (by omega)]at q0;subst q0;replace j0:=ZA j0;replace hz:=ZA hz;go_enter Tryz.func156,Tryz.ntmps156;go_wp2_with fail;refine(h0.out _).mono ?_;rintro e w2 ⟨rfl,p0⟩;go_wp2_with fail;go_ret2;exact⟨rfl,p0⟩
theorem ZKa (l:List UInt8) (at_:Nat) (b:UInt8) (w:World) (hb:l[at_]? = some b) (hl:l.length<=1073741824) (hq:b.toNat / 16=14) :
 Calls Tryz.prog 156 #[.string ⟨l.toArray⟩,.int .i64 (at_:Int)] w fun e w'=>e = .returned (.tuple #[.int .i64 (decR (l.drop at_)).1,.int .i64 (decR (l.drop at_)).2])/\Ext w w':=by
 have t0:=(List.getElem?_eq_some_iff.1 hb).1;have u0:=fun W=>ZO hb (z:=(at_:Int)) rfl W;have h0:=fun W=>ZFD l at_ (b.toNat%16) 2 W hl (by omega) (by omega) t0;simp only[show (((2:Nat):Int)+1)=3 from rfl]at h0;have m0:l.drop at_=b::l.drop (at_+1):=by
  rw[List.drop_eq_getElem_cons t0];congr 1;exact(List.getElem?_eq_some_iff.1 hb).2
 rw[m0];obtain⟨t,ht⟩:∃t,t=l.drop (at_+1):=⟨_,rfl⟩
 rw[<-ht]at h0 ⊢;have q0:=ZO1 (t:=t) hq;obtain⟨n0,g0⟩:∃n0,n0=b.toNat%16:=⟨_,rfl⟩
 obtain⟨F,hF⟩:∃F,F=foldR (b.toNat%16) (t.take 2):=⟨_,rfl⟩
 rw[<-hF]at q0 h0;rw[<-g0]at h0;obtain⟨x,hx⟩:∃x,x=b.toNat:=⟨_,rfl⟩
 have v0:=b.toNat_lt;rw[<-hx]at u0 g0 hq v0;obtain⟨B,hB⟩:∃B,B=rowOk t 2:=⟨_,rfl⟩
 rw[<-hB]at h0 q0;have j0:F<8388608:=by rw[hF];exact ZAZ (by omega) (by rw[List.length_take];omega)
 obtain⟨R,hR⟩:∃R,R=decR (b::t):=⟨_,rfl⟩
 rw[<-hR]at q0 ⊢;have g1:¬ (x:Int)<128:=by omega
 have g2:(x:Int) / 16=14:=by omega
 have g3:¬ (x:Int) / 32=6:=by omega
 have g4:¬ (x:Int) / 8=30:=by omega
 have g5:(x:Int)%16=(n0:Int):=by omega
 replace g0:=ZA g0;replace hF:=ZA hF;replace hx:=ZA hx;replace hb:=ZA hb;replace hB:=ZA hB;replace hR:=ZA hR;replace ht:=ZA ht;replace m0:=ZA m0;replace hq:=ZA hq;cases B with
 | false =>
  rw[if_neg (by simp)]at q0;simp only[Bool.false_eq_true,if_false]at h0;replace h0:=ZA h0;subst q0;go_enter Tryz.func156,Tryz.ntmps156;go_wp2_with fail;refine(h0.out _).mono ?_;rintro e w2 ⟨rfl,p0⟩;go_wp2_with fail;go_ret2;exact⟨rfl,p0⟩
 | true =>
  simp only[if_true]at h0;obtain⟨z,hz⟩:∃z:Int,z=(F:Int):=⟨_,rfl⟩
  rw[<-hz]at h0;have gz:0<=z:=by omega
  have gz8:z<8388608:=by omega
  replace h0:=ZA h0;simp only[true_and]at q0;by_cases hc:2048<=F
  ·by_cases hs:F<55296
   ·have k0:2048<=z:=by omega
    have k1:z<55296:=by omega
    rw[if_pos (by omega)]at q0;subst q0;replace j0:=ZA j0;simp only;rw[<-hz];replace hz:=ZA hz;go_enter Tryz.func156,Tryz.ntmps156;go_wp2_with fail;refine(h0.out _).mono ?_;rintro e w2 ⟨rfl,p0⟩;go_wp2_with fail;go_ret2;exact⟨rfl,p0⟩
   ·by_cases x0:57343<F
    ·have k0:2048<=z:=by omega
     have k1:¬ z<55296:=by omega
     have k2:57343<z:=by omega
     rw[if_pos (by omega)]at q0;subst q0;replace j0:=ZA j0;simp only;rw[<-hz];replace hz:=ZA hz;go_enter Tryz.func156,Tryz.ntmps156;go_wp2_with fail;refine(h0.out _).mono ?_;rintro e w2 ⟨rfl,p0⟩;go_wp2_with fail;go_ret2;exact⟨rfl,p0⟩
    ·have k0:2048<=z:=by omega
     have k1:¬ z<55296:=by omega
     have k2:¬ 57343<z:=by omega
     rw[if_neg (by omega)]at q0;subst q0;replace j0:=ZA j0;replace hz:=ZA hz;go_enter Tryz.func156,Tryz.ntmps156;go_wp2_with fail;refine(h0.out _).mono ?_;rintro e w2 ⟨rfl,p0⟩;go_wp2_with fail;go_ret2;exact⟨rfl,p0⟩
  ·have k0:¬ 2048<=z:=by omega
   rw[if_neg (by omega)]at q0;subst q0;replace j0:=ZA j0;replace hz:=ZA hz;go_enter Tryz.func156,Tryz.ntmps156;go_wp2_with fail;refine(h0.out _).mono ?_;rintro e w2 ⟨rfl,p0⟩;go_wp2_with fail;go_ret2;exact⟨rfl,p0⟩
theorem ZKi (l:List UInt8) (at_:Nat) (b:UInt8) (w:World) (hb:l[at_]? = some b) (hl:l.length<=1073741824) (hq:b.toNat / 8=30) :
 Calls Tryz.prog 156 #[.string ⟨l.toArray⟩,.int .i64 (at_:Int)] w fun e w'=>e = .returned (.tuple #[.int .i64 (decR (l.drop at_)).1,.int .i64 (decR (l.drop at_)).2])/\Ext w w':=by
 have t0:=(List.getElem?_eq_some_iff.1 hb).1;have u0:=fun W=>ZO hb (z:=(at_:Int)) rfl W;have h0:=fun W=>ZFD l at_ (b.toNat%8) 3 W hl (by omega) (by omega) t0;simp only[show (((3:Nat):Int)+1)=4 from rfl]at h0;have m0:l.drop at_=b::l.drop (at_+1):=by
  rw[List.drop_eq_getElem_cons t0];congr 1;exact(List.getElem?_eq_some_iff.1 hb).2
 rw[m0];obtain⟨t,ht⟩:∃t,t=l.drop (at_+1):=⟨_,rfl⟩
 rw[<-ht]at h0 ⊢;have q0:=ZO3 (t:=t) hq;obtain⟨n0,g0⟩:∃n0,n0=b.toNat%8:=⟨_,rfl⟩
 obtain⟨F,hF⟩:∃F,F=foldR (b.toNat%8) (t.take 3):=⟨_,rfl⟩
 rw[<-hF]at q0 h0;rw[<-g0]at h0;obtain⟨x,hx⟩:∃x,x=b.toNat:=⟨_,rfl⟩
 have v0:=b.toNat_lt;rw[<-hx]at u0 g0 hq v0;obtain⟨B,hB⟩:∃B,B=rowOk t 3:=⟨_,rfl⟩
 rw[<-hB]at h0 q0;have j0:F<8388608:=by rw[hF];exact ZAZ (by omega) (by rw[List.length_take];omega)
 obtain⟨R,hR⟩:∃R,R=decR (b::t):=⟨_,rfl⟩
 rw[<-hR]at q0 ⊢;have g1:¬ (x:Int)<128:=by omega
 have g2:(x:Int) / 8=30:=by omega
 have g3:¬ (x:Int) / 32=6:=by omega
 have g4:¬ (x:Int) / 16=14:=by omega
 have g5:(x:Int)%8=(n0:Int):=by omega
 replace g0:=ZA g0;replace hF:=ZA hF;replace hx:=ZA hx;replace hb:=ZA hb;replace hB:=ZA hB;replace hR:=ZA hR;replace ht:=ZA ht;replace m0:=ZA m0;replace hq:=ZA hq;cases B with
 | false =>
  rw[if_neg (by simp)]at q0;simp only[Bool.false_eq_true,if_false]at h0;replace h0:=ZA h0;subst q0;go_enter Tryz.func156,Tryz.ntmps156;go_wp2_with fail;refine(h0.out _).mono ?_;rintro e w2 ⟨rfl,p0⟩;go_wp2_with fail;go_ret2;exact⟨rfl,p0⟩
 | true =>
  simp only[if_true]at h0;obtain⟨z,hz⟩:∃z:Int,z=(F:Int):=⟨_,rfl⟩
  rw[<-hz]at h0;have gz:0<=z:=by omega
  have gz8:z<8388608:=by omega
  replace h0:=ZA h0;simp only[true_and]at q0;by_cases hc:65536<=F
  ·by_cases hs:F<=1114111
   ·have k0:65536<=z:=by omega
    have k1:z<=1114111:=by omega
    rw[if_pos (by omega)]at q0;subst q0;replace j0:=ZA j0;simp only;rw[<-hz];replace hz:=ZA hz;go_enter Tryz.func156,Tryz.ntmps156;go_wp2_with fail;refine(h0.out _).mono ?_;rintro e w2 ⟨rfl,p0⟩;go_wp2_with fail;go_ret2;exact⟨rfl,p0⟩
   ·have k0:65536<=z:=by omega
    have k1:¬ z<=1114111:=by omega
    rw[if_neg (by omega)]at q0;subst q0;replace j0:=ZA j0;replace hz:=ZA hz;go_enter Tryz.func156,Tryz.ntmps156;go_wp2_with fail;refine(h0.out _).mono ?_;rintro e w2 ⟨rfl,p0⟩;go_wp2_with fail;go_ret2;exact⟨rfl,p0⟩
  ·have k0:¬ 65536<=z:=by omega
   rw[if_neg (by omega)]at q0;subst q0;replace j0:=ZA j0;replace hz:=ZA hz;go_enter Tryz.func156,Tryz.ntmps156;go_wp2_with fail;refine(h0.out _).mono ?_;rintro e w2 ⟨rfl,p0⟩;go_wp2_with fail;go_ret2;exact⟨rfl,p0⟩
theorem ZHb (l:List UInt8) (at_:Nat) (w:World) (k0:at_<l.length) (hl:l.length<=1073741824) :
 Calls Tryz.prog 156 #[.string ⟨l.toArray⟩,.int .i64 (at_:Int)] w fun e w'=>e = .returned (.tuple #[.int .i64 (decR (l.drop at_)).1,.int .i64 (decR (l.drop at_)).2])/\Ext w w':=by
 obtain⟨b,hb⟩:∃b,l[at_]? = some b:=⟨_,List.getElem?_eq_getElem k0⟩
 have q0:l.drop at_=b::l.drop (at_+1):=by
  rw[List.drop_eq_getElem_cons k0,(List.getElem?_eq_some_iff.1 hb).2]
 by_cases p0:b.toNat<128
 ·have h0:decR (l.drop at_)=(b.toNat,1):=by
   rw[q0,decR,if_pos p0]
  rw[h0];have j0:=fun W=>ZO hb (z:=(at_:Int)) rfl W;have m0:(b.toNat:Int)<128:=by omega
  replace hb:=ZA hb;replace h0:=ZA h0;replace q0:=ZA q0;go_enter Tryz.func156,Tryz.ntmps156;go_wp2_with fail
  all_goals
   go_ret2;exact⟨rfl,Ext.refl w⟩
 ·by_cases h1:b.toNat / 32=6
  ·exact ZLT l at_ b w hb hl h1
  ·by_cases h2:b.toNat / 16=14
   ·exact ZKa l at_ b w hb hl h2
   ·by_cases h3:b.toNat / 8=30
    ·exact ZKi l at_ b w hb hl h3
    ·have h0:decR (l.drop at_)=(65533,1):=by
      rw[q0,ZO2 p0 h1 h2 h3]
     rw[h0];have j0:=fun W=>ZO hb (z:=(at_:Int)) rfl W;obtain⟨x,hx⟩:∃x,x=b.toNat:=⟨_,rfl⟩
     have t0:=b.toNat_lt;rw[<-hx]at j0 h1 h2 h3 p0 t0;have g0:¬ (x:Int)<128:=by omega
     have g1:¬ (x:Int) / 32=6:=by omega
     have g2:¬ (x:Int) / 16=14:=by omega
     have g3:¬ (x:Int) / 8=30:=by omega
     replace h1:=ZA h1;replace h2:=ZA h2;replace h3:=ZA h3;replace p0:=ZA p0;replace hx:=ZA hx;replace hb:=ZA hb;replace h0:=ZA h0;replace q0:=ZA q0;go_enter Tryz.func156,Tryz.ntmps156;go_wp2_with fail
     all_goals
      go_ret2;exact⟨rfl,Ext.refl w⟩
theorem ZJX (l:List UInt8) (w:World) (hl:l.length<=1073741824) :
 Calls Tryz.prog 100 #[.string ⟨l.toArray⟩] w (NewN w (runesL l)):=by
 have h0:=ZA (fun at_ W (h:at_<l.length)=>ZHb l at_ W h hl);obtain⟨n,hn⟩:∃n,n=l.length:=⟨_,rfl⟩
 have hlen:(⟨l.toArray⟩:ByteArray).size=n:=by rw[hn];exact ByteArray.size_mk_toArray l
 rw[<-hn]at hl h0;replace hn:=ZA hn;go_enter Tryz.func100,Tryz.ntmps100;go_wp2_with fail
 go_loopw [3,4] (fun s3 s4 wr=>∃(at_ c:Nat) (A:Option Addr) (D:List Nat),s3 = .slice A D.length c/\s4 = .int .i64 (at_:Int)/\at_<=n/\D.length<=at_/\Hid (runesL l=D++runesL (l.drop at_))/\Hid (Buf wr w.heap.size 3 A D.length c (D.map NV))/\Hid (Ext w wr)) (fun _ s4 _=>n - (intOf s4).toNat)
 case atStart=>exact⟨0,0,none,[],rfl,rfl,by omega,by simp,ZA rfl,ZA (Buf.nil _ _ _),ZA (Ext.refl w)⟩
 case round =>
  obtain⟨at_,c,A,D,rfl,rfl,a0,hD,g0,hb,hE⟩:=hrel;by_cases h:at_<n
  ·have q0:=ZGK (s:=l) (at_:=at_) (by rw[<-hn.out];exact h);obtain⟨r,hr⟩:∃r,r=(decR (l.drop at_)).1:=⟨_,rfl⟩
   obtain⟨k,hk⟩:∃k,k=(decR (l.drop at_)).2:=⟨_,rfl⟩
   rw[<-hr,<-hk,<-hn.out]at q0;have k0:=ZA q0.1;have x0:=q0.2.1;have y0:=q0.2.2;clear q0;have hd:=ZA (fun W=>h0.out at_ W h);rw[<-hr,<-hk]at hd;replace hr:=ZA hr;replace hk:=ZA hk;go_wp2_with fail;refine(hd.out _).mono ?_;rintro e w2 ⟨rfl,j0⟩;have v0:=ZA (hb.out.ext j0);have p0:=hE.out.trans j0;have z0:=p0.size;replace p0:=ZA p0;go_wp2_with (at_builtin;refine ZM ZIu v0.out (.tmp 17) (.tmp 19) rfl rfl rfl rfl (ZS rfl) (by simp;omega) z0 (fun A3 c3 w4 u0 t0=>?_));go_roundw
   case rel=>exact⟨at_+k,c3,A3,D ++ [r],by simp,by simp,by omega,by simp;omega,ZA (by rw[g0.out,k0.out];simp),ZA (by simpa [NV]using u0),ZA (t0 w p0.out (Nat.le_refl _))⟩
   case measure=>simp[intOf];omega
  ·obtain rfl:at_=n:=by omega
   have m0:D=runesL l:=by
    rw[g0.out,List.drop_eq_nil_of_le (by rw[<-hn.out];exact Nat.le_refl _),ZEu,List.append_nil]
   subst m0;go_wp2_with fail;go_ret;exact⟨A,c,rfl,hb.out,hE.out⟩
theorem ZEU {cur rs:List Nat} (hc:cur ≠ []) (h:∀r t,rs=r::t->wordR r=false):runsW cur rs=cur::runsW [] rs:=by
 cases rs with
 | nil=>rw[runsW,if_neg hc,runsW,if_pos rfl]
 | cons r t=>rw[ZBJ (h r t rfl) hc,ZAp (h r t rfl)]
theorem ZHH (l:List UInt8) (w:World) (hl:l.length<=1000000000):Calls Tryz.prog 55 #[.string ⟨l.toArray⟩] w (NewTk w (tokL l)):=by
 have y1:=ZA (fun W=>ZJX l W (by omega));have x1:=ZCO l;have s0:=ZF0 l;have x0:tokL l=(runsW [] (runesL l)).map (cutW []):=rfl;obtain⟨R,hR⟩:∃R,R=runesL l:=⟨_,rfl⟩
 rw[<-hR]at y1 x1 s0 x0;obtain⟨Z,hZ⟩:∃Z,Z=tokL l:=⟨_,rfl⟩
 rw[<-hZ]at x0 ⊢;obtain⟨m,hm⟩:∃m,m=R.length:=⟨_,rfl⟩
 have n1:m<=1000000001:=by omega
 have f1:=ZA (fun r W h=>ZG2 r W h);have a1:=ZA (fun rs A n c W h1 h2 h3 h4=>ZLy rs A n c W h1 h2 h3 h4);replace hZ:=ZA hZ;replace hR:=ZA hR;replace x0:=ZA x0;replace s0:=ZA s0;rw[<-hm]at x1;replace hm:=ZA hm;go_enter Tryz.func55,Tryz.ntmps55;go_wp2_with fail;refine(y1.out _).mono ?_;rintro e w2 ⟨A2,c2,rfl,w0,z0⟩;rw[<-hm.out]at w0 ⊢;have o1:=w0.2.1;have j1:=ZA (Buf.cells w0);replace z0:=ZA z0;replace w0:=ZA w0;go_wp2_with fail
 go_loopw [3,5] (fun s3 s5 wr=>∃(i k c3:Nat) (A3:Option Addr) (D:List (List Nat)),s3 = .slice A3 k c3/\s5 = .int .i64 (i:Int)/\i<=m/\k<=i/\Hid (k=D.length)/\Hid (runsW [] R=D++runsW [] (R.drop i))/\Hid (wr.ownsRow w2.heap.size 123 2 (.slice A3 k c3) k (tkV (D.map (cutW []))))/\Hid (Ext w2 wr)) (fun _ s5 _=>m - (intOf s5).toNat)
 case atStart=>exact⟨0,0,0,none,[],rfl,rfl,by omega,by omega,ZA rfl,ZA (by simp),ZA (World.ownsRow_nil _ _ _ _),ZA (Ext.refl w2)⟩
 case round =>
  obtain⟨i,k,c3,A3,D,rfl,rfl,him,l1,hk,b0,u0,hE⟩:=hrel;by_cases h:i<m
  ·obtain⟨gR,oR,hA,g1⟩:=j1.out.at_ (by rw[List.length_map,<-hm.out];omega);obtain⟨g2,b1⟩:∃g,A2=some ⟨g,0,none⟩:=by
    rcases w0.out.2.2 with ⟨h,_⟩ | ⟨g,_,h,_⟩
    ·rw[hA]at h;cases h
    ·exact⟨g,h⟩
   subst b1;cases hA;replace g1:=ZA g1;go_wp2_with fail
   go_loopw [6] (fun s6 wr2=>∃j:Nat,s6 = .int .i64 (j:Int)/\i<=j/\j<=m/\Hid (runsW [] (R.drop i)=runsW ((R.take j).drop i) (R.drop j))/\Hid (Ext wr wr2)) (fun s6 _=>m - (intOf s6).toNat)
   case atStart=>exact⟨i,rfl,by omega,by omega,ZA (by rw[ZBI]),ZA (Ext.refl wr)⟩
   case round =>
    obtain⟨j,rfl,c1,i1,t1,c0⟩:=hrel;by_cases hj:j<m
    ·obtain⟨r,d0⟩:∃r,R[j]? = some r:=⟨_,List.getElem?_eq_getElem (by rw[<-hm.out];exact hj)⟩
     have p1:=g1.out j (NV r) (by rw[List.getElem?_map,d0];rfl);rw[Nat.zero_add]at p1;replace p1:=(hE.out.trans c0.out).cell p1;unfold NV at p1;have z1:=s0.out r (List.mem_of_getElem? d0);have g0:=ZA (fun W=>f1.out r W (by omega));obtain⟨b,hb⟩:∃b,b=wordR r:=⟨_,rfl⟩
     rw[<-hb]at g0;replace z1:=ZA z1;replace hb:=ZA hb;replace d0:=ZA d0;cases b with
     | true =>
      go_wp2_with fail;refine(g0.out _).mono ?_;rintro e w4 ⟨rfl,f0⟩;go_wp2_with fail;refine⟨⟨j+1,rfl,by omega,by omega,ZA ?_,ZA (c0.out.trans f0)⟩,by simp only[intOf];omega⟩;rw[t1.out,ZE3 d0.out,ZBW hb.out.symm,ZFz d0.out c1]
     | false =>
      have q0:∀x t,R.drop j=x::t->wordR x=false:=by
       intro x t hx;rw[ZE3 d0.out]at hx;injection hx with h1 _;rw[<-h1];exact hb.out.symm
      by_cases o0:i<j
      ·have h0:runsW [] R=(D ++ [(R.take j).drop i])++runsW [] (R.drop j):=by
        rw[b0.out,t1.out,ZEU (ZDS o0 (by rw[<-hm.out];omega)) q0,List.append_assoc];rfl
       replace h0:=ZA h0;have j0:∀x∈(R.take j).drop i,x<=1114111:=fun x hx=>s0.out x (List.mem_of_mem_take (List.mem_of_mem_drop hx));have p0:j - i=((R.take j).drop i).length:=by rw[List.length_drop,List.length_take,<-hm.out];omega
       have n0:=ZA (fun c W (hh:Cells W (some ⟨gR,i,none⟩) (((R.take j).drop i).map NV))=>a1.out ((R.take j).drop i) (some ⟨gR,i,none⟩) (j - i) c W p0 hh j0 (by omega));have v0:=ZDg j1.out i j;rw[<-List.map_take,<-List.map_drop]at v0;obtain⟨t,ht⟩:∃t,t=cutW [] ((R.take j).drop i):=⟨_,rfl⟩
       rw[<-ht]at n0;have y0:(D ++ [(R.take j).drop i]).map (cutW [])=D.map (cutW []) ++ [t]:=by rw[List.map_append,ht];rfl
       obtain⟨cu,l0⟩:∃cu,cu=(R.take j).drop i:=⟨_,rfl⟩
       rw[<-l0]at n0 v0 h0 y0;replace q0:=ZA q0;replace j0:=ZA j0;replace p0:=ZA p0;replace v0:=ZA v0;replace ht:=ZA ht;replace y0:=ZA y0;replace l0:=ZA l0;go_wp2_with fail;refine(g0.out _).mono ?_;rintro e w4 ⟨rfl,f0⟩;go_wp2_with fail;have m0:=ZA ((hE.out.trans c0.out).trans f0);have i0:=ZA (v0.out.ext m0.out);refine(n0.out _ _ i0.out).mono ?_;rintro e w5 ⟨rfl,a0⟩;have t0:=ZA (m0.out.trans a0);have k0:=ZA (a0.owns (f0.owns (c0.out.owns u0.out)));have r0:=t0.out.size;replace a0:=ZA a0;go_wp2_with (at_builtin;refine Z7 (m:=1) ZJt k0.out (.tmp 32) (.tmp 41) rfl rfl rfl rfl rfl (ZS rfl) (by omega) r0 (fun A6 c6 w6 v1 m1 e1=>?_));have e0:=t0.out.grown m1 (fun q hq=>(k0.out.lt q hq).1);refine⟨⟨j,k+1,c6,A6,D ++ [cu],rfl,rfl,by omega,by omega,ZA (by rw[List.length_append,<-hk.out];rfl),h0,ZA ?_,ZA e0⟩,by simp only[intOf];omega⟩;rw[y0.out,ZFE,List.length_map,<-hk.out];exact v1
      ·obtain rfl:i=j:=by omega
       have u1:=ZA q0;clear q0;go_wp2_with fail;refine(g0.out _).mono ?_;rintro e w4 ⟨rfl,f0⟩;go_wp2_with fail;refine⟨⟨i+1,k,c3,A3,D,rfl,rfl,by omega,by omega,hk,ZA ?_,ZA (f0.owns (c0.out.owns u0.out)),ZA ((hE.out.trans c0.out).trans f0)⟩,by simp only[intOf];omega⟩;rw[b0.out,ZE3 d0.out,ZAp hb.out.symm]
    ·obtain rfl:j=m:=by omega
     have o0:i<j:=h;have q0:∀x t,R.drop j=x::t->wordR x=false:=by
      intro x t hx;rw[List.drop_eq_nil_of_le (by rw[<-hm.out];exact Nat.le_refl _)]at hx;cases hx
     have h0:runsW [] R=(D ++ [(R.take j).drop i])++runsW [] (R.drop j):=by
      rw[b0.out,t1.out,ZEU (ZDS o0 (by rw[<-hm.out];omega)) q0,List.append_assoc];rfl
     replace h0:=ZA h0;have j0:∀x∈(R.take j).drop i,x<=1114111:=fun x hx=>s0.out x (List.mem_of_mem_take (List.mem_of_mem_drop hx));have p0:j - i=((R.take j).drop i).length:=by rw[List.length_drop,List.length_take,<-hm.out];omega
     have n0:=ZA (fun c W (hh:Cells W (some ⟨gR,i,none⟩) (((R.take j).drop i).map NV))=>a1.out ((R.take j).drop i) (some ⟨gR,i,none⟩) (j - i) c W p0 hh j0 (by omega));have v0:=ZDg j1.out i j;rw[<-List.map_take,<-List.map_drop]at v0;obtain⟨t,ht⟩:∃t,t=cutW [] ((R.take j).drop i):=⟨_,rfl⟩
     rw[<-ht]at n0;have y0:(D ++ [(R.take j).drop i]).map (cutW [])=D.map (cutW []) ++ [t]:=by rw[List.map_append,ht];rfl
     obtain⟨cu,l0⟩:∃cu,cu=(R.take j).drop i:=⟨_,rfl⟩
     rw[<-l0]at n0 v0 h0 y0;replace q0:=ZA q0;replace j0:=ZA j0;replace p0:=ZA p0;replace v0:=ZA v0;replace ht:=ZA ht;replace y0:=ZA y0;replace l0:=ZA l0;go_wp2_with fail;have m0:=ZA (hE.out.trans c0.out);have i0:=ZA (v0.out.ext m0.out);refine(n0.out _ _ i0.out).mono ?_;rintro e w5 ⟨rfl,a0⟩;have t0:=ZA (m0.out.trans a0);have k0:=ZA (a0.owns (c0.out.owns u0.out));have r0:=t0.out.size;replace a0:=ZA a0;go_wp2_with (at_builtin;refine Z7 (m:=1) ZJt k0.out (.tmp 32) (.tmp 41) rfl rfl rfl rfl rfl (ZS rfl) (by omega) r0 (fun A6 c6 w6 v1 m1 e1=>?_));have e0:=t0.out.grown m1 (fun q hq=>(k0.out.lt q hq).1);refine⟨⟨j,k+1,c6,A6,D ++ [cu],rfl,rfl,by omega,by omega,ZA (by rw[List.length_append,<-hk.out];rfl),h0,ZA ?_,ZA e0⟩,by simp only[intOf];omega⟩;rw[y0.out,ZFE,List.length_map,<-hk.out];exact v1
  ·obtain rfl:i=m:=by omega
   have k1:runsW [] R=D:=by
    rw[b0.out,List.drop_eq_nil_of_le (by rw[<-hm.out];exact Nat.le_refl _),runsW,if_pos rfl,List.append_nil]
   have q1:Z=D.map (cutW []):=by rw[x0.out,k1]
   have d1:k=Z.length:=by rw[q1,List.length_map];exact hk.out
   rw[<-q1]at u0;replace k1:=ZA k1;replace q1:=ZA q1;subst d1;go_wp2_with fail;go_ret;exact⟨A3,c3,rfl,World.ownsRow.mono u0.out z0.out.size,z0.out.trans hE.out⟩
end
section
open Go.RowKit Go.Maps
theorem ZOK {D:List TmC} {X:List (List UInt8×Int)} {L:Nat} (h:tmR D=grp X) (hX:X.length<=L):D.length<=L/\∀x∈D,x.pos.length<=L:=by
 have h1:=ZDH X;rw[<-h]at h1;unfold tmR at h1;rw[List.length_map]at h1;refine⟨by omega,fun x hx=>?_⟩;have h2:x.tm∈grp X:=by rw[<-h];exact List.mem_map.2 ⟨x,hx,rfl⟩
 have h3:=((ZA6 X).mem x.tm).1 h2;have h4:=ZFf X x.tm.1;rw[<-h3.1]at h4;exact Nat.le_trans h4 hX
theorem AddA.nil {w w':World} {R:List (List UInt8×List Int)} (hR:R = []) (hE:Ext w w'):AddA w R (.returned (.slice none 0 0)) w':=⟨[],none,0,0,rfl,hR.symm,TmsR.nil _,hE⟩
theorem ZLQ {fs:List Fd} {i:Nat} {f:Fd} (h:fs[i]? = some f):rawT 0 (fs.take (i+1))=rawT 0 (fs.take i)++fieldT (baseT 0 (fs.take i)) f/\baseT 0 (fs.take (i+1))=baseT 0 (fs.take i)+(tokL f.2).length+64:=by
 rw[List.take_add_one,h];refine⟨?_,?_⟩
 ·rw[ZFS];show _++(fieldT _ f ++ [])=_;rw[List.append_nil]
 ·rw[ZDr];show nextT _ f=_;unfold nextT;omega
theorem ZI3 (e:Ev) (A:Option Addr) (c:Nat) (w:World) (h:e.Ok w A):Calls Tryz.prog 12 #[e.val A c] w fun en w'=>AddA w (termsL e) en w':=by
 obtain⟨at_,fs⟩:=e;unfold Ev.val;simp only;obtain⟨n,hn⟩:∃n,n=fs.length:=⟨_,rfl⟩
 rw[<-hn];have p1:Ext w (w.alloc (.cells #[.int .i64 at_,.slice A n c] 37)):=(Ext.refl w).alloc _;have r0:Row (w.alloc (.cells #[.int .i64 at_,.slice A n c] 37)) w.heap.size 37 #[.int .i64 at_,.slice A n c]:=Row.new w _ _;have g0:=ZBm ⟨at_,fs⟩ A c (w.alloc (.cells #[.int .i64 at_,.slice A n c] 37)) (h.ext p1);unfold Ev.val at g0;simp only at g0;rw[<-hn]at g0;obtain⟨Z,hZ⟩:∃Z,Z=termsL ⟨at_,fs⟩:=⟨_,rfl⟩
 rw[<-hZ];unfold termsL at hZ;simp only at hZ;obtain⟨q,hq⟩:∃q,q=checkE fs:=⟨_,rfl⟩
 rw[<-hq]at g0;have y0:=r0.cell 0 rfl;have y1:=r0.cell 1 rfl;replace g0:=ZA g0;replace hn:=ZA hn;by_cases o0:q=0
 ·have k0:=Zd (fs:=fs) (by rw[<-hq];exact o0);rw[if_pos (by rw[<-hq];exact o0)]at hZ;have d2:n<=16:=by rw[hn.out];exact k0.1
  have u0:∀f∈fs,f.2.length<=4096:=fun f hf=>(k0.2 f hf).2;have x1:=ZAy (k:=4096) fs 0 u0;have t0:=fun i=>ZCu (k:=4096) (fs.take i) 0 fun f hf=>u0 f (List.mem_of_mem_take hf);have z1:=fun i=>ZAy (k:=4096) (fs.take i) 0 fun f hf=>u0 f (List.mem_of_mem_take hf);have t1:=ZA (fun D A n c s z W (h:TmsR W A n c D) (hs:s.length<=9223372036854775807) (f2:n<=1000000) (i2:∀x∈D,x.pos.length<=1000000)=>ZMg D A n c s z W h hs f2 i2);have b1:=ZA (fun l W (hl:l.length<=1000000000)=>ZHH l W hl);have x2:=ZA (fun f (hf:f∈fs)=>k0.2 f hf);replace hZ:=ZA hZ;replace hq:=ZA hq;replace t0:=ZA t0;replace z1:=ZA z1;replace h:=ZA h;subst o0;clear x1 k0 u0;go_enter Tryz.func12,Tryz.ntmps12;go_wp2_with fail;refine g0.out.mono ?_;rintro e w1 ⟨rfl,p0⟩;have n1:=ZA (r0.ext p0);have z0:=ZA (p1.trans p0);obtain⟨ge,n0⟩:∃ge,ge=w.heap.size:=⟨_,rfl⟩
  rw[<-n0]at n1;clear y0 y1 r0 p0;go_wp2_with fail;rw[<-n0];replace n0:=ZA n0
  go_loopw [3,4,5] (fun s3 s4 s5 wr=>∃(i n' c' bs:Nat) (D:List TmC) (A':Option Addr),s3 = .slice A' n' c'/\s4 = .int .i64 (bs:Int)/\s5 = .int .i64 (i:Int)/\i<=n/\Hid (bs=baseT 0 (fs.take i))/\Hid (tmR D=grp (rawT 0 (fs.take i)))/\Hid (TmsR wr A' n' c' D)/\Hid (Ext w1 wr)) (fun _ _ s5 _=>n - (intOf s5).toNat)
  case atStart=>exact⟨0,0,0,0,[],none,rfl,rfl,rfl,by omega,ZA rfl,ZA rfl,ZA (TmsR.nil _),ZA (Ext.refl _)⟩
  case round =>
   obtain⟨i,n',c',bs,D,A',rfl,rfl,rfl,hi,f0,hD,hT,hE⟩:=hrel;have y1:wr.cell? ⟨ge,1,none⟩=some (.slice A n c):=(n1.out.ext hE.out).cell 1 rfl;have m2:=t0.out i;rw[<-f0.out,List.length_take]at m2;by_cases y2:i<n
   ·obtain⟨f,hf⟩:∃f,fs[i]? = some f:=⟨_,List.getElem?_eq_getElem (by rw[<-hn.out];exact y2)⟩
    have u2:=x2.out f (List.mem_of_getElem? hf);obtain⟨g,o,hA,j0,j1⟩:=Zu (h.out.cells.ext (z0.out.trans hE.out)) hf;have m0:=ZLQ hf;obtain⟨nm,tx⟩:=f;simp only at u2 j0 j1 m0;unfold strV at j0 j1;have x0:=b1.out tx wr (by omega);have u0:=ZA4 tx;have s0:=fun x hx=>ZDW (l:=tx) (x:=x) hx;obtain⟨T,b0⟩:∃T,T=tokL tx:=⟨_,rfl⟩
    rw[<-b0]at x0 m0 u0 s0;unfold NewTk at x0;obtain⟨nt,d0⟩:∃nt,nt=T.length:=⟨_,rfl⟩
    rw[<-d0]at x0 m0 u0;rw[<-f0.out]at m0;obtain⟨wo,rfl⟩:∃wo,wo=wr:=⟨_,rfl⟩
    have z2:=ZA (fun W (hE:Ext wo W)=>hE.cell j0);have l2:=ZA (fun W (hE:Ext wo W)=>hE.cell y1);subst hA;replace x0:=ZA x0;replace b0:=ZA b0;replace d0:=ZA d0;replace s0:=ZA s0;replace m0:=ZA m0;replace f0:=ZA f0;go_wp2_with fail;refine x0.out.mono ?_;rintro e wt ⟨AT,cT,rfl,i1,a0⟩;have v2:=ZA (Cells.of_own i1);have d1:=ZA (hT.out.ext a0);have p2:=ZA (hE.out.trans a0);clear i1 j0 j1 y1 hT;replace a0:=ZA a0;go_wp2_with fail
    go_loopw [3,7] (fun s3 s7 wi=>∃(k n2 c2:Nat) (D2:List TmC) (A2:Option Addr),s3 = .slice A2 n2 c2/\s7 = .int .i64 (k:Int)/\k<=nt/\Hid (tmR D2=grp (rawT 0 (fs.take i)++(fieldT bs (nm,tx)).take k))/\Hid (TmsR wi A2 n2 c2 D2)/\Hid (Ext wt wi)) (fun _ s7 _=>nt - (intOf s7).toNat)
    case atStart=>exact⟨0,n',c',D,A',rfl,rfl,by omega,ZA (by rw[List.take_zero,List.append_nil];exact hD.out),d1,ZA (Ext.refl _)⟩
    case round =>
     clear d1;obtain⟨k,n2,c2,D2,A2,rfl,rfl,hk,w0,g1,e0⟩:=hrel;by_cases b2:k<nt
     ·obtain⟨x,hx⟩:∃x,T[k]? = some x:=⟨_,List.getElem?_eq_getElem (by rw[<-d0.out];exact b2)⟩
      have s2:=s0.out x (List.mem_of_getElem? hx);have h0:=ZH8 hx (j:=0) (by omega);have h1:=ZH8 hx (j:=1) (by omega);obtain⟨g2,o2,o1,v1⟩:=(v2.out.ext e0.out).at_ (by have:=(List.getElem?_eq_some_iff.1 h0).1;omega);have l0:wr.cell? ⟨g2,o2+k*2,none⟩=some (.string ⟨x.toArray⟩):=by
       have:=v1 _ _ h0;exact this
      have l1:wr.cell? ⟨g2,o2+k*2+1,none⟩=some (.int .i64 (k:Int)):=by
       have:=v1 _ _ h1;rw[Nat.add_assoc];exact this
      have i0:=ZGU (base:=bs) (f:=(nm,tx)) (i:=k) (x:=x) (by rw[<-b0.out];exact hx);simp only at i0;obtain⟨S,hS⟩:∃S,S=nm++58::x:=⟨_,rfl⟩
      rw[<-hS]at i0;have k2:S.length<=9223372036854775807:=by rw[hS,List.length_append,List.length_cons];omega
      have v0:ByteArray.mk nm.toArray++ByteArray.mk #[58]++ByteArray.mk x.toArray=⟨S.toArray⟩:=by
       have h1:=ZIQ nm [58];have h2:=ZIQ (nm ++ [58]) x;rw[hS,h1,h2];simp
      have hX:(rawT 0 (fs.take i)++(fieldT bs (nm,tx)).take k).length<=100000:=by
       have a1:=z1.out i;rw[List.length_take]at a1;rw[List.length_append,List.length_take,ZAf];have a2:=ZA4 tx;omega
      obtain⟨j2,e1⟩:=ZOK w0.out hX;have e2:n2<=1000000:=by rw[g1.out.len];omega
      have q0:=t1.out D2 A2 n2 c2 S ((bs:Int)+(k:Int)) wr.drew (g1.out.ext (Ext.refl wr).drew) k2 e2 (fun y hy=>by have:=e1 y hy;omega);have f1:addG (S,(bs:Int)+(k:Int)) (tmR D2)=grp (rawT 0 (fs.take i)++(fieldT bs (nm,tx)).take (k+1)):=by
       rw[w0.out,<-ZC0,List.append_assoc,List.take_add_one,i0];rfl
      rw[f1]at q0;have c1:=a0.out.trans e0.out;have y1:=l2.out wr c1;have j0:=z2.out wr c1;subst o1;replace q0:=ZA q0;replace v0:=ZA v0;clear v1 h0 h1 i0 f1 j2 e1 hX hx;replace hS:=ZA hS;go_wp2_with fail;refine ZPw (fun K hK=>?_);go_wp2_with fail;rw[v0.out];refine q0.out.mono ?_;rintro e w5 ⟨D5,A5,n5,c5,rfl,q1,m1,q2⟩;have q1:=ZA q1;have m1:=ZA m1;have k1:=ZA (e0.out.trans ((Ext.refl _).drew.trans q2));clear l0 l1 y1 j0;go_wp2_with fail;refine⟨by kernel_rfl,?_⟩;go_wp2_with fail;go_roundw
      case rel=>exact⟨k+1,n5,c5,D5,A5,rfl,by go_num,by omega,q1,m1,k1⟩
      case measure=>simp only[intOf];omega
     ·obtain rfl:k=nt:=by omega
      have c0:(fieldT bs (nm,tx)).take k=fieldT bs (nm,tx):=List.take_of_length_le (by rw[ZAf];simp only;rw[<-b0.out,<-d0.out];exact Nat.le_refl _);have r1:=ZA (show tmR D2=grp (rawT 0 (fs.take (i+1)))by rw[w0.out,c0,m0.out.1]);have t2:((bs+k+64:Nat):Int)=(bs:Int)+(k:Int)+64:=by omega
      have s1:=ZA (p2.out.trans e0.out);clear c0;go_wp2_with fail;go_roundw
      case rel=>exact⟨i+1,n2,c2,bs+k+64,D2,A2,rfl,by rw[t2],by go_num,by omega,ZA m0.out.2.symm,r1,g1,s1⟩
      case measure=>simp only[intOf];omega
   ·obtain rfl:i=n:=by omega
    have u1:=ZA (show tmR D=Z by rw[hD.out,hZ.out,hn.out,List.take_length]);go_wp2_with fail;go_ret;exact⟨D,A',n',c',rfl,u1.out,hT.out,z0.out.trans hE.out⟩
 ·rw[if_neg (by rw[<-hq];exact o0)]at hZ;have r2:((q:Int) != 0)=true:=by simp;omega
  replace hZ:=ZA hZ;replace hq:=ZA hq;go_enter Tryz.func12,Tryz.ntmps12;go_wp2_with fail;refine g0.out.mono ?_;rintro e w1 ⟨rfl,p0⟩;go_wp2_with fail;go_ret;exact AddA.nil hZ.out (p1.trans p0)
end
section
open Go.RowKit Go.Maps
def kRy13 (b0:Nat) (B BT:Option Addr) (n c k i j m yc gt ot gp:Nat) (At yA:Option Addr) (nt ct:Nat) (s:List UInt8) (pre post:List Value):OwnK:=ownK [(kO b0 129 2 0 [],some 4),(kV (.slice B n c),none),(kV (.int .i64 (k:Int)),none),(kV (.slice B k c),none),(kO b0 129 2 k pre,some 14),(kV (.slice At nt ct),none),(kV (.int .i64 (j:Int)),none),(kV (.pointer (some ⟨gt,ot+j*2,none⟩)),none),(kV (.pointer (some ⟨gt,ot+j*2,none⟩)),none),(kV (.string ⟨s.toArray⟩),none),(kV (.agg #[.int .i64 (i:Int),.slice yA m yc]),none),(kO b0 107 2 1 [.int .i64 (i:Int),.slice yA m yc],some 12),(kR1 b0 s [.int .i64 (i:Int),.slice yA m yc],some 13),(kR2 b0 s [.int .i64 (i:Int),.slice yA m yc],some 14),(kR3 b0 (k+1) s [.int .i64 (i:Int),.slice yA m yc] pre [],some 18),(kV (.slice B n c),none),(kV (.int .i64 (k:Int)),none),(kV (.slice BT (n - k) (c - k)),none),(kR3 b0 (n+1) s [.int .i64 (i:Int),.slice yA m yc] pre post,some 19),(kR3 b0 (n+1) s [.int .i64 (i:Int),.slice yA m yc] pre post,none)] (fun w=>True) (fun _=>False) 99
theorem ZKv {P:Program} {ops:Array Oper} {o:Oper} {a:Act} {w:World} {K:Act->World->Prop} {Q:Exit->Act->World->Prop} {E0:Prop} {t e size bytes:Nat} (E:Elem P t e size bytes) (k0:o.guard=none)
 {base:Nat} {v:Value} {n:Nat} {xs:List Value} {A:Option Addr} {m c:Nat} {news:List Value} (q0:w.ownsRow base e size v n xs) (hr:Cells w A news) (s x:Operand)
 (ho:o.op = .call { callee:= .builtin .append,args:=#[s,x],argTypes:=#[t,t] })
 (hs:a.eval s=v) (hx:a.eval x = .slice A m c) (hl:news.length=m*size) (h1:∀u∈news,u.oneCell'=true) (j0:n+m<=4294967296) (h0:base<=w.heap.size)
 (h:∀A1 c1 w',w'.ownsRow base e size (.slice A1 (n+m) c1) (n+m) (xs++news)->w.grownBy w' v.ownBlock->((Value.slice A1 (n+m) c1).ownBlock=v.ownBlock\/∃q,(Value.slice A1 (n+m) c1).ownBlock=some q/\w.heap.size<=q)->K (a.put o.dst (.slice A1 (n+m) c1)) w') :
 if Region.wanted o (yielded ops a.tmps)=true then Oper.wp P o a w K Q else E0:=by
 rw[if_pos (by simp[Region.wanted,k0])];obtain⟨A1,c1,w',p0,h2,h3,h4⟩:=ZBo (P:=P) E w o.type q0 (c:=c) hr hl h1 j0 h0;unfold Oper.wp execOp;simp only[ho,resolve,invoke,builtin,Sem.run_bind,Sem.run_pure,Result.andThen_ok,List.map_toArray,List.map_cons,List.map_nil,hs,hx,p0];refine h A1 c1 w' h2 h3 ?_;rcases h4 with h4 | h4
 ·exact .inl h4
 ·exact .inr ⟨_,h4,Nat.le_refl _⟩
theorem ZHX {β:Type} {ps:List (List UInt8×β)} {r:List UInt8×List β} (h:r∈grp ps):r.2.length<=ps.length:=by
 have h1:=ZC4 (fun _=>1) ps;rw[ZFV,ZHT]at h1;have h2:=ZBR (f:=fun x:List UInt8×List β=>x.2.length) h;omega
theorem RowsO.few {base:Nat} {W:World} {B:Option Addr} {n c:Nat} {E:List IdE} {done:List (List UInt8×Po)} (h:RowsO base W B n c E done):n<=done.length/\∀x∈E,x.ps.length<=done.length:=by
 refine⟨?_,fun x hx=>?_⟩
 ·have:=ZDH done;rw[<-h.rows,ZDe,<-h.len]at this;exact this
 ·have hm:x.rw'∈grp done:=by rw[<-h.rows];exact List.mem_map.2 ⟨x,hx,rfl⟩
  have:=ZHX hm;have h2:x.rw'.2.length=x.ps.length:=List.length_map ..;omega
theorem RowsO.start {base:Nat} {W:World} {B:Option Addr} {n c:Nat} {E:List IdE} {done:List (List UInt8×Po)} (h:RowsO base W B n c E done) (hn:0<n):∃g,B=some ⟨g,0,none⟩:=by
 obtain⟨_,h2⟩:=h.own;rcases h2 with ⟨_,h0⟩ | ⟨g,cap,cur,hv,_⟩
 ·exact absurd h0 (by omega)
 ·cases hv;exact⟨g,rfl⟩
theorem RowsO.cap {base:Nat} {W:World} {B:Option Addr} {n c:Nat} {E:List IdE} {done:List (List UInt8×Po)} (h:RowsO base W B n c E done):n<=c/\∀a,B=some a->a.spot=none:=ZAL h.own
theorem ZLd (ds:List DocC) (A:Option Addr) (nd c0:Nat) (w:World) (hm:nd=ds.length) (h:DocsOk w A ds) (g5:nd<=1000000) (f2:(pairsD 0 (dcs ds)).length<=1000000) :
 Calls Tryz.prog 22 #[.slice A nd c0] w fun e w'=>∃(E:List IdE) (B:Option Addr) (n c:Nat),e = .returned (.slice B n c)/\RowsO w.heap.size w' B n c E (pairsD 0 (dcs ds))/\Ext w w':=by
 have z3:=ZA (fun e A c W (h:Ev.Ok e W A)=>ZI3 e A c W h);have x3:=ZA (fun E B n c s W (hn:n=List.length E) (h:Cells W B (idcells E)) (g0:n<=1000000000)=>ZGX E B n c s W hn h g0);have x1:∀i,(pairsD 0 (dcs (ds.take i))).length<=1000000:=fun i=>by
  have e:dcs ds=dcs (ds.take i)++dcs (ds.drop i):=by unfold dcs;rw[<-List.map_append,List.take_append_drop]
  rw[e,ZAd,List.length_append]at f2;omega
 replace x1:=ZA x1;replace h:=ZA h;replace hm:=ZA hm;clear f2;go_enter Tryz.func22,Tryz.ntmps22;go_wp2_with fail
 go_loopw [3,4] (fun s3 s4 wr=>∃(i n c:Nat) (B:Option Addr) (E:List IdE),s4 = .int .i64 (i:Int)/\s3 = .slice B n c/\i<=nd/\Hid (RowsO w.heap.size wr B n c E (pairsD 0 (dcs (ds.take i))))/\Hid (Ext w wr)) (fun _ s4 _=>nd - (intOf s4).toNat)
 case atStart=>exact⟨0,0,0,none,[],rfl,rfl,by omega,ZA (RowsO.nil _ _),ZA (Ext.refl _)⟩
 case round =>
  obtain⟨i,n0,cc0,B0,E0,rfl,rfl,hi,j0,hE⟩:=hrel;obtain⟨wo,rfl⟩:∃wo,wo=wr:=⟨_,rfl⟩
  by_cases d4:i<nd
  ·obtain⟨x,hx⟩:∃x,ds[i]? = some x:=⟨_,List.getElem?_eq_getElem (by rw[<-hm.out];exact d4)⟩
   obtain⟨r0,h5,q5⟩:=h.out.each x (List.mem_of_getElem? hx);obtain⟨g,o,hA,l0,l1,l2⟩:=ZU (h.out.cells.ext hE.out) hx;have w3:dcs (ds.take (i+1))=dcs (ds.take i) ++ [x.dc]:=by
    rw[List.take_add_one,hx];exact Z6 _ _
   have b1:pairsD 0 (dcs (ds.take (i+1)))=pairsD 0 (dcs (ds.take i))++(termsL x.e).map (fun p=>(p.1,((i:Int),p.2))):=by
    rw[w3,ZAd];have hl:(dcs (ds.take i)).length=i:=by unfold dcs;rw[List.length_map,List.length_take,<-hm.out];omega
    rw[hl,Nat.zero_add];show _++(_ ++ [])=_;rw[List.append_nil];rfl
   have e2:=x1.out (i+1);rw[b1]at e2;have k1:=z3.out x.e x.A x.c wo (r0.ext hE.out);have e0:=fun p (hp:p∈termsL x.e)=>ZGA hp;obtain⟨T,hT⟩:∃T,T=termsL x.e:=⟨_,rfl⟩
   obtain⟨P0,i3⟩:∃P0,P0=pairsD 0 (dcs (ds.take i)):=⟨_,rfl⟩
   rw[<-hT]at b1 e2 k1 e0;rw[<-i3]at b1 e2 j0;unfold Ev.val at k1;obtain⟨sq,⟨at_,fs⟩,xA,xc⟩:=x;simp only at k1 l1 l2;obtain⟨fl,m3⟩:∃fl,fl=fs.length:=⟨_,rfl⟩
   rw[<-m3]at k1 l2;subst hA;replace k1:=ZA k1;replace b1:=ZA b1;replace e0:=ZA e0;replace m3:=ZA m3;clear hx w3 r0 h5 q5 hT i3;go_wp2_with fail;refine k1.out.mono ?_;rintro e w1 ⟨D,At,nt,ct,rfl,y2,u0,s2⟩;have c2:T.length=nt:=by rw[<-y2,u0.len];exact List.length_map ..
   have i1:=ZA (hE.out.trans s2);have u2:=ZA (j0.out.ext s2);rw[List.length_append,List.length_map,c2]at e2;have x4:=ZA u0.len;replace u0:=ZA u0;replace y2:=ZA y2;replace c2:=ZA c2;clear s2 j0 hE k1;go_wp2_with fail
   go_loopw [3,6] (fun s3 s6 wr=>∃(j n c:Nat) (B:Option Addr) (E:List IdE),s6 = .int .i64 (j:Int)/\s3 = .slice B n c/\j<=nt/\Hid (RowsO w.heap.size wr B n c E (P0++(T.take j).map (fun p=>(p.1,((i:Int),p.2)))))/\Hid (TmsR wr At nt ct D)/\Hid (Ext w wr)) (fun _ s6 _=>nt - (intOf s6).toNat)
   case atStart=>exact⟨0,n0,cc0,B0,E0,rfl,rfl,by omega,ZA (by rw[List.take_zero,List.map_nil,List.append_nil];exact u2.out),u0,i1⟩
   case round =>
    clear u2 u0 i1;obtain⟨j,n,c,B,E,rfl,rfl,hj,j0,u0,hE⟩:=hrel;by_cases k4:j<nt
    ·obtain⟨y,hy⟩:∃y,D[j]? = some y:=⟨_,List.getElem?_eq_getElem (by rw[<-x4.out];exact k4)⟩
     have c3:T[j]? = some y.tm:=by rw[<-y2.out];unfold tmR;rw[List.getElem?_map,hy];rfl
     have e3:=e0.out _ (List.mem_of_getElem? c3);obtain⟨f1,p5⟩:=u0.out.each y (List.mem_of_getElem? hy);obtain⟨gt,ot,v4,p1⟩:=ZEK u0.out.cells hy;obtain⟨l0,l1⟩:=p1 wr (Ext.refl _);have e1:P0++(T.take (j+1)).map (fun p=>(p.1,((i:Int),p.2)))=(P0++(T.take j).map (fun p=>(p.1,((i:Int),p.2)))) ++ [(y.s,((i:Int),y.pos))]:=by
      rw[List.take_add_one,c3,List.map_append,List.append_assoc];rfl
     have t3:=j0.out.few;have r3:(P0++(T.take j).map (fun p=>(p.1,((i:Int),p.2)))).length<=1000000:=by
      rw[List.length_append,List.length_map,List.length_take];omega
     obtain⟨done,x0⟩:∃done,done=P0++(T.take j).map (fun p=>(p.1,((i:Int),p.2))):=⟨_,rfl⟩
     rw[<-x0]at e1 j0 t3 r3;obtain⟨s,pos,yA,yc⟩:=y;unfold TmC.tm at e3;simp only at e3 f1 p5 p1 l0 l1 e1;have s0:=f1;obtain⟨m,a1⟩:∃m,m=pos.length:=⟨_,rfl⟩
     rw[<-a1]at p1 l1 f1 e3;subst v4;have g0:n<=1000000:=by omega
     have u1:∀x∈E,x.ps.length<=1000000:=fun x hx=>Nat.le_trans (t3.2 x hx) r3;have t1:=j0.out.cap;have g1:=ZA j0.out.len;have f2:=ZA (x3.out E B n c s wr g1.out (Cells.of_own j0.out.own) (by omega));replace p1:=ZA p1;replace e1:=ZA e1;replace f1:=ZA f1;replace s0:=ZA s0;replace a1:=ZA a1;replace u1:=ZA u1;replace x0:=ZA x0;clear hy c3 t3;go_wp2_with fail;refine f2.out.mono ?_;rintro e w2 ⟨k,rfl,hP,a0⟩;have j5:k<=n:=by have:=hP.le;rw[ZDe,<-g1.out]at this;exact this
     obtain⟨l0,l1⟩:=p1.out w2 a0;have h0:=j0.out.ext a0;obtain⟨gp,a2⟩:∃gp,gp=w2.heap.size:=⟨_,rfl⟩
     obtain⟨W3,r1⟩:∃W3,W3=w2.alloc (.cells #[.int .i64 (i:Int),.slice yA m yc] 107):=⟨_,rfl⟩
     have m0:Ext w2 W3:=by rw[r1];exact(Ext.refl w2).alloc _
     have rp:Row W3 gp 107 #[.int .i64 (i:Int),.slice yA m yc]:=by rw[r1,a2];exact Row.new w2 _ _
     have k0:=ZA (h0.ext m0);have b3:=ZA (fun x (hx:x∈E)=>h0.each x hx);have v0:=ZA ((hE.out.trans a0).trans m0);have o1:=ZA (u0.out.ext (a0.trans m0));have m1:=ZA (fun W (hW:Ext W3 W)=>p1.out W ((a0.trans m0).trans hW));have d3:=ZA (s0.out.ext (a0.trans m0));replace r1:=ZA r1;replace a2:=ZA a2;replace rp:=ZA rp;replace hP:=ZA hP;have i2:=ZA (show posAt 0 W3 ⟨(i:Int),pos,yA,yc⟩from⟨d3.out,by show pos.length<=_;rw[<-a1.out];omega⟩);clear h0 a0 m0 p1 f1 s0 j0 hE u0;go_wp2_with fail;rw[<-r1.out,<-a2.out];by_cases f0:∃x,E[k]? = some x/\x.s=s
     ·obtain⟨x,hx,g2⟩:=f0;have m2:k<n:=by rw[g1.out];exact(List.getElem?_eq_some_iff.1 hx).1
      obtain⟨g,v3⟩:=k0.out.start (by omega);subst v3;obtain⟨g',o',o2,z0⟩:=ZBT (Cells.of_own k0.out.own) hx;cases o2;have t2:=u1.out x (List.mem_of_getElem? hx);have o3:decide ((k:Int)<n)=true:=decide_eq_true (by omega);obtain⟨y0,y1⟩:=z0 W3 (Ext.refl _);obtain⟨l0,l1⟩:=m1.out W3 (Ext.refl _);obtain⟨xs,ps,xA,xc⟩:=x;simp only at z0 y0 y1 t2 g2;rw[Nat.zero_add]at z0 y0 y1;obtain⟨np,d0⟩:∃np,np=ps.length:=⟨_,rfl⟩
      rw[<-d0]at z0 y1 t2;have a3:=ZA (b3.out _ (List.mem_of_getElem? hx));unfold IdE.own at a3;simp only at a3;rw[<-d0]at a3;replace z0:=ZA z0;replace d0:=ZA d0;replace hx:=ZA hx;have hq:(xs==s)=true:=beq_iff_eq.2 g2;replace g2:=ZA g2;go_quiet (fail);obtain⟨W4,z2⟩:∃W4,W4=W3.drewN nq:=⟨_,rfl⟩
      rw[<-z2];have p0:Ext W3 W4:=by rw[z2];exact(Ext.refl W3).drewN _
      replace z2:=ZA z2;obtain⟨W6,z1⟩:∃W6,W6=(W4.alloc (.cells #[.int .i64 (i:Int),.slice yA m yc] 107)).drew:=⟨_,rfl⟩
      have q0:Ext W3 W6:=by rw[z1];exact(p0.alloc _).drew
      have i0:=k0.out.ext q0;have r0:W6.ownsRow w.heap.size 107 2 (.slice xA np xc) np (pcells ps):=by
       have:=i0.each _ (List.mem_of_getElem? hx.out);unfold IdE.own at this;simp only at this;rw[<-d0.out]at this;exact this
      have u3:Cells W6 (some ⟨W4.heap.size,0,none⟩) [.int .i64 (i:Int),.slice yA m yc]:=by rw[z1];exact(Zg W4 [.int .i64 (i:Int),.slice yA m yc] _).ext (Ext.refl _).drew
      obtain⟨csg,d1,c4⟩:=ZC i0.own (g:=g) rfl;have t4:=(z0.out W6 q0).2;have p4:∀q,(Value.slice xA np xc).ownBlock=some q->q≠g:=fun q hq e=>ZJ r0 d1 (by decide) (by rw[hq,e]);have o0:=fun w8 (t0:W6.grownBy w8 (Value.slice xA np xc).ownBlock)=>Row.grown (w:=W6) d1 t0 (fun e=>p4 _ e.symm rfl);have i4:=ZA (fun w8 (t0:W6.grownBy w8 (Value.slice xA np xc).ownBlock)=>show w8.cell? ⟨g,k*2+1,none⟩=some (.slice xA np xc)by rw[<-t4,(o0 w8 t0).get,d1.get]);have m5:=(z0.out W4.drew p0.drew).2;have r4:=rp.out.ext p0.drew;have r40:=r4.cell 0 rfl;have r41:=r4.cell 1 rfl;have r60:=(rp.out.ext q0).cell 0 rfl;have r61:=(rp.out.ext q0).cell 1 rfl;rw[z1]at t4 r60 r61;have x2:=v0.out.size;have j1:=q0.size;have w4:w.heap.size<=W6.heap.size:=Nat.le_trans x2 j1;have v1:=ZA (fun A1 c1 w8 t0 d2 b2=>i0.put (w1:=w8) (A1:=A1) (c1:=c1) (y:=⟨(i:Int),pos,yA,yc⟩) hP.out hx.out g2.out t0 d2 b2 ⟨i2.out.1.ext q0,i2.out.2⟩);have q3:=ZA (o1.out.ext q0);have r2:=ZA (v0.out.trans q0);replace r0:=ZA r0;replace u3:=ZA u3;replace o0:=ZA o0;replace v1:=ZA v1;replace d1:=ZA d1;replace z1:=ZA z1;clear p4 r4 i0 p0 q0 x2 j1;go_wp2_with fail
      go_region_law (rw[<-z1.out];refine ZKv (n:=np) (m:=1) ZM3 rfl r0.out u3.out (.tmp 64) (.tmp 66) rfl rfl rfl rfl (ZS rfl) (by omega) w4 (fun A1 c1 w8 d2 t0 b2=>?_);have l4:=i4.out w8 t0;have a4:=(o0.out w8 t0).free (k*2+1))
      all_goals
       have g4:w8.ownsRow w.heap.size 107 2 (.slice A1 (ps.length+1) c1) (ps.length+1) (pcells ps ++ [.int .i64 (i:Int),.slice yA pos.length yc]):=by rw[<-d0.out,<-a1.out];exact d2
       have b4:W6.grownBy w8 (Value.slice xA ps.length xc).ownBlock:=by rw[<-d0.out];exact t0
       have e4:(Value.slice A1 (ps.length+1) c1).ownBlock=(Value.slice xA ps.length xc).ownBlock\/∃q,(Value.slice A1 (ps.length+1) c1).ownBlock=some q/\W6.heap.size<=q:=by rw[<-d0.out];exact b2
       have g0:=v1.out A1 c1 w8 b4 g4 e4
       try simp only at g0
       rw[<-d0.out]at g0;have f3:Chg (fun q=>(Value.slice xA np xc).ownBlock=some q\/q=g) W6 (w8.setCell ⟨g,k*2+1,none⟩ (.slice A1 (np+1) c1)):=(Chg.of_grown (S:=fun q=>(Value.slice xA np xc).ownBlock=some q\/q=g) t0 (fun _ _ e=> .inl e)).trans (Chg.of_set (S:=fun q=>(Value.slice xA np xc).ownBlock=some q\/q=g) w8 _ (.inr rfl)) (fun _ _ e=>e);have n1:=q3.out.chg f3 (fun q hq=>by
        rcases hq with hq | rfl
        ·obtain⟨cs,n4,_⟩:=ZC r0.out hq;exact⟨_,cs,n4,by decide,by decide⟩
        ·exact⟨_,csg,d1.out,by decide,by decide⟩)
       have q1:=(r2.out.grown t0 (fun q hq=>by obtain⟨_,_,hb⟩:=ZC r0.out hq;exact hb)).setCell (p:=⟨g,k*2+1,none⟩) c4 (.slice A1 (np+1) c1);rw[show (⟨(i:Int),pos,yA,yc⟩:PoC).po=((i:Int),pos)from rfl,<-e1.out]at g0;replace g0:=ZA g0;replace n1:=ZA n1;replace q1:=ZA q1;clear f3 g4 d2 t0 b2 l4 a4;go_wp2_with fail;go_roundw
       case rel=>exact⟨j+1,n,c,_,_,by go_num,rfl,by omega,g0,n1,q1⟩
       case measure=>simp only[intOf];omega
     ·have j4:=ZA (fun x' (h':E[k]? = some x')=>show ¬ x'.s=s from fun e=>f0 ⟨x',h',e⟩);replace f0:=ZA f0
      go_cut [57] from 41 to 57 (fun s57 wy=>s57 = .bool false/\Hid (Ext W3 wy))
      case first =>
       by_cases m2:k<n
       ·obtain⟨x,hx⟩:∃x,E[k]? = some x:=⟨_,List.getElem?_eq_getElem (by rw[<-g1.out];exact m2)⟩
        obtain⟨g,v3⟩:=k0.out.start (by omega);subst v3;obtain⟨g',o',o2,z0⟩:=ZBT (Cells.of_own k0.out.own) hx;cases o2;have o3:decide ((k:Int)<n)=true:=decide_eq_true (by omega);obtain⟨y0,y1⟩:=z0 W3 (Ext.refl _);obtain⟨l0,l1⟩:=m1.out W3 (Ext.refl _);have hq:(x.s==s)=false:=beq_eq_false_iff_ne.2 (j4.out x hx);rw[Nat.zero_add]at y0 y1;go_quiet (fail);go_wp2_with fail
        go_meet
        case rel=>exact⟨rfl,ZA ((Ext.refl W3).drewN _)⟩
       ·have o3:decide ((k:Int)<n)=false:=decide_eq_false (by omega);go_quiet (fail);go_wp2_with fail
        go_meet
        case rel=>exact⟨rfl,ZA ((Ext.refl W3).drewN _)⟩
      case rest =>
       obtain⟨rfl,p0⟩:=hcut;have o4:=ZA (fun(W:World)=>ZFo Tryz.underlying58 (fun W:World=>(by kernel_rfl:(sizeOf 129).run Tryz.prog W = .ok 2 W)) (n:=n) (c:=c) (k:=k) (A:=B) (by omega) t1.2 (z:=(k:Int)) rfl W);obtain⟨BT,y3,k3,_⟩:=ZGu Tryz.underlying58 (fun W:World=>(by kernel_rfl:(sizeOf 129).run Tryz.prog W = .ok 2 W)) (n:=n) (c:=c) (k:=k) (A:=B) (by omega) t1.1 t1.2 (z:=(k:Int)) rfl;have k3:=ZA (show Cells W3 BT (idcells (E.drop k))by rw[ZGB];exact k3 W3 _ (by rw[Zy,<-g1.out]) (Cells.of_own k0.out.own));have z4:=ZA (show Cells W3 B (idcells (E.take k))by rw[ZF8];exact ZA0 (Cells.of_own k0.out.own) _);have j3:=ZA (show (idcells (E.take k)).length=k*2 by rw[Zy,List.length_take,<-g1.out];omega);have g3:=ZA (show (idcells (E.drop k)).length=(n - k)*2 by rw[Zy,List.length_drop,<-g1.out]);replace y3:=ZA y3;replace p0:=ZA p0.out.drew;go_wp2_with fail;refine wp_region_held_drew (S:=fun _=>True) (by kernel_rfl) trivial (fun _=>?_);refine ZCe (base:=Array.replicate 20 false) (w0:=W3) ⟨by kernel_rfl,of_decide_eq_true (by kernel_rfl),by kernel_rfl,by kernel_rfl⟩ (kRy13 (W3.heap.size) B BT n c k i j m yc gt ot gp (some ⟨gt,ot,none⟩) yA nt ct s (idcells (E.take k)) (idcells (E.drop k))) (ZDA ?mono) ?mono0 (fun _=>trivial) ?hstep ?fin _ _ (fun _ _=>False) _ _ (by kernel_rfl) (Nat.le_of_eq (by kernel_rfl)) (fun _ h=>h) ⟨rfl,rfl,fun _ _=>rfl,p0.out,fun j h1 h2=>absurd (h1.symm.trans h2) (by simp)⟩ (OwnI.start (fun _ h=>h) ⟨trivial,fun _ h=>h.elim⟩)
       case mono =>
        intro p hp;simp only[List.mem_cons,List.not_mem_nil,or_false]at hp;rcases hp with rfl | rfl | rfl | rfl | rfl | rfl | rfl | rfl | rfl | rfl | rfl | rfl | rfl | rfl | rfl | rfl | rfl | rfl | rfl | rfl <;> first | exact ZOo _ _ _ | exact ZOq _ _ _ _ | exact ZOs _ _ _ _ _ _ _ | exact ZOf _ _ _ _ _ | exact ZOx _ _ _ _ _ | exact ZOt _ _ _ _ _ _ _ _
       case mono0=>exact fun _ _ _ _ _ _ _=>trivial
       case hstep =>
        apply OSteps.all (K:=(kRy13 (W3.heap.size) B BT n c k i j m yc gt ot gp (some ⟨gt,ot,none⟩) yA nt ct s (idcells (E.take k)) (idcells (E.drop k)))) (l:= [0,1,2,3,4,5,6,7,8,9,10,11,12,13,14,15,16,17,18,19]);rotate_left
        ·kernel_rfl
        refine OSteps.cons rfl (fun F a wq ha hd=>?_) ?_
        ·exact ZLa (ZCE (vs:=#[]) rfl (by simp) (ZNN wq)) rfl (S:=fun q=>q=wq.heap.size) ⟨some ⟨wq.heap.size,0,none⟩,0,rfl,ZN (ZAo wq 129) ha.ext.size,fun q=>⟨fun e=>by rw[e];rfl,fun e=>by cases e;rfl⟩⟩ ((Ext.refl wq).alloc _) (fun q e=>⟨by rw[e];simp,by rw[e];exact Nat.le_refl _⟩)
        refine OSteps.cons rfl (fun F a wq ha hd=>?_) ?_
        ·exact ZH (ZP (v:= .slice B n c) (.inl rfl) (ZI (ha.same 3))) rfl ⟨rfl,fun _ h=>h⟩
        refine OSteps.cons rfl (fun F a wq ha hd=>?_) ?_
        ·exact ZH (ZP (v:= .int .i64 (k:Int)) (.inl rfl) (ZI (ha.same 7))) rfl ⟨rfl,fun _ h=>h⟩
        refine OSteps.cons rfl (fun F a wq ha hd=>?_) ?_
        ·exact ZH (ZFl (q:= .slice B n c) (v:= .slice B k c) (l:=none) (h:=some (.int .i64 (k:Int))) (m:=none) rfl (ZE (hd.one 1 71).1.1) rfl (congrArg some (ZE (hd.one 2 72).1.1)) rfl (o4.out wq)) rfl ⟨rfl,fun _ h=>h⟩
        refine OSteps.cons rfl (fun F a wq ha hd=>?_) ?_
        ·obtain⟨⟨As,cs,qs,hb,hS⟩,l3⟩:(kO W3.heap.size 129 2 0 []) (a.tmps.getD 70 undef) (F 0) wq/\_:=hd.one 0 70;have qx:a.eval (.tmp 73) = .slice B k c:=(ZE (hd.one 3 73).1.1)
         rw[qs]at hb;refine ZN2 ZLe rfl hb ((z4.out.ext ha.ext)) (.tmp 70) (.tmp 73) rfl qs qx j3.out (ZDN _) (by omega) ha.ext.size (fun q hq=>ZHD (j:=0) (d:=70) rfl (by kernel_rfl) (by kernel_rfl) (by kernel_rfl) (by kernel_rfl) ((hS q).2 (by rw[qs];exact hq))) (fun u S w' hu=>?_);rw[Nat.zero_add,List.nil_append]at hu;exact hu
        refine OSteps.cons rfl (fun F a wq ha hd=>?_) ?_
        ·exact ZH (ZP (v:= .slice (some ⟨gt,ot,none⟩) nt ct) (.inl rfl) (ZI (ha.same 5))) rfl ⟨rfl,fun _ h=>h⟩
        refine OSteps.cons rfl (fun F a wq ha hd=>?_) ?_
        ·exact ZH (ZP (v:= .int .i64 (j:Int)) (.inl rfl) (ZI (ha.same 6))) rfl ⟨rfl,fun _ h=>h⟩
        refine OSteps.cons rfl (fun F a wq ha hd=>?_) ?_
        ·exact ZH (ZCF (q:= .slice (some ⟨gt,ot,none⟩) nt ct) (z:= .int .i64 (j:Int)) (v:= .pointer (some ⟨gt,ot+j*2,none⟩)) rfl (ZE (hd.one 5 75).1.1) (ZE (hd.one 6 76).1.1) (ZOy wq gt ot nt ct j k4)) rfl ⟨rfl,fun _ h=>h⟩
        refine OSteps.cons rfl (fun F a wq ha hd=>?_) ?_
        ·exact ZH (ZL (q:= .pointer (some ⟨gt,ot+j*2,none⟩)) (v:= .pointer (some ⟨gt,ot+j*2,none⟩)) rfl (ZE (hd.one 7 77).1.1) (ZOh wq gt (ot+j*2))) rfl ⟨rfl,fun _ h=>h⟩
        refine OSteps.cons rfl (fun F a wq ha hd=>?_) ?_
        ·exact ZH (Zi (q:= .pointer (some ⟨gt,ot+j*2,none⟩)) (v:= .string ⟨s.toArray⟩) rfl (ZE (hd.one 8 78).1.1) (ZNK (m1.out wq ha.ext).1)) rfl ⟨rfl,fun _ h=>h⟩
        refine OSteps.cons rfl (fun F a wq ha hd=>?_) ?_
        ·exact ZH (Zi (q:= .pointer (some ⟨gp,0,none⟩)) (v:= .agg #[.int .i64 (i:Int),.slice yA m yc]) rfl (ZI (ha.same 8)) (ZNp ((rp.out.ext ha.ext).cell 0 rfl) ((rp.out.ext ha.ext).cell 1 rfl))) rfl ⟨rfl,fun _ h=>h⟩
        refine OSteps.cons rfl (fun F a wq ha hd=>?_) ?_
        ·have q80:a.tmps.getD 80 undef = .agg #[.int .i64 (i:Int),.slice yA m yc]:=(hd.one 10 80).1.1;exact ZLa (ZCE rfl (by simp only[List.map_toArray,List.map_cons,List.map_nil];exact congrArg (fun v=>#[(0,v)]) q80) (ZMb wq (i:Int) yA m yc)) rfl (S:=fun q=>q=wq.heap.size) ⟨some ⟨wq.heap.size,0,none⟩,1,rfl,ZN (ZL1 wq (i:Int) yA m yc) ha.ext.size,fun q=>⟨fun e=>by rw[e];rfl,fun e=>by cases e;rfl⟩⟩ ((Ext.refl wq).alloc _) (fun q e=>⟨by rw[e];simp,by rw[e];exact Nat.le_refl _⟩)
        refine OSteps.cons rfl (fun F a wq ha hd=>?_) ?_
        ·have q79:a.tmps.getD 79 undef = .string ⟨s.toArray⟩:=(hd.one 9 79).1.1;obtain⟨⟨As,cs,qs,hb,hS⟩,s1⟩:(kO W3.heap.size 107 2 1 [.int .i64 (i:Int),.slice yA m yc]) (a.tmps.getD 81 undef) (F 11) wq/\_:=hd.one 11 81;rw[qs]at hb hS;refine ZDZ (S:=F 11) (ZOX rfl (by simp only[List.map_toArray,List.map_cons,List.map_nil];exact congrArg (fun v=>#[v.1,v.2]) (Prod.ext (congrArg (fun v=>(0,v)) q79) (congrArg (fun v=>(1,v)) qs):((0,a.eval (.tmp 79)),(1,a.eval (.tmp 81)))=((0,Value.string ⟨s.toArray⟩),(1,Value.slice As 1 cs)))) (ZNJ wq ⟨s.toArray⟩ As 1 cs)) rfl ⟨As,cs,rfl,hb,hS⟩ (Ext.refl _) (fun q hq=> .inr ⟨(s1 q hq).2,ZHD (j:=11) (d:=81) rfl (by kernel_rfl) (by kernel_rfl) (by kernel_rfl) (by kernel_rfl) hq⟩)
        refine OSteps.cons rfl (fun F a wq ha hd=>?_) ?_
        ·obtain⟨⟨Ax,cx,qs,hb,hS⟩,q2⟩:(kR1 W3.heap.size s [.int .i64 (i:Int),.slice yA m yc]) (a.tmps.getD 82 undef) (F 12) wq/\_:=hd.one 12 82;refine ZDZ (S:=fun q=>q=wq.heap.size\/(Value.slice Ax 1 cx).ownBlock=some q) (ZCE rfl (by simp only[List.map_toArray,List.map_cons,List.map_nil];exact congrArg (fun v=>#[(0,v)]) qs) (ZNF wq ⟨s.toArray⟩ Ax 1 cx)) rfl ⟨wq.heap.size,Ax,cx,rfl,Zg wq [.string ⟨s.toArray⟩,.slice Ax 1 cx] _,((Ext.refl wq).alloc _).owns hb,fun q=>Iff.rfl⟩ ((Ext.refl wq).alloc _) (fun q hq=>?_);rcases hq with hq | hq
         ·exact .inl ⟨by rw[hq];simp,by rw[hq];exact Nat.le_refl _⟩
         ·exact .inr ⟨(q2 q ((hS q).2 hq)).2,ZHD (j:=12) (d:=82) rfl (by kernel_rfl) (by kernel_rfl) (by kernel_rfl) (by kernel_rfl) ((hS q).2 hq)⟩
        refine OSteps.cons rfl (fun F a wq ha hd=>?_) ?_
        ·obtain⟨⟨As,cs,qs,hb,hS⟩,n3⟩:(kO W3.heap.size 129 2 k (idcells (E.take k))) (a.tmps.getD 74 undef) (F 4) wq/\_:=hd.one 4 74;obtain⟨⟨gx,Ax,cx,qx,hc,hx,u4⟩,p2⟩:(kR2 W3.heap.size s [.int .i64 (i:Int),.slice yA m yc]) (a.tmps.getD 83 undef) (F 13) wq/\_:=hd.one 13 83;rw[qs]at hb hS;refine ZKy ZLe rfl hb hc (.tmp 74) (.tmp 83) rfl qs qx rfl (ZS rfl) (by omega) ha.ext.size (fun q hq=>ZHD (j:=4) (d:=74) rfl (by kernel_rfl) (by kernel_rfl) (by kernel_rfl) (by kernel_rfl) ((hS q).2 hq)) (fun A1 c1 w' ho hg h4=>?_);refine⟨fun q=>(Value.slice A1 (k+1) c1).ownBlock=some q\/(Value.slice Ax 1 cx).ownBlock=some q,⟨A1,c1,Ax,cx,rfl,by rw[List.append_nil];exact ho,(Chg.of_grown (S:=fun q=>(Value.slice As k cs).ownBlock=some q) hg (fun _ _ e=>e)).owns hx (fun q hq e=>?_),fun q=>Iff.rfl⟩,fun q hq=>?_⟩
         ·obtain⟨cu,hr,_⟩:=ZC hb e;exact ZJ hx hr (by decide) hq
         ·rcases hq with hq | hq
          ·refine⟨by obtain⟨cu,hr,_⟩:=ZC ho hq;exact hr.lt,?_⟩;rcases h4 with h4 | h4
           ·exact .inr (ZHD (j:=4) (d:=74) rfl (by kernel_rfl) (by kernel_rfl) (by kernel_rfl) (by kernel_rfl) ((hS q).2 (by rw[<-h4];exact hq)))
           ·rw[h4]at hq;cases hq;exact .inl (Nat.le_refl _)
          ·have v2:=(u4 q).2 (.inr hq);exact⟨Nat.lt_of_lt_of_le (p2 q v2).2 hg.size,.inr (ZHD (j:=13) (d:=83) rfl (by kernel_rfl) (by kernel_rfl) (by kernel_rfl) (by kernel_rfl) v2)⟩
        refine OSteps.cons rfl (fun F a wq ha hd=>?_) ?_
        ·exact ZH (ZP (v:= .slice B n c) (.inl rfl) (ZI (ha.same 3))) rfl ⟨rfl,fun _ h=>h⟩
        refine OSteps.cons rfl (fun F a wq ha hd=>?_) ?_
        ·exact ZH (ZP (v:= .int .i64 (k:Int)) (.inl rfl) (ZI (ha.same 7))) rfl ⟨rfl,fun _ h=>h⟩
        refine OSteps.cons rfl (fun F a wq ha hd=>?_) ?_
        ·exact ZH (ZFl (q:= .slice B n c) (v:= .slice BT (n - k) (c - k)) (l:=some (.int .i64 (k:Int))) (h:=none) (m:=none) rfl (ZE (hd.one 15 85).1.1) (congrArg some (ZE (hd.one 16 86).1.1)) rfl rfl (y3.out wq)) rfl ⟨rfl,fun _ h=>h⟩
        refine OSteps.cons rfl (fun F a wq ha hd=>?_) ?_
        ·obtain⟨⟨As,cs,Ax,cx,qs,hb,hx,hS⟩,k2⟩:(kR3 W3.heap.size (k+1) s [.int .i64 (i:Int),.slice yA m yc] (idcells (E.take k)) []) (a.tmps.getD 84 undef) (F 14) wq/\_:=hd.one 14 84;have qx:a.eval (.tmp 87) = .slice BT (n - k) (c - k):=(ZE (hd.one 17 87).1.1)
         refine ZKy ZLe rfl hb (k3.out.ext ha.ext) (.tmp 84) (.tmp 87) rfl qs qx g3.out (ZDN _) (by omega) ha.ext.size (fun q hq=>ZHD (j:=14) (d:=84) rfl (by kernel_rfl) (by kernel_rfl) (by kernel_rfl) (by kernel_rfl) ((hS q).2 (.inl hq))) (fun A1 c1 w' ho hg h4=>?_);have f4:k+1+(n - k)=n+1:=by omega
         rw[f4]at ho h4 ⊢;rw[List.append_nil]at ho;refine⟨fun q=>(Value.slice A1 (n+1) c1).ownBlock=some q\/(Value.slice Ax 1 cx).ownBlock=some q,⟨A1,c1,Ax,cx,rfl,ho,(Chg.of_grown (S:=fun q=>(Value.slice As (k+1) cs).ownBlock=some q) hg (fun _ _ e=>e)).owns hx (fun q hq e=>?_),fun q=>Iff.rfl⟩,fun q hq=>?_⟩
         ·obtain⟨cu,hr,_⟩:=ZC hb e;exact ZJ hx hr (by decide) hq
         ·rcases hq with hq | hq
          ·refine⟨by obtain⟨cu,hr,_⟩:=ZC ho hq;exact hr.lt,?_⟩;rcases h4 with h4 | h4
           ·exact .inr (ZHD (j:=14) (d:=84) rfl (by kernel_rfl) (by kernel_rfl) (by kernel_rfl) (by kernel_rfl) ((hS q).2 (.inl (by rw[<-h4];exact hq))))
           ·rw[h4]at hq;cases hq;exact .inl (Nat.le_refl _)
          ·have v2:=(hS q).2 (.inr hq);exact⟨Nat.lt_of_lt_of_le (k2 q v2).2 hg.size,.inr (ZHD (j:=14) (d:=84) rfl (by kernel_rfl) (by kernel_rfl) (by kernel_rfl) (by kernel_rfl) v2)⟩
        refine OSteps.cons rfl (fun F a wq ha hd=>?_) ?_
        ·obtain⟨⟨As,cs,Ax,cx,qs,hb,hx,hS⟩,j2⟩:(kR3 W3.heap.size (n+1) s [.int .i64 (i:Int),.slice yA m yc] (idcells (E.take k)) (idcells (E.drop k))) (a.tmps.getD 88 undef) (F 18) wq/\_:=hd.one 18 88;exact ZDZ (S:=F 18) (ZP (.inr rfl) qs) rfl ⟨As,cs,Ax,cx,rfl,hb,hx,hS⟩ (Ext.refl _) (fun q hq=> .inr ⟨(j2 q hq).2,ZHD (j:=18) (d:=88) rfl (by kernel_rfl) (by kernel_rfl) (by kernel_rfl) (by kernel_rfl) hq⟩)
        exact OSteps.nil
       case fin =>
        intro F a w9 ha hh;obtain⟨⟨A9,c9,Ax,cx,q9,p3,n2,k5⟩,y4⟩:(kR3 W3.heap.size (n+1) s [.int .i64 (i:Int),.slice yA m yc] (idcells (E.take k)) (idcells (E.drop k))) (a.tmps.getD 3 undef) (F 19) w9/\_:=hh 19 3 (by kernel_rfl) (by kernel_rfl) (by kernel_rfl);have b0:=ha.act [70,71,72,73,74,75,76,77,78,79,80,81,82,83,84,85,86,87,88,3] (by kernel_rfl);have q1:=ZA ha.ext;simp only[List.foldl_cons,List.foldl_nil]at b0;rw[q9]at b0;replace p3:=ZA p3;replace n2:=ZA n2;clear ha hh q9;obtain⟨fv,q4⟩:∃f:Nat->Value,∀d,a.tmps.getD d undef=f d:=⟨_,fun _=>rfl⟩
        simp only[q4]at b0;clear q4;subst b0;simp only[pz0,pz1,pz2];have g0:=k0.out.ins (w1:=w9) (s:=s) (k:=k) hP.out j4.out (y:=⟨(i:Int),pos,yA,yc⟩) (A1:=A9) (c1:=c9) (Ax:=Ax) (cx:=cx) q1.out (ZN p3.out v0.out.size) (by show w9.ownsRow _ _ _ _ _ [.int .i64 (i:Int),.slice yA pos.length yc];rw[<-a1.out];exact ZN n2.out v0.out.size) (fun a ha=>by obtain⟨_,_,hb⟩:=ZC n2.out (g:=a.block) (by rw[ha];rfl);exact hb) ⟨i2.out.1.ext q1.out,i2.out.2⟩;rw[show (⟨(i:Int),pos,yA,yc⟩:PoC).po=((i:Int),pos)from rfl,<-e1.out]at g0;replace g0:=ZA g0;have n1:=ZA (o1.out.ext q1.out);have h3:=ZA (v0.out.trans q1.out);go_wp2_with fail;go_roundw
        case rel=>exact⟨j+1,_,c9,A9,_,by go_num,rfl,by omega,g0,n1,h3⟩
        case measure=>simp only[intOf];omega
    ·obtain rfl:j=nt:=by omega
     have m4:T.take j=T:=List.take_of_length_le (by rw[c2.out];exact Nat.le_refl _);have h0:=j0.out;rw[m4,<-b1.out]at h0;have a0:=ZA hE.out;replace h0:=ZA h0;clear m4 j0 hE;go_wp2_with fail;go_roundw
     case rel=>exact⟨i+1,n,c,B,E,by go_num,rfl,by omega,h0,a0⟩
     case measure=>simp only[intOf];omega
  ·obtain rfl:i=nd:=by omega
   have h0:=j0.out;rw[List.take_of_length_le (by rw[<-hm.out];exact Nat.le_refl _)]at h0;replace h0:=ZA h0;clear j0;go_wp2_with fail;go_ret;exact⟨E0,B0,n0,cc0,rfl,h0.out,hE.out⟩
end
section
open Go.RowKit Go.Maps
def PutR (w:World) (base:Nat) (A:Option Addr) (L:List UInt8) (e:Ending) (w':World):Prop:=∃(A1:Option Addr) (m c1:Nat),e = .returned (.slice A1 m c1)/\m=L.length/\Buf w' base 5 A1 m c1 (L.map B8)/\Push w A A1 w'
theorem Push.grow {w w':World} {A A1:Option Addr} {n c:Nat} (hg:w.grownBy w' (Value.slice A n c).ownBlock) (h4:A1=A\/A1=some ⟨w.heap.size,0,none⟩):Push w A A1 w':=by
 refine⟨Chg.of_grown hg fun k _ hk=>?_,?_⟩
 ·cases A with
  | none=>simp[Value.ownBlock]at hk
  | some b=>exact⟨b,rfl,by simpa [Value.ownBlock]using hk⟩
 ·rcases h4 with rfl | rfl
  ·exact .inl rfl
  ·exact .inr ⟨_,rfl,Nat.le_refl _⟩
theorem Buf.base {w:World} {base:Nat} {e:TypeId} {A:Option Addr} {n c:Nat} {xs:List Value} (h:Buf w base e A n c xs):∀a,A=some a->base<=a.block:=fun a ha=>by
 obtain⟨_,_,⟨h1,_⟩ | ⟨g,cur,hB,hb,_⟩⟩:=h
 ·rw[h1]at ha;cases ha
 ·rw[hB]at ha;cases ha;exact hb
theorem ZEL (A:Option Addr) (n c:Nat) (l:List UInt8) (x:Int) (base:Nat) (w:World) (hn:n=l.length) (hb:Buf w base 5 A n c (l.map B8)) (h0:base<=w.heap.size) (hx:0<=x) (c0:x<=9223372036854775807) (b0:n<=1000000000) :
 Calls Tryz.prog 114 #[.slice A n c,.int .i64 x] w fun e w'=>PutR w base A (l++vb x.toNat) e w':=by
 have p0:=ZA (rbytes x.toNat w (by omega));have hw:=ZBK (m:=x.toNat) (by omega);have k0:((x.toNat:Nat):Int)=x:=Int.toNat_of_nonneg hx;rw[k0]at hw;have j0:=ZD (n:=x.toNat) (by omega);obtain⟨V,hV⟩:∃V,V=vb x.toNat:=⟨_,rfl⟩
 rw[<-hV]at p0 j0 ⊢;rw[k0]at p0;replace hn:=ZA hn;replace hV:=ZA hV;clear k0;go_enter Tryz.func114,Tryz.ntmps114;go_wp2_with fail;refine p0.out.mono ?_;rintro e w1 ⟨B,d,rfl,m0,q0⟩;have t0:=hb.ext q0;have x0:base<=w1.heap.size:=Nat.le_trans h0 q0.size;have y0:=m0.cells;obtain⟨k,hk⟩:∃k,k=V.length:=⟨_,rfl⟩
 rw[<-hk]at j0 ⊢;have z0:(V.map B8).length=k:=by rw[List.length_map,hk]
 replace hk:=ZA hk;go_wp2_with (at_builtin;refine ZG ZV t0 y0 (.tmp 5) (.tmp 8) rfl rfl rfl rfl rfl z0 (ZF _) (by omega) x0 (fun A2 c2 w2 v0 u0 a0 g0=>?_));go_ret;refine⟨A2,n+k,c2,rfl,by rw[List.length_append,<-hn.out,<-hk.out],?_,(Push.of_ext q0 A).trans (Push.grow u0 g0)⟩;rw[List.map_append];exact v0
theorem ZEg (A:Option Addr) (n c:Nat) (l:List UInt8) (x:Int) (base:Nat) (w:World) (hn:n=l.length) (hb:Buf w base 5 A n c (l.map B8)) (h0:base<=w.heap.size) (hx:0<=x) (c0:x<=9223372036854775807) (b0:n<=1000000000) :
 Calls Tryz.prog 111 #[.slice A n c,.int .i64 x] w fun e w'=>PutR w base A (l++vb x.toNat) e w':=by
 have p0:=ZA (rbytes x.toNat w (by omega));have hw:=ZBK (m:=x.toNat) (by omega);have k0:((x.toNat:Nat):Int)=x:=Int.toNat_of_nonneg hx;rw[k0]at hw;have j0:=ZD (n:=x.toNat) (by omega);obtain⟨V,hV⟩:∃V,V=vb x.toNat:=⟨_,rfl⟩
 rw[<-hV]at p0 j0 ⊢;rw[k0]at p0;replace hn:=ZA hn;replace hV:=ZA hV;clear k0;go_enter Tryz.func111,Tryz.ntmps111;go_wp2_with fail;refine p0.out.mono ?_;rintro e w1 ⟨B,d,rfl,m0,q0⟩;have t0:=hb.ext q0;have x0:base<=w1.heap.size:=Nat.le_trans h0 q0.size;have y0:=m0.cells;obtain⟨k,hk⟩:∃k,k=V.length:=⟨_,rfl⟩
 rw[<-hk]at j0 ⊢;have z0:(V.map B8).length=k:=by rw[List.length_map,hk]
 replace hk:=ZA hk;go_wp2_with (at_builtin;refine ZG ZV t0 y0 (.tmp 5) (.tmp 8) rfl rfl rfl rfl rfl z0 (ZF _) (by omega) x0 (fun A2 c2 w2 v0 u0 a0 g0=>?_));go_ret;refine⟨A2,n+k,c2,rfl,by rw[List.length_append,<-hn.out,<-hk.out],?_,(Push.of_ext q0 A).trans (Push.grow u0 g0)⟩;rw[List.map_append];exact v0
theorem ZG3 {n:Int}:∀ {l:List Int} {lo:Int},risB n lo l=true->∀(i:Nat) (x:Int),l[i]? = some x->lo<x/\x<n/\∀y,0<i->l[i - 1]? = some y->y<x
 | [],lo,_,i,x,hx=>by simp at hx
 | z::t,lo,h,0,x,hx=>by
  obtain rfl:z=x:=by simpa using hx
  rw[risB,Bool.and_eq_true,Bool.and_eq_true]at h;exact⟨of_decide_eq_true h.1.1,of_decide_eq_true h.1.2,fun y hi=>absurd hi (Nat.lt_irrefl _)⟩
 | z::t,lo,h,i+1,x,hx=>by
  rw[risB,Bool.and_eq_true,Bool.and_eq_true]at h;have h1:=of_decide_eq_true h.1.1;have h0:t[i]? = some x:=by simpa using hx
  obtain⟨h2,h3,h4⟩:=ZG3 h.2 i x h0;refine⟨by omega,h3,fun y _ hy=>?_⟩;rw[Nat.add_sub_cancel]at hy;cases i with
  | zero =>
   obtain rfl:z=y:=by simpa using hy
   exact h2
  | succ j=>exact h4 y (by omega) (by simpa using hy)
end
section
open Go.RowKit Go.Maps
theorem ZHU (s:List UInt8) (w:World) (hs:s.length<=9223372036854775807):Calls Tryz.prog 128 #[.string ⟨s.toArray⟩] w fun e w'=>e = .returned (.int .u64 (fnv s:Int))/\w'=w:=by
 obtain⟨n,hn⟩:∃n,n=s.length:=⟨_,rfl⟩
 have a0:(⟨s.toArray⟩:ByteArray).size=n:=by rw[hn];exact ByteArray.size_mk_toArray s
 rw[<-hn]at hs;obtain⟨h0,q0⟩:∃h0:Nat,h0=14695981039346656037:=⟨_,rfl⟩
 have g0:h0<18446744073709551616:=by omega
 have j0:h0=fnv []:=q0;obtain⟨R,hR⟩:∃R,R=fnv s:=⟨_,rfl⟩
 rw[<-hR];replace hR:=ZA hR;replace hn:=ZA hn;replace q0:=ZA q0;replace j0:=ZA j0;go_enter Tryz.func128,Tryz.ntmps128;go_wp2_with fail
 go_loopw [3,4] (fun s3 s4 wr=>∃(i h:Nat),s3 = .int .u64 (h:Int)/\s4 = .int .i64 (i:Int)/\i<=n/\h<18446744073709551616/\Hid (h=fnv (s.take i))/\wr=w) (fun _ s4 _=>n - (intOf s4).toNat)
 case atStart=>exact⟨0,h0,by rw[q0.out];rfl,rfl,by omega,g0,j0,rfl⟩
 case round =>
  obtain⟨i,h,rfl,rfl,hi,hh,hf,rfl⟩:=hrel;by_cases u0:i<n
  ·have z0:i<s.length:=by rw[<-hn.out];exact u0
   obtain⟨x,hx⟩:∃x,x=s[i]:=⟨_,rfl⟩
   have x0:s[i]? = some x:=by rw[hx];exact List.getElem?_eq_getElem z0
   have k0:fnv (s.take (i+1))=fnvS h x:=by rw[List.take_add_one,x0,hf.out];exact ZHz _ x
   obtain⟨y,hy⟩:∃y,y=x.toNat:=⟨_,rfl⟩
   have b0:((⟨s.toArray⟩:ByteArray)[i]'(by rw[a0];exact u0)).toNat=y:=by rw[hy,hx];rfl
   have c0:y<256:=by rw[hy];exact x.toNat_lt
   have v0:=u64_xor_nat h y hh (by omega);obtain⟨z,hz⟩:∃z,z=h ^^^ y:=⟨_,rfl⟩
   rw[<-hz]at v0;have t0:IntKind.u64.wrap ((z:Int)*1099511628211)=((fnvS h x:Nat):Int):=by
    rw[ZBS];unfold fnvS;rw[<-hy,<-hz];omega
   obtain⟨h2,p0⟩:∃h2,h2=fnvS h x:=⟨_,rfl⟩
   have m0:h2<18446744073709551616:=by rw[p0];exact ZHf h x
   rw[<-p0]at t0 k0;replace k0:=ZA k0.symm;replace p0:=ZA p0;replace hz:=ZA hz;replace hy:=ZA hy;replace hx:=ZA hx;replace hf:=ZA hf;clear x0;go_wp2_with fail;go_roundw
   case rel=>exact⟨i+1,h2,rfl,by go_num,by omega,m0,k0,trivial⟩
   case measure=>simp only[intOf];omega
  ·obtain rfl:i=n:=by omega
   have y0:h=R:=by rw[hf.out,hR.out,List.take_of_length_le (by rw[<-hn.out];exact Nat.le_refl _)]
   subst y0;go_wp2_with fail;go_ret;exact⟨rfl,rfl⟩
theorem ZMj (s:List UInt8) (A:Option Addr) (n c i:Nat) (w:World) (hs:s.length<=9223372036854775807) (hn:0<n) (r0:n<=131072) (hi:i<4) :
 Calls Tryz.prog 74 #[.agg #[.slice A n c],.string ⟨s.toArray⟩,.int .i64 (i:Int)] w fun e w'=>e = .returned (.int .i64 (fpl s (8*n) i:Int))/\Ext w w':=by
 have c0:=ZOV s;obtain⟨h,hh⟩:∃h,h=fnv s:=⟨_,rfl⟩
 have v0:=fun W=>ZHU s W hs;rw[<-hh]at c0 v0;obtain⟨fs,m0⟩:∃fs,fs=h%4294967296:=⟨_,rfl⟩
 obtain⟨d,hd⟩:∃d,d=h / 4294967296:=⟨_,rfl⟩
 obtain⟨sd,k0⟩:∃sd,sd=d ||| 1:=⟨_,rfl⟩
 have b0:d<4294967296:=by omega
 have h0:sd=if d%2=0 then d+1 else d:=by
  have h1:(d ||| 1) / 2=d / 2:=by rw[Nat.or_div_two];simp
  have h2:(d ||| 1)%2=1:=Nat.or_mod_two_eq_one.2 (.inr rfl);rw[k0];split <;> omega
 have f0:(h:Int)%4294967296=(fs:Int):=by omega
 have e0:(h:Int) / 4294967296=(d:Int):=by omega
 have p0:fpl s (8*n) i=(fs+i*sd)%(8*n):=by unfold fpl;rw[<-hh,<-m0,<-hd,<-k0]
 have y0:sd<4294967296:=by rw[h0];split <;> omega
 have t0:IntKind.u64.wrap ((i:Int)*(sd:Int))=((i*sd:Nat):Int):=by
  rw[ZBS,<-Int.natCast_mul];have:i*sd<=3*4294967296:=Nat.mul_le_mul (by omega) (by omega);omega
 obtain⟨isd,q0⟩:∃isd,isd=i*sd:=⟨_,rfl⟩
 have u0:isd<=12884901888:=by rw[q0];exact Nat.mul_le_mul (show i<=3 by omega) (show sd<=4294967296 by omega)
 rw[<-q0]at t0 p0;have g0:IntKind.u64.wrap ((fs:Int)+(isd:Int))=((fs+isd:Nat):Int):=by rw[ZBS];omega
 obtain⟨q,hq⟩:∃q,q=fs+isd:=⟨_,rfl⟩
 obtain⟨m,hm⟩:∃m,m=8*n:=⟨_,rfl⟩
 rw[<-hq]at g0 p0;rw[<-hm]at p0 ⊢;have n0:IntKind.i64.wrap (8*(n:Int))=(m:Int):=by rw[ZAK (by omega) (by omega)];omega
 have o0:IntKind.u64.wrap (m:Int)=(m:Int):=ZAr (by omega);have i0:IntKind.u64.wrap (i:Int)=(i:Int):=ZAr (by omega);obtain⟨r,hr⟩:∃r,r=q%m:=⟨_,rfl⟩
 have s0:(q:Int)%(m:Int)=(r:Int):=by omega
 have l0:((m:Int)==0)=false:=by simp;omega
 have w0:r<m:=by rw[hr];exact Nat.mod_lt _ (by omega)
 have q1:IntKind.i64.wrap (r:Int)=(r:Int):=ZAK (by omega) (by omega);rw[p0,<-hr];have x0:=Row.new w 61 #[.slice A n c];have k1:(w.alloc (.cells #[.slice A n c] 61)).cell? ⟨w.heap.size,0,none⟩=some (.slice A n c):=x0.cell 0 rfl;have j0:Ext w (w.alloc (.cells #[.slice A n c] 61)):=(Ext.refl w).alloc _;have d0:=ZA (v0 (w.alloc (.cells #[.slice A n c] 61)));replace hr:=ZA hr;replace hm:=ZA hm;replace hq:=ZA hq;replace q0:=ZA q0;replace k0:=ZA k0;replace hd:=ZA hd;replace m0:=ZA m0;replace hh:=ZA hh;replace j0:=ZA j0;clear p0 x0 v0;by_cases h2:d%2=0
 case' pos =>
  rw[if_pos h2]at h0;have z0:((d:Int)%2==0)=true:=by simp;omega
  have a0:IntKind.u64.wrap ((d:Int)+1)=(sd:Int):=by rw[ZBS];omega
 case' neg =>
  rw[if_neg h2]at h0;have z0:((d:Int)%2==0)=false:=by simp;omega
  have a0:(d:Int)=(sd:Int):=by omega
 all_goals
  replace h0:=ZA h0;go_enter Tryz.func74,Tryz.ntmps74;go_wp2_with fail;refine d0.out.mono ?_;rintro e w1 ⟨rfl,rfl⟩;go_wp2_with fail;go_ret;exact⟨rfl,j0.out⟩
end
section
open Go.RowKit Go.Maps
theorem ZMZ (f:List UInt8) (A:Option Addr) (n c k:Nat) (w:World) (hn:n=f.length) (hb:Bs w A f) (hk:k<8*n) (u0:n<=131072) :
 Calls Tryz.prog 73 #[.agg #[.slice A n c],.int .i64 (k:Int)] w fun e w'=>e = .returned (.bool (hasB f k))/\Ext w w':=by
 obtain⟨b,o,hA,hc⟩:=hb.at_ (by omega);have p0:k / 8<f.length:=by omega
 have h0:=hc (k / 8) p0;have j0:=ZBL p0;have k0:hasB f k=decide ((f[k / 8].toNat / 2^(k%8)%2=1)):=by unfold hasB;rw[j0]
 obtain⟨x,hx⟩:∃x,x=f[k / 8].toNat:=⟨_,rfl⟩
 have z0:x<256:=by rw[hx];exact f[k / 8].toNat_lt
 rw[<-hx]at h0 k0;rw[k0];obtain⟨q,hq⟩:∃q,q=k / 8:=⟨_,rfl⟩
 obtain⟨m,hm⟩:∃m,m=k%8:=⟨_,rfl⟩
 rw[<-hq]at h0 p0;rw[<-hm];have t0:m<8:=by omega
 have x0:(k:Int) / 8=(q:Int):=by omega
 have v0:(k:Int)%8=(m:Int):=by omega
 have q0:Ext w (w.alloc (.cells #[.slice A n c] 61)):=(Ext.refl w).alloc _;have g0:Row (w.alloc (.cells #[.slice A n c] 61)) w.heap.size 61 #[.slice A n c]:=Row.new w _ _;have y0:(w.alloc (.cells #[.slice A n c] 61)).cell? ⟨w.heap.size,0,none⟩=some (.slice A n c):=g0.cell 0 rfl;have y1:=q0.cell h0;rw[<-hn]at p0;subst hA;obtain⟨v,hv⟩:∃v:Bool,v=decide (x / 2^m%2=1):=⟨_,rfl⟩
 rw[<-hv];replace hn:=ZA hn;replace hq:=ZA hq;replace hm:=ZA hm;replace hx:=ZA hx;replace q0:=ZA q0;clear k0 j0 hc h0 g0 hb;have m0:m=0\/m=1\/m=2\/m=3\/m=4\/m=5\/m=6\/m=7:=by omega
 rcases m0 with rfl | rfl | rfl | rfl | rfl | rfl | rfl | rfl
 all_goals
  replace hv:=ZA hv;go_enter Tryz.func73,Tryz.ntmps73;go_wp2_with fail;go_ret;refine⟨Zw ?_,q0.out⟩;rw[hv.out,Bool.eq_iff_iff];simp only[beq_iff_eq,decide_eq_true_iff];omega
end
section
open Go.RowKit Go.Maps
def setN (f:List UInt8) (s:List UInt8):Nat->List UInt8
 | 0=>f
 | i+1=>setB (setN f s i) (fpl s (8*f.length) i)
theorem ZIO (f s:List UInt8):∀i,(setN f s i).length=f.length
 | 0=>rfl
 | i+1=>by rw[setN,ZAa,ZIO f s i]
theorem ZOa {x m:Nat} (hx:x<256) (hm:m<8) (h:¬ x / 2^m%2=1):x+2^m=x ||| 2^m:=by
 have key:∀(a:Fin 256) (b:Fin 8),¬ a.val / 2^b.val%2=1->a.val+2^b.val=a.val ||| 2^b.val:=by decide +kernel
 exact key ⟨x,hx⟩ ⟨m,hm⟩ h
theorem ZKc (y:Int):IntKind.u8.wrap y=y%256:=by simp[IntKind.wrap,IntKind.bits,IntKind.signed]
def AddF (w:World) (F:List UInt8) (n:Nat) (e:Ending) (w':World):Prop:=∃(A:Option Addr) (c:Nat) (k:Int),e = .returned (.tuple #[.agg #[.slice A n c],.int .i64 k])/\0<=k/\k<=4/\Buf w' w.heap.size 5 A n c (F.map B8)/\Ext w w'
theorem ZLu (f s:List UInt8) (A:Option Addr) (n c:Nat) (w:World) (hn:n=f.length) (hb:Bs w A f) (hs:s.length<=9223372036854775807) (h0:0<n) (w1:n<=131072) :
 Calls Tryz.prog 168 #[.agg #[.slice A n c],.string ⟨s.toArray⟩] w fun e w'=>AddF w (addB f s) n e w':=by
 have d0:Ext w ((w.alloc (.cells #[.slice A n c] 61)).alloc (.cells #[.slice none 0 0] 61)):=((Ext.refl w).alloc _).alloc _;have e0:Ext w ((((w.alloc (.cells #[.slice A n c] 61)).alloc (.cells #[.slice none 0 0] 61))).alloc (.cells #[] 5)):=d0.alloc _;have r1:Row ((w.alloc (.cells #[.slice A n c] 61)).alloc (.cells #[.slice none 0 0] 61)) w.heap.size 61 #[.slice A n c]:=(Row.new w _ _).alloc _;have r2:Row ((w.alloc (.cells #[.slice A n c] 61)).alloc (.cells #[.slice none 0 0] 61)) (w.heap.size+1) 61 #[.slice none 0 0]:=by
  have h:=Row.new (w.alloc (.cells #[.slice A n c] 61)) 61 #[.slice none 0 0];simpa using h
 have y0:(((((w.alloc (.cells #[.slice A n c] 61)).alloc (.cells #[.slice none 0 0] 61))).alloc (.cells #[] 5))).cell? ⟨w.heap.size,0,none⟩=some (.slice A n c):=(r1.alloc _).cell 0 rfl;have t1:Buf ((((w.alloc (.cells #[.slice A n c] 61)).alloc (.cells #[.slice none 0 0] 61))).alloc (.cells #[] 5)) (((w.alloc (.cells #[.slice A n c] 61)).alloc (.cells #[.slice none 0 0] 61))).heap.size 5 (some ⟨(((w.alloc (.cells #[.slice A n c] 61)).alloc (.cells #[.slice none 0 0] 61))).heap.size,0,none⟩) 0 0 []:=ZCT ((w.alloc (.cells #[.slice A n c] 61)).alloc (.cells #[.slice none 0 0] 61)) [] 5 (by simp);have x2:=hb.ext e0;have a2:(f.map B8).length=n:=by rw[List.length_map,hn]
 have d1:(((w.alloc (.cells #[.slice A n c] 61)).alloc (.cells #[.slice none 0 0] 61))).heap.size<=(((((w.alloc (.cells #[.slice A n c] 61)).alloc (.cells #[.slice none 0 0] 61))).alloc (.cells #[] 5))).heap.size:=((Ext.refl ((w.alloc (.cells #[.slice A n c] 61)).alloc (.cells #[.slice none 0 0] 61))).alloc _).size;have p0:=r1.alloc (.cells #[] 5);have k0:=r2.alloc (.cells #[] 5);have e1:=d0.size;have s0:(((w.alloc (.cells #[.slice A n c] 61)).alloc (.cells #[.slice none 0 0] 61))).heap.size=w.heap.size+2:=by simp
 rw[s0]at t1;replace s0:=ZA s0;replace hn:=ZA hn;replace d0:=ZA d0;replace e0:=ZA e0;replace p0:=ZA p0;replace k0:=ZA k0;replace r1:=ZA r1;replace r2:=ZA r2;clear hb;go_enter Tryz.func168,Tryz.ntmps168;go_wp2_with (at_builtin;refine ZG ZV t1 x2 (.tmp 9) (.tmp 11) rfl rfl rfl rfl rfl a2 (ZF _) (by omega) (by simp) (fun A3 c3 w3 m0 y1 i1 t2=>?_);rw[Nat.zero_add,List.nil_append]at m0;have a0:=ZA (i1 w e0.out (by omega));have r13:=p0.out.grown y1 (by simp[Value.ownBlock]);have r23:=k0.out.grown y1 (by simp[Value.ownBlock]);have z0:=r13.cell 0 rfl;have zf:=r13.free 0;replace m0:=ZA m0;replace r13:=ZA r13;replace r23:=ZA r23;clear y1 i1 t2 y0 t1);obtain⟨W4,j0⟩:∃W4,W4=w3.setCell ⟨w.heap.size,0,none⟩ (.slice A3 n c3):=⟨_,rfl⟩
 rw[<-j0];obtain⟨gb,x0⟩:∃gb,gb=w.heap.size:=⟨_,rfl⟩
 rw[<-x0]at j0 r13 r23 m0 ⊢;have r14:Row W4 gb 61 #[.slice A3 n c3]:=by rw[j0];exact r13.out.put 0 _
 have r24:Row W4 (gb+1) 61 #[.slice none 0 0]:=by rw[j0];exact r23.out.away (p:=⟨gb,0,none⟩) (by simp) _
 have y2:Buf W4 (gb+2) 5 A3 n c3 (f.map B8):=by rw[j0];exact m0.out.setCell (m0.out.unlike r13.out (by decide)) _
 have b0:Ext w W4:=by rw[j0];exact a0.out.setCell (p:=⟨gb,0,none⟩) (by simp only;omega) _
 obtain⟨_,d2,⟨h9,i2⟩ | ⟨b,cur0,v2,z2,j2,n1,g2⟩⟩:=y2
 ·omega
 subst v2;have u1:=ZA (fun(i:Nat) (hi:i<4) W=>ZMj s (some ⟨b,0,none⟩) n c3 i W hs h0 w1 hi);have a1:=ZA (fun(F:List UInt8) k W (hF:n=F.length) (hB:Bs W (some ⟨b,0,none⟩) F) (hk:k<8*n)=>ZMZ F (some ⟨b,0,none⟩) n c3 k W hF hB hk w1);replace j0:=ZA j0;replace x0:=ZA x0;clear z0 zf r13 r23 m0 a0 p0 k0 r1 r2 s0 d1 e1
 go_loopw [6,7] (fun s6 s7 wr=>∃(i:Nat) (cnt:Int) (F:List UInt8) (cur:Array Value),s6 = .int .i64 cnt/\s7 = .int .i64 (i:Int)/\i<=4/\0<=cnt/\cnt<=i/\Hid (F=setN f s i)/\Hid (Row wr gb 61 #[.slice (some ⟨b,0,none⟩) n c3])/\Hid (Row wr (gb+1) 61 #[.slice none 0 0])/\Hid (Row wr b 5 cur)/\Hid (c3<=cur.size/\cur.toList.take n=F.map B8)/\Hid (Ext w wr)) (fun _ s7 _=>4 - (intOf s7).toNat)
 case atStart=>exact⟨0,0,f,cur0,rfl,rfl,by omega,by omega,by omega,ZA rfl,ZA r14,ZA r24,ZA j2,ZA ⟨n1,g2⟩,ZA b0⟩
 case round =>
  clear r14 r24 j2 n1 g2 b0;obtain⟨i,cnt,F,cur,rfl,rfl,hi,l1,n2,hF,r1,r2,rb,t0,hE⟩:=hrel;have y0:wr.cell? ⟨gb,0,none⟩=some (.slice (some ⟨b,0,none⟩) n c3):=r1.out.cell 0 rfl;by_cases b2:i<4
  ·have c0:n=F.length:=by rw[hF.out,ZIO,<-hn.out]
   obtain⟨k,hk⟩:∃k,k=fpl s (8*n) i:=⟨_,rfl⟩
   have c2:k<8*n:=by rw[hk];exact ZGh s i (by omega)
   have l0:=u1.out i b2 wr;rw[<-hk]at l0;have i0:setB F k=setN f s (i+1):=by rw[setN,<-hF.out,<-hn.out,<-hk]
   have w0:∀W,Ext wr W->Bs W (some ⟨b,0,none⟩) F:=fun W u2=> .inr ⟨b,0,rfl,fun j v hj=>by
    have h1:=(rb.out.ext u2).get j;rw[Nat.zero_add,h1];have h2:=t0.out.2;rw[<-h2,List.getElem?_take]at hj;split at hj
    ·simpa using hj
    ·cases hj⟩
   have r0:k / 8<F.length:=by omega
   replace hk:=ZA hk;replace l0:=ZA l0;replace i0:=ZA i0;replace c0:=ZA c0;replace w0:=ZA w0;go_wp2_with fail;refine l0.out.mono ?_;rintro e w5 ⟨rfl,f0⟩;have y0:=f0.cell y0;have hh:=a1.out F k w5 c0.out (w0.out w5 f0) c2;cases hv:hasB F k with
   | true =>
    rw[hv]at hh;have c1:=ZIP r0 hv;replace hh:=ZA hh;replace hv:=ZA hv;replace c1:=ZA c1;go_wp2_with fail;refine hh.out.mono ?_;rintro e w6 ⟨rfl,k1⟩;have q0:=f0.trans k1;have q1:=ZA (r1.out.ext q0);have q2:=ZA (r2.out.ext q0);have q3:=ZA (rb.out.ext q0);have j1:=ZA (hE.out.trans q0);clear q0 y0;go_wp2_with fail;go_roundw
    case rel=>exact⟨i+1,cnt,F,cur,rfl,by go_num,by omega,l1,by omega,ZA (by rw[<-i0.out,c1.out]),q1,q2,q3,t0,j1⟩
    case measure=>simp only[intOf];omega
   | false =>
    rw[hv]at hh;replace hh:=ZA hh;go_wp2_with fail;refine hh.out.mono ?_;rintro e w6 ⟨rfl,k1⟩;have q0:=f0.trans k1;have q1:=r1.out.ext q0;have q2:=r2.out.ext q0;have q3:=rb.out.ext q0;have j1:=ZA (hE.out.trans q0);have y0:w6.cell? ⟨gb,0,none⟩=some (.slice (some ⟨b,0,none⟩) n c3):=q1.cell 0 rfl;have z1:=ZBL r0;obtain⟨x,hx⟩:∃x,x=F[k / 8].toNat:=⟨_,rfl⟩
    have m2:x<256:=by rw[hx];exact F[k / 8].toNat_lt
    have o1:cur[k / 8]? = some (.int .u8 (x:Int)):=by
     have h1:(cur.toList.take n)[k / 8]? = some (B8 F[k / 8]):=by rw[t0.out.2,List.getElem?_map,List.getElem?_eq_getElem r0];rfl
     rw[List.getElem?_take,if_pos (by rw[c0.out];exact r0)]at h1;unfold B8 at h1;rw[<-hx]at h1;simpa using h1
    have f1:¬ x / 2^(k%8)%2=1:=by
     unfold hasB at hv;rw[z1,<-hx]at hv;exact of_decide_eq_false hv
    obtain⟨q,hq⟩:∃q,q=k / 8:=⟨_,rfl⟩
    obtain⟨m,hm⟩:∃m,m=k%8:=⟨_,rfl⟩
    have b1:m<8:=by omega
    rw[<-hm]at f1;have m1:=ZOa m2 b1 f1;have k2:=ZN9 m2 b1;have h3:(k:Int) / 8=(q:Int):=by omega
    have o2:(k:Int)%8=(m:Int):=by omega
    have k3:(q:Int)<n:=by have:=c0.out;omega
    have r1c:w6.cell? ⟨b,q,none⟩=some (.int .u8 (x:Int)):=q3.cell q (by rw[hq];exact o1);have r1f:=q3.free q;have w2:(2:Int)^m%256=((2^m:Nat):Int):=by
     have:∀k:Fin 8,(2:Int)^k.val%256=((2^k.val:Nat):Int):=by decide
     exact this ⟨m,b1⟩
    have g0:IntKind.u8.wrap ((x:Int)+((2^m:Nat):Int))=((x ||| 2^m:Nat):Int):=by rw[ZKc,<-m1];omega
    have n0:B8 (UInt8.ofNat ((F.getD (k / 8) 0).toNat ||| 2^(k%8))) = .int .u8 ((x ||| 2^m:Nat):Int):=by
     unfold B8;rw[z1,<-hx,<-hm,UInt8.toNat_ofNat',Nat.mod_eq_of_lt k2]
    obtain⟨y,hy⟩:∃y,y=x ||| 2^m:=⟨_,rfl⟩
    rw[<-hy]at g0 n0;have l2:b≠gb:=by omega
    have f2:((x:Int)+2^m)%256=(y:Int):=by
     rw[ZKc]at g0;rw[<-g0];simp
    replace q1:=ZA q1;replace q2:=ZA q2;replace q3:=ZA q3;replace hq:=ZA hq;replace hm:=ZA hm;replace hx:=ZA hx;replace hy:=ZA hy;replace n0:=ZA n0;replace m1:=ZA m1;clear q0 z1 o1 f1 k2 hv;go_wp2_with fail;refine ZPw (fun K hK=>?_);go_wp2_with fail;refine⟨by kernel_rfl,?_⟩;go_wp2_with fail;have s1:=x0.out;have p1:=Row.drew (q1.out.away (p:=⟨b,q,none⟩) (by simp only;omega) (.int .u8 (y:Int)));have p2:=Row.drew (q2.out.away (p:=⟨b,q,none⟩) (by simp only;omega) (.int .u8 (y:Int)));have p3:=Row.drew (q3.out.put q (.int .u8 (y:Int)));have g1:=Ext.drew (j1.out.setCell (p:=⟨b,q,none⟩) (by simp only;omega) (.int .u8 (y:Int)));replace s1:=ZA s1;replace p1:=ZA p1;replace p2:=ZA p2;replace p3:=ZA p3;replace g1:=ZA g1;have x1:c3<=(cur.setIfInBounds q (.int .u8 (y:Int))).size/\(cur.setIfInBounds q (.int .u8 (y:Int))).toList.take n=(setB F k).map B8:=by
     refine⟨by rw[Array.size_setIfInBounds];exact t0.out.1,?_⟩;unfold setB;rw[Array.toList_setIfInBounds,List.take_set,t0.out.2,List.map_set,n0.out,hq.out]
    exact⟨⟨i+1,cnt+1,setB F k,cur.setIfInBounds q (.int .u8 (y:Int)),rfl,by go_num,by omega,by omega,by omega,i0,p1,p2,p3,ZA x1,g1⟩,by simp only[intOf];omega⟩
  ·obtain rfl:i=4:=by omega
   have v0:F=addB f s:=hF.out;have u0:n=(addB f s).length:=by rw[ZCx,<-hn.out]
   have z0:=r2.out.cell 0 rfl;have zf:=r2.out.free 0;have o0:Buf wr (gb+2) 5 (some ⟨b,0,none⟩) n c3 ((addB f s).map B8):=⟨by rw[List.length_map];exact u0.symm,d2,.inr ⟨b,cur,rfl,z2,rb.out,t0.out.1,by rw[t0.out.2,v0]⟩⟩
   have s2:b≠gb+1:=by omega
   replace v0:=ZA v0;replace u0:=ZA u0;replace o0:=ZA o0;go_wp2_with fail;have e2:=r2.out.put 0 (.slice (some ⟨b,0,none⟩) n c3);have v1:=o0.out.setCell (p:=⟨gb+1,0,none⟩) (o0.out.unlike r2.out (by decide)) (.slice (some ⟨b,0,none⟩) n c3);refine bodyPost_ret (ZT rfl _ _ (gb+1) #[.slice (some ⟨b,0,none⟩) n c3] rfl (run_loadVar_row _ (gb+1) 61 61 _ (0,0) _ e2 Tryz.underlying61 rfl (by kernel_rfl))) rfl ⟨some ⟨b,0,none⟩,c3,cnt,rfl,l1,by omega,v1.lower (by have:=x0.out;omega),hE.out.setCell (p:=⟨gb+1,0,none⟩) (by have:=x0.out;simp only;omega) _⟩
end
section
open Go.RowKit Go.Maps
def AddFs (w:World) (F:List UInt8) (n:Nat) (e:Ending) (w':World):Prop:=∃(A:Option Addr) (c:Nat) (k:Int),e = .returned (.tuple #[.agg #[.slice A n c],.int .i64 k])/\In8 w' A n c F/\Ext w w'
theorem ZGG:∀(l:List (List UInt8)) (f:List UInt8),(l.foldl addB f).length=f.length
 | [],f=>rfl
 | c::l,f=>by rw[List.foldl_cons,ZGG l,ZCx]
theorem ZFG {w:World} {A B:Option Addr} {n c m d:Nat} {l:List UInt8} {p:Addr} (h:In8 w A n c l) (hp:w.cell? p=some (.slice B m d)) (v:Value):In8 (w.setCell p v) A n c l :=
 ⟨h.len,ZGS h.bytes hp (fun u hu e=>by
  obtain⟨x,_,rfl⟩:=List.mem_map.1 hu;cases e) v,h.cap,h.nil_,fun a ha=>⟨(h.at_ a ha).1,by rw[World.size_setCell];exact(h.at_ a ha).2⟩⟩
theorem ZHh (f : List UInt8) (ts : List (List UInt8)) (A B : Option Addr) (n c k c2 : Nat) (w : World) (hf : In8 w A n c f) (hk : k = ts.length) (hB : Cells w B (ts.map strV)) (hs : ∀ s ∈ ts, s.length ≤ 9223372036854775807) (h0 : 0 < n) (c1 : n ≤ 131072) (s1 : k ≤ 1000000000) :
    Calls Tryz.prog 122 #[.agg #[.slice A n c], .slice B k c2] w fun e w' => AddFs w (ts.foldl addB f) n e w' := by
  have v0 : Ext w ((w.alloc (.cells #[.slice A n c] 61)).alloc (.cells #[.slice none 0 0] 61)) := ((Ext.refl w).alloc _).alloc _
  have r1 : Row ((w.alloc (.cells #[.slice A n c] 61)).alloc (.cells #[.slice none 0 0] 61)) w.heap.size 61 #[.slice A n c] := (Row.new w _ _).alloc _
  have r2 : Row ((w.alloc (.cells #[.slice A n c] 61)).alloc (.cells #[.slice none 0 0] 61)) (w.heap.size + 1) 61 #[.slice none 0 0] := by
    have h := Row.new (w.alloc (.cells #[.slice A n c] 61)) 61 #[.slice none 0 0]
    simpa using h
  have h1 := hf.ext v0
  have j1 := hf.len
  have o0 := ZA (fun F s A c W (hn : n = F.length) (hb : Bs W A F) (hs : s.length ≤ 9223372036854775807) => ZLu F s A n c W hn hb hs h0 c1)
  have a1 := ZA (fun i => (show n = ((ts.take i).foldl addB f).length by rw [ZGG, j1]))
  replace j1 := ZA j1
  replace hk := ZA hk
  replace hB := ZA hB
  replace hs := ZA hs
  clear hf
  go_enter Tryz.func122, Tryz.ntmps122
  go_wp2_with fail
  obtain ⟨W1, n0⟩ : ∃ W1, W1 = ((w.alloc (.cells #[.slice A n c] 61)).alloc (.cells #[.slice none 0 0] 61)) := ⟨_, rfl⟩
  obtain ⟨gb, t0⟩ : ∃ gb, gb = w.heap.size := ⟨_, rfl⟩
  rw [← n0] at v0 r1 r2 h1 ⊢
  rw [← t0] at r1 r2 ⊢
  replace n0 := ZA n0
  replace t0 := ZA t0
  go_loopw [6, 7] (fun s6 s7 wr => ∃ (i : Nat) (al : Int) (A : Option Addr) (c : Nat), s6 = .int .i64 al ∧ s7 = .int .i64 (i : Int) ∧ i ≤ k ∧ 0 ≤ al ∧ al ≤ 4 * i ∧ Hid (Row wr gb 61 #[.slice A n c]) ∧ Hid (Row wr (gb + 1) 61 #[.slice none 0 0]) ∧ Hid (In8 wr A n c ((ts.take i).foldl addB f)) ∧ Hid (Ext w wr)) (fun _ s7 _ => k - (intOf s7).toNat)
  case atStart => exact ⟨0, 0, A, c, rfl, rfl, by omega, by omega, by omega, ZA r1, ZA r2, ZA h1, ZA v0⟩
  case round =>
    clear r1 r2 h1 v0
    obtain ⟨i, al, A, c, rfl, rfl, hi, i1, l1, r1, r2, t1, hE⟩ := hrel
    have y0 : wr.cell? ⟨gb, 0, none⟩ = some (.slice A n c) := r1.out.cell 0 rfl
    by_cases b1 : i < k
    · obtain ⟨s, d0⟩ : ∃ s, ts[i]? = some s := ⟨_, List.getElem?_eq_getElem (by rw [← hk.out]; exact b1)⟩
      obtain ⟨g, o, x1, m1⟩ := hB.out.at_ (by rw [List.length_map, ← hk.out]; omega)
      have l0 : wr.cell? ⟨g, o + i, none⟩ = some (.string ⟨s.toArray⟩) := hE.out.cell (m1 i _ (by rw [List.getElem?_map, d0]; rfl))
      have g1 := ZA (fun W (hW : Ext wr W) => o0.out _ s A c W (a1.out i) (t1.out.ext hW).bytes (hs.out s (List.mem_of_getElem? d0)))
      have v1 : (ts.take (i + 1)).foldl addB f = addB ((ts.take i).foldl addB f) s := by rw [List.take_add_one, d0, List.foldl_append]; rfl
      obtain ⟨F2, a0⟩ : ∃ F2, F2 = (ts.take (i + 1)).foldl addB f := ⟨_, rfl⟩
      rw [← v1, ← a0] at g1
      subst x1
      replace a0 := ZA a0
      clear d0 m1 v1
      go_upto_region 5 with fail
      go_cut [8, 9] (fun s8 s9 wy => ∃ (g8 c3 : Nat) (A3 : Option Addr) (cnt : Int), s8 = .pointer (some ⟨g8, 0, none⟩) ∧ s9 = .int .i64 cnt ∧ 0 ≤ cnt ∧ cnt ≤ 4 ∧ wr.heap.size ≤ g8 ∧ Hid (Row wy g8 61 #[.slice A3 n c3]) ∧ Hid (In8 wy A3 n c3 F2) ∧ Hid (Ext wr wy))
      case first =>
        have g0 : Ext wr wr.drew := (Ext.refl wr).drew
        have m0 : Ext wr (wr.alloc (.cells #[.slice none 0 0] 61)).drew := ((Ext.refl wr).alloc _).drew
        have j0 : Row (wr.alloc (.cells #[.slice none 0 0] 61)).drew wr.heap.size 61 #[.slice none 0 0] := (Row.new wr _ _).drew
        have y0e := m0.cell y0
        have l0e := m0.cell l0
        have y0d := g0.cell y0
        have l0d := g0.cell l0
        have o1 : (0 : Int) ≤ i := by omega
        have hi1 : (i : Int) < k := by omega
        replace j0 := ZA j0
        replace g0 := ZA g0
        replace m0 := ZA m0
        go_region_with ((go_at_call 168; refine (g1.out _ (by first | exact g0.out | exact m0.out)).mono ?_; rintro e w6 ⟨A3, c3, cnt, rfl, s0, w0, r0, x0⟩; (first | (have r6 := j0.out.ext x0; have c0 := r6.get; have f0 := r6.free; have q0 := ZA (m0.out.trans x0); have b0 := ZA (r0.lower (Nat.le_refl _)); replace r6 := ZA r6) | (have q0 := ZA (g0.out.trans x0); have b0 := ZA (r0.lower (Nat.le_refl _)))); clear r0 x0))
        all_goals
          go_wp2_with fail
          go_meet
          case rel =>
            first
            | (have r6' := r6.out
               have e1 : Row (w6.setCell ⟨wr.heap.size, 0, none⟩ (.slice A3 n c3)) wr.heap.size 61 #[.slice A3 n c3] := r6'.put 0 (.slice A3 n c3)
               have z1 := b0.out.setCell (p := ⟨wr.heap.size, 0, none⟩) (b0.out.unlike r6' (by decide)) (.slice A3 n c3)
               exact ⟨wr.heap.size, c3, A3, cnt, rfl, rfl, s0, w0, Nat.le_refl _, ZA e1, ZA z1.in8, ZA (q0.out.setCell (p := ⟨wr.heap.size, 0, none⟩) (Nat.le_refl _) _)⟩)
            | exact ⟨w6.heap.size, c3, A3, cnt, rfl, rfl, s0, w0, q0.out.size, ZA (Row.new w6 _ _), ZA (b0.out.in8.ext ((Ext.refl w6).alloc _)), ZA (q0.out.alloc _)⟩
      case rest =>
        obtain ⟨g8, c3, A3, cnt, rfl, rfl, s0, w0, n1, r8, k1, e0⟩ := hcut
        have u0 : wc.cell? ⟨g8, 0, none⟩ = some (.slice A3 n c3) := r8.out.cell 0 rfl
        have u1 := r1.out.ext e0.out
        have u2 := r2.out.ext e0.out
        have z0 := u1.cell 0 rfl
        have zf := u1.free 0
        have y1 := hE.out.size
        have p1 := u1.put 0 (.slice A3 n c3)
        have p2 := u2.away (p := ⟨gb, 0, none⟩) (by simp) (.slice A3 n c3)
        have i0 := (hE.out.trans e0.out).setCell (p := ⟨gb, 0, none⟩) (by have := t0.out; simp only; omega) (.slice A3 n c3)
        replace p1 := ZA p1
        replace p2 := ZA p2
        replace i0 := ZA i0
        have k0 := ZA (show In8 (wc.setCell ⟨gb, 0, none⟩ (.slice A3 n c3)) A3 n c3 ((ts.take (i + 1)).foldl addB f) from by
          rw [← a0.out]
          exact ZFG k1.out z0 _)
        go_wp2_with fail
        go_roundw
        case rel => exact ⟨i + 1, al + cnt, A3, c3, rfl, by go_num, by omega, by omega, by omega, p1, p2, k0, i0⟩
        case measure => simp only [intOf]; omega
    · obtain rfl : i = k := by omega
      have f1 : ts.take i = ts := List.take_of_length_le (by rw [← hk.out]; exact Nat.le_refl _)
      have p0 := t1.out
      rw [f1] at p0
      have z0 := r2.out.cell 0 rfl
      have zf := r2.out.free 0
      have q1 := t0.out
      replace p0 := ZA p0
      replace q1 := ZA q1
      go_wp2_with fail
      have d1 := r2.out.put 0 (.slice A n c)
      have k0 := ZFG p0.out (r2.out.cell 0 rfl) (.slice A n c)
      refine bodyPost_ret (ZT rfl _ _ (gb + 1) #[.slice A n c] rfl (run_loadVar_row _ (gb + 1) 61 61 _ (0, 0) _ d1 Tryz.underlying61 rfl (by kernel_rfl))) rfl ⟨A, c, al, rfl, k0, hE.out.setCell (p := ⟨gb + 1, 0, none⟩) (by have := q1.out; simp only; omega) _⟩
end
end Go.Proofs.YtkdcnhnaiknaaaaGreat
