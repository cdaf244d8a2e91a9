/- Texts of one proof, joined. -/
import Derived.Test.YtfifdilapbeiiaaGreatPP01
import Derived.Laws.BitsAllLaws
import Derived.Deep.CutRange
import Derived.Deep.DeepCutAuto
import Derived.ProofKit
import Derived.OpenShut
import Derived.ShutString
import Derived.ChangeOld
import Derived.Below
import Derived.Deep.Slices
import Derived.Deep.Fields
import Derived.ChangeSame
import Derived.HandedShaped
import Derived.Handed
import Derived.RangeFuncNested
import Derived.RangeFuncBound
import Derived.RangeFuncCalls
import Derived.RangeFuncLeaves
import Derived.OwnWalkIn
import Derived.TacticsInMore
import Derived.LoopNIn
import Derived.LoopIn
import Derived.Shelf.Abstract
import Derived.SliceStrings
set_option linter.unusedSimpArgs false
set_option linter.unusedVariables false
set_option maxRecDepth 100000
set_option maxHeartbeats 16000000
namespace Go.Proofs.YtfifdilapbeiiaaGreat
open _root_.Go.Proofs.Tryz
variable {ops:Array Oper} {cs lb:Array Value} {Q:Exit → Act → World → Prop} {l pre r s:List UInt8} {news us xs:List Value} {B c c' fuel g gf i k m m' n x:Nat} {o:Oper} {A:Option Addr} {P:Program} {e t:TypeId} {v:Value} {W W' w w' w0 w1:World}
section
open Go.RowKit
structure Frm where
  k:Nat
  msk:Nat
  hd:Nat
  lo:Nat
  hi:Nat
  d:Nat
  q:Nat
def frm (i:Nat):Frm:=if i=0 then ⟨1,224,192,128,2047,32,6⟩ else if i=1 then ⟨2,240,224,2048,65535,16,14⟩ else ⟨3,248,240,65536,1114111,8,30⟩
def Frm.cells (f:Frm):Array Value:=#[.int .i64 ((f.k:Int)+1),.int .u8 (f.msk:Int),.int .u8 (f.hd:Int),.int .i64 (f.lo:Int),.int .i64 (f.hi:Int),.int .i64 (-1)]
theorem three (h:i<3):i=0\/i=1\/i=2:=by omega
theorem P2 (hi:i<3) (W:World):(Instr.index 292 (.agg formC) (.int .i64 (i:Int))).run prog W = .ok (.agg (frm i).cells) W:=by
 rcases three hi with rfl | rfl | rfl
 ·show _=_
  kernel_rfl
 ·show _=_
  kernel_rfl
 ·show _=_
  kernel_rfl
theorem QJ:∀b:Fin 256,∀i:Fin 3,bits .and .u8 ((b.val:Nat):Int) ((frm i.val).msk:Int)=((b.val / (frm i.val).d*(frm i.val).d:Nat):Int):=by decide +kernel
theorem QK:∀b:Fin 256,∀i:Fin 3,bits .andNot .u8 ((b.val:Nat):Int) ((frm i.val).msk:Int)=((b.val%(frm i.val).d:Nat):Int):=by decide +kernel
theorem Pi:∀i:Fin 3,(frm i.val).hd=(frm i.val).q*(frm i.val).d/\0<(frm i.val).d/\(frm i.val).d<=32/\(frm i.val).k<=3/\(frm i.val).hi<=1114111:=by decide +kernel
theorem Pj (hi:i<3) (b:UInt8):(bits .and .u8 (b.toNat:Int) ((frm i).msk:Int)=((frm i).hd:Int))↔b.toNat / (frm i).d=(frm i).q:=by
 have h1:=QJ ⟨b.toNat,b.toNat_lt⟩ ⟨i,hi⟩;have h2:=Pi ⟨i,hi⟩;simp only at h1 h2;rw[h1,h2.1];constructor
 ·intro h;exact Nat.eq_of_mul_eq_mul_right h2.2.1 (Int.ofNat.inj h)
 ·intro h;rw[h]
theorem RT (b:UInt8):bits .and .u8 (b.toNat:Int) 63=((b.toNat%64:Nat):Int):=by
 have h:∀k:Fin 256,bits .and .u8 ((k.val:Nat):Int) 63=((k.val%64:Nat):Int):=by decide +kernel
 exact h ⟨b.toNat,b.toNat_lt⟩
theorem Rj (b:UInt8):(bits .and .u8 (b.toNat:Int) 192=128)↔contB b=true:=by
 have h:∀k:Fin 256,(bits .and .u8 ((k.val:Nat):Int) 192=128)↔k.val / 64==2:=by decide +kernel
 exact h ⟨b.toNat,b.toNat_lt⟩
theorem LM (a b:Nat) (h:a<4611686018427387904) (hb:b<4611686018427387904):bits .or .i64 (a:Int) (b:Int)=((a ||| b:Nat):Int):=by
 have j:a ||| b<2^62:=Nat.or_lt_two_pow (by omega) (by omega)
 have h1:(BitVec.ofInt 64 (a:Int)).toNat=a:=by
  rw[BitVec.ofInt_natCast,BitVec.toNat_ofNat];exact Nat.mod_eq_of_lt (by omega)
 have h2:(BitVec.ofInt 64 (b:Int)).toNat=b:=by
  rw[BitVec.ofInt_natCast,BitVec.toNat_ofNat];exact Nat.mod_eq_of_lt (by omega)
 show IntKind.i64.wrap ((BitVec.ofInt 64 (a:Int) ||| BitVec.ofInt 64 (b:Int)).toNat:Int)=_;rw[BitVec.toNat_or,h1,h2,IntKind.wrap_i64];omega
theorem Sp (x y:Nat) (j:x<1073741824) (h:y<64):bits .or .i64 ((x:Int)*64) (y:Int)=((x*64+y:Nat):Int):=by
 have:=Nat.shiftLeft_add_eq_or_of_lt (i:=6) (b:=y) h x;rw[Nat.shiftLeft_eq]at this;rw[show (x:Int)*64=((x*64:Nat):Int)by omega,LM _ _ (by omega) (by omega),<-this]
def okF (i:Nat) (b:UInt8) (t:List UInt8):Bool:=b.toNat / (frm i).d==(frm i).q&&okR (frm i).lo (frm i).hi (b.toNat%(frm i).d) (frm i).k t
theorem Nw {b:UInt8} {t:List UInt8} (hi:i<3) (hb:¬ b.toNat<128) (hn:∀j,j<i->okF j b t=false) (h:okF i b t=true):decR (b::t)=(foldR (b.toNat%(frm i).d) (t.take (frm i).k),(frm i).k+1):=by
 rw[decR,if_neg hb];rcases three hi with rfl | rfl | rfl
 ·exact if_pos h
 ·have a:=hn 0 (by omega);rw[if_neg (by rw[show (b.toNat / 32==6&&okR 128 2047 (b.toNat%32) 1 t)=false from a];decide)];exact if_pos h
 ·have a:=hn 0 (by omega);have h1:=hn 1 (by omega);rw[if_neg (by rw[show (b.toNat / 32==6&&okR 128 2047 (b.toNat%32) 1 t)=false from a];decide),if_neg (by rw[show (b.toNat / 16==14&&okR 2048 65535 (b.toNat%16) 2 t)=false from h1];decide)];exact if_pos h
theorem Ny {b:UInt8} {t:List UInt8} (hb:¬ b.toNat<128) (hn:∀j,j<3->okF j b t=false):decR (b::t)=(65533,1):=by
 have h:=hn 0 (by omega);have h1:=hn 1 (by omega);have h2:=hn 2 (by omega);rw[decR,if_neg hb,if_neg (by rw[show (b.toNat / 32==6&&okR 128 2047 (b.toNat%32) 1 t)=false from h];decide),if_neg (by rw[show (b.toNat / 16==14&&okR 2048 65535 (b.toNat%16) 2 t)=false from h1];decide),if_neg (by rw[show (b.toNat / 8==30&&okR 65536 1114111 (b.toNat%8) 3 t)=false from h2];decide)]
theorem GM (n:Nat) (l:List UInt8):foldR n l<(n+1)*64^l.length:=by
 induction l generalizing n with
 | nil=>simp[foldR]
 | cons b l ih =>
  have h:=ih (n*64+b.toNat%64);rw[List.length_cons,Nat.pow_succ];refine Nat.lt_of_lt_of_le (show foldR n (b::l)<_ from h) ?_;rw[show (n+1)*(64^l.length*64)=(n*64+64)*64^l.length by rw[Nat.mul_comm (64^l.length) 64,<-Nat.mul_assoc,Nat.add_mul n 1 64]];exact Nat.mul_le_mul_right _ (by omega)
theorem GN (n:Nat) (l:List UInt8) (b:UInt8):foldR n (l ++ [b])=foldR n l*64+b.toNat%64:=by
 unfold foldR;rw[List.foldl_append];rfl
theorem Cd (hn:n<32) (j:l.length<=3):foldR n l<8388608:=by
 have h:=GM n l;have h2:(n+1)*64^l.length<=32*64^3:=Nat.mul_le_mul (by omega) (Nat.pow_le_pow_right (by omega) j);omega
theorem Nn (l:List UInt8) (a b:Nat):(⟨l.toArray⟩:ByteArray).extract a b=⟨((l.drop a).take (b - a)).toArray⟩:=by
 have:((⟨l.toArray⟩:ByteArray).extract a b).data=((l.drop a).take (b - a)).toArray:=by
  rw[ByteArray.data_extract,List.extract_toArray,List.extract_eq_take_drop]
 generalize (⟨l.toArray⟩:ByteArray).extract a b=x at this;cases x;subst this;rfl
theorem Qz (h:Bs w (some ⟨g,0,none⟩) l) {j:Nat} {b:UInt8} (hb:l[j]? = some b):w.cell? ⟨g,j,none⟩=some (.int .u8 (b.toNat:Int)):=by
 obtain⟨g',o,a,H⟩:=Cells.at_ h (by rw[List.length_map];exact Nat.lt_of_le_of_lt (Nat.zero_le _) (List.getElem?_eq_some_iff.1 hb).1);cases a;have:=H j (B8 b) (by rw[List.getElem?_map,hb];rfl)
 rwa [Nat.zero_add]at this
theorem J2 (l:List UInt8) (at_:Nat) (b:UInt8) (w:World) (hb:l[at_]? = some b) (hl:l.length<=1073741824) (f1:¬ b.toNat<128) :
 Calls prog 194 #[.string ⟨l.toArray⟩,.int .i64 (at_:Int)] w fun e w'=>e = .returned (.tuple #[.int .i64 (decR (l.drop at_)).1,.int .i64 (decR (l.drop at_)).2])/\Ext w w':=by
 have t3:=(List.getElem?_eq_some_iff.1 hb).1;have h4:=fun W=>AB hb (z:=(at_:Int)) rfl W;have Z:=Aa (fun W=>NN W);obtain⟨F,hF⟩:=Ab formC;rw[<-hF]at Z;have p0:=fun i (h:i<3) W=>P2 h W;rw[<-hF]at p0;unfold Frm.cells at p0;replace p0:=Aa p0;replace hF:=Aa hF;obtain⟨t,ht⟩:=Ab (l.drop (at_+1));have h1:l.drop at_=b::t:=by
  rw[ht,List.drop_eq_getElem_cons t3];congr 1;exact(List.getElem?_eq_some_iff.1 hb).2
 have i0:t.length=l.length - (at_+1):=by rw[ht,List.length_drop]
 obtain⟨R,hR⟩:=Ab (decR (b::t));rw[h1,<-hR];replace h1:=Aa h1;replace ht:=Aa ht;replace hR:=Aa hR;replace i0:=Aa i0;have b3:¬ (b.toNat:Int)<128:=by omega
 replace hb:=Aa hb
 go_in
 go_wp2_with fail;refine(Z.out _).mono ?_;rintro e w1 ⟨rfl,k3⟩;go_wp2_with fail
 go_loopw [29] (fun s29 wr=>∃i:Nat,s29 = .int .i64 (i:Int)/\i<=3/\Ext w wr/\(∀j,j<i->okF j b t=false)) (fun s29 _=>3 - (intOf s29).toNat)
 case atStart=>exact⟨0,rfl,by omega,k3,fun j hj=>absurd hj (by omega)⟩
 case round =>
  obtain⟨i,rfl,r3,hE,Y⟩:=hrel;replace Y:=Aa Y;by_cases hi:i<3
  ·obtain⟨f,hf⟩:=Ab (frm i);have o1:=p0.out i hi;have J:=Pj hi b;have e0:=QK ⟨b.toNat,b.toNat_lt⟩ ⟨i,hi⟩;have H:=Pi ⟨i,hi⟩;simp only at e0 H;rw[<-hf]at o1 J e0 H;obtain⟨k,msk,hd,lo,c0,d,q'⟩:=f;simp only at o1 J e0 H;obtain⟨n0,k0⟩:=Ab (b.toNat%d);rw[<-k0]at e0;have k2:n0<32:=by
    have:=Nat.mod_lt b.toNat H.2.1;omega
   replace k0:=Aa k0;replace hf:=Aa hf;by_cases hA:bits .and .u8 (b.toNat:Int) (msk:Int)=(hd:Int)
   ·replace J:=Aa J;by_cases hk:k<=t.length
    ·have y3:((k:Int)+1)<=(l.length:Int) - (at_:Int):=by have:=i0.out;omega
     obtain⟨T,hT⟩:=Ab (t.take k);have m3:T.length=k:=by rw[hT,List.length_take];omega
     obtain⟨W0,G⟩:=Ab (wr.alloc (.cells #[.int .i64 ((k:Int)+1),.int .u8 (msk:Int),.int .u8 (hd:Int),.int .i64 (lo:Int),.int .i64 (c0:Int),.int .i64 (-1)] 291));obtain⟨c,W1,q1,hB,o0,y2⟩:=FM T W0;have l3:(⟨l.toArray⟩:ByteArray).extract (at_+1) (at_+(k+1))=⟨T.toArray⟩:=by
      rw[Nn,<-ht.out,hT,show at_+(k+1) - (at_+1)=k by omega]
     rw[m3]at q1;replace hT:=Aa hT;have m2:=Row.new wr 291 #[.int .i64 ((k:Int)+1),.int .u8 (msk:Int),.int .u8 (hd:Int),.int .i64 (lo:Int),.int .i64 (c0:Int),.int .i64 (-1)];rw[<-G]at m2;have x2:=Row.ext m2 o0;have g0:Ext w W1:=((hE.alloc _).trans (by rw[<-G];exact o0))
     have h2:W0.heap.size=wr.heap.size+1:=by rw[G];simp
     have x0:=x2.get;obtain⟨g1,j1⟩:=Ab W0.heap.size;rw[<-j1]at q1 hB;replace j1:=Aa j1;rw[G]at q1;obtain⟨g,hg⟩:=Ab wr.heap.size;replace h2:=Aa h2;have i1:=x0;rw[<-hg]at i1;have p4:k<=3:=H.2.2.2.1;replace H:=Aa H;replace hg:=Aa hg;replace G:=Aa G;replace hB:=Aa hB;replace y2:=Aa y2;have U:=fun(j:Nat) (b':UInt8) (h:T[j]? = some b')=>Qz hB.out h;replace x0:=Aa x0;go_upto_region 12 with (fail)
     go_loopw [63,9,10] (fun s63 s9 s10 wr'=>∃(j X:Nat) (q:Bool),s63 = .int .i64 (j:Int)/\s9 = .int .i64 (X:Int)/\s10 = .bool q/\j<=k/\X=foldR n0 (T.take j)/\q=(T.take j).all contB/\wr'=W1) (fun s63 _ _ _=>k - (intOf s63).toNat)
     case atStart=>exact⟨0,n0,true,rfl,rfl,rfl,by omega,rfl,rfl,rfl⟩
     case round =>
      obtain⟨j,X,q,rfl,rfl,rfl,q4,hX,hq,rfl⟩:=hrel;by_cases hj:j<k
      ·obtain⟨b',v0⟩:∃b',T[j]? = some b':=⟨_,List.getElem?_eq_getElem (by omega)⟩
       have k4:=U j b' v0;have p3:=RT b';have o3:X<8388608:=by rw[hX];exact Cd k2 (by rw[List.length_take];omega)
       have j2:=Sp X (b'.toNat%64) (by omega) (by omega);obtain⟨y,hy⟩:=Ab (b'.toNat%64);rw[<-hy]at p3 j2;obtain⟨X2,t0⟩:=Ab (X*64+y);rw[<-t0]at j2;have l0:T.take (j+1)=T.take j ++ [b']:=by rw[List.take_add_one,v0];rfl
       have r0:X2=foldR n0 (T.take (j+1)):=by rw[l0,GN,<-hX,t0,hy]
       have f0:(q&&contB b')=(T.take (j+1)).all contB:=by rw[l0,List.all_append,<-hq];simp
       have O:=Rj b';have i3:y<64:=by omega
       replace hy:=Aa hy;replace t0:=Aa t0;replace hX:=Aa hX;replace hq:=Aa hq;replace v0:=Aa v0;replace l0:=Aa l0;replace r0:=Aa r0;replace f0:=Aa f0;replace U:=Aa U;obtain⟨qb,x1⟩:=Ab (contB b');rw[<-x1]at O f0;replace x1:=Aa x1;cases q <;> cases qb
       all_goals
        have h0:=O;simp only[Bool.false_eq_true,iff_true,iff_false,iff_self]at h0;replace O:=Aa O;go_wp2_with fail
        case roundEnd=>exact⟨⟨j+1,X2,_,rfl,rfl,rfl,by omega,r0.out,by rw[<-f0.out];first | rfl | simp[h0],trivial⟩,by simp only[intOf];omega⟩
      ·obtain rfl:j=k:=by omega
       have j3:T.take j=T:=List.take_of_length_le (by omega);rw[j3]at hX hq;have d0:=fun W=>LN (lo:Int) (c0:Int) (-1) (X:Int) W;have y0:=fun W=>C3 (X:Int) W;obtain⟨z,hz⟩:=Ab (inB (lo:Int) (c0:Int) (-1) (X:Int));obtain⟨v,hv⟩:=Ab ((decide (55296<=(X:Int))&&decide ((X:Int)<=57343)));rw[<-hz]at d0;rw[<-hv]at y0;have I:okF i b t=(q&&z && !v):=by
        unfold okF okR;rw[<-hf.out];simp only;rw[<-k0.out,<-hT.out,<-hX,<-hq,hz,hv,show (b.toNat / d==q')=true from beq_iff_eq.2 (J.out.1 hA)];unfold inB;have e1:(55296<=(X:Int))↔55296<=X:=by omega
        have e2:((X:Int)<=57343)↔X<=57343:=by omega
        have e3:((X:Int) != -1)=true:=bne_iff_ne.2 (by omega);simp only[e1,e2,e3,Int.ofNat_le,hk,decide_true,Bool.true_and,Bool.and_true,Bool.and_assoc]
       replace d0:=Aa d0;replace y0:=Aa y0;replace I:=Aa I;replace hX:=Aa hX;replace hq:=Aa hq;replace hz:=Aa hz;replace hv:=Aa hv;replace U:=Aa U;have d3:=x0.out;cases q
       ·go_wp2_with fail
        case roundEnd =>
         refine⟨⟨i+1,rfl,by omega,g0,fun j' q2=>?_⟩,by simp only[intOf];omega⟩;by_cases h:j'<i
         ·exact Y.out j' h
         ·obtain rfl:j'=i:=by omega
          exact I.out
       ·go_wp2_with fail;refine(d0.out _).mono ?_;rintro e w2 ⟨rfl,j0⟩;cases z
        ·go_wp2_with fail
         case roundEnd =>
          refine⟨⟨i+1,rfl,by omega,(g0.trans j0),fun j' q2=>?_⟩,by simp only[intOf];omega⟩;by_cases h:j'<i
          ·exact Y.out j' h
          ·obtain rfl:j'=i:=by omega
           exact I.out
        ·go_wp2_with fail;refine(y0.out _).mono ?_;rintro e w3 ⟨rfl,rfl⟩;cases v
         ·have q0:=Nw hi f1 Y.out I.out;rw[<-hf.out,<-k0.out,<-hR.out]at q0;simp only at q0;rw[<-hT.out,<-hX.out]at q0;obtain⟨R1,R2⟩:=R;simp only[Prod.mk.injEq]at q0;obtain⟨rfl,rfl⟩:=q0;have z3:=Row.ext x2 j0;have f3:=z3.get;go_wp2_with fail;go_quiet (fail);go_wp2_with fail;go_ret2;exact⟨rfl,(g0.trans j0).drewN _⟩
         ·go_wp2_with fail
          case roundEnd =>
           refine⟨⟨i+1,rfl,by omega,(g0.trans j0),fun j' q2=>?_⟩,by simp only[intOf];omega⟩;by_cases h:j'<i
           ·exact Y.out j' h
           ·obtain rfl:j'=i:=by omega
            exact I.out
    ·have y3:¬ ((k:Int)+1)<=(l.length:Int) - (at_:Int):=by have:=i0.out;omega
     have a:okF i b t=false:=by
      unfold okF okR;rw[<-hf.out];simp[hk]
     replace a:=Aa a;replace H:=Aa H;go_wp2_with fail
     case roundEnd =>
      refine⟨⟨i+1,rfl,by omega,(hE.alloc _),fun j hj=>?_⟩,by simp only[intOf];omega⟩;by_cases h:j<i
      ·exact Y.out j h
      ·obtain rfl:j=i:=by omega
       exact a.out
   ·have a:okF i b t=false:=by
     unfold okF;rw[<-hf.out];have:¬ b.toNat / d=q':=fun h=>hA (J.2 h);simp[this]
    replace a:=Aa a;replace J:=Aa J;replace H:=Aa H;go_wp2_with fail
    case roundEnd =>
     refine⟨⟨i+1,rfl,by omega,(hE.alloc _),fun j hj=>?_⟩,by simp only[intOf];omega⟩;by_cases h:j<i
     ·exact Y.out j h
     ·obtain rfl:j=i:=by omega
      exact a.out
  ·obtain rfl:i=3:=by omega
   have d1:R=(65533,1):=by
    rw[hR.out];exact Ny f1 Y.out
   obtain⟨R1,R2⟩:=R;simp only[Prod.mk.injEq]at d1;obtain⟨rfl,rfl⟩:=d1;go_wp2_with fail
   all_goals
    go_ret2;exact⟨rfl,hE⟩
theorem K5 (l:List UInt8) (at_:Nat) (w:World) (j:at_<l.length) (J:l.length<=1073741824) :
 Calls prog 194 #[.string ⟨l.toArray⟩,.int .i64 (at_:Int)] w fun e w'=>e = .returned (.tuple #[.int .i64 (decR (l.drop at_)).1,.int .i64 (decR (l.drop at_)).2])/\Ext w w':=by
 obtain⟨b,hb⟩:∃b,l[at_]? = some b:=⟨_,List.getElem?_eq_getElem j⟩
 by_cases a:b.toNat<128
 ·have h:decR (l.drop at_)=(b.toNat,1):=by
   rw[List.drop_eq_getElem_cons j,(List.getElem?_eq_some_iff.1 hb).2,decR,if_pos a]
  rw[h];have Y:=fun W=>AB hb (z:=(at_:Int)) rfl W;have H:(b.toNat:Int)<128:=by omega
  replace hb:=Aa hb;replace h:=Aa h
  go_in
  go_wp2_with fail
  all_goals
   go_ret2;exact⟨rfl,Ext.refl w⟩
 ·exact J2 l at_ b w hb J a
theorem FY:Elem prog 43 3 1 8:=⟨underlying43,⟨_,_,rfl,rfl,rfl,rfl,rfl⟩,by omega,by omega⟩
def NV (n:Nat):Value:= .int .i64 (n:Int)
def NewN (w:World) (l:List Nat) (e:Ending) (w':World):Prop:=∃A c,e = .returned (.slice A l.length c)/\Buf w' w.heap.size 3 A l.length c (l.map NV)/\Ext w w'
theorem OA (l:List UInt8) (w:World) (hl:l.length<=1073741824) :
 Calls prog 173 #[.string ⟨l.toArray⟩] w (NewN w (runesL l)):=by
 have a:=Aa (fun at_ W (h:at_<l.length)=>K5 l at_ W h hl);obtain⟨n,hn⟩:=Ab l.length;have hlen:(⟨l.toArray⟩:ByteArray).size=n:=by rw[hn];exact ByteArray.size_mk_toArray l
 rw[<-hn]at hl a;replace hn:=Aa hn
 go_in
 go_wp2_with fail
 go_loopw [3,4] (fun s3 s4 wr=>∃(at_ c:Nat) (A:Option Addr) (D:List Nat),s3 = .slice A D.length c/\s4 = .int .i64 (at_:Int)/\at_<=n/\D.length<=at_/\Hid (runesL l=D++runesL (l.drop at_))/\Hid (Buf wr w.heap.size 3 A D.length c (D.map NV))/\Hid (Ext w wr)) (fun _ s4 _=>n - (intOf s4).toNat)
 case atStart=>exact⟨0,0,none,[],rfl,rfl,by omega,by simp,Aa rfl,Aa (Buf.nil _ _ _),Aa (Ext.refl w)⟩
 case round =>
  obtain⟨at_,c,A,D,rfl,rfl,j0,hD,Y,hb,hE⟩:=hrel;by_cases h:at_<n
  ·have j:=I3 (s:=l) (at_:=at_) (by rw[<-hn.out];exact h);obtain⟨r,U⟩:=Ab ((decR (l.drop at_)).1);obtain⟨k,hk⟩:=Ab ((decR (l.drop at_)).2);rw[<-U,<-hk,<-hn.out]at j;have J:=Aa j.1;have p0:=j.2.1;have k0:=j.2.2;clear j;have hd:=Aa (fun W=>a.out at_ W h);rw[<-U,<-hk]at hd;replace U:=Aa U;replace hk:=Aa hk;go_wp2_with fail;refine(hd.out _).mono ?_;rintro e w2 ⟨rfl,H⟩;have Z:=Aa (hb.out.ext H);have b:=hE.out.trans H;have I:=b.size;replace b:=Aa b;go_wp2_with (at_builtin;refine Au FY Z.out (.tmp 17) (.tmp 19) rfl rfl rfl rfl (Az rfl) (by simp;omega) I (fun A3 c3 w4 G T=>?_));go_roundw
   case rel=>exact⟨at_+k,c3,A3,D ++ [r],by simp,by simp,by omega,by simp;omega,Aa (by rw[Y.out,J.out];simp),Aa (by simpa [NV]using G),Aa (T w b.out (Nat.le_refl _))⟩
   case measure=>simp[intOf];omega
  ·obtain rfl:at_=n:=by omega
   have O:D=runesL l:=by
    rw[Y.out,List.drop_eq_nil_of_le (by rw[<-hn.out];exact Nat.le_refl _),Hm,List.append_nil]
   subst O;go_wp2_with fail;go_ret;exact⟨A,c,rfl,hb.out,hE.out⟩
def risB (n:Int):Int->List Int->Bool
 | _,[]=>true
 | lo,x::t=>decide (lo<x)&&decide (x<n)&&risB n x t
def IV (x:Int):Value:= .int .i64 x
def idV:Value:= .func (.func 121) #[] #[]
theorem QL (x:Int) (w:World):Calls prog 121 #[.int .i64 x] w fun e w'=>e = .returned (.int .i64 x)/\w'=w:=by
 go_in
 go_wp2;go_ret;exact⟨rfl,rfl⟩
theorem KF (xs:List Int) (A:Option Addr) (m c:Nat) (n:Int) (w:World) (U:m=xs.length) (G:Cells w A (xs.map IV)) (p0:m<=1000000000) :
 Calls prog 120 #[.slice A m c,.int .i64 n,idV] w fun e w'=>e = .returned (.bool (risB n (-1) xs))/\Ext w w':=by
 unfold idV;have I:=Aa (fun x W=>QL x W);obtain⟨Z,O⟩:=Ab (risB n (-1) xs);rw[<-O];replace O:=Aa O;replace G:=Aa G;replace U:=Aa U
 go_in
 go_wp2_with fail
 go_loopw [7,13] (fun s7 s13 wr=>∃(i:Nat) (p:Int),s7 = .int .i64 p/\s13 = .int .i64 (i:Int)/\i<=m/\Hid (Z=risB n p (xs.drop i))/\wr=w) (fun _ s13 _=>m - (intOf s13).toNat)
 case atStart=>exact⟨0,-1,rfl,rfl,by omega,Aa (by rw[O.out];rfl),rfl⟩
 case round =>
  obtain⟨i,p,rfl,rfl,hi,J,rfl⟩:=hrel;by_cases h:i<m
  ·obtain⟨x,b⟩:∃x,xs[i]? = some x:=⟨_,List.getElem?_eq_getElem (by rw[<-U.out];exact h)⟩
   obtain⟨g,o,hA,H⟩:=G.out.at_ (by rw[List.length_map,<-U.out];omega);subst hA;have h0:=H i (IV x) (by rw[List.getElem?_map,b];rfl);unfold IV at h0;have Y:xs.drop i=x::xs.drop (i+1):=by
    rw[List.drop_eq_getElem_cons (List.getElem?_eq_some_iff.1 b).1];congr 1;exact(List.getElem?_eq_some_iff.1 b).2
   have j:=J.out;rw[Y,risB]at j;have a:=Aa (fun W=>I.out x W);replace H:=Aa H;replace b:=Aa b;replace Y:=Aa Y;by_cases h1:p<x
   ·by_cases h2:x<n
    ·rw[decide_eq_true h1,decide_eq_true h2,Bool.true_and,Bool.true_and]at j;replace j:=Aa j;go_wp2_with fail;refine(a.out _).mono ?_;rintro e w2 ⟨rfl,rfl⟩;go_wp2_with fail;exact⟨⟨i+1,x,rfl,rfl,by omega,j,trivial⟩,by simp only[intOf];omega⟩
    ·rw[decide_eq_true h1,decide_eq_false h2,Bool.true_and,Bool.false_and]at j;subst j;go_wp2_with fail;refine(a.out _).mono ?_;rintro e w2 ⟨rfl,rfl⟩;go_wp2_with fail;go_ret;exact⟨rfl,Ext.refl _⟩
   ·rw[decide_eq_false h1,Bool.false_and,Bool.false_and]at j;subst j;go_wp2_with fail;refine(a.out _).mono ?_;rintro e w2 ⟨rfl,rfl⟩;go_wp2_with fail;go_ret;exact⟨rfl,Ext.refl _⟩
  ·obtain rfl:i=m:=by omega
   have T:Z=true:=by rw[J.out,List.drop_eq_nil_of_le (by rw[<-U.out];exact Nat.le_refl _),risB]
   subst T;go_wp2_with fail;go_ret;exact⟨rfl,Ext.refl _⟩
end
section
def chunkL {α:Type} (k:Nat) (l:List α):List (List α):=if h:l = []\/k=0 then [] else l.take k::chunkL k (l.drop k)
termination_by l.length
decreasing_by
 rw[List.length_drop];have:0<l.length:=List.length_pos_iff.2 (fun e=>h (.inl e));omega
section
variable {α:Type} {k:Nat}
theorem Eo:chunkL k ([]:List α) = []:=by rw[chunkL,dif_pos (.inl rfl)]
theorem BE {l:List α} (j:l ≠ []) (hk:0<k):chunkL k l=l.take k::chunkL k (l.drop k):=by rw[chunkL,dif_neg (fun h=>h.elim j (by omega))]
theorem DB (hk:0<k) (l:List α):(chunkL k l).flatMap id=l:=by
 by_cases h:l = []
 ·rw[h,Eo];rfl
 ·have:0<l.length:=List.length_pos_iff.2 h;rw[BE h hk,List.flatMap_cons,DB hk (l.drop k)];exact List.take_append_drop k l
termination_by l.length
decreasing_by rw[List.length_drop];omega
theorem AO (hk:0<k) (l:List α):(chunkL k l).length=(l.length+k - 1) / k:=by
 by_cases h:l = []
 ·rw[h,Eo];symm;exact Nat.div_eq_of_lt (by simp;omega)
 ·have j:0<l.length:=List.length_pos_iff.2 h;rw[BE h hk,List.length_cons,AO hk (l.drop k),List.length_drop];rcases Nat.lt_or_ge k l.length with h1 | h1
  ·rw[show l.length+k - 1=(l.length - k+k - 1)+k by omega,Nat.add_div_right _ hk]
  ·rw[show l.length - k+k - 1=k - 1 by omega,Nat.div_eq_of_lt (by omega),show l.length+k - 1=(l.length - 1)+k by omega,Nat.add_div_right _ hk,Nat.div_eq_of_lt (by omega)]
termination_by l.length
decreasing_by rw[List.length_drop];omega
theorem BQ (hk:0<k):∀(i:Nat) (l:List α),i*k<l.length->(chunkL k l)[i]? = some ((l.drop (i*k)).take k)
 | 0,l,h=>by
  have:l ≠ []:=fun e=>by rw[e]at h;simp at h
  rw[BE this hk];simp
 | i+1,l,h=>by
  have j:l ≠ []:=fun e=>by rw[e]at h;simp at h
  rw[BE j hk,List.getElem?_cons_succ,BQ hk i (l.drop k) (by rw[List.length_drop];rw[Nat.succ_mul]at h;omega),List.drop_drop];congr 3;rw[Nat.succ_mul];omega
theorem Cb (hk:0<k) (i:Nat) (l:List α) (h:l.length<=i*k):(chunkL k l).length<=i:=by
 rw[AO hk,Nat.div_le_iff_le_mul_add_pred hk,Nat.mul_comm];omega
theorem Fz (hk:0<k) {l b:List α} (hb:b∈chunkL k l):b ≠ []/\b.length<=k:=by
 by_cases h:l = []
 ·rw[h,Eo]at hb;cases hb
 ·have j:0<l.length:=List.length_pos_iff.2 h;rw[BE h hk]at hb;rcases List.mem_cons.1 hb with rfl | hb
  ·refine⟨fun e=>?_,List.length_take_le ..⟩;have:=congrArg List.length e;rw[List.length_take,List.length_nil]at this;omega
  ·exact Fz hk hb
termination_by l.length
decreasing_by rw[List.length_drop];omega
theorem GB (hk:0<k) {l b:List α} (hb:b∈chunkL k l):∀x∈b,x∈l:=by
 intro x h;rw[<-DB hk l];exact List.mem_flatMap.2 ⟨b,hb,h⟩
theorem BF (hk:0<k) (l:List α):∀i,((chunkL k l).take i).flatMap id=l.take (i*k)
 | 0=>by simp
 | i+1=>by
  rcases Nat.lt_or_ge (i*k) l.length with h | h
  ·have j:=BQ hk i l h;have hi:=(List.getElem?_eq_some_iff.1 j)
   rw[List.take_add_one,j,List.flatMap_append,BF hk l i];show _ ++ [(l.drop (i*k)).take k].flatMap id=_;rw[List.flatMap_cons,List.flatMap_nil,List.append_nil];show _++(l.drop (i*k)).take k=_;rw[Nat.succ_mul,List.take_add]
  ·have h1:=Cb hk i l h;rw[List.take_of_length_le (by omega),DB hk,List.take_of_length_le (by rw[Nat.succ_mul];omega)]
end
end
section
def vb (n:Nat):List UInt8:=if _h:n<128 then [UInt8.ofNat n] else UInt8.ofNat (n%128+128)::vb (n / 128)
termination_by n
decreasing_by omega
theorem Gn (h:n<128):vb n = [UInt8.ofNat n]:=by rw[vb,dif_pos h]
theorem Je (h:¬ n<128):vb n=UInt8.ofNat (n%128+128)::vb (n / 128):=by rw[vb,dif_neg h]
theorem FV:∀(k n:Nat),n<128^k->(vb n).length<=max k 1
 | 0,n,h=>by
  have:n=0:=by simpa using h
  subst this;rw[Gn (by omega)];simp
 | k+1,n,h=>by
  by_cases hn:n<128
  ·rw[Gn hn];simp
  ·rw[Je hn,List.length_cons];have ih:=FV k (n / 128) (by rw[Nat.pow_succ]at h;omega);have:1<=k:=by
    rcases Nat.eq_zero_or_pos k with rfl | hk
    ·simp at h;omega
    ·exact hk
   omega
theorem Ag (h:n<18446744073709551616):(vb n).length<=10:=FV 10 n (by omega)
theorem Qi (n:Nat):1<=(vb n).length:=by
 by_cases hn:n<128
 ·rw[Gn hn];simp
 ·rw[Je hn];simp
def getV (i:Nat):List UInt8->Except Nat (Nat×List UInt8)
 | []=> .error 6
 | x::l=>if 10<=i then .error 6 else if (i=9/\1<x.toNat)\/(0<i/\x.toNat=0) then .error 20 else
  if x.toNat<128 then .ok (x.toNat,l) else match getV (i+1) l with
   | .ok (n,r)=> .ok (x.toNat - 128+128*n,r)
   | .error e=> .error e
theorem Ck:∀(l:List UInt8) (i n:Nat) (r:List UInt8),getV i l = .ok (n,r)->i<=9/\n<2*128^(9 - i)/\∃p,l=p++r/\p ≠ []
 | [],i,n,r,h=>by simp[getV]at h
 | x::l,i,n,r,h=>by
  unfold getV at h;by_cases b:10<=i
  ·rw[if_pos b]at h;cases h
  rw[if_neg b]at h;by_cases hb:(i=9/\1<x.toNat)\/(0<i/\x.toNat=0)
  ·rw[if_pos hb]at h;cases h
  rw[if_neg hb]at h;have O:=x.toNat_lt;by_cases j:x.toNat<128
  ·rw[if_pos j]at h;injection h with h;injection h with h1 h2;subst h1 h2;refine⟨by omega,?_,[x],rfl,by simp⟩;by_cases a:i=9
   ·subst a;simp only[Nat.sub_self,Nat.pow_zero];omega
   ·have:128^1<=128^(9 - i):=Nat.pow_le_pow_right (by omega) (by omega);omega
  ·rw[if_neg j]at h;split at h
   ·rename_i m r' H;injection h with h;injection h with h1 h2;subst h1 h2;obtain⟨J,U,p,Y,_⟩:=Ck l (i+1) m r' H;refine⟨by omega,?_,x::p,by rw[Y];rfl,by simp⟩;have:9 - i=(9 - (i+1))+1:=by omega
    rw[this,Nat.pow_succ];omega
   ·cases h
theorem Ct (h:getV 0 l = .ok (n,r)):n<18446744073709551616:=by
 have:=(Ck l 0 n r h).2.1;omega
theorem MY:∀(k i n:Nat) (r:List UInt8),k+i=9->n<2*128^k->(0<i->0<n)->getV i (vb n++r) = .ok (n,r)
 | k,i,n,r,hk,hn,H=>by
  by_cases b:n<128
  ·rw[Gn b];have a:(UInt8.ofNat n).toNat=n:=by rw[UInt8.toNat_ofNat'];omega
   show getV i (UInt8.ofNat n::r)=_;unfold getV;rw[if_neg (by omega),a,if_neg,if_pos b];rintro(⟨rfl,h1⟩ | ⟨h1,h2⟩)
   ·obtain rfl:k=0:=by omega
    simp at hn;omega
   ·have:=H h1;omega
  ·rw[Je b];have a:(UInt8.ofNat (n%128+128)).toNat=n%128+128:=by rw[UInt8.toNat_ofNat'];omega
   show getV i (UInt8.ofNat (n%128+128)::(vb (n / 128)++r))=_;have Y:1<=k:=by
    rcases Nat.eq_zero_or_pos k with rfl | h
    ·simp at hn;omega
    ·exact h
   obtain⟨k,rfl⟩:∃j,k=j+1:=⟨k - 1,by omega⟩
   have ih:=MY k (i+1) (n / 128) r (by omega) (by rw[Nat.pow_succ]at hn;omega) (fun _=>by omega);unfold getV;rw[if_neg (by omega),a,if_neg (by omega),if_neg (by omega),ih];simp only;rw[show n%128+128 - 128+128*(n / 128)=n by omega]
theorem BD (h:n<18446744073709551616) (r:List UInt8):getV 0 (vb n++r) = .ok (n,r):=MY 9 0 n r rfl (by omega) (by omega)
def zig (n:Int):Nat:=if 0<=n then 2*n.toNat else 2*(-1 - n).toNat+1
def unzig (u:Nat):Int:=if u%2=0 then ((u / 2:Nat):Int) else -1 - ((u / 2:Nat):Int)
theorem OR (n:Int):unzig (zig n)=n:=by
 unfold unzig zig;split <;> split <;> omega
theorem CM {n:Int} (h1 : -9223372036854775808<=n) (h2:n<=9223372036854775807):zig n<18446744073709551616:=by
 unfold zig;split <;> omega
theorem K6 {u:Nat} (h:u<18446744073709551616) : -9223372036854775808<=unzig u/\unzig u<=9223372036854775807:=by
 unfold unzig;split <;> omega
def vall (l:List Int):List UInt8:=l.flatMap fun n=>vb (zig n)
end
section
abbrev Po:=Int×List Int
def okPs (l:List Po):Bool:=risB 65536 (-1) (l.map (·.1))&&l.all fun p=>decide (0<p.2.length)&&risB 1048576 (-1) p.2
def stepsL:Int->List Int->List UInt8
 | _,[]=> []
 | last,n::t=>vb (n - last - 1).toNat++stepsL n t
def onePo (last:Int) (p:Po):List UInt8:=vb (p.1 - last - 1).toNat++vb p.2.length++stepsL (-1) p.2
def blockPo:Int->List Po->List UInt8
 | _,[]=> []
 | last,p::t=>onePo last p++blockPo p.1 t
def lastPo:Int->List Po->Int
 | last,[]=>last
 | _,p::t=>lastPo p.1 t
def headPo:Int->List (List Po)->List UInt8
 | _,[]=> []
 | last,b::bs=>vb (lastPo last b).toNat++vb (blockPo last b).length++headPo (lastPo last b) bs
def encPs (l:List Po):List UInt8:=vb l.length++headPo (-1) (chunkL 32 l)++blockPo (-1) l
theorem Be:∀(a b:List Po) (last:Int),blockPo last (a++b)=blockPo last a++blockPo (lastPo last a) b
 | [],b,last=>rfl
 | p::t,b,last=>by
  show onePo last p++blockPo p.1 (t++b)=_;rw[Be t b];show _=(onePo last p++blockPo p.1 t)++blockPo (lastPo p.1 t) b;rw[List.append_assoc]
theorem CD:∀(a b:List Po) (last:Int),lastPo last (a++b)=lastPo (lastPo last a) b
 | [],b,last=>rfl
 | p::t,b,last=>CD t b p.1
theorem Ew:∀(a b:List (List Po)) (last:Int),headPo last (a++b)=headPo last a++headPo (lastPo last (a.flatMap id)) b
 | [],b,last=>rfl
 | p::t,b,last=>by
  show vb (lastPo last p).toNat++vb (blockPo last p).length++headPo (lastPo last p) (t++b)=_;rw[Ew t b,List.flatMap_cons];show _=(vb (lastPo last p).toNat++vb (blockPo last p).length++headPo (lastPo last p) t)++headPo (lastPo last (p++t.flatMap id)) b;rw[CD,List.append_assoc _ _ (headPo _ b)]
theorem HC:∀(a:List Int) (x last:Int),stepsL last (a ++ [x])=stepsL last a++vb (x - (a.getLast?.getD last) - 1).toNat
 | [],x,last=>by simp[stepsL]
 | y::t,x,last=>by
  show vb _++stepsL y (t ++ [x])=_;rw[HC t x y];have:(y::t).getLast?.getD last=t.getLast?.getD y:=by
   cases t with
   | nil=>rfl
   | cons z u=>rw[List.getLast?_cons_cons];cases h:(z::u).getLast? with
    | none=>simp at h
    | some v=>rfl
  rw[this];show _=(vb _++stepsL y t)++_;rw[List.append_assoc]
theorem UN {n:Int}:∀ {l:List Int} {lo:Int},risB n lo l=true->∀x∈l,lo<x/\x<n
 | [],lo,_=>nofun
 | y::t,lo,h=>by
  unfold risB at h;rw[Bool.and_eq_true,Bool.and_eq_true]at h;have h1:=of_decide_eq_true h.1.1;have h2:=of_decide_eq_true h.1.2;intro x j;rcases List.mem_cons.1 j with rfl | j
  ·exact⟨h1,h2⟩
  ·have:=UN h.2 x j;omega
theorem DU {n:Int}:∀ {l:List Int} {lo:Int},risB n lo l=true->lo<n->(l.length:Int)<n - lo
 | [],lo,_,h=>by simp;omega
 | y::t,lo,h,_=>by
  unfold risB at h;rw[Bool.and_eq_true,Bool.and_eq_true]at h;have h1:=of_decide_eq_true h.1.1;have h2:=of_decide_eq_true h.1.2;have:=DU h.2 h2;rw[List.length_cons];omega
theorem Qj (h:n<128^k) (hk:1<=k):(vb n).length<=k:=by
 have:=FV k n h;omega
theorem HD:∀ {l:List Int} {lo:Int},risB 1048576 lo l=true -> -1<=lo->(stepsL lo l).length<=3*l.length
 | [],lo,_,_=>by simp[stepsL]
 | y::t,lo,h,b=>by
  unfold risB at h;rw[Bool.and_eq_true,Bool.and_eq_true]at h;have h1:=of_decide_eq_true h.1.1;have h2:=of_decide_eq_true h.1.2;have ih:=HD h.2 (by omega);have j:(128:Nat)^3=2097152:=by decide
  have a:=Qj (n:=(y - lo - 1).toNat) (k:=3) (by omega) (by omega);show (vb _++stepsL y t).length<=_;rw[List.length_append,List.length_cons];omega
end
section
open Go.ChangeShapes Go.WideShapes Go.Deep Go.RowKit
theorem Jh {a:Addr} (h:w.cell? a=some v):a.block<w.heap.size/\a.spot=none:=by
 unfold World.cell? at h;split at h
 ·rename_i c _ _ hb;refine⟨(Array.getElem?_eq_some_iff.1 hb).1,?_⟩;cases hs:a.spot with
  | none=>rfl
  | some s=>rw[hs]at h;simp at h
 ·cases h
theorem M3 {α:Type} {Q:Nat->α->Prop}:∀(n:Nat),(∀i,i<n->∃x,Q i x)->∃l:List α,l.length=n/\∀i x,l[i]? = some x->Q i x
 | 0,_=>⟨[],rfl,fun i x h=>by simp at h⟩
 | n+1,h=>by
  obtain⟨l,b,a⟩:=M3 n fun i hi=>h i (by omega);obtain⟨x,H⟩:=h n (by omega);refine⟨l ++ [x],by simp[b],fun i y j=>?_⟩;rw[List.getElem?_append]at j;split at j
  ·exact a i y j
  ·rename_i hi;have:i=n:=by
    have:=(List.getElem?_eq_some_iff.1 j).1;simp at this;omega
   subst this;rw[b]at j;simp at j;rw[<-j];exact H
section
variable {H:Type} {enc:TypeId×Value->H} {w:World} {base:Nat} {spare:Nat->Bool} {held:Bool}
end
end
section
open Go.ChangeShapes Go.WideShapes Go.Deep Go.RowKit
section
variable {H:Type} {enc:TypeId×Value->H} {w:World} {base:Nat} {spare:Nat->Bool} {held:Bool}
theorem AU {α:Type} {cellsA:α->List Value} (hlen:∀x,(cellsA x).length=k):∀xs:List α,(xs.flatMap cellsA).length=xs.length*k
 | []=>by simp
 | x::xs=>by rw[List.flatMap_cons,List.length_append,hlen,AU hlen xs,List.length_cons,Nat.add_mul,Nat.one_mul,Nat.add_comm]
theorem AW {α:Type} {cellsA:α->List Value} (hlen:∀x,(cellsA x).length=k):∀(xs:List α) (i:Nat) (x:α) (j:Nat),xs[i]? = some x->j<k->(xs.flatMap cellsA)[i*k+j]? = (cellsA x)[j]?
 | [],i,x,j,h,_=>by simp at h
 | y::xs,0,x,j,h,b=>by
  obtain rfl:y=x:=by simpa using h
  rw[List.flatMap_cons,List.getElem?_append_left (by rw[hlen];omega),Nat.zero_mul,Nat.zero_add]
 | y::xs,i+1,x,j,h,b=>by
  have a:xs[i]? = some x:=by simpa using h
  rw[List.flatMap_cons,List.getElem?_append_right (by rw[hlen,Nat.add_mul,Nat.one_mul];omega),hlen,show (i+1)*k+j - k=i*k+j by rw[Nat.add_mul,Nat.one_mul];omega];exact AW hlen xs i x j a b
theorem IF {x:DataW H×List MemPlace} {α:Type} {cellsA:α->List Value} {Q:α->Prop} (ht:prog.underlying t=some (.slice e)) (hc:prog.cellsOf e=k) (I:0<k) (hlen:∀x,(cellsA x).length=k)
 (g0:∀(fuel:Nat) (cs:List Value) (y:DataW H×List MemPlace),cs.length=k->DataW.trod enc prog w base spare held fuel e cs=some y->∃x,Q x/\cellsA x=cs) (h:DataW.trod enc prog w base spare held fuel t [v]=some x) :
 ∃(A:Option Addr) (c:Nat) (xs:List α),v = .slice A xs.length c/\Cells w A (xs.flatMap cellsA)/\(xs ≠ []->∀a,A=some a->a.block<w.heap.size/\a.spot=none)/\xs.length<=c/\xs.length<=9223372036854775807/\∀x∈xs,Q x:=by
 rcases open_slice ht h with ⟨T,_⟩ | ⟨a,m,c,k',n,D,Pl,T,hb,hl,hm,hk,hx,hi⟩
 ·obtain rfl:v = .slice none 0 0:=by simpa using T
  exact⟨none,0,[],rfl,.inl rfl,fun h=>absurd rfl h,Nat.le_refl _,by show 0<=_;omega,nofun⟩
 ·obtain rfl:v = .slice (some a) m c:=by simpa using T
  rw[hc]at hi;have c0:m<=k':=by rw[hk];split <;> omega
  obtain⟨xs,t0,p0⟩:=M3 (Q:=fun i (p:α)=>Q p/\∀j v,(cellsA p)[j]? = some v->w.cell? ((a.add (i*k)).add j)=some v) m fun i J=>by
   obtain⟨cs,hc,ht⟩:=hi i (by omega);obtain⟨_,j0,U⟩:=World.cells?_some hc;obtain⟨p,hp,rfl⟩:=g0 _ _ _ j0 ht;exact⟨p,hp,fun j v Z=>by rw[U j (by have:=(List.getElem?_eq_some_iff.1 Z).1;omega)];exact Z⟩
  subst t0;have U:∀i v,(xs.flatMap cellsA)[i]? = some v->w.cell? (a.add i)=some v:=fun i v Z=>by
   have J:i<(xs.flatMap cellsA).length:=(List.getElem?_eq_some_iff.1 Z).1;rw[AU hlen]at J;have O:i / k<xs.length:=Nat.div_lt_of_lt_mul (by rw[Nat.mul_comm];exact J);have hg:=AW hlen xs (i / k) xs[i / k] (i%k) (List.getElem?_eq_getElem O) (Nat.mod_lt _ I);have G:i / k*k+i%k=i:=Nat.div_add_mod' i k;rw[G,Z]at hg;have:=(p0 (i / k) _ (List.getElem?_eq_getElem O)).2 (i%k) v hg.symm;rw[Addr.add_add,G]at this;exact this
  have q0:xs ≠ []->a.block<w.heap.size/\a.spot=none:=fun Y=>by
   have h0:0<(xs.flatMap cellsA).length:=by
    rw[AU hlen];exact Nat.mul_pos (List.length_pos_iff.2 Y) I
   have:=U 0 _ (List.getElem?_eq_getElem h0);have:=Jh this;simpa [Addr.add]using this
  refine⟨some a,c,xs,rfl,?_,fun Y b hb=>by cases hb;exact q0 Y,hl,by unfold maxLen at hm;omega,fun p hp=>?_⟩
  ·by_cases Y:xs = []
   ·rw[Y];exact .inl rfl
   ·obtain⟨b,o,s⟩:=a;obtain rfl:s=none:=(q0 Y).2;exact .inr ⟨b,o,rfl,fun i v Z=>by have:=U i v Z;rw[Addr.add_lit]at this;exact this⟩
  ·obtain⟨i,J,rfl⟩:=List.mem_iff_getElem.1 hp;exact(p0 i _ (List.getElem?_eq_getElem J)).1
end
section
variable {H:Type} {enc:TypeId×Value->H}
end
end
section
open Go.RowKit
structure PoC where
  doc:Int
  pos:List Int
  A:Option Addr
  c:Nat
def PoC.val (x:PoC):Value:= .agg #[.int .i64 x.doc,.slice x.A x.pos.length x.c]
def PoC.cells (x:PoC):List Value:= [.int .i64 x.doc,.slice x.A x.pos.length x.c]
def PoC.po (x:PoC):Po:=(x.doc,x.pos)
def pcells (l:List PoC):List Value:=l.flatMap PoC.cells
theorem G9 (l:List PoC):(pcells l).length=l.length*2:=AU (cellsA:=PoC.cells) (k:=2) (fun _=>rfl) l
theorem G8 {l:List PoC} {x:PoC} (h:l[i]? = some x) {j:Nat} (b:j<2):(pcells l)[i*2+j]? = x.cells[j]? :=AW (cellsA:=PoC.cells) (k:=2) (fun _=>rfl) l i x j h b
theorem Bc {l:List PoC} (h:Cells w A (pcells l)) {x:PoC} (j:l[i]? = some x):∃g o,A=some ⟨g,o,none⟩/\w.cell? ⟨g,o+i*2,none⟩=some (.int .i64 x.doc)/\w.cell? ⟨g,o+i*2+1,none⟩=some (.slice x.A x.pos.length x.c):=by
 obtain⟨g,o,a,b⟩:=h.at_ (by rw[G9];have:=(List.getElem?_eq_some_iff.1 j).1;omega);refine⟨g,o,a,?_,?_⟩
 ·have:=b (i*2+0) _ (by rw[G8 j (by omega)];rfl);exact this
 ·have:=b (i*2+1) _ (by rw[G8 j (by omega)];rfl);exact this
structure PosOk (w:World) (A:Option Addr) (l:List PoC):Prop where
  cells:Cells w A (pcells l)
  each:∀x∈l,Cells w x.A (x.pos.map IV)/\x.pos.length<=1000000000
theorem PosOk.ext {l:List PoC} (h:PosOk w A l) (j:Ext w w1):PosOk w1 A l:=⟨h.cells.ext j,fun x b=>⟨(h.each x b).1.ext j,(h.each x b).2⟩⟩
theorem PosOk.nil (w:World) (A:Option Addr):PosOk w A []:=⟨.inl rfl,nofun⟩
def docV:Value:= .func (.func 119) #[] #[]
theorem O9 (x:PoC) (w:World):Calls prog 119 #[x.val] w fun e w'=>e = .returned (.int .i64 x.doc)/\Ext w w':=by
 obtain⟨d,p,A,c⟩:=x;unfold PoC.val
 go_in
 go_wp2;go_ret;exact⟨rfl,(Ext.refl w).alloc _⟩
theorem KG (ps:List PoC) (A:Option Addr) (m c:Nat) (n:Int) (w:World) (T:m=ps.length) (hc:Cells w A (pcells ps)) (g0:m<=1000000000) :
 Calls prog 118 #[.slice A m c,.int .i64 n,docV] w fun e w'=>e = .returned (.bool (risB n (-1) (ps.map (·.doc))))/\Ext w w':=by
 unfold docV;have k0:=Aa (fun x W=>O9 x W);obtain⟨Z,O⟩:=Ab (risB n (-1) (ps.map (·.doc)));rw[<-O];replace O:=Aa O;replace hc:=Aa hc;replace T:=Aa T
 go_in
 go_wp2_with fail
 go_loopw [7,13] (fun s7 s13 wr=>∃(i:Nat) (p:Int),s7 = .int .i64 p/\s13 = .int .i64 (i:Int)/\i<=m/\Hid (Z=risB n p ((ps.drop i).map (·.doc)))/\Hid (Ext w wr)) (fun _ s13 _=>m - (intOf s13).toNat)
 case atStart=>exact⟨0,-1,rfl,rfl,by omega,Aa (by rw[O.out];rfl),Aa (Ext.refl w)⟩
 case round =>
  obtain⟨i,p,rfl,rfl,hi,U,G⟩:=hrel;by_cases h:i<m
  ·obtain⟨x,H⟩:∃x,ps[i]? = some x:=⟨_,List.getElem?_eq_getElem (by rw[<-T.out];exact h)⟩
   obtain⟨g,o,hA,q0,p0⟩:=Bc (hc.out.ext G.out) H;subst hA;have J:ps.drop i=x::ps.drop (i+1):=by
    rw[List.drop_eq_getElem_cons (List.getElem?_eq_some_iff.1 H).1];congr 1;exact(List.getElem?_eq_some_iff.1 H).2
   have j:=U.out;rw[J,List.map_cons,risB]at j;have a:=Aa (fun W=>k0.out x W);have Y:=Aa (fun W=>(G.out.alloc (.cells #[.int .i64 x.doc,.slice x.A x.pos.length x.c] W)));replace H:=Aa H;replace J:=Aa J;obtain⟨d,pos,B,cB⟩:=x;unfold PoC.val at a;simp only at q0 p0 j a Y;by_cases h1:p<d
   ·by_cases h2:d<n
    ·rw[decide_eq_true h1,decide_eq_true h2,Bool.true_and,Bool.true_and]at j;replace j:=Aa j;go_wp2_with fail;refine(a.out _).mono ?_;rintro e w2 ⟨rfl,b⟩;go_wp2_with fail;exact⟨⟨i+1,d,rfl,rfl,by omega,j,Aa ((Y.out _).trans b)⟩,by simp only[intOf];omega⟩
    ·rw[decide_eq_true h1,decide_eq_false h2,Bool.true_and,Bool.false_and]at j;subst j;go_wp2_with fail;refine(a.out _).mono ?_;rintro e w2 ⟨rfl,b⟩;go_wp2_with fail;go_ret;exact⟨rfl,(Y.out _).trans b⟩
   ·rw[decide_eq_false h1,Bool.false_and,Bool.false_and]at j;subst j;go_wp2_with fail;refine(a.out _).mono ?_;rintro e w2 ⟨rfl,b⟩;go_wp2_with fail;go_ret;exact⟨rfl,(Y.out _).trans b⟩
  ·obtain rfl:i=m:=by omega
   have I:Z=true:=by rw[U.out,List.drop_eq_nil_of_le (by rw[<-T.out];exact Nat.le_refl _),List.map_nil,risB]
   subst I;go_wp2_with fail;go_ret;exact⟨rfl,G.out⟩
def okPo (p:Po):Bool:=decide (0<p.2.length)&&risB 1048576 (-1) p.2
theorem Ed (l:List Po):okPs l=(risB 65536 (-1) (l.map (·.1))&&l.all okPo):=rfl
theorem HR {α:Type} {l:List α} {f:α->Bool} {x:α} (h:l[i]? = some x):(l.take (i+1)).all f=((l.take i).all f&&f x):=by
 obtain⟨hi,rfl⟩:=List.getElem?_eq_some_iff.1 h;rw[List.take_succ_eq_append_getElem hi,List.all_append];simp
theorem Ku (ps:List PoC) (A:Option Addr) (m c:Nat) (w:World) (hm:m=ps.length) (h:PosOk w A ps) (o0:m<=1000000000) :
 Calls prog 74 #[.slice A m c] w fun e w'=>e = .returned (.int .i64 (if okPs (ps.map PoC.po) then 0 else 80))/\Ext w w':=by
 have j0:=Aa (fun W G=>KG ps A m c 65536 W hm (Cells.ext h.cells G) o0);have c0:=Aa (fun xs A k c W h1 h2 h3=>KF xs A k c 1048576 W h1 h2 h3);obtain⟨R,hR⟩:=Ab (risB 65536 (-1) (ps.map (·.doc)));obtain⟨Z,hZ⟩:=Ab (if okPs (ps.map PoC.po) then 0 else 80:Int);have p0:okPs (ps.map PoC.po)=(R&&ps.all fun x=>okPo x.po):=by
  rw[Ed,List.map_map,hR,List.all_map];rfl
 rw[p0]at hZ;rw[p0,<-hZ];rw[<-hR]at j0;unfold docV at j0;unfold idV at c0;replace hZ:=Aa hZ;replace hR:=Aa hR;replace hm:=Aa hm;replace h:=Aa h;clear p0
 go_in
 go_wp2_with fail;refine(j0.out _ (Ext.refl w)).mono ?_;rintro e w1 ⟨rfl,f0⟩;go_wp2_with fail
 go_loopw [3,10] (fun s3 s10 wr=>∃(i:Nat) (b:Bool),s3 = .bool b/\s10 = .int .i64 (i:Int)/\i<=m/\Hid (b=(R&&(ps.take i).all fun x=>okPo x.po))/\Hid (Ext w wr)) (fun _ s10 _=>m - (intOf s10).toNat)
 case atStart=>exact⟨0,R,rfl,rfl,by omega,Aa (by simp),Aa f0⟩
 case round =>
  obtain⟨i,b,rfl,rfl,hi,hb,G⟩:=hrel;by_cases n0:i<m
  ·obtain⟨x,U⟩:∃x,ps[i]? = some x:=⟨_,List.getElem?_eq_getElem (by rw[<-hm.out];exact n0)⟩
   obtain⟨g,o,hA,l0,v0⟩:=Bc (h.out.cells.ext G.out) U;subst hA;have hx:=h.out.each x (List.mem_of_getElem? U);have g0:=HR (f:=fun x:PoC=>okPo x.po) U;obtain⟨W2,a⟩:=Ab (wr.alloc (.cells #[.int .i64 x.doc,.slice x.A x.pos.length x.c] 89));have Y:Ext w W2:=by rw[a];exact G.out.alloc _
   have T:=Aa (fun W G=>c0.out x.pos x.A x.pos.length x.c W rfl (Cells.ext hx.1 (Ext.trans Y G)) hx.2);have H:Row W2 wr.heap.size 89 #[.int .i64 x.doc,.slice x.A x.pos.length x.c]:=by rw[a];exact Row.new wr _ _
   have j:Hid (∀v:Bool,v=(b&&okPo x.po)->v=(R&&(ps.take (i+1)).all fun x=>okPo x.po)):=Aa (by
    intro v hv;rw[hv,hb.out,g0,Bool.and_assoc])
   have I:okPo x.po=(decide (0<x.pos.length)&&risB 1048576 (-1) x.pos):=rfl;rw[I]at j;have x0:=hx.2;replace g0:=Aa g0;replace hb:=Aa hb;replace U:=Aa U;replace hx:=Aa hx;clear I;obtain⟨d,pos,B,cB⟩:=x;simp only at l0 v0 T j H x0 a;obtain⟨pl,k0⟩:=Ab pos.length;rw[<-k0]at v0 T j H x0 a;replace k0:=Aa k0;obtain⟨g2,J⟩:=Ab wr.heap.size;rw[<-J]at H;have r0:=H.cell 0 rfl;have r1:=H.cell 1 rfl;replace H:=Aa H;replace J:=Aa J;replace Y:=Aa Y;replace a:=Aa a;cases b with
   | false =>
    have hv:=Aa (j.out false rfl);clear j;go_upto_region 5 with fail;rw[<-a.out,<-J.out];go_wp2_with fail;exact⟨⟨i+1,false,rfl,rfl,by omega,hv,Y⟩,by simp only[intOf];omega⟩
   | true =>
    by_cases h0:0<pl
    ·obtain⟨v,t0⟩:=Ab (risB 1048576 (-1) pos);rw[<-t0]at T j;have hv:=Aa (j.out v (by rw[decide_eq_true h0,Bool.true_and,Bool.true_and]));clear j;replace t0:=Aa t0;go_upto_region 5 with fail;rw[<-a.out,<-J.out];go_wp2_with fail;refine(T.out _ (Ext.refl W2)).mono ?_;rintro e w3 ⟨rfl,i0⟩;go_wp2_with fail;exact⟨⟨i+1,v,rfl,rfl,by omega,hv,Aa (Y.out.trans i0)⟩,by simp only[intOf];omega⟩
    ·have hv:=Aa (j.out false (by rw[decide_eq_false h0];rfl));clear j;go_upto_region 5 with fail;rw[<-a.out,<-J.out];go_wp2_with fail;exact⟨⟨i+1,false,rfl,rfl,by omega,hv,Y⟩,by simp only[intOf];omega⟩
  ·obtain rfl:i=m:=by omega
   have O:=hb.out;rw[List.take_of_length_le (by rw[<-hm.out];exact Nat.le_refl _)]at O;rw[<-O]at hZ;cases b with
   | true =>
    obtain rfl:Z=0:=hZ.out;clear O hb;go_wp2_with fail;go_ret;exact⟨rfl,G.out⟩
   | false =>
    obtain rfl:Z=80:=hZ.out;clear O hb;go_wp2_with fail;go_ret;exact⟨rfl,G.out⟩
end
section
theorem Bp {n:Int}:∀ {l:List Int} {lo:Int} (k:Nat),risB n lo l=true->risB n lo (l.take k)=true
 | [],lo,k,h=>by rw[List.take_nil];exact h
 | x::t,lo,0,h=>rfl
 | x::t,lo,k+1,h=>by
  unfold risB at h;rw[Bool.and_eq_true,Bool.and_eq_true]at h;rw[List.take_succ_cons,risB,h.1.1,h.1.2,Bp k h.2];rfl
theorem FK {n:Int}:∀ {l:List Po} {lo:Int} (k:Nat),risB n lo (l.map (·.1))=true->risB n (lastPo lo (l.take k)) ((l.drop k).map (·.1))=true
 | [],lo,k,h=>by rw[List.drop_nil,List.take_nil];exact h
 | x::t,lo,0,h=>h
 | x::t,lo,k+1,h=>by
  rw[List.map_cons,risB,Bool.and_eq_true,Bool.and_eq_true]at h;exact FK k h.2
theorem Cw {n:Int}:∀ {l:List Po} {lo:Int},risB n lo (l.map (·.1))=true->lo<n->lo<=lastPo lo l/\lastPo lo l<n
 | [],lo,_,h=>⟨Int.le_refl _,h⟩
 | x::t,lo,h,_=>by
  rw[List.map_cons,risB,Bool.and_eq_true,Bool.and_eq_true]at h;have h1:=of_decide_eq_true h.1.1;have h2:=of_decide_eq_true h.1.2;have:=Cw h.2 h2;exact⟨by show lo<=lastPo x.1 t;omega,this.2⟩
theorem TN:∀(bs:List (List Po)) (lo:Int),(∀k:Nat,lastPo lo ((bs.take k).flatMap id)<9223372036854775808/\(blockPo lo ((bs.take k).flatMap id)).length<9223372036854775808)->(headPo lo bs).length<=20*bs.length
 | [],lo,_=>by simp[headPo]
 | b::bs,lo,h=>by
  have h1:=h 1;rw[List.take_succ_cons,List.take_zero,List.flatMap_cons,List.flatMap_nil,List.append_nil]at h1;have a:=Ag (n:=(lastPo lo b).toNat) (by have:=h1.1;simp only[id]at this;omega);have j:=Ag (n:=(blockPo lo b).length) (by have:=h1.2;simp only[id]at this;omega);have ih:=TN bs (lastPo lo b) fun k=>by
   have:=h (k+1);rw[List.take_succ_cons,List.flatMap_cons,CD,Be,List.length_append]at this;exact⟨this.1,by simp only[id]at this ⊢;omega⟩
  show (vb _++vb _++headPo _ bs).length<=_;rw[List.length_append,List.length_append,List.length_cons];omega
theorem FR:∀(l:List Int) (lo:Int),l.length<=(stepsL lo l).length
 | [],lo=>by simp
 | x::t,lo=>by
  show _<=(vb _++stepsL x t).length;have:=FR t x;have:=Qi (x - lo - 1).toNat;rw[List.length_append,List.length_cons];omega
structure PoRound (P:List Po) (r:Nat) (bP:List Po) (lst:Int):Prop where
  part:bP=(P.drop (r*32)).take 32
  lo : -1<=lst
  hi:lst<65536
  ris:risB 65536 lst (bP.map (·.1))=true
  pos:∀p∈bP,okPo p=true
  hi2 : -1<=lastPo lst bP/\lastPo lst bP<65536
  ne:0<=lastPo lst bP
  head:headPo (-1) ((chunkL 32 P).take (r+1))=headPo (-1) ((chunkL 32 P).take r)++(vb (lastPo lst bP).toNat++vb (blockPo lst bP).length)
  body:blockPo (-1) (P.take ((r+1)*32))=blockPo (-1) (P.take (r*32))++blockPo lst bP
  last:lastPo (-1) (P.take (r*32))=lst
  last2:lastPo (-1) (P.take ((r+1)*32))=lastPo lst bP
  len:(blockPo (-1) (P.take (r*32))).length+(blockPo lst bP).length<=(blockPo (-1) P).length
  hlen:(headPo (-1) ((chunkL 32 P).take r)).length<=20*r
theorem DO (P:List Po) (k:Nat):(blockPo (-1) (P.take k)).length<=(blockPo (-1) P).length:=by
 conv=>rhs;rw[<-List.take_append_drop k P,Be,List.length_append]
 omega
theorem E8 {P:List Po} (h:okPs P=true) (j:(blockPo (-1) P).length<=50000000) (r:Nat):(headPo (-1) ((chunkL 32 P).take r)).length<=20*r:=by
 rw[Ed,Bool.and_eq_true]at h;refine Nat.le_trans (TN _ _ fun k=>?_) (Nat.mul_le_mul_left _ (List.length_take_le _ _));rw[List.take_take,BF (by omega)];have h1:=(Cw (l:=P.take (min k r*32)) (lo:= -1) (n:=65536) (by rw[List.map_take];exact Bp _ h.1) (by omega)).2;have h2:=DO P (min k r*32);omega
theorem Hb {P:List Po} (j:okPs P=true) (O:(blockPo (-1) P).length<=50000000) {r:Nat} (G:r*32<P.length):PoRound P r ((P.drop (r*32)).take 32) (lastPo (-1) (P.take (r*32))):=by
 have H:=j;rw[Ed,Bool.and_eq_true]at j;obtain⟨h1,h2⟩:=j;have a:=Cw (l:=P.take (r*32)) (lo:= -1) (n:=65536) (by rw[List.map_take];exact Bp _ h1) (by omega);have U:=FK (r*32) h1;have h:risB 65536 (lastPo (-1) (P.take (r*32))) (((P.drop (r*32)).take 32).map (·.1))=true:=by rw[List.map_take];exact Bp _ U
 have Y:=Cw h (by omega);have b:P.take ((r+1)*32)=P.take (r*32)++(P.drop (r*32)).take 32:=by rw[Nat.succ_mul,List.take_add]
 have J:0<=lastPo (lastPo (-1) (P.take (r*32))) ((P.drop (r*32)).take 32):=by
  cases hd:(P.drop (r*32)).take 32 with
  | nil =>
   have:=congrArg List.length hd;rw[List.length_take,List.length_drop,List.length_nil]at this;omega
  | cons x t =>
   rw[hd,List.map_cons]at h;rw[risB,Bool.and_eq_true,Bool.and_eq_true]at h;have I:=of_decide_eq_true h.1.1;have T:=of_decide_eq_true h.1.2;have h5:=Cw h.2 T;show 0<=lastPo x.1 t;omega
 refine⟨rfl,a.1,a.2,h,fun p Z=>List.all_eq_true.1 h2 p (List.mem_of_mem_drop (List.mem_of_mem_take Z)),⟨by omega,Y.2⟩,J,?_,?_,rfl,?_,?_,E8 H O r⟩
 ·rw[List.take_add_one,BQ (by omega) r P G,Ew,BF (by omega)];show _++(vb _++vb _++headPo _ [])=_;rw[show ∀lo,headPo lo [] = [] from fun _=>rfl,List.append_nil]
 ·rw[b,Be]
 ·rw[b,CD]
 ·have:=DO P ((r+1)*32);rw[b,Be,List.length_append]at this;exact this
theorem Iu (P:List Po) (r:Nat) (h:P.length<=r*32):encPs P=vb P.length++headPo (-1) ((chunkL 32 P).take r)++blockPo (-1) (P.take (r*32)):=by
 have:=Cb (by omega) r P h;rw[List.take_of_length_le this,List.take_of_length_le h];rfl
end
section
open Go.RowKit
theorem AP:Fence.wide.depth=none:=rfl
theorem Cp (f:FuncId):Fence.wide.fn f=True:=rfl
def NC (B:Nat) (W:World) (k:Nat):Prop:=B<=k/\∃o,W.heap[k]? = some o/\o.isCells=false
theorem NC.not_row (h:Row W g t cs):¬ NC B W g:=fun⟨_,o,j,b⟩=>by
 unfold Row at h;rw[h]at j;injection j with j;subst j;cases b
def Alike (B:Nat) (W W':World):Prop:=Chg (NC B W) W W'
theorem Alike.refl (B:Nat) (W:World):Alike B W W:=Chg.refl _ _
theorem Alike.row (h:Alike B W W') (j:Row W g t cs):Row W' g t cs:=Chg.row h j (NC.not_row j)
theorem Alike.ext (h:Alike B W W') (j:Ext w W) (b:w.heap.size<=B):Ext w W':=j.chg h fun i hi hn=>by have:=hn.1;omega
theorem Alike.owns (h:Alike B W W') {base:Nat} {size:Nat} (j:W.ownsRow base e size v n xs):W'.ownsRow base e size v n xs :=
 Chg.owns h j fun g b=>by obtain⟨cur,a,_⟩:=Ae j b;exact NC.not_row a
theorem Alike.buf (h:Alike B W W') {base:Nat} (hb:Buf W base e A n c xs):Buf W' base e A n c xs :=
 hb.keep fun g j=>by
  rcases hb.2.2 with ⟨H,_⟩ | ⟨g',cur,b,_,a,_⟩
  ·rw[H]at j;cases j
  ·rw[b]at j;cases j;exact h.block _ a.lt (NC.not_row a)
theorem Alike.others {o:Obj} (hk:W.heap[k]? = some o) (h:o.isCells=false) (b:B<=k) (o':Obj):Alike B W (W.putObj k o') :=
 ⟨rfl,rfl,rfl,by simp,fun j _ hn=>World.putObj_heap_other (fun e=>hn ⟨by omega,o,by rw[e];exact hk,h⟩)⟩
def Iter {α:Type} (P:Program) (gf:Nat) (lb:Array Value) (encs:α->Array Value) (St:World->World->Prop) (Nx:List α->α->World->Prop) (Kp:World->World->Prop) (Fin:List α->World->World->Prop) (w:World):Prop :=
 ∀(l:Nat) (J:List α->World->Prop) (W:World),Ext w W->(∀pre A B,J pre A->St A B->J pre B) ->
  (∀pre x W1,J pre W1->Nx pre x W1->YieldAt Fence.wide 0 P l (encs x) W1 fun e W'=>e = .returned (.bool true)/\J (pre ++ [x]) W'/\Kp W1 W')->J [] W ->
  Calls P gf (#[.func (.yield l) #[] #[]]++lb) W fun e W'=>(∃v,e = .returned v)/\∃xs W2,J xs W2/\Fin xs W2 W'
def roundDone {α:Type} (Kp:World->World->Prop) (I:List α->World->Prop) (xs:List α) (W:World):Exit->Act->World->Prop
 | .normal,_,W'=>KeepsOthers W W'/\Kp W W'/\I xs W'
 | _,_,_=>False
def roundGo {α:Type} (B:Nat) (P:Program) (l:Nat) (body:Code) (Kp:World->World->Prop) (I:List α->World->Prop) (xs:List α) (W:World) (a:Act) (W1:World):Prop :=
 KeepsOthers W W1/\Kp W W1/\∀W2,Alike B W1 W2->body.wpIn (Fence.wide.inRound l) 0 P (roundDone Kp I xs W2) a W2
theorem C8 {α:Type} {g:Operand} {ps:Array Tmp} {assign body:Code} {a:Act}
 (hg:a.eval g = .func (.func gf) #[] lb) (eg:∀args w,(callFunc gf args).run P w = .ok (.enter gf args) w)
 {encs:α->Array Value} {St:World->World->Prop} {Nx:List α->α->World->Prop} {Kp:World->World->Prop} {Fin:List α->World->World->Prop} (o0:Iter P gf lb encs St Nx Kp Fin w)
 (m1:∀x,(encs x).size=ps.size) (t0:∀A B,St A B->KeepsOthers A B) (J:∀xs A B,Fin xs A B->KeepsOthers A B)
 (O:∀A B C,Kp A B->Kp B C->Kp A C) (m0:∀A B,Alike w.heap.size A B->Kp A B)
 (I:List α->World->Prop) (hI:∀pre A B,I pre A->Alike w.heap.size A B->I pre B) (d0:∀pre A B,I pre A->St A B->I pre B) (h0:∀W,Alike w.heap.size w W->I [] W)
 (Y:∀(l:Nat) (pre:List α) (x:α) (W:World),I pre W->Nx pre x W->assign.wpIn (Fence.wide.inRound l) 0 P (Exit.then (roundGo w.heap.size P l body Kp I (pre ++ [x]) W) (fun _ _ _=>False)) { tmps:=(ps.zip (encs x)).foldl (fun t (p,v)=>t.setIfInBounds p v) a.tmps,defers:= [] } W)
 (G:∀(D:Nat) (xs:List α) (W2 W3 W4:World),w.heap.size<=D->I xs W2->Fin xs W2 W3->Alike w.heap.size W3 W4->W4.heap[D]? = some (.deferred (some []))->Q .normal { a with defers:= { target:= .collected D,args:=#[] }::a.defers } W4) :
 (Code.rangeFunc g ps assign body).wpIn Fence.wide 0 P Q a w:=by
 refine wpIn_rangeFunc ?_;intro fn l0;show ∃_,_;obtain⟨rec,j⟩:=Ab (fun st pe=> { state:=st,pending:=pe,fn,tmps:=a.tmps,params:=ps,assign,body,defers:=w.heap.size }:LoopState->Option Code->Loop);obtain⟨W1,H⟩:∃W1,(w.alloc (.deferred (some []))).alloc (.loop (rec .ready none))=W1:=⟨_,rfl⟩
 have f0:W1.heap[w.heap.size+1]? = some (.loop (rec .ready none)):=by
  rw[<-H];have:=World.alloc_heap_new (w.alloc (.deferred (some []))) (.loop (rec .ready none));rwa [World.size_alloc]at this
 have e0:W1.heap[w.heap.size]? = some (.deferred (some [])):=by
  rw[<-H];exact(Below.heap_alloc _ _ _ (by simp)).trans (World.alloc_heap_new w _)
 have g0:Ext w W1:=by rw[<-H];exact((Ext.refl w).alloc _).alloc _
 refine⟨w.heap.size+1,[{ target:= .collected w.heap.size,args:=#[] }],W1,{ target:= .fn (.func gf) lb,args:=#[.func (.yield (w.heap.size+1)) #[] #[]] },W1,gf,
  #[.func (.yield (w.heap.size+1)) #[] #[]]++lb,W1,?_,?_,?_,?_,fun h=>(by cases h),?_⟩
 ·rw[<-H,j];exact run_enterLoop_outer _ _ _ _ _
 ·simp only[resolve,hg];simp[go_sem]
 ·intro f' _;trivial
 ·simp[invoke,go_sem,eg]
 ·refine callsIn_wide.2 ((o0 (w.heap.size+1)
   (fun pre W=>I pre W/\W.heap[w.heap.size+1]? = some (.loop (rec .ready none))/\W.heap[w.heap.size]? = some (.deferred (some [])))
   W1 g0 (fun pre A B h hs=>⟨d0 pre A B h.1 hs,(t0 A B hs).same _ _ h.2.1 rfl,(t0 A B hs).same _ _ h.2.2 rfl⟩)
   ?_ ⟨h0 W1 (Chg.of_ext g0 _),f0,e0⟩).mono ?_)
  ·rintro pre x W ⟨hi,hl,hk⟩ j1;have h2:w.heap.size+1<W.heap.size:=(Array.getElem?_eq_some_iff.1 hl).1;have hy:=run_yield (P:=P) (args:=encs x) hl (by rw[j];exact m1 x);rw[j]at hy;refine⟨fn,_,assign,body,hy,roundIn_of_wpIn l0 ?_⟩;refine wpIn_mono (Y _ pre x W hi j1) ?_;rintro e a1 W2 hq;cases e with
   | normal =>
    obtain⟨v0,q1,Z⟩:=hq;have b:=v0.same _ _ hl rfl;have q0:=v0.same _ _ hk rfl;have c0:w.heap.size+1<W2.heap.size:=(Array.getElem?_eq_some_iff.1 b).1;refine⟨W2.putObj (w.heap.size+1) (.loop { rec .ready none with state:= .busy }),run_beginRound b (by rw[j]),?_⟩;have ha:=Alike.others (B:=w.heap.size) b rfl (by omega) (.loop { rec .ready none with state:= .busy });have k1:(W2.putObj (w.heap.size+1) (.loop { rec .ready none with state:= .busy })).heap[w.heap.size+1]? = some (.loop { rec .ready none with state:= .busy }):=World.putObj_heap_same c0;have r0:(W2.putObj (w.heap.size+1) (.loop { rec .ready none with state:= .busy })).heap[w.heap.size]? = some (.deferred (some [])):=(World.putObj_heap_other (by omega)).trans q0;refine wpIn_mono (Z _ ha) ?_;rintro e a3 W3 hp;cases e with
    | normal =>
     obtain⟨U,x0,n0⟩:=hp;have p0:=U.same _ _ k1 rfl;have h1:=U.same _ _ r0 rfl;have hr:=run_endRound (P:=P) none p0;rw[j]at hr;have T:=Alike.others (B:=w.heap.size) p0 rfl (by omega) (.loop (rec .ready none));rw[j]at T;refine⟨_,_,hr,rfl,⟨hI _ _ _ n0 T,?_,?_⟩,O _ _ _ (O _ _ _ q1 (m0 _ _ ha)) (O _ _ _ x0 (m0 _ _ T))⟩
     ·rw[j];exact World.putObj_heap_same (Array.getElem?_eq_some_iff.1 p0).1
     ·exact(World.putObj_heap_other (by omega)).trans h1
    | ret=>exact hp.elim
    | exit id=>exact hp.elim
    | goto t=>exact hp.elim
    | panic ch=>exact hp.elim
    | outgrown=>exact hp.elim
   | ret=>exact hq.elim
   | exit id=>exact hq.elim
   | goto t=>exact hq.elim
   | panic ch=>exact hq.elim
   | outgrown=>exact hq.elim
  ·rintro e W2 ⟨⟨v,rfl⟩,xs,W3,⟨hi,hl,hk⟩,hf⟩;have b:=(J _ _ _ hf).same _ _ hl rfl;have q0:=(J _ _ _ hf).same _ _ hk rfl;refine⟨none,_,by have:=run_endLoop (P:=P) b (by rw[j];simp);rw[j]at this;exact this,G _ xs W3 W2 _ (Nat.le_refl _) hi hf ?_ ((World.putObj_heap_other (by omega)).trans q0)⟩;rw[j]at b;exact Alike.others b rfl (by omega) _
section
variable {F:Fence} {n:Nat} {P:Program}
theorem DA {rest:List Oper} {a:Act} {t e size bytes:Nat} (E:Elem P t e size bytes)
 {base:Nat} (b:w.ownsRow base e size v k xs) (hr:Cells w A news) (s x:Operand)
 (U:o.op = .call { callee:= .builtin .append,args:=#[s,x],argTypes:=#[t,t] }) (J:o.guard=none)
 (hs:a.eval s=v) (hx:a.eval x = .slice A m' c) (hm:m'=m) (I:news.length=m*size) (h1:∀u∈news,u.oneCell'=true) (O:k+m<=4294967296) (j:base<=w.heap.size)
 (h:∀A1 c1 w',w'.ownsRow base e size (.slice A1 (k+m) c1) (k+m) (xs++news)->w.grownBy w' v.ownBlock->((Value.slice A1 (k+m) c1).ownBlock=v.ownBlock\/(Value.slice A1 (k+m) c1).ownBlock=some w.heap.size)->wpListIn F n P ops Q rest (a.put o.dst (.slice A1 (k+m) c1)) w'):wpListIn F n P ops Q (o::rest) a w :=
 wpListIn_plain J fun K G=>by
  subst hm;obtain⟨A1,c1,w',H,h2,T,Z⟩:=Ds (P:=P) E w o.type b (c:=c) hr I h1 O j;unfold Oper.wpIn;refine⟨by simp[Oper.about,U,resolve,Target.leads,Sem.run_pure],?_⟩;rw[Oper.semAt_plain F _ _ (by rw[U];intro c Y;cases Y)];unfold execOp;simp only[U,resolve,invoke,builtin,Sem.run_bind,Sem.run_pure,Result.andThen_ok,List.map_toArray,List.map_cons,List.map_nil,hs,hx,H];exact G _ _ (h A1 c1 w' h2 T Z)
theorem Bu {rest:List Oper} {a:Act} {t e bytes:Nat} (E:Elem P t e 1 bytes)
 {base:Nat} {A B:Option Addr} (hb:Buf w base e A k c xs) (hr:Cells w B news) (s x:Operand)
 (O:o.op = .call { callee:= .builtin .append,args:=#[s,x],argTypes:=#[t,t] }) (U:o.guard=none)
 (hs:a.eval s = .slice A k c) (hx:a.eval x = .slice B m' c') (hm:m'=m) (hl:news.length=m) (h1:∀u∈news,u.oneCell'=true) (T:k+m<=4294967296) (j:base<=w.heap.size)
 (h:∀A1 c1 w',Buf w' base e A1 (k+m) c1 (xs++news)->w.grownBy w' (Value.slice A k c).ownBlock->(∀w0,Ext w0 w->w0.heap.size<=base->Ext w0 w')->(A1=A\/A1=some ⟨w.heap.size,0,none⟩)->wpListIn F n P ops Q rest (a.put o.dst (.slice A1 (k+m) c1)) w'):wpListIn F n P ops Q (o::rest) a w :=
 wpListIn_plain U fun K hK=>by
  subst hm;obtain⟨A1,c1,w',H,h2,Z,G⟩:=Gx (P:=P) E w o.type hb (c':=c') hr hl h1 T j;unfold Oper.wpIn;refine⟨by simp[Oper.about,O,resolve,Target.leads,Sem.run_pure],?_⟩;rw[Oper.semAt_plain F _ _ (by rw[O];intro c J;cases J)];unfold execOp;simp only[O,resolve,invoke,builtin,Sem.run_bind,Sem.run_pure,Result.andThen_ok,List.map_toArray,List.map_cons,List.map_nil,hs,hx,H];refine hK _ _ (h A1 c1 w' h2 Z (fun w0 I hw=>I.grown Z fun k hk=>?_) G);have Y:=hb.base_le;cases A with
  | none=>simp[Value.ownBlock]at hk
  | some b =>
   have:=Y b rfl;simp[Value.ownBlock]at hk;omega
end
theorem Bb {l n f:Nat} {args:Array Value} {R:Ending->World->Prop} (h:Calls P f args w R):CallsIn (Fence.wide.inRound l) n P f args w R:=CallsIn.inRound l (callsIn_wide.2 h)
theorem F3 {fn:Func} {R:Ending->World->Prop} {a:Act} (hd:a.defers = []) (j:(results fn a.tmps).run P w = .ok v w) (h:R (.returned v) w):bodyPostM Fence.wide 0 P fn R .ret a w:=by
 show LeavesInM _ _ _ _ _ _ a.defers _ _;rw[hd];exact⟨v,j,h⟩
theorem BR {fn:Func} {R:Ending->World->Prop} {a:Act} {B D:Nat} (hd:a.defers = [{ target:= .collected D,args:=#[] }]) (hk:w.heap[D]? = some (.deferred (some []))) (j:B<=D)
 (h:∀W,Alike B w W->∃v,(results fn a.tmps).run P W = .ok v W/\R (.returned v) W):bodyPostM Fence.wide 0 P fn R .ret a w:=by
 show LeavesInM _ _ _ _ _ _ a.defers _ _;rw[hd];exact⟨by simp,.inl ⟨D,_,rfl,run_takeDeferred hk,h _ (Alike.others hk rfl j _)⟩⟩
theorem BL {base:Nat} (hb:Buf w base e A k c xs) (J:w.grownBy w' (Value.slice A k c).ownBlock):KeepsOthers w w' :=
 KeepsOthers.of_grownBy J fun j o a h=>by
  rcases hb.2.2 with ⟨Y,_⟩ | ⟨g',cur,b,_,H,_⟩
  ·subst Y;simp[Value.ownBlock]at a
  ·subst b;simp[Value.ownBlock]at a;subst a;unfold Row at H;rw[H]at h;injection h with h;subst h;rfl
theorem Ext.others (h:Ext w w'):KeepsOthers w w':=⟨h.size,fun _ _ hk _=>h.block hk⟩
end
section
open Go.ChangeShapes Go.WideShapes Go.Deep Go.RowKit
def strV (l:List UInt8):Value:= .string ⟨l.toArray⟩
theorem HF (s:ByteArray):strV s.data.toList = .string s:=by
 cases s;simp[strV]
theorem Fp {s:ByteArray} (h:s.size<=maxLen):Value.string s=strV s.data.toList/\s.data.toList.length<=9223372036854775807:=by
 refine⟨(HF s).symm,?_⟩;unfold maxLen at h;rw[Array.length_toList];exact h
section
variable {H:Type} {enc:TypeId×Value->H} {w:World} {base:Nat} {spare:Nat->Bool} {held:Bool}
end
end
section
open Go.RowKit
abbrev Fd:=List UInt8×List UInt8
def Fd.cells (f:Fd):List Value:= [strV f.1,strV f.2]
def fcells (fs:List Fd):List Value:=fs.flatMap Fd.cells
theorem Dl:∀fs:List Fd,(fcells fs).length=fs.length*2
 | []=>rfl
 | f::fs=>by
  have:=Dl fs;unfold fcells at this ⊢;rw[List.flatMap_cons,List.length_append,this,List.length_cons];simp[Fd.cells];omega
theorem Es:∀(fs:List Fd) (i:Nat) (f:Fd) (k:Nat),fs[i]? = some f->k<2->(fcells fs)[i*2+k]? = f.cells[k]?
 | [],i,f,k,h,_=>by simp at h
 | x::fs,0,f,k,h,hk=>by
  obtain rfl:x=f:=by simpa using h
  unfold fcells;rw[List.flatMap_cons,List.getElem?_append_left (by simp[Fd.cells];omega),Nat.zero_mul,Nat.zero_add]
 | x::fs,i+1,f,k,h,hk=>by
  have j:fs[i]? = some f:=by simpa using h
  have ih:=Es fs i f k j hk;unfold fcells at ih ⊢;rw[List.flatMap_cons,List.getElem?_append_right (by simp[Fd.cells];omega)];have:(i+1)*2+k - (Fd.cells x).length=i*2+k:=by
   have:(Fd.cells x).length=2:=rfl;omega
  rw[this];exact ih
theorem F0 (fs:List Fd) (f:Fd):fcells (fs ++ [f])=fcells fs++f.cells:=by
 unfold fcells;rw[List.flatMap_append];simp
theorem Bg {fs:List Fd} (h:Cells w A (fcells fs)) {f:Fd} (j:fs[i]? = some f):∃g o,A=some ⟨g,o,none⟩/\w.cell? ⟨g,o+i*2,none⟩=some (strV f.1)/\w.cell? ⟨g,o+i*2+1,none⟩=some (strV f.2):=by
 have hi:=(List.getElem?_eq_some_iff.1 j).1;obtain⟨g,o,a,b⟩:=h.at_ (by rw[Dl];omega);refine⟨g,o,a,?_,?_⟩
 ·exact b (i*2+0) _ (by rw[Es fs i f 0 j (by omega)];rfl)
 ·rw[Nat.add_assoc];exact b (i*2+1) _ (by rw[Es fs i f 1 j (by omega)];rfl)
structure Ev where
  at_:Int
  fs:List Fd
def Ev.val (e:Ev) (A:Option Addr) (c:Nat):Value:= .agg #[.int .i64 e.at_,.slice A e.fs.length c]
def nameC (c:UInt8):Bool:=decide (c.toNat=95\/(48<=c.toNat/\c.toNat<=57)\/(97<=c.toNat/\c.toNat<=122))
def nameL (s:List UInt8):Bool:=s.all nameC&&decide (1<=s.length/\s.length<=32)
def checkF:List Fd->Nat
 | []=>0
 | f::fs=>if nameL f.1=false then 100 else if 4096<f.2.length then 2 else checkF fs
def checkE (fs:List Fd):Nat:=if 16<fs.length then 3 else checkF fs
theorem FW {fs:List Fd} {f:Fd} (h:fs[i]? = some f):checkF (fs.drop i)=if nameL f.1=false then 100 else if 4096<f.2.length then 2 else checkF (fs.drop (i+1)):=by
 obtain⟨hi,rfl⟩:=List.getElem?_eq_some_iff.1 h;rw[List.drop_eq_getElem_cons hi];rfl
theorem IL {x:UInt8} (h:s[i]? = some x) (j:nameC x=false):nameL s=false:=by
 unfold nameL;have:s.all nameC=false:=by
  rw[List.all_eq_false];exact⟨x,List.mem_of_getElem? h,by rw[j];simp⟩
 rw[this];rfl
theorem Ko {x:UInt8} (h:¬ (x.toNat=95\/(48<=x.toNat/\x.toNat<=57)\/(97<=x.toNat/\x.toNat<=122))):nameC x=false:=decide_eq_false h
theorem IK {x:UInt8} (h:x.toNat=95\/(48<=x.toNat/\x.toNat<=57)\/(97<=x.toNat/\x.toNat<=122)):nameC x=true:=decide_eq_true h
theorem JL {x:UInt8} (h:s[i]? = some x) (j:(s.take i).all nameC=true) (b:nameC x=true):(s.take (i+1)).all nameC=true:=by
 obtain⟨hi,rfl⟩:=List.getElem?_eq_some_iff.1 h;rw[List.take_succ_eq_append_getElem hi,List.all_append,j];simp[b]
theorem LP (s : List UInt8) (w : World) (hs : s.length ≤ 9223372036854775807) : Calls prog 193 #[.string ⟨s.toArray⟩] w fun e w' => e = .returned (.bool (nameL s)) ∧ Ext w w' := by
  obtain ⟨c1, W1, p0, hB, a, I⟩ := FM s w
  obtain ⟨z, Y⟩ := Ab (nameL s)
  rw [← Y]
  have j : ∀ i x, s[i]? = some x → nameC x = false → z = false := fun i x h G => Y.trans (IL h G)
  have b : s.all nameC = true → z = (decide (1 ≤ s.length) && decide (s.length ≤ 32)) := fun h => by rw [Y]; unfold nameL; rw [h]; simp [Bool.decide_and]
  replace b := Aa b
  replace j := Aa j
  replace a := Aa a
  clear Y I
  go_in
  go_wp2_with fail
  go_loopw [8] (fun s8 wr => ∃ i : Nat, s8 = .int .i64 i ∧ i ≤ s.length ∧ Hid ((s.take i).all nameC = true) ∧ wr = W1) (fun s8 _ => s.length - (intOf s8).toNat)
  case atStart => exact ⟨0, rfl, by omega, Aa rfl, rfl⟩
  case round =>
    obtain ⟨i, rfl, hi, H, rfl⟩ := hrel
    by_cases Z : i < s.length
    · obtain ⟨g, o, T, hc⟩ := hB.at_ (by omega)
      injection T with T
      injection T with T ho
      subst T
      subst ho
      have k0 := hc i Z
      rw [Nat.zero_add] at k0
      obtain ⟨x, G⟩ := Ab (s[i])
      have O : s[i]? = some x := by rw [G]; exact List.getElem?_eq_getElem Z
      rw [← G] at k0
      have J : ¬ (x.toNat = 95 ∨ (48 ≤ x.toNat ∧ x.toNat ≤ 57) ∨ (97 ≤ x.toNat ∧ x.toNat ≤ 122)) → z = false := fun h => j.out i x O (Ko h)
      have U : (x.toNat = 95 ∨ (48 ≤ x.toNat ∧ x.toNat ≤ 57) ∨ (97 ≤ x.toNat ∧ x.toNat ≤ 122)) → (s.take (i + 1)).all nameC = true := fun h => JL O H.out (IK h)
      replace J := Aa J
      replace U := Aa U
      clear hc G O
      go_wp2_with fail
      all_goals first
        | (have q := U.out (by first | omega | (simp_all; done) | (simp_all; omega))
           replace q := Aa q
           go_roundw
           case rel => exact ⟨i + 1, by go_num, by omega, q, trivial⟩
           case measure => simp [intOf]; omega)
        | (have q := J.out (by first | omega | (simp_all; done) | (simp_all; omega))
           go_ret
           exact ⟨Bf (by rw [q]), a.out⟩)
    · have Y := b.out (by have h := H.out; rw [List.take_of_length_le (by omega)] at h; exact h)
      replace Y := Aa Y
      go_wp2_with fail
      all_goals go_ret
      all_goals refine ⟨Bf ?_, a.out⟩
      all_goals rw [Y.out]
      all_goals
        rw [Bool.eq_iff_iff]
        simp
        omega
theorem PC (s:List UInt8) (w:World) (hs:s.length<=9223372036854775807):Calls prog 169 #[.string ⟨s.toArray⟩] w fun e w'=>e = .returned (.bool (nameL s))/\Ext w w':=by
 have h:=Aa (LP s w hs)
 go_in
 go_wp2_with fail;refine h.out.mono ?_;rintro e w1 ⟨rfl,j⟩;go_wp2_with fail;go_ret;exact⟨rfl,j⟩
theorem KH (s : List UInt8) (w : World) (hs : s.length ≤ 9223372036854775807) : Calls prog 164 #[.string ⟨s.toArray⟩] w fun e w' => e = .returned (.bool (nameL s)) ∧ w' = w := by
  obtain ⟨z, Y⟩ := Ab (nameL s)
  rw [← Y]
  have j : ∀ i x, s[i]? = some x → nameC x = false → z = false := fun i x h O => Y.trans (IL h O)
  have b : s.all nameC = true → z = (decide (1 ≤ s.length) && decide (s.length ≤ 32)) := fun h => by rw [Y]; unfold nameL; rw [h]; simp [Bool.decide_and]
  have hlen : ¬ (1 ≤ s.length ∧ s.length ≤ 32) → z = false := fun h => by rw [Y]; unfold nameL; rw [decide_eq_false h]; simp
  replace b := Aa b
  replace j := Aa j
  replace hlen := Aa hlen
  clear Y
  by_cases I : 1 ≤ s.length ∧ s.length ≤ 32
  · obtain ⟨Z, G⟩ := I
    go_in
    go_wp2_with fail
    go_loopw [3] (fun s3 wr => ∃ i : Nat, s3 = .int .i64 i ∧ i ≤ s.length ∧ Hid ((s.take i).all nameC = true) ∧ wr = w) (fun s3 _ => s.length - (intOf s3).toNat)
    case atStart => exact ⟨0, rfl, by omega, Aa rfl, rfl⟩
    case round =>
      obtain ⟨i, rfl, hi, H, rfl⟩ := hrel
      by_cases T : i < s.length
      · obtain ⟨x, O⟩ := Ab (s[i])
        have a : s[i]? = some x := by rw [O]; exact List.getElem?_eq_getElem T
        have h0 := fun W => AB a (z := (i : Int)) rfl W
        have J : ¬ (x.toNat = 95 ∨ (48 ≤ x.toNat ∧ x.toNat ≤ 57) ∨ (97 ≤ x.toNat ∧ x.toNat ≤ 122)) → z = false := fun h => j.out i x a (Ko h)
        have U : (x.toNat = 95 ∨ (48 ≤ x.toNat ∧ x.toNat ≤ 57) ∨ (97 ≤ x.toNat ∧ x.toNat ≤ 122)) → (s.take (i + 1)).all nameC = true := fun h => JL a H.out (IK h)
        replace J := Aa J
        replace U := Aa U
        clear O a
        go_wp2_with fail
        all_goals first
          | (have q := U.out (by first | omega | (simp_all; done) | (simp_all; omega))
             replace q := Aa q
             go_roundw
             case rel => exact ⟨i + 1, by go_num, by omega, q, trivial⟩
             case measure => simp [intOf]; omega)
          | (have q := J.out (by first | omega | (simp_all; done) | (simp_all; omega))
             go_ret
             exact ⟨Bf (by rw [q]), rfl⟩)
      · have Y := b.out (by have h := H.out; rw [List.take_of_length_le (by omega)] at h; exact h)
        rw [decide_eq_true Z, decide_eq_true G] at Y
        subst Y
        go_wp2_with fail
        go_ret
        exact ⟨rfl, rfl⟩
  · obtain rfl := hlen.out I
    go_in
    go_wp2_with fail
    all_goals first
      | (go_ret; exact ⟨rfl, rfl⟩)
      | (exfalso; simp_all; omega)
structure Ev.Ok (e:Ev) (w:World) (A:Option Addr):Prop where
  cells:Cells w A (fcells e.fs)
  many:e.fs.length<=9223372036854775807
  long:∀f∈e.fs,f.1.length<=9223372036854775807/\f.2.length<=9223372036854775807
theorem Ev.Ok.ext {e:Ev} (h:e.Ok w A) (j:Ext w w1):e.Ok w1 A:=⟨h.cells.ext j,h.many,h.long⟩
theorem Dj (e:Ev) (A:Option Addr) (c:Nat) (w:World) (h:e.Ok w A):Calls prog 125 #[e.val A c] w fun en w'=>en = .returned (.int .i64 (checkE e.fs:Int))/\Ext w w':=by
 obtain⟨at_,fs⟩:=e;obtain⟨hc,hm,hl⟩:=h;unfold Ev.val;simp only at hc hm hl ⊢;obtain⟨n,hn⟩:=Ab fs.length;obtain⟨z,T⟩:=Ab (checkE fs);have b:16<n->z=3:=fun h=>by rw[T];unfold checkE;rw[if_pos (by omega)]
 have U:n<=16->z=checkF (fs.drop 0):=fun h=>by rw[T];unfold checkE;rw[if_neg (by omega)];rfl
 have O:=fun s W (hs:s.length<=9223372036854775807)=>PC s W hs;rw[<-T,<-hn];rw[<-hn]at hm;replace hn:=Aa hn;replace hl:=Aa hl;replace O:=Aa O;replace U:=Aa U;clear T;by_cases t0:16<n
 ·have Z:=b t0;subst Z;clear b
  go_in
  go_wp2_with fail;go_ret;exact⟨rfl,(Ext.refl w).alloc _⟩
 ·clear b
  go_in
  go_wp2_with fail;have H:=U.out (by omega);replace H:=Aa H;have h0:Ext w (w.alloc (.cells #[.int .i64 at_,.slice A n c] 69)):=(Ext.refl w).alloc _;obtain⟨W0,q0⟩:=Ab (w.alloc (.cells #[.int .i64 at_,.slice A n c] 69));rw[<-q0]at h0 ⊢;clear q0
  go_loopw [12] (fun s12 wr=>∃i:Nat,s12 = .int .i64 i/\i<=n/\Hid (z=checkF (fs.drop i))/\Hid (Ext w wr)) (fun s12 _=>n - (intOf s12).toNat)
  case atStart=>exact⟨0,rfl,by omega,H,Aa h0⟩
  case round =>
   obtain⟨i,rfl,hi,T,hE⟩:=hrel;by_cases y0:i<n
   ·have x0:i<fs.length:=by rw[<-hn.out];exact y0
    obtain⟨f,hf⟩:∃f,fs[i]? = some f:=⟨_,List.getElem?_eq_getElem x0⟩
    obtain⟨g,o,rfl,k0,k1⟩:=Bg (hc.ext hE.out) hf;obtain⟨p0,c0⟩:=hl.out f (List.mem_of_getElem? hf);have j:=T.out;rw[FW hf]at j;unfold strV at k0 k1;have f0:g<wr.heap.size:=World.block_lt_of_cell? wr _ k0;obtain⟨nm,tx⟩:=f;simp only at k0 k1 p0 c0 j;have a:=fun W=>O.out nm W p0;obtain⟨q,hq⟩:=Ab (nameL nm);rw[<-hq]at a j;replace a:=Aa a;replace j:=Aa j;clear hf hq;go_wp2_with fail;have Y:Row (wr.alloc (.cells #[.string ⟨nm.toArray⟩,.string ⟨tx.toArray⟩] 91)) wr.heap.size 91 #[.string ⟨nm.toArray⟩,.string ⟨tx.toArray⟩]:=Row.new wr _ _;have G:Ext w (wr.alloc (.cells #[.string ⟨nm.toArray⟩,.string ⟨tx.toArray⟩] 91)):=hE.out.trans ((Ext.refl wr).alloc _);refine(a.out _).mono ?_;rintro e w3 ⟨rfl,I⟩;have k3:w3.cell? ⟨wr.heap.size,1,none⟩=some (.string ⟨tx.toArray⟩):=I.cell (Y.cell 1 rfl);have J:=Aa (G.trans I);clear Y G;cases q with
    | false =>
     obtain rfl:z=100:=by rw[j.out];rfl
     go_wp2_with fail;go_ret;exact⟨rfl,J.out⟩
    | true =>
     by_cases j0:4096<tx.length
     ·obtain rfl:z=2:=by rw[j.out,if_neg (by simp),if_pos j0]
      go_wp2_with fail;go_ret;exact⟨rfl,J.out⟩
     ·have Z:=Aa (show z=checkF (fs.drop (i+1))by rw[j.out,if_neg (by simp),if_neg j0]);go_wp2_with fail;go_roundw
      case rel=>exact⟨i+1,by go_num,by omega,Z,J⟩
      case measure=>simp[intOf];omega
   ·have H:=T.out;rw[List.drop_of_length_le (by rw[<-hn.out];omega)]at H;have d0:z=0:=H;subst d0;go_wp2_with fail;go_ret;exact⟨rfl,hE.out⟩
theorem Ch {rest:List Oper} {a:Act} {T:TypeId} {t e size bytes m:Nat} (E:Elem P t e size bytes)
 {base:Nat} (b:w0.ownsRow base e size v n xs) (s x:Operand)
 (G:o.op = .call { callee:= .builtin .append,args:=#[s,x],argTypes:=#[t,t] }) (Y:o.guard=none)
 (hs:a.eval s=v) (hx:a.eval x = .slice (some ⟨w0.heap.size,0,none⟩) m m) (Z:us.length=m*size) (h1:∀u∈us,u.oneCell'=true) (U:n+m<=4294967296) (H:base<=w0.heap.size)
 (h:∀A1 c1 w',w'.ownsRow base e size (.slice A1 (n+m) c1) (n+m) (xs++us)->w0.grownBy w' v.ownBlock->((Value.slice A1 (n+m) c1).ownBlock=v.ownBlock\/(Value.slice A1 (n+m) c1).ownBlock=some (w0.heap.size+1)) ->
  wpList P ops Q rest (a.put o.dst (.slice A1 (n+m) c1)) w') :
 wpList P ops Q (o::rest) a (w0.alloc (.cells us.toArray T)):=by
 refine AV E (((Ext.refl w0).alloc _).owns b) (A:=some ⟨w0.heap.size,0,none⟩) (news:=us) (.inr ⟨w0.heap.size,0,rfl,fun i u I=>?_⟩) s x G Y hs hx rfl Z h1 U (by simp;omega) fun A1 c1 w' h2 j O=>?_
 ·rw[Nat.zero_add,cell_of_row _ _ _ _ _ _ (heap_alloc_new w0 _)];simpa using I
 ·refine h A1 c1 w' h2 ⟨j.os,j.tape,j.output,Nat.le_trans (by simp) j.size,fun k hk J=>(j.block k (by simp;omega) J).trans (Below.heap_alloc w0 _ k hk)⟩ ?_;simpa using O
def I64ok' (z:Int):Prop:= -9223372036854775808<=z/\z<=9223372036854775807
theorem AD {base b:Nat} {size:Nat} (h:w.ownsRow base e size v n xs) (hb:b<=base):w.ownsRow b e size v n xs:=by
 refine⟨h.1,?_⟩;rcases h.2 with h2 | ⟨g,cap,cur,a,j,r⟩
 ·exact .inl h2
 ·exact .inr ⟨g,cap,cur,a,Nat.le_trans hb j,r⟩
def Ev.Own (e:Ev) (w:World) (base:Nat) (A:Option Addr) (c:Nat):Prop:=w.ownsRow base 91 2 (.slice A e.fs.length c) e.fs.length (fcells e.fs)/\(∀f∈e.fs,f.1.length<=9223372036854775807/\f.2.length<=9223372036854775807)/\e.fs.length<=20
theorem Ev.Own.ok {e:Ev} {base c:Nat} (h:e.Own w base A c):e.Ok w A:=⟨Cells.of_own h.1,by have:=h.2.2;omega,h.2.1⟩
theorem Ev.Own.nil (w:World) (base:Nat) (at_:Int):Ev.Own ⟨at_,[]⟩ w base none 0:=⟨⟨rfl,.inl ⟨rfl,rfl⟩⟩,nofun,by simp⟩
theorem AS {rest:List Oper} {a:Act} {T:TypeId} {t e size bytes m k:Nat} (E:Elem P t e size bytes)
 {base:Nat} (b:w0.ownsRow base e size v n xs) (hk:k=w0.heap.size) (s x:Operand)
 (U:o.op = .call { callee:= .builtin .append,args:=#[s,x],argTypes:=#[t,t] }) (H:o.guard=none)
 (hs:a.eval s=v) (O:a.eval x = .slice (some ⟨k,0,none⟩) m m) (J:us.length=m*size) (h1:∀u∈us,u.oneCell'=true) (Y:n+m<=4294967296) (j:base<=w0.heap.size)
 (h:∀A1 c1 w',w'.ownsRow base e size (.slice A1 (n+m) c1) (n+m) (xs++us)->w0.grownBy w' v.ownBlock->((Value.slice A1 (n+m) c1).ownBlock=v.ownBlock\/(Value.slice A1 (n+m) c1).ownBlock=some (w0.heap.size+1)) ->
  wpList P ops Q rest (a.put o.dst (.slice A1 (n+m) c1)) w') :
 wpList P ops Q (o::rest) a (w0.alloc (.cells us.toArray T)):=by
 subst hk;exact Ch E b s x U H hs O J h1 Y j h
theorem Lu:Elem prog 67 91 2 32:=⟨underlying67,⟨_,_,rfl,rfl,rfl,rfl,rfl⟩,by omega,by omega⟩
def txL (s:List UInt8):List UInt8:=vb s.length++s
def getT (most:Nat) (l:List UInt8):Except Nat (List UInt8×List UInt8):=match getV 0 l with
 | .error k=> .error k
 | .ok (n,r)=>if most<n then .error 2 else if r.length<n then .error 6 else .ok (r.take n,r.drop n)
theorem GQ {most:Nat} (h:s.length<=most) (h2:s.length<18446744073709551616) (r:List UInt8):getT most (txL s++r) = .ok (s,r):=by
 unfold getT txL;rw[List.append_assoc,BD h2];simp only;rw[if_neg (by omega),if_neg (by rw[List.length_append];omega),List.take_left' rfl,List.drop_left' rfl]
theorem Gu {most:Nat} (h:getT most l = .ok (s,r)):s.length<=most/\r.length+s.length<l.length/\∃p,l=p++r:=by
 unfold getT at h;split at h
 ·cases h
 ·rename_i n r0 j;obtain⟨_,_,p,rfl,b⟩:=Ck l 0 n r0 j;have a:1<=p.length:=List.length_pos_iff.2 b;split at h
  ·cases h
  ·split at h
   ·cases h
   ·injection h with h;injection h with h1 h2;refine⟨by rw[<-h1,List.length_take];omega,by rw[<-h1,<-h2,List.length_take,List.length_drop,List.length_append];omega,p++r0.take n,?_⟩;rw[<-h2,List.append_assoc,List.take_append_drop]
def putF (f:Fd):List UInt8:=txL f.1++txL f.2
def putFs (fs:List Fd):List UInt8:=fs.flatMap putF
def putE (e:Ev):List UInt8:=vb (zig e.at_)++vb e.fs.length++putFs e.fs
def sizeF (f:Fd):Nat:=f.1.length+f.2.length
def sizeFs (fs:List Fd):Nat:=(fs.map sizeF).sum
def getFs:Nat->List UInt8->Option (List Fd×List UInt8)
 | 0,l=>some ([],l)
 | k+1,l=>match getT 32 l with
  | .error _=>none
  | .ok (nm,r)=>match getT 4096 r with
   | .error _=>none
   | .ok (tx,r2)=>match getFs k r2 with
    | none=>none
    | some (fs,r3)=>some ((nm,tx)::fs,r3)
def getE (l:List UInt8):Option (Ev×List UInt8):=match getV 0 l with
 | .error _=>none
 | .ok (u,r)=>match getV 0 r with
  | .error _=>none
  | .ok (n,r2)=>if 16<n then none else match getFs n r2 with
   | none=>none
   | some (fs,r3)=>if checkE fs=0 then some (⟨unzig u,fs⟩,r3) else none
theorem IA:∀(fs:List Fd) (r:List UInt8),(∀f∈fs,f.1.length<=32/\f.2.length<=4096)->getFs fs.length (putFs fs++r)=some (fs,r)
 | [],r,_=>rfl
 | f::fs,r,h=>by
  have j:=h f (by simp);show getFs (fs.length+1) _=_;unfold getFs;rw[show putFs (f::fs)++r=txL f.1++(txL f.2++(putFs fs++r))by unfold putFs;rw[List.flatMap_cons];unfold putF;simp,GQ j.1 (by omega)];simp only;rw[GQ j.2 (by omega)];simp only;rw[IA fs r fun x b=>h x (by simp[b])]
theorem Il:∀ {fs:List Fd},checkF fs=0->∀f∈fs,f.1.length<=32/\f.2.length<=4096
 | [],_=>nofun
 | f::fs,h=>by
  unfold checkF at h;split at h
  ·cases h
  ·rename_i hn;split at h
   ·cases h
   ·intro g j;rcases List.mem_cons.1 j with rfl | j
    ·refine⟨?_,by omega⟩;unfold nameL at hn;simp at hn;omega
    ·exact Il h g j
theorem AM {fs:List Fd} (h:checkE fs=0):fs.length<=16/\∀f∈fs,f.1.length<=32/\f.2.length<=4096:=by
 unfold checkE at h;split at h
 ·cases h
 ·exact⟨by omega,Il h⟩
theorem Pm {e:Ev} (b:I64ok' e.at_) (h:checkE e.fs=0) (r:List UInt8):getE (putE e++r)=some (e,r):=by
 obtain⟨a,j⟩:=AM h;unfold getE putE;rw[List.append_assoc,List.append_assoc,BD (CM b.1 b.2)];simp only;rw[BD (by omega)];simp only;rw[if_neg (by omega),IA _ _ j];simp only;rw[if_pos h,OR]
theorem Co (h:n<18446744073709551616):(vb n).length<=10:=Ag h
theorem Dy (h:s.length<18446744073709551616):(txL s).length<=10+s.length:=by
 unfold txL;rw[List.length_append];have:=Co h;omega
theorem IR:∀ {fs:List Fd},(∀f∈fs,f.1.length<=32/\f.2.length<=4096)->(putFs fs).length<=20*fs.length+sizeFs fs
 | [],_=>by simp[putFs,sizeFs]
 | f::fs,h=>by
  have h1:=IR (fs:=fs) fun x a=>h x (by simp[a]);have Y:=h f (by simp);have h2:=Dy (s:=f.1) (by omega);have H:=Dy (s:=f.2) (by omega);have j:(putFs (f::fs)).length=(txL f.1).length+(txL f.2).length+(putFs fs).length:=by unfold putFs;rw[List.flatMap_cons,List.length_append];unfold putF;rw[List.length_append]
  have b:sizeFs (f::fs)=f.1.length+f.2.length+sizeFs fs:=by unfold sizeFs;rw[List.map_cons,List.sum_cons];rfl
  rw[j,b,List.length_cons];omega
end
section
open Go.RowKit Go.Maps
theorem Cr (A:Option Addr) (n c:Nat) (l:List UInt8) (w:World) (hn:n=l.length) (U:Bs w A l) (hz:A=none->c=0) (Z:n<=1073741824) :
 Calls prog 55 #[.slice A n c] w fun e w'=>∃A1 c1,e = .returned (.slice A1 n c1)/\Buf w' w.heap.size 5 A1 n c1 (l.map B8)/\Ext w w':=by
 cases A with
 | none =>
  have O:l = []:=by
   rcases U with h | ⟨_,_,h,_⟩
   ·simpa using h
   ·cases h
  subst O;obtain rfl:c=0:=hz rfl;obtain rfl:n=0:=hn;have I:=RK w
  go_in
  go_wp2_with fail;go_ret;exact⟨none,0,rfl,Buf.nil _ _ _,Ext.refl _⟩
 | some a =>
  have I:=RM a n c w;have G:=IN w 5;have j:Ext w (w.alloc (.cells #[] 5)):=(Ext.refl w).alloc _;have hb:=U.ext j;have b:(l.map B8).length=n*1:=by rw[List.length_map,hn];omega
  have J:w.heap.size<=(w.alloc (.cells #[] 5)).heap.size:=j.size;replace b:=Aa b;replace hn:=Aa hn
  go_in
  go_wp2_with (at_builtin;refine AV (m:=n) Aw G hb (.tmp 5) (.tmp 6) rfl rfl rfl rfl rfl b.out (Ai _) (by omega) J (fun A1 c1 w3 Y H T=>?_));go_ret;refine⟨A1,c1,rfl,?_,j.grown H (fun k hk=>by cases hk;exact Nat.le_refl _)⟩;have:=Buf.of_own Y;rw[Nat.zero_add]at this;exact this
end
section
open Go.RowKit
theorem K8 (h:vb x=pre++vb m) (j:128<=m):vb x=(pre ++ [UInt8.ofNat (m%128+128)])++vb (m / 128):=by
 rw[h,Je (by omega),List.append_assoc];rfl
theorem M4 (k a:Nat) (h:a<2^k):(2^k - 1) ^^^ a=2^k - 1 - a:=by
 apply Nat.eq_of_testBit_eq;intro i;rw[Nat.testBit_xor,Nat.testBit_two_pow_sub_one,show 2^k - 1 - a=2^k - (a+1)by omega,Nat.testBit_two_pow_sub_succ h];by_cases hi:i<k
 ·simp[hi]
 ·have:a.testBit i=false:=Nat.testBit_lt_two_pow (Nat.lt_of_lt_of_le h (Nat.pow_le_pow_right (by omega) (by omega)));simp[hi,this]
theorem Lg (a:Nat) (h:a<18446744073709551616):bits .xor .u64 IntKind.u64.max (a:Int)=((18446744073709551615 - a:Nat):Int):=by
 rw[show IntKind.u64.max=((18446744073709551615:Nat):Int)from rfl,u64_xor_nat _ _ (by omega) h];exact congrArg _ (M4 64 a h)
theorem Dh (a:Nat) (h:a<4294967296):bits .xor .u32 IntKind.u32.max (a:Int)=((4294967295 - a:Nat):Int):=by
 rw[show IntKind.u32.max=((4294967295:Nat):Int)from rfl,u32_xor_nat _ _ (by omega) h];exact congrArg _ (M4 32 a h)
theorem Qo (x:Int) (h:x<0) (h2 : -9223372036854775808<=x):IntKind.u64.wrap (IntKind.u64.wrap x*2)=((18446744073709551615 - (2*(-1 - x).toNat+1):Nat):Int):=by
 have e:∀y:Int,IntKind.u64.wrap y=y%18446744073709551616:=fun y=>by simp[IntKind.wrap,IntKind.bits,IntKind.signed]
 rw[e,e];omega
theorem QY (m:Nat):bits .or .u8 ((m:Int)%256) 128=((m%128+128:Nat):Int):=by
 have h:∀k:Fin 256,k.val ||| 128=k.val%128+128:=by decide +kernel
 have hk:=h ⟨m%256,by omega⟩;simp only at hk;rw[show (m:Int)%256=((m%256:Nat):Int)by omega,show (128:Int)=((128:Nat):Int)from rfl,u8_or_nat _ _ (by omega) (by omega),hk];congr 1;omega
theorem JB (l:List UInt8) (hk:k<256):(l ++ [UInt8.ofNat k]).map B8=l.map B8 ++ [.int .u8 (k:Int)]:=by
 rw[List.map_append,List.map_singleton];unfold B8;rw[UInt8.toNat_ofNat',Nat.mod_eq_of_lt hk]
theorem Cm (A:Option Addr) (n c x:Nat) (l:List UInt8) (w:World) (hn:n=l.length) (H:Bs w A l) (G:A=none->c=0) (h0:n<=1000000000) (Z:x<18446744073709551616) :
 Calls prog 79 #[.slice A n c,.int .u64 x] w fun e w'=>NewB w (l++vb x) e w':=by
 have a:=Cr A n c l w hn H G (by omega);have I:=Ag Z;replace a:=Aa a;replace hn:=Aa hn;clear H G
 go_in
 go_wp2_with fail;refine a.out.mono ?_;rintro e w1 ⟨A1,c1,rfl,O,U⟩;go_wp2_with fail
 go_loopw [1,5] (fun s1 s5 wr=>∃(m:Nat) (pre:List UInt8) (A2:Option Addr) (c2:Nat),s1 = .int .u64 m/\s5 = .slice A2 (n+pre.length) c2/\m<18446744073709551616/\pre.length<=10/\Hid (vb x=pre++vb m)/\Hid (Buf wr w.heap.size 5 A2 (n+pre.length) c2 ((l++pre).map B8))/\Hid (Ext w wr)) (fun s1 _ _=>(intOf s1).toNat)
 case atStart=>exact⟨x,[],A1,c1,rfl,rfl,Z,by simp,rfl,by rw[List.append_nil];exact Aa O,Aa U⟩
 case round =>
  obtain⟨m,pre,A2,c2,rfl,rfl,hm,hp,T,hb,J⟩:=hrel;have Y:=J.out.size;by_cases h:128<=m
  ·have q0:=QY m;go_wp2_with (at_builtin;refine Au Aw hb.out (.tmp 10) (.tmp 14) rfl rfl rfl rfl (Az rfl) (by simp;omega) Y (fun A3 c3 w3 b j=>?_));go_roundw
   case rel=>exact⟨m / 128,pre ++ [UInt8.ofNat (m%128+128)],A3,c3,by go_num,by rw[List.length_append];rfl,by omega,(by
    have h1:=congrArg List.length (K8 T.out h);have h2:=Qi (m / 128);rw[List.length_append,List.length_append,List.length_singleton]at h1;rw[List.length_append,List.length_singleton];omega),Aa (K8 T.out h),Aa (by rw[<-List.append_assoc,JB _ (by omega),List.length_append];exact b),Aa (j w J.out (Nat.le_refl _))⟩
   case measure=>simp[intOf];omega
  ·go_wp2_with (at_builtin;refine Au Aw hb.out (.tmp 18) (.tmp 21) rfl rfl rfl rfl (Az rfl) (by simp;omega) Y (fun A3 c3 w3 b j=>?_));go_ret;have H:l++vb x=(l++pre) ++ [UInt8.ofNat m]:=by rw[T.out,Gn (by omega),List.append_assoc]
   have hlen:(l++vb x).length=n+pre.length+1:=by rw[H,hn.out];simp;omega
   exact⟨A3,c3,by rw[hlen];rfl,by rw[hlen,H,JB _ (by omega)];exact b,j w J.out (Nat.le_refl _)⟩
theorem EF (A:Option Addr) (n c:Nat) (x:Int) (l:List UInt8) (w:World) (hn:n=l.length) (I:Bs w A l) (hz:A=none->c=0) (O:n<=1000000000) (T : -9223372036854775808<=x) (J:x<=9223372036854775807) :
 Calls prog 88 #[.slice A n c,.int .i64 x] w fun e w'=>NewB w (l++vb (zig x)) e w':=by
 have Y:=Cm A n c (zig x) l w hn I hz O (CM T J);have h:zig x=if 0<=x then 2*x.toNat else 2*(-1 - x).toNat+1:=rfl;obtain⟨Z,G⟩:=Ab (zig x);rw[<-G]at Y h ⊢;clear G hn I hz;replace Y:=Aa Y;by_cases U:0<=x
 ·rw[if_pos U]at h;replace h:=Aa h
  go_in
  go_wp2_with fail;rw[show (x*2:Int)=(Z:Int)by have:=h.out;omega];refine Y.out.mono ?_;rintro e w1 ⟨A1,c1,rfl,H,a⟩;go_wp2_with fail;go_ret;exact⟨A1,c1,Cy (by rw[List.length_append]),H,a⟩
 ·rw[if_neg U]at h;have b:=CM T J;unfold zig at b;rw[if_neg U]at b;have j:=Lg (18446744073709551615 - (2*(-1 - x).toNat+1)) (by omega);rw[show 18446744073709551615 - (18446744073709551615 - (2*(-1 - x).toNat+1))=2*(-1 - x).toNat+1 by omega,<-Qo x (by omega) T,<-h]at j;clear b;replace h:=Aa h;replace j:=Aa j
  go_in
  go_wp2_with fail;rw[j.out];refine Y.out.mono ?_;rintro e w1 ⟨A1,c1,rfl,H,a⟩;go_wp2_with fail;go_ret;exact⟨A1,c1,Cy (by rw[List.length_append]),H,a⟩
theorem De (xs:List Int) (h:∀x∈xs,-9223372036854775808<=x/\x<=9223372036854775807):∀i,(vall (xs.take i)).length<=10*i:=by
 induction xs with
 | nil=>intro i;simp[vall]
 | cons x xs ih =>
  intro i;cases i with
  | zero=>simp[vall]
  | succ i =>
   have h1:=ih (fun y j=>h y (List.mem_cons_of_mem _ j)) i;have h2:=h x (List.mem_cons_self ..);have b:=Ag (CM h2.1 h2.2);unfold vall at h1 ⊢;rw[List.take_succ_cons,List.flatMap_cons,List.length_append];omega
theorem Ma (A B:Option Addr) (n c k c2:Nat) (xs:List Int) (l:List UInt8) (w:World) (hn:n=l.length) (hl:Bs w A l) (hz:A=none->c=0) (hk:k=xs.length) (j0:Cells w B (xs.map (Value.int .i64))) (x0:n+10*k<=1000000000) (G:∀x∈xs,-9223372036854775808<=x/\x<=9223372036854775807) :
 Calls prog 51 #[.slice A n c,.slice B k c2] w fun e w'=>NewB w (l++vall xs) e w':=by
 have Y:=Cr A n c l w hn hl hz (by omega);have hlen:∀i,(vall (xs.take i)).length<=10*i:=De xs G;replace Y:=Aa Y;replace hn:=Aa hn;replace hk:=Aa hk;replace G:=Aa G;replace hlen:=Aa hlen;clear hl hz
 go_in
 go_wp2_with fail;refine Y.out.mono ?_;rintro e w1 ⟨A1,c1,rfl,q0,I⟩;go_wp2_with fail
 go_loopw [5,12] (fun s5 s12 wr=>∃(i:Nat) (A2:Option Addr) (m2 c2:Nat),s12 = .int .i64 i/\i<=k/\s5 = .slice A2 m2 c2/\Hid (m2=(l++vall (xs.take i)).length)/\Hid (Buf wr w.heap.size 5 A2 m2 c2 ((l++vall (xs.take i)).map B8))/\Hid (Ext w wr)) (fun _ s12 _=>k - (intOf s12).toNat)
 case atStart=>exact⟨0,A1,n,c1,rfl,by omega,rfl,Aa (by rw[hn.out];simp[vall]),Aa (by simpa [vall]using q0),Aa I⟩
 case round =>
  obtain⟨i,A2,m2,c3,rfl,hi,rfl,j,hb,Z⟩:=hrel;by_cases k0:i<k
  ·have h:i<xs.length:=by rw[<-hk.out];exact k0
   obtain⟨g,o,rfl,hc⟩:=j0.at_ (by rw[List.length_map];omega);have J:=G.out xs[i] (List.getElem_mem h);have H:=Z.out.cell (hc i (.int .i64 xs[i]) (by rw[List.getElem?_map,List.getElem?_eq_getElem h];rfl));have U:=hlen.out i;have b:=EF A2 m2 c3 xs[i] (l++vall (xs.take i)) wr j.out hb.out.cells hb.out.none_cap (by rw[j.out,List.length_append,<-hn.out];omega) J.1 J.2;have O:(l++vall (xs.take i))++vb (zig xs[i])=l++vall (xs.take (i+1)):=by
    rw[List.append_assoc,List.take_succ_eq_append_getElem h];unfold vall;rw[List.flatMap_append];simp
   rw[O]at b;obtain⟨X,hX⟩:=Ab (xs[i]);rw[<-hX]at H b J;replace b:=Aa b;clear hX O hc U;go_wp2_with fail;refine b.out.mono ?_;rintro e w3 ⟨A3,c4,rfl,p0,h0⟩;go_wp2_with fail;go_roundw
   case rel=>exact⟨i+1,A3,_,c4,by go_num,by omega,rfl,Aa (by rw[List.length_append]),Aa (by rw[<-List.length_append];exact p0.lower Z.out.size),Aa (Z.out.trans h0)⟩
   case measure=>simp[intOf];omega
  ·have a:i=k:=by omega
   have T:xs.take i=xs:=List.take_of_length_le (by rw[a,hk.out];exact Nat.le_refl _);rw[T]at hb j;clear T a;go_wp2_with fail;go_ret;exact⟨A2,c3,by rw[j.out];rfl,by rw[<-j.out];exact hb.out,Z.out⟩
theorem EO (w:World) (us:List Value) (t:TypeId) (h:us.length<=9223372036854775807):Buf (w.alloc (.cells us.toArray t)) w.heap.size t (some ⟨w.heap.size,0,none⟩) us.length us.length us :=
 ⟨rfl,Nat.le_refl _,.inr ⟨w.heap.size,us.toArray,rfl,Nat.le_refl _,heap_alloc_new w _,by simp,by simp⟩⟩
theorem Kq (w:World) (hk:k<256):NewB w [UInt8.ofNat k] (.returned (.slice (some ⟨w.heap.size,0,none⟩) 1 1)) (w.alloc (.cells #[.int .u8 (k:Int)] 5)):=by
 have h:=JB [] hk;rw[List.nil_append]at h;refine⟨_,_,rfl,?_,(Ext.refl w).alloc _⟩;rw[h];exact EO w [.int .u8 (k:Int)] 5 (by simp)
theorem Me (k:Nat):∀(n:Nat) (w:World),n<128^(k+1)->n<18446744073709551616->Calls prog 152 #[.int .u64 n] w fun e w'=>NewB w (vb n) e w':=by
 induction k with
 | zero =>
  intro n w h1 h2;have U:n<128:=by simpa using h1
  rw[Gn U];clear h1
  go_in
  go_wp2_with fail;go_ret;exact Kq w (by omega)
 | succ k ih =>
  intro n w h1 h2;by_cases U:n<128
  ·rw[Gn U];clear h1 ih
   go_in
   go_wp2_with fail;go_ret;exact Kq w (by omega)
  ·obtain⟨q,hq⟩:=Ab (n%128+128);obtain⟨m,hm⟩:=Ab (n / 128);have a:=ih m (w.alloc (.cells #[.int .u8 (q:Int)] 5)) (by rw[Nat.pow_succ]at h1;omega) (by omega);have b:=EO w [.int .u8 (q:Int)] 5 (by simp);have p0:=Ag (n:=m) (by omega);have j:Ext w (w.alloc (.cells #[.int .u8 (q:Int)] 5)):=(Ext.refl w).alloc _;have H:B8 (UInt8.ofNat q) = .int .u8 (q:Int):=by unfold B8;rw[UInt8.toNat_ofNat',Nat.mod_eq_of_lt (by omega)]
   have h:=Je U;rw[<-hq,<-hm]at h;have j0:((n:Int)%128+128)=(q:Int):=by omega
   have g0:(n:Int) / 128=(m:Int):=by omega
   have k0:q<256:=by omega
   clear h1 ih hq hm;replace a:=Aa a;replace b:=Aa b;replace j:=Aa j;replace H:=Aa H;replace h:=Aa h
   go_in
   go_wp2_with fail;refine a.out.mono ?_;rintro e w1 ⟨A1,c1,rfl,T,Y⟩;have Z:=b.out.ext Y;have J:=j.out.trans Y;have I:=J.size;go_wp2_with (at_builtin;refine Al Aw Z T.cells (.tmp 12) (.tmp 15) rfl rfl rfl rfl rfl (by rw[List.length_map]) (Ai _) (by simp;omega) I (fun A3 c3 w3 G _ O _=>?_));go_ret;rw[h.out];refine⟨A3,c3,Cy (by rw[List.length_cons,Nat.add_comm]),?_,O w J (Nat.le_refl _)⟩;have:(UInt8.ofNat q::vb m).map B8 = [.int .u8 (q:Int)]++(vb m).map B8:=by rw[List.map_cons,H.out];rfl
   rw[this,List.length_cons,Nat.add_comm];exact G
theorem rbytes (n:Nat) (w:World) (h:n<18446744073709551616):Calls prog 152 #[.int .u64 n] w fun e w'=>NewB w (vb n) e w':=Me 9 n w (by omega) h
theorem MG (x:Int) (w:World) (j : -9223372036854775808<=x) (h:x<=9223372036854775807):Calls prog 157 #[.int .i64 x] w fun e w'=>e = .returned (.int .u64 (zig x))/\w'=w:=by
 go_in
 go_wp2_with fail
 all_goals go_ret
 all_goals exact⟨Fb (by unfold zig;first | (rw[if_pos (by omega)];omega) | (rw[if_neg (by omega)];omega)),rfl⟩
theorem Hh (x:Int) (w:World) (b : -9223372036854775808<=x) (h:x<=9223372036854775807):Calls prog 111 #[.int .i64 x] w fun e w'=>NewB w (vb (zig x)) e w':=by
 have H:=Aa (fun w=>MG x w b h);have hb:=Aa (fun w=>rbytes (zig x) w (CM b h))
 go_in
 go_wp2_with fail;refine(H.out _).mono ?_;rintro e w1 ⟨rfl,rfl⟩;go_wp2_with fail;refine(hb.out _).mono ?_;rintro e w2 ⟨A,c,rfl,j,a⟩;go_wp2_with fail;go_ret;exact⟨A,c,rfl,j,a⟩
theorem PW (B:Option Addr) (k c2:Nat) (xs:List Int) (w:World) (hk:k=xs.length) (t0:Cells w B (xs.map (Value.int .i64))) (y0:k<=100000000) (G:∀x∈xs,-9223372036854775808<=x/\x<=9223372036854775807) :
 Calls prog 65 #[.slice B k c2] w fun e w'=>NewB w (vall xs) e w':=by
 have hlen:∀i,(vall (xs.take i)).length<=10*i:=De xs G;replace hk:=Aa hk;replace G:=Aa G;replace hlen:=Aa hlen
 go_in
 go_wp2_with fail
 go_loopw [3,4] (fun s3 s4 wr=>∃(i:Nat) (A2:Option Addr) (m2 c2:Nat),s4 = .int .i64 i/\i<=k/\s3 = .slice A2 m2 c2/\Hid (m2=(vall (xs.take i)).length)/\Hid (Buf wr w.heap.size 5 A2 m2 c2 ((vall (xs.take i)).map B8))/\Hid (Ext w wr)) (fun _ s4 _=>k - (intOf s4).toNat)
 case atStart=>exact⟨0,none,0,0,rfl,by omega,rfl,Aa rfl,Aa (Buf.nil _ _ _),Aa (Ext.refl w)⟩
 case round =>
  obtain⟨i,A2,m2,c3,rfl,hi,rfl,j,hb,I⟩:=hrel;by_cases j0:i<k
  ·have h:i<xs.length:=by rw[<-hk.out];exact j0
   obtain⟨g,o,rfl,hc⟩:=t0.at_ (by rw[List.length_map];omega);have a:=G.out xs[i] (List.getElem_mem h);have U:=I.out.cell (hc i (.int .i64 xs[i]) (by rw[List.getElem?_map,List.getElem?_eq_getElem h];rfl));have J:=hlen.out i;have H:=fun w=>Hh xs[i] w a.1 a.2;have b:vall (xs.take i)++vb (zig xs[i])=vall (xs.take (i+1)):=by
    rw[List.take_succ_eq_append_getElem h];unfold vall;rw[List.flatMap_append];simp
   have m0:=Ag (CM a.1 a.2);have c0:m2<=10*i:=by rw[j.out];exact J
   obtain⟨X,hX⟩:=Ab (xs[i]);rw[<-hX]at U H a m0 b;replace H:=Aa H;replace b:=Aa b;clear hX hc J;go_wp2_with fail;refine(H.out _).mono ?_;rintro e w3 ⟨A3,c4,rfl,p0,O⟩;have q0:=hb.out.ext O;have T:=I.out.trans O;have g0:=T.size;go_wp2_with (at_builtin;refine Al Aw q0 p0.cells (.tmp 11) (.tmp 16) rfl rfl rfl rfl rfl (by rw[List.length_map]) (Ai _) (by omega) g0 (fun A5 c5 w5 k0 _ h0 _=>?_));go_roundw
   case rel=>exact⟨i+1,A5,_,c5,by go_num,by omega,rfl,Aa (by rw[<-b.out,List.length_append,j.out]),Aa (by rw[<-b.out,List.map_append];exact k0),Aa (h0 w T (Nat.le_refl _))⟩
   case measure=>simp[intOf];omega
  ·have Y:i=k:=by omega
   have Z:xs.take i=xs:=List.take_of_length_le (by rw[Y,hk.out];exact Nat.le_refl _);rw[Z]at hb j;clear Z Y;go_wp2_with fail;go_ret;exact⟨A2,c3,by rw[<-j.out];rfl,by rw[<-j.out];exact hb.out,I.out⟩
end
end Go.Proofs.YtfifdilapbeiiaaGreat
