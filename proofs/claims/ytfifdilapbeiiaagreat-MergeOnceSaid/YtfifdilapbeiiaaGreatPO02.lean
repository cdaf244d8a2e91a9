/- Texts of one proof, joined. -/
import Derived.Test.YtfifdilapbeiiaaGreatPO01
import Derived.Laws.BitsAllLaws
import Derived.Deep.CutRange
import Derived.Deep.DeepCutAuto
import Derived.Test.YtfifdilapbeiiaaGreatPOShelf
import Derived.Deep.Onto
import Derived.WalkMore
import Derived.ProofKit
import Derived.OpenShut
import Derived.ShutString
import Derived.ChangeOld
import Derived.Below
import Derived.Deep.Slices
import Derived.Deep.Fields
import Derived.ChangeSame
import Derived.SliceStrings
import Derived.HandedShaped
import Derived.Handed
set_option linter.unusedSimpArgs false
set_option linter.unusedVariables false
set_option maxRecDepth 100000
set_option maxHeartbeats 16000000
namespace Go.Proofs.YtfifdilapbeiiaaGreat
open _root_.Go.Proofs.Tryz
variable {ops:Array Oper} {Q:Exit → Act → World → Prop} {rs:List Nat} {L l r s:List UInt8} {us xs:List Value} {c fuel g i k n:Nat} {S:Nat → Prop} {o:Oper} {A:Option Addr} {P:Program} {e t:TypeId} {v:Value} {w w' w0 w1:World}
section
open Go.RowKit
structure Frm where
  k:Nat
  msk:Nat
  hd:Nat
  lo:Nat
  hi:Nat
  d:Nat
  q:Nat
def frm (i:Nat):Frm:=if i=0 then ⟨1,224,192,128,2047,32,6⟩ else if i=1 then ⟨2,240,224,2048,65535,16,14⟩ else ⟨3,248,240,65536,1114111,8,30⟩
def Frm.cells (f:Frm):Array Value:=#[.int .i64 ((f.k:Int)+1),.int .u8 (f.msk:Int),.int .u8 (f.hd:Int),.int .i64 (f.lo:Int),.int .i64 (f.hi:Int),.int .i64 (-1)]
theorem three (h:i<3):i=0\/i=1\/i=2:=by omega
theorem D3 (hi:i<3) (W:World):(Instr.index 292 (.agg formC) (.int .i64 (i:Int))).run prog W = .ok (.agg (frm i).cells) W:=by
 rcases three hi with rfl | rfl | rfl
 ·show _=_
  kernel_rfl
 ·show _=_
  kernel_rfl
 ·show _=_
  kernel_rfl
theorem QJ:∀b:Fin 256,∀i:Fin 3,bits .and .u8 ((b.val:Nat):Int) ((frm i.val).msk:Int)=((b.val / (frm i.val).d*(frm i.val).d:Nat):Int):=by decide +kernel
theorem QK:∀b:Fin 256,∀i:Fin 3,bits .andNot .u8 ((b.val:Nat):Int) ((frm i.val).msk:Int)=((b.val%(frm i.val).d:Nat):Int):=by decide +kernel
theorem Pi:∀i:Fin 3,(frm i.val).hd=(frm i.val).q*(frm i.val).d/\0<(frm i.val).d/\(frm i.val).d<=32/\(frm i.val).k<=3/\(frm i.val).hi<=1114111:=by decide +kernel
theorem Pj (hi:i<3) (b:UInt8):(bits .and .u8 (b.toNat:Int) ((frm i).msk:Int)=((frm i).hd:Int))↔b.toNat / (frm i).d=(frm i).q:=by
 have h1:=QJ ⟨b.toNat,b.toNat_lt⟩ ⟨i,hi⟩;have h2:=Pi ⟨i,hi⟩;simp only at h1 h2;rw[h1,h2.1];constructor
 ·intro h;exact Nat.eq_of_mul_eq_mul_right h2.2.1 (Int.ofNat.inj h)
 ·intro h;rw[h]
theorem RT (b:UInt8):bits .and .u8 (b.toNat:Int) 63=((b.toNat%64:Nat):Int):=by
 have h:∀k:Fin 256,bits .and .u8 ((k.val:Nat):Int) 63=((k.val%64:Nat):Int):=by decide +kernel
 exact h ⟨b.toNat,b.toNat_lt⟩
theorem Rj (b:UInt8):(bits .and .u8 (b.toNat:Int) 192=128)↔contB b=true:=by
 have h:∀k:Fin 256,(bits .and .u8 ((k.val:Nat):Int) 192=128)↔k.val / 64==2:=by decide +kernel
 exact h ⟨b.toNat,b.toNat_lt⟩
theorem LM (a b:Nat) (h:a<4611686018427387904) (hb:b<4611686018427387904):bits .or .i64 (a:Int) (b:Int)=((a ||| b:Nat):Int):=by
 have j:a ||| b<2^62:=Nat.or_lt_two_pow (by omega) (by omega)
 have h1:(BitVec.ofInt 64 (a:Int)).toNat=a:=by
  rw[BitVec.ofInt_natCast,BitVec.toNat_ofNat];exact Nat.mod_eq_of_lt (by omega)
 have h2:(BitVec.ofInt 64 (b:Int)).toNat=b:=by
  rw[BitVec.ofInt_natCast,BitVec.toNat_ofNat];exact Nat.mod_eq_of_lt (by omega)
 show IntKind.i64.wrap ((BitVec.ofInt 64 (a:Int) ||| BitVec.ofInt 64 (b:Int)).toNat:Int)=_;rw[BitVec.toNat_or,h1,h2,IntKind.wrap_i64];omega
theorem Sp (x y:Nat) (j:x<1073741824) (h:y<64):bits .or .i64 ((x:Int)*64) (y:Int)=((x*64+y:Nat):Int):=by
 have:=Nat.shiftLeft_add_eq_or_of_lt (i:=6) (b:=y) h x;rw[Nat.shiftLeft_eq]at this;rw[show (x:Int)*64=((x*64:Nat):Int)by omega,LM _ _ (by omega) (by omega),<-this]
def okF (i:Nat) (b:UInt8) (t:List UInt8):Bool:=b.toNat / (frm i).d==(frm i).q&&okR (frm i).lo (frm i).hi (b.toNat%(frm i).d) (frm i).k t
theorem Nw {b:UInt8} {t:List UInt8} (hi:i<3) (hb:¬ b.toNat<128) (hn:∀j,j<i->okF j b t=false) (h:okF i b t=true):decR (b::t)=(foldR (b.toNat%(frm i).d) (t.take (frm i).k),(frm i).k+1):=by
 rw[decR,if_neg hb];rcases three hi with rfl | rfl | rfl
 ·exact if_pos h
 ·have a:=hn 0 (by omega);rw[if_neg (by rw[show (b.toNat / 32==6&&okR 128 2047 (b.toNat%32) 1 t)=false from a];decide)];exact if_pos h
 ·have a:=hn 0 (by omega);have h1:=hn 1 (by omega);rw[if_neg (by rw[show (b.toNat / 32==6&&okR 128 2047 (b.toNat%32) 1 t)=false from a];decide),if_neg (by rw[show (b.toNat / 16==14&&okR 2048 65535 (b.toNat%16) 2 t)=false from h1];decide)];exact if_pos h
theorem Ny {b:UInt8} {t:List UInt8} (hb:¬ b.toNat<128) (hn:∀j,j<3->okF j b t=false):decR (b::t)=(65533,1):=by
 have h:=hn 0 (by omega);have h1:=hn 1 (by omega);have h2:=hn 2 (by omega);rw[decR,if_neg hb,if_neg (by rw[show (b.toNat / 32==6&&okR 128 2047 (b.toNat%32) 1 t)=false from h];decide),if_neg (by rw[show (b.toNat / 16==14&&okR 2048 65535 (b.toNat%16) 2 t)=false from h1];decide),if_neg (by rw[show (b.toNat / 8==30&&okR 65536 1114111 (b.toNat%8) 3 t)=false from h2];decide)]
theorem GM (n:Nat) (l:List UInt8):foldR n l<(n+1)*64^l.length:=by
 induction l generalizing n with
 | nil=>simp[foldR]
 | cons b l ih =>
  have h:=ih (n*64+b.toNat%64);rw[List.length_cons,Nat.pow_succ];refine Nat.lt_of_lt_of_le (show foldR n (b::l)<_ from h) ?_;rw[show (n+1)*(64^l.length*64)=(n*64+64)*64^l.length by rw[Nat.mul_comm (64^l.length) 64,<-Nat.mul_assoc,Nat.add_mul n 1 64]];exact Nat.mul_le_mul_right _ (by omega)
theorem GN (n:Nat) (l:List UInt8) (b:UInt8):foldR n (l ++ [b])=foldR n l*64+b.toNat%64:=by
 unfold foldR;rw[List.foldl_append];rfl
theorem Cd (hn:n<32) (j:l.length<=3):foldR n l<8388608:=by
 have h:=GM n l;have h2:(n+1)*64^l.length<=32*64^3:=Nat.mul_le_mul (by omega) (Nat.pow_le_pow_right (by omega) j);omega
theorem Nn (l:List UInt8) (a b:Nat):(⟨l.toArray⟩:ByteArray).extract a b=⟨((l.drop a).take (b - a)).toArray⟩:=by
 have:((⟨l.toArray⟩:ByteArray).extract a b).data=((l.drop a).take (b - a)).toArray:=by
  rw[ByteArray.data_extract,List.extract_toArray,List.extract_eq_take_drop]
 generalize (⟨l.toArray⟩:ByteArray).extract a b=x at this;cases x;subst this;rfl
theorem Qz (h:Bs w (some ⟨g,0,none⟩) l) {j:Nat} {b:UInt8} (hb:l[j]? = some b):w.cell? ⟨g,j,none⟩=some (.int .u8 (b.toNat:Int)):=by
 obtain⟨g',o,a,H⟩:=Cells.at_ h (by rw[List.length_map];exact Nat.lt_of_le_of_lt (Nat.zero_le _) (List.getElem?_eq_some_iff.1 hb).1);cases a;have:=H j (B8 b) (by rw[List.getElem?_map,hb];rfl)
 rwa [Nat.zero_add]at this
theorem J2 (l:List UInt8) (at_:Nat) (b:UInt8) (w:World) (hb:l[at_]? = some b) (hl:l.length<=1073741824) (d1:¬ b.toNat<128) :
 Calls prog 194 #[.string ⟨l.toArray⟩,.int .i64 (at_:Int)] w fun e w'=>e = .returned (.tuple #[.int .i64 (decR (l.drop at_)).1,.int .i64 (decR (l.drop at_)).2])/\Ext w w':=by
 have m3:=(List.getElem?_eq_some_iff.1 hb).1;have h4:=fun W=>AB hb (z:=(at_:Int)) rfl W;have Z:=Aa (fun W=>NN W);obtain⟨F,hF⟩:=Ab formC;rw[<-hF]at Z;have p0:=fun i (h:i<3) W=>D3 h W;rw[<-hF]at p0;unfold Frm.cells at p0;replace p0:=Aa p0;replace hF:=Aa hF;obtain⟨t,ht⟩:=Ab (l.drop (at_+1));have r0:l.drop at_=b::t:=by
  rw[ht,List.drop_eq_getElem_cons m3];congr 1;exact(List.getElem?_eq_some_iff.1 hb).2
 have f0:t.length=l.length - (at_+1):=by rw[ht,List.length_drop]
 obtain⟨R,hR⟩:=Ab (decR (b::t));rw[r0,<-hR];replace r0:=Aa r0;replace ht:=Aa ht;replace hR:=Aa hR;replace f0:=Aa f0;have a3:¬ (b.toNat:Int)<128:=by omega
 replace hb:=Aa hb
 go_in
 go_wp2_with fail;refine(Z.out _).mono ?_;rintro e w1 ⟨rfl,p3⟩;go_wp2_with fail
 go_loopw [29] (fun s29 wr=>∃i:Nat,s29 = .int .i64 (i:Int)/\i<=3/\Ext w wr/\(∀j,j<i->okF j b t=false)) (fun s29 _=>3 - (intOf s29).toNat)
 case atStart=>exact⟨0,rfl,by omega,p3,fun j hj=>absurd hj (by omega)⟩
 case round =>
  obtain⟨i,rfl,r3,hE,Y⟩:=hrel;replace Y:=Aa Y;by_cases hi:i<3
  ·obtain⟨f,hf⟩:=Ab (frm i);have i1:=p0.out i hi;have J:=Pj hi b;have d0:=QK ⟨b.toNat,b.toNat_lt⟩ ⟨i,hi⟩;have H:=Pi ⟨i,hi⟩;simp only at d0 H;rw[<-hf]at i1 J d0 H;obtain⟨k,msk,hd,lo,b0,d,q'⟩:=f;simp only at i1 J d0 H;obtain⟨n0,k0⟩:=Ab (b.toNat%d);rw[<-k0]at d0;have q2:n0<32:=by
    have:=Nat.mod_lt b.toNat H.2.1;omega
   replace k0:=Aa k0;replace hf:=Aa hf;by_cases hA:bits .and .u8 (b.toNat:Int) (msk:Int)=(hd:Int)
   ·replace J:=Aa J;by_cases hk:k<=t.length
    ·have x3:((k:Int)+1)<=(l.length:Int) - (at_:Int):=by have:=f0.out;omega
     obtain⟨T,hT⟩:=Ab (t.take k);have j3:T.length=k:=by rw[hT,List.length_take];omega
     obtain⟨W0,G⟩:=Ab (wr.alloc (.cells #[.int .i64 ((k:Int)+1),.int .u8 (msk:Int),.int .u8 (hd:Int),.int .i64 (lo:Int),.int .i64 (b0:Int),.int .i64 (-1)] 291));obtain⟨c,W1,h1,hB,l0,x2⟩:=FM T W0;have i3:(⟨l.toArray⟩:ByteArray).extract (at_+1) (at_+(k+1))=⟨T.toArray⟩:=by
      rw[Nn,<-ht.out,hT,show at_+(k+1) - (at_+1)=k by omega]
     rw[j3]at h1;replace hT:=Aa hT;have j2:=Row.new wr 291 #[.int .i64 ((k:Int)+1),.int .u8 (msk:Int),.int .u8 (hd:Int),.int .i64 (lo:Int),.int .i64 (b0:Int),.int .i64 (-1)];rw[<-G]at j2;have m2:=Row.ext j2 l0;have g0:Ext w W1:=((hE.alloc _).trans (by rw[<-G];exact l0))
     have o1:W0.heap.size=wr.heap.size+1:=by rw[G];simp
     have x0:=m2.get;obtain⟨g1,k1⟩:=Ab W0.heap.size;rw[<-k1]at h1 hB;replace k1:=Aa k1;rw[G]at h1;obtain⟨g,hg⟩:=Ab wr.heap.size;replace o1:=Aa o1;have f1:=x0;rw[<-hg]at f1;have p4:k<=3:=H.2.2.2.1;replace H:=Aa H;replace hg:=Aa hg;replace G:=Aa G;replace hB:=Aa hB;replace x2:=Aa x2;have U:=fun(j:Nat) (b':UInt8) (h:T[j]? = some b')=>Qz hB.out h;replace x0:=Aa x0;go_upto_region 12 with (fail)
     go_loopw [63,9,10] (fun s63 s9 s10 wr'=>∃(j X:Nat) (q:Bool),s63 = .int .i64 (j:Int)/\s9 = .int .i64 (X:Int)/\s10 = .bool q/\j<=k/\X=foldR n0 (T.take j)/\q=(T.take j).all contB/\wr'=W1) (fun s63 _ _ _=>k - (intOf s63).toNat)
     case atStart=>exact⟨0,n0,true,rfl,rfl,rfl,by omega,rfl,rfl,rfl⟩
     case round =>
      obtain⟨j,X,q,rfl,rfl,rfl,q4,hX,hq,rfl⟩:=hrel;by_cases hj:j<k
      ·obtain⟨b',v0⟩:∃b',T[j]? = some b':=⟨_,List.getElem?_eq_getElem (by omega)⟩
       have k4:=U j b' v0;have q3:=RT b';have o3:X<8388608:=by rw[hX];exact Cd q2 (by rw[List.length_take];omega)
       have k2:=Sp X (b'.toNat%64) (by omega) (by omega);obtain⟨y,hy⟩:=Ab (b'.toNat%64);rw[<-hy]at q3 k2;obtain⟨X2,t0⟩:=Ab (X*64+y);rw[<-t0]at k2;have i0:T.take (j+1)=T.take j ++ [b']:=by rw[List.take_add_one,v0];rfl
       have o0:X2=foldR n0 (T.take (j+1)):=by rw[i0,GN,<-hX,t0,hy]
       have e0:(q&&contB b')=(T.take (j+1)).all contB:=by rw[i0,List.all_append,<-hq];simp
       have O:=Rj b';have f3:y<64:=by omega
       replace hy:=Aa hy;replace t0:=Aa t0;replace hX:=Aa hX;replace hq:=Aa hq;replace v0:=Aa v0;replace i0:=Aa i0;replace o0:=Aa o0;replace e0:=Aa e0;replace U:=Aa U;obtain⟨qb,m1⟩:=Ab (contB b');rw[<-m1]at O e0;replace m1:=Aa m1;cases q <;> cases qb
       all_goals
        have h0:=O;simp only[Bool.false_eq_true,iff_true,iff_false,iff_self]at h0;replace O:=Aa O;go_wp2_with fail
        case roundEnd=>exact⟨⟨j+1,X2,_,rfl,rfl,rfl,by omega,o0.out,by rw[<-e0.out];first | rfl | simp[h0],trivial⟩,by simp only[intOf];omega⟩
      ·obtain rfl:j=k:=by omega
       have k3:T.take j=T:=List.take_of_length_le (by omega);rw[k3]at hX hq;have c0:=fun W=>LN (lo:Int) (b0:Int) (-1) (X:Int) W;have y0:=fun W=>C3 (X:Int) W;obtain⟨z,hz⟩:=Ab (inB (lo:Int) (b0:Int) (-1) (X:Int));obtain⟨v,hv⟩:=Ab ((decide (55296<=(X:Int))&&decide ((X:Int)<=57343)));rw[<-hz]at c0;rw[<-hv]at y0;have I:okF i b t=(q&&z && !v):=by
        unfold okF okR;rw[<-hf.out];simp only;rw[<-k0.out,<-hT.out,<-hX,<-hq,hz,hv,show (b.toNat / d==q')=true from beq_iff_eq.2 (J.out.1 hA)];unfold inB;have e1:(55296<=(X:Int))↔55296<=X:=by omega
        have e2:((X:Int)<=57343)↔X<=57343:=by omega
        have e3:((X:Int) != -1)=true:=bne_iff_ne.2 (by omega);simp only[e1,e2,e3,Int.ofNat_le,hk,decide_true,Bool.true_and,Bool.and_true,Bool.and_assoc]
       replace c0:=Aa c0;replace y0:=Aa y0;replace I:=Aa I;replace hX:=Aa hX;replace hq:=Aa hq;replace hz:=Aa hz;replace hv:=Aa hv;replace U:=Aa U;have b3:=x0.out;cases q
       ·go_wp2_with fail
        case roundEnd =>
         refine⟨⟨i+1,rfl,by omega,g0,fun j' h2=>?_⟩,by simp only[intOf];omega⟩;by_cases h:j'<i
         ·exact Y.out j' h
         ·obtain rfl:j'=i:=by omega
          exact I.out
       ·go_wp2_with fail;refine(c0.out _).mono ?_;rintro e w2 ⟨rfl,j0⟩;cases z
        ·go_wp2_with fail
         case roundEnd =>
          refine⟨⟨i+1,rfl,by omega,(g0.trans j0),fun j' h2=>?_⟩,by simp only[intOf];omega⟩;by_cases h:j'<i
          ·exact Y.out j' h
          ·obtain rfl:j'=i:=by omega
           exact I.out
        ·go_wp2_with fail;refine(y0.out _).mono ?_;rintro e w3 ⟨rfl,rfl⟩;cases v
         ·have q0:=Nw hi d1 Y.out I.out;rw[<-hf.out,<-k0.out,<-hR.out]at q0;simp only at q0;rw[<-hT.out,<-hX.out]at q0;obtain⟨R1,R2⟩:=R;simp only[Prod.mk.injEq]at q0;obtain⟨rfl,rfl⟩:=q0;have y3:=Row.ext m2 j0;have d3:=y3.get;go_wp2_with fail;go_quiet (fail);go_wp2_with fail;go_ret2;exact⟨rfl,(g0.trans j0).drewN _⟩
         ·go_wp2_with fail
          case roundEnd =>
           refine⟨⟨i+1,rfl,by omega,(g0.trans j0),fun j' h2=>?_⟩,by simp only[intOf];omega⟩;by_cases h:j'<i
           ·exact Y.out j' h
           ·obtain rfl:j'=i:=by omega
            exact I.out
    ·have x3:¬ ((k:Int)+1)<=(l.length:Int) - (at_:Int):=by have:=f0.out;omega
     have a:okF i b t=false:=by
      unfold okF okR;rw[<-hf.out];simp[hk]
     replace a:=Aa a;replace H:=Aa H;go_wp2_with fail
     case roundEnd =>
      refine⟨⟨i+1,rfl,by omega,(hE.alloc _),fun j hj=>?_⟩,by simp only[intOf];omega⟩;by_cases h:j<i
      ·exact Y.out j h
      ·obtain rfl:j=i:=by omega
       exact a.out
   ·have a:okF i b t=false:=by
     unfold okF;rw[<-hf.out];have:¬ b.toNat / d=q':=fun h=>hA (J.2 h);simp[this]
    replace a:=Aa a;replace J:=Aa J;replace H:=Aa H;go_wp2_with fail
    case roundEnd =>
     refine⟨⟨i+1,rfl,by omega,(hE.alloc _),fun j hj=>?_⟩,by simp only[intOf];omega⟩;by_cases h:j<i
     ·exact Y.out j h
     ·obtain rfl:j=i:=by omega
      exact a.out
  ·obtain rfl:i=3:=by omega
   have a1:R=(65533,1):=by
    rw[hR.out];exact Ny d1 Y.out
   obtain⟨R1,R2⟩:=R;simp only[Prod.mk.injEq]at a1;obtain⟨rfl,rfl⟩:=a1;go_wp2_with fail
   all_goals
    go_ret2;exact⟨rfl,hE⟩
structure Spn where
  lo:Int
  hi:Int
  but:Int
def Spn.cells (s:Spn):Array Value:=#[.int .i64 s.lo,.int .i64 s.hi,.int .i64 s.but]
def Spn.has (s:Spn) (z:Int):Bool:=inB s.lo s.hi s.but z
def spL (i:Nat):Spn:=if i=0 then ⟨65,90,-1⟩ else if i=1 then ⟨192,222,215⟩ else if i=2 then ⟨913,939,930⟩ else ⟨1040,1071,-1⟩
def spW (i:Nat):Spn:=if i=0 then ⟨48,57,-1⟩ else if i=1 then ⟨65,90,-1⟩ else if i=2 then ⟨97,122,-1⟩ else if i=3 then ⟨192,255,215⟩ else if i=4 then ⟨913,974,930⟩ else ⟨1024,1119,-1⟩
def LC:Array Value:=#[.int .i64 65,.int .i64 90,.int .i64 (-1),.int .i64 192,.int .i64 222,.int .i64 215,.int .i64 913,.int .i64 939,.int .i64 930,.int .i64 1040,.int .i64 1071,.int .i64 (-1)]
def WC:Array Value:=#[.int .i64 48,.int .i64 57,.int .i64 (-1),.int .i64 65,.int .i64 90,.int .i64 (-1),.int .i64 97,.int .i64 122,.int .i64 (-1),.int .i64 192,.int .i64 255,.int .i64 215,.int .i64 913,.int .i64 974,.int .i64 930,.int .i64 1024,.int .i64 1119,.int .i64 (-1)]
theorem four (h:i<4):i=0\/i=1\/i=2\/i=3:=by omega
theorem six (h:i<6):i=0\/i=1\/i=2\/i=3\/i=4\/i=5:=by omega
theorem Q6 (hi:i<4) (W:World):(Instr.index 294 (.agg LC) (.int .i64 (i:Int))).run prog W = .ok (.agg (spL i).cells) W:=by
 rcases four hi with rfl | rfl | rfl | rfl
 ·show _=_
  kernel_rfl
 ·show _=_
  kernel_rfl
 ·show _=_
  kernel_rfl
 ·show _=_
  kernel_rfl
theorem Q7 (hi:i<6) (W:World):(Instr.index 264 (.agg WC) (.int .i64 (i:Int))).run prog W = .ok (.agg (spW i).cells) W:=by
 rcases six hi with rfl | rfl | rfl | rfl | rfl | rfl
 ·show _=_
  kernel_rfl
 ·show _=_
  kernel_rfl
 ·show _=_
  kernel_rfl
 ·show _=_
  kernel_rfl
 ·show _=_
  kernel_rfl
 ·show _=_
  kernel_rfl
theorem Gw (lo hi but:Int) (r:Nat):(Spn.mk lo hi but).has (r:Int)=true↔lo<=r/\(r:Int)<=hi/\(r:Int)≠but:=by
 unfold Spn.has inB;simp only[Bool.and_eq_true,decide_eq_true_eq,bne_iff_ne,and_assoc]
theorem Ca (lo hi but:Int) (r:Nat):(Spn.mk lo hi but).has (r:Int)=false↔¬ (lo<=r/\(r:Int)<=hi/\(r:Int)≠but):=by
 rw[<-Gw,Bool.not_eq_true]
theorem LV {r i:Nat} (hi:i<4) (h:(spL i).has (r:Int)=true):lowerR r=r+32:=by
 unfold lowerR;rcases four hi with rfl | rfl | rfl | rfl
 all_goals
  have h:=(Gw _ _ _ r).1 h;rw[if_pos (by omega)]
theorem NY {r:Nat} (h:∀i,i<4->(spL i).has (r:Int)=false):lowerR r=if inB 1024 1039 (-1) (r:Int)=true then r+80 else r:=by
 have a:=(Ca 65 90 (-1) r).1 (h 0 (by omega));have h1:=(Ca 192 222 215 r).1 (h 1 (by omega));have h2:=(Ca 913 939 930 r).1 (h 2 (by omega));have H:=(Ca 1040 1071 (-1) r).1 (h 3 (by omega));have j:=Gw 1024 1039 (-1) r;unfold Spn.has at j;unfold lowerR;rw[if_neg (by omega)];by_cases b:1024<=r/\r<=1039
 ·rw[if_pos b,if_pos (j.2 (by omega))]
 ·rw[if_neg b,if_neg (fun h=>b (by have:=j.1 h;omega))]
theorem OS {r i:Nat} (hi:i<6) (h:(spW i).has (r:Int)=true):wordR r=((r:Int) != 247):=by
 have e:((r:Int) != 247)=decide (r≠247):=by
  rw[Bool.eq_iff_iff];simp only[bne_iff_ne,decide_eq_true_eq];omega
 unfold wordR;rw[e,decide_eq_decide];rcases six hi with rfl | rfl | rfl | rfl | rfl | rfl
 all_goals
  have h:=(Gw _ _ _ r).1 h;omega
theorem Qk {r:Nat} (h:∀i,i<6->(spW i).has (r:Int)=false):wordR r=false:=by
 have j:=(Ca 48 57 (-1) r).1 (h 0 (by omega));have h1:=(Ca 65 90 (-1) r).1 (h 1 (by omega));have h2:=(Ca 97 122 (-1) r).1 (h 2 (by omega));have b:=(Ca 192 255 215 r).1 (h 3 (by omega));have a:=(Ca 913 974 930 r).1 (h 4 (by omega));have H:=(Ca 1024 1119 (-1) r).1 (h 5 (by omega));unfold wordR;rw[decide_eq_false_iff_not];omega
theorem NZ (r:Nat) (w:World) (hr:r<=1114111):Calls prog 197 #[.int .i64 (r:Int)] w fun e w'=>e = .returned (.int .i64 (lowerR r:Int))/\Ext w w':=by
 have T:=fun i (h:i<4) W=>Q6 h W;unfold LC Spn.cells at T;replace T:=Aa T;have O:=Row.new w 294 LC;unfold LC at O;replace O:=Aa O;have U:=Aa (fun i (h:i<4) hh=>LV (r:=r) h hh);have Y:=Aa (fun h=>NY (r:=r) h);obtain⟨z,I⟩:=Ab ((r:Int):Int);have h0:=Aa (fun lo hi but W=>LN lo hi but z W);obtain⟨y,hy⟩:=Ab (lowerR r);rw[<-I]at U Y ⊢;rw[<-hy]at U Y ⊢;have g0:0<=z:=by omega
 have g1:z<=1114111:=by omega
 replace I:=Aa I;replace hy:=Aa hy;replace hr:=Aa hr
 go_in
 go_wp2_with (refine wpList_load_row rfl 294 (.tmp 3) rfl w.heap.size rfl 294 _ (0,0) _ O.out underlying294 rfl (by kernel_rfl) ?_)
 go_loopw [12] (fun s12 wr=>∃i:Nat,s12 = .int .i64 (i:Int)/\i<=4/\Hid (Ext w wr)/\Hid (∀j,j<i->(spL j).has z=false)) (fun s12 _=>4 - (intOf s12).toNat)
 case atStart=>exact⟨0,rfl,by omega,Aa ((Ext.refl w).alloc _),Aa (fun j hj=>absurd hj (by omega))⟩
 case round =>
  obtain⟨i,rfl,b0,hE,q0⟩:=hrel;by_cases hi:i<4
  ·have hx:=T.out i hi;obtain⟨f,hf⟩:=Ab (spL i);rw[<-hf]at hx;have a:=Aa (fun W=>h0.out f.lo f.hi f.but W);obtain⟨b,hb⟩:=Ab (f.has z);have Z:=hb;unfold Spn.has at Z;rw[<-Z]at a;rw[hf]at hb;obtain⟨lo,y0,but⟩:=f;replace hb:=Aa hb;replace hf:=Aa hf;clear Z;simp only at hx a;cases b with
   | true =>
    have G:=U.out i hi hb.out.symm;have J:z+32=(y:Int):=by rw[G];have:=I.out;omega
    replace G:=Aa G;go_wp2_with fail;refine(a.out _).mono ?_;rintro e w2 ⟨rfl,H⟩;go_wp2_with fail;go_ret;exact⟨rfl,(hE.out.alloc _).trans H⟩
   | false =>
    go_wp2_with fail;refine(a.out _).mono ?_;rintro e w2 ⟨rfl,H⟩;go_wp2_with fail;refine⟨⟨i+1,rfl,by omega,Aa ((hE.out.alloc _).trans H),Aa (fun j hj=>?_)⟩,by simp only[intOf];omega⟩;by_cases h:j<i
    ·exact q0.out j h
    ·obtain rfl:j=i:=by omega
     exact hb.out.symm
  ·obtain rfl:i=4:=by omega
   have hn:=Y.out q0.out;have a:=Aa (fun W=>h0.out 1024 1039 (-1) W);obtain⟨b,hb⟩:=Ab (inB 1024 1039 (-1) z);rw[<-hb]at a hn;replace hb:=Aa hb;cases b with
   | true =>
    have J:z+80=(y:Int):=by rw[hn,if_pos rfl];have:=I.out;omega
    replace hn:=Aa hn;go_wp2_with fail;refine(a.out _).mono ?_;rintro e w2 ⟨rfl,H⟩;go_wp2_with fail;go_ret;exact⟨rfl,hE.out.trans H⟩
   | false =>
    have J:z=(y:Int):=by rw[hn,if_neg (by simp)];exact I.out
    replace J:=Aa J;replace hn:=Aa hn;go_wp2_with fail;refine(a.out _).mono ?_;rintro e w2 ⟨rfl,H⟩;go_wp2_with fail;go_ret;exact⟨by rw[J.out];rfl,hE.out.trans H⟩
theorem LQ (r:Nat) (w:World) (hr:r<=1114191):Calls prog 174 #[.int .i64 (r:Int)] w fun e w'=>e = .returned (.bool (wordR r))/\Ext w w':=by
 have U:=fun i (h:i<6) W=>Q7 h W;unfold WC Spn.cells at U;replace U:=Aa U;have J:=Row.new w 264 WC;unfold WC at J;replace J:=Aa J;have H:=Aa (fun i (h:i<6) hh=>OS (r:=r) h hh);have a:=Aa (fun h=>Qk (r:=r) h);obtain⟨z,hz⟩:=Ab ((r:Int):Int);have q0:=Aa (fun lo hi but W=>LN lo hi but z W);obtain⟨y,hy⟩:=Ab (wordR r);rw[<-hz]at H a ⊢;rw[<-hy]at H a ⊢;have g0:0<=z:=by omega
 have g1:z<=1114191:=by omega
 replace hz:=Aa hz;replace hy:=Aa hy;replace hr:=Aa hr
 go_in
 go_wp2_with (refine wpList_load_row rfl 264 (.tmp 3) rfl w.heap.size rfl 264 _ (0,0) _ J.out underlying264 rfl (by kernel_rfl) ?_)
 go_loopw [14] (fun s14 wr=>∃i:Nat,s14 = .int .i64 (i:Int)/\i<=6/\Hid (Ext w wr)/\Hid (∀j,j<i->(spW j).has z=false)) (fun s14 _=>6 - (intOf s14).toNat)
 case atStart=>exact⟨0,rfl,by omega,Aa ((Ext.refl w).alloc _),Aa (fun j hj=>absurd hj (by omega))⟩
 case round =>
  obtain⟨i,rfl,y0,hE,G⟩:=hrel;by_cases hi:i<6
  ·have hx:=U.out i hi;obtain⟨f,I⟩:=Ab (spW i);rw[<-I]at hx;have Y:=Aa (fun W=>q0.out f.lo f.hi f.but W);obtain⟨b,hb⟩:=Ab (f.has z);have T:=hb;unfold Spn.has at T;rw[<-T]at Y;rw[I]at hb;obtain⟨lo,x0,but⟩:=f;replace hb:=Aa hb;replace I:=Aa I;clear T;simp only at hx Y;cases b with
   | true =>
    have Z:=H.out i hi hb.out.symm;replace Z:=Aa Z;go_wp2_with fail;refine(Y.out _).mono ?_;rintro e w2 ⟨rfl,O⟩;go_wp2_with fail;go_ret;exact⟨by rw[Z.out];rfl,(hE.out.alloc _).trans O⟩
   | false =>
    go_wp2_with fail;refine(Y.out _).mono ?_;rintro e w2 ⟨rfl,O⟩;go_wp2_with fail;refine⟨⟨i+1,rfl,by omega,Aa ((hE.out.alloc _).trans O),Aa (fun j hj=>?_)⟩,by simp only[intOf];omega⟩;by_cases h:j<i
    ·exact G.out j h
    ·obtain rfl:j=i:=by omega
     exact hb.out.symm
  ·obtain rfl:i=6:=by omega
   have hn:=a.out G.out;replace hn:=Aa hn;go_wp2_with fail;go_ret;exact⟨by rw[hn.out];rfl,hE.out⟩
theorem K5 (l:List UInt8) (at_:Nat) (w:World) (j:at_<l.length) (J:l.length<=1073741824) :
 Calls prog 194 #[.string ⟨l.toArray⟩,.int .i64 (at_:Int)] w fun e w'=>e = .returned (.tuple #[.int .i64 (decR (l.drop at_)).1,.int .i64 (decR (l.drop at_)).2])/\Ext w w':=by
 obtain⟨b,hb⟩:∃b,l[at_]? = some b:=⟨_,List.getElem?_eq_getElem j⟩
 by_cases a:b.toNat<128
 ·have h:decR (l.drop at_)=(b.toNat,1):=by
   rw[List.drop_eq_getElem_cons j,(List.getElem?_eq_some_iff.1 hb).2,decR,if_pos a]
  rw[h];have Y:=fun W=>AB hb (z:=(at_:Int)) rfl W;have H:(b.toNat:Int)<128:=by omega
  replace hb:=Aa hb;replace h:=Aa h
  go_in
  go_wp2_with fail
  all_goals
   go_ret2;exact⟨rfl,Ext.refl w⟩
 ·exact J2 l at_ b w hb J a
theorem FY:Elem prog 43 3 1 8:=⟨underlying43,⟨_,_,rfl,rfl,rfl,rfl,rfl⟩,by omega,by omega⟩
def NV (n:Nat):Value:= .int .i64 (n:Int)
def NewN (w:World) (l:List Nat) (e:Ending) (w':World):Prop:=∃A c,e = .returned (.slice A l.length c)/\Buf w' w.heap.size 3 A l.length c (l.map NV)/\Ext w w'
theorem OA (l:List UInt8) (w:World) (hl:l.length<=1073741824) :
 Calls prog 173 #[.string ⟨l.toArray⟩] w (NewN w (runesL l)):=by
 have a:=Aa (fun at_ W (h:at_<l.length)=>K5 l at_ W h hl);obtain⟨n,hn⟩:=Ab l.length;have hlen:(⟨l.toArray⟩:ByteArray).size=n:=by rw[hn];exact ByteArray.size_mk_toArray l
 rw[<-hn]at hl a;replace hn:=Aa hn
 go_in
 go_wp2_with fail
 go_loopw [3,4] (fun s3 s4 wr=>∃(at_ c:Nat) (A:Option Addr) (D:List Nat),s3 = .slice A D.length c/\s4 = .int .i64 (at_:Int)/\at_<=n/\D.length<=at_/\Hid (runesL l=D++runesL (l.drop at_))/\Hid (Buf wr w.heap.size 3 A D.length c (D.map NV))/\Hid (Ext w wr)) (fun _ s4 _=>n - (intOf s4).toNat)
 case atStart=>exact⟨0,0,none,[],rfl,rfl,by omega,by simp,Aa rfl,Aa (Buf.nil _ _ _),Aa (Ext.refl w)⟩
 case round =>
  obtain⟨at_,c,A,D,rfl,rfl,j0,hD,Y,hb,hE⟩:=hrel;by_cases h:at_<n
  ·have j:=I3 (s:=l) (at_:=at_) (by rw[<-hn.out];exact h);obtain⟨r,U⟩:=Ab ((decR (l.drop at_)).1);obtain⟨k,hk⟩:=Ab ((decR (l.drop at_)).2);rw[<-U,<-hk,<-hn.out]at j;have J:=Aa j.1;have p0:=j.2.1;have k0:=j.2.2;clear j;have hd:=Aa (fun W=>a.out at_ W h);rw[<-U,<-hk]at hd;replace U:=Aa U;replace hk:=Aa hk;go_wp2_with fail;refine(hd.out _).mono ?_;rintro e w2 ⟨rfl,H⟩;have Z:=Aa (hb.out.ext H);have b:=hE.out.trans H;have I:=b.size;replace b:=Aa b;go_wp2_with (at_builtin;refine Au FY Z.out (.tmp 17) (.tmp 19) rfl rfl rfl rfl (Az rfl) (by simp;omega) I (fun A3 c3 w4 G T=>?_));go_roundw
   case rel=>exact⟨at_+k,c3,A3,D ++ [r],by simp,by simp,by omega,by simp;omega,Aa (by rw[Y.out,J.out];simp),Aa (by simpa [NV]using G),Aa (T w b.out (Nat.le_refl _))⟩
   case measure=>simp[intOf];omega
  ·obtain rfl:at_=n:=by omega
   have O:D=runesL l:=by
    rw[Y.out,List.drop_eq_nil_of_le (by rw[<-hn.out];exact Nat.le_refl _),Hm,List.append_nil]
   subst O;go_wp2_with fail;go_ret;exact⟨A,c,rfl,hb.out,hE.out⟩
theorem Rk (x:Nat) (h:x<4611686018427387904):bits .and .i64 (x:Int) 63=((x%64:Nat):Int):=by
 have h1:(BitVec.ofInt 64 (x:Int)).toNat=x:=by
  rw[BitVec.ofInt_natCast,BitVec.toNat_ofNat];exact Nat.mod_eq_of_lt (by omega)
 have h2:(BitVec.ofInt 64 63).toNat=63:=by decide
 show IntKind.i64.wrap ((BitVec.ofInt 64 (x:Int) &&& BitVec.ofInt 64 63).toNat:Int)=_;rw[BitVec.toNat_and,h1,h2,show x &&& 63=x%64 from Nat.and_two_pow_sub_one_eq_mod x 6,IntKind.wrap_i64];omega
theorem Sh (y:Nat) (j:y<64):bits .or .u8 128 ((y:Int)%256)=((128+y:Nat):Int):=by
 have h:∀k:Fin 64,bits .or .u8 128 (((k.val:Nat):Int)%256)=((128+k.val:Nat):Int):=by decide +kernel
 exact h ⟨y,j⟩
theorem FS (x:Nat) (h:x<4611686018427387904):bits .or .u8 128 (bits .and .i64 (x:Int) 63%256)=((128+x%64:Nat):Int):=by
 rw[Rk x h,Sh _ (Nat.mod_lt _ (by omega))]
theorem Bi (h:k<256):B8 (u8 k) = .int .u8 (k:Int):=by
 unfold B8 u8;rw[UInt8.toNat_ofNat',Nat.mod_eq_of_lt h]
def PutB (w:World) (base:Nat) (l:List UInt8) (e:Ending) (w':World):Prop:=∃A c,e = .returned (.slice A l.length c)/\Buf w' base 5 A l.length c (l.map B8)/\(∀w00,Ext w00 w->w00.heap.size<=base->Ext w00 w')
theorem BO {base n:Nat} (hn:n=L.length) (j:us=l.map B8) (hb:Buf w' base 5 A (n+us.length) c (L.map B8++us)) (h:∀w00,Ext w00 w->w00.heap.size<=base->Ext w00 w'):PutB w base (L++l) (.returned (.slice A (n+us.length) c)) w':=by
 subst j;rw[<-List.map_append,List.length_map,hn,<-List.length_append]at hb;exact⟨A,c,by rw[List.length_map,hn,List.length_append],hb,h⟩
theorem PM (L:List UInt8) (A:Option Addr) (c base r:Nat) (w:World) (hb:Buf w base 5 A L.length c (L.map B8)) (Z:L.length<=4000000000) (O:base<=w.heap.size) (h:badR r=false) (h1:r<128) :
 Calls prog 223 #[.slice A L.length c,.int .i64 (r:Int)] w (PutB w base (L++encR r)):=by
 have b:=Aa (fun W=>C3 (r:Int) W);obtain⟨n,hn⟩:=Ab L.length;rw[<-hn]at hb Z ⊢;have T:(decide (55296<=(r:Int))&&decide ((r:Int)<=57343))=false:=by
  unfold badR at h;simp only[Bool.or_eq_false_iff,Bool.and_eq_false_iff,decide_eq_false_iff_not]at h ⊢;omega
 have a:r<=1114111:=by
  unfold badR at h;simp only[Bool.or_eq_false_iff,decide_eq_false_iff_not]at h;omega
 rw[T]at b;have j:encR r = [u8 r]:=by unfold encR encO;rw[h,if_neg (by simp),if_pos h1]
 rw[j];obtain⟨z,Y⟩:=Ab ((r:Int):Int);rw[<-Y]at b ⊢;have g0:0<=z:=by omega
 have gh:z<=1114111:=by omega
 have g1:z<128:=by omega
 replace h1:=Aa h1;replace a:=Aa a;replace Y:=Aa Y;obtain⟨l,H⟩:=Ab ([u8 r]);rw[<-H];replace H:=Aa H;replace hn:=Aa hn;replace hb:=Aa hb;replace j:=Aa j;replace h:=Aa h;replace T:=Aa T
 go_in
 go_wp2_with fail;refine(b.out _).mono ?_;rintro e w2 ⟨rfl,rfl⟩;go_wp2_with (at_builtin;refine Au Aw hb.out (.tmp 39) (.tmp 42) rfl rfl rfl rfl (Az rfl) (by simp;omega) O (fun A3 c3 w4 U J=>?_));go_ret;exact BO hn.out (by rw[H.out,Y.out];simp only[List.map_cons,List.map_nil,Bi (show r<256 by have:=h1.out;omega),Int.natCast_add,Int.natCast_ediv];try rfl) U J
theorem PN (L:List UInt8) (A:Option Addr) (c base r:Nat) (w:World) (hb:Buf w base 5 A L.length c (L.map B8)) (I:L.length<=4000000000) (Z:base<=w.heap.size) (h:badR r=false) (h1:¬ r<128) (h2:r<2048) :
 Calls prog 223 #[.slice A L.length c,.int .i64 (r:Int)] w (PutB w base (L++encR r)):=by
 have a:=Aa (fun W=>C3 (r:Int) W);obtain⟨n,hn⟩:=Ab L.length;rw[<-hn]at hb I ⊢;have G:(decide (55296<=(r:Int))&&decide ((r:Int)<=57343))=false:=by
  unfold badR at h;simp only[Bool.or_eq_false_iff,Bool.and_eq_false_iff,decide_eq_false_iff_not]at h ⊢;omega
 have H:r<=1114111:=by
  unfold badR at h;simp only[Bool.or_eq_false_iff,decide_eq_false_iff_not]at h;omega
 rw[G]at a;have j:encR r = [u8 (192+r / 64),u8 (128+r%64)]:=by unfold encR encO;rw[h,if_neg (by simp),if_neg h1,if_pos h2]
 rw[j];have Y:=FS (r) (by omega);obtain⟨y0,b⟩:∃y,y=128+r%64:=⟨_,rfl⟩
 rw[<-b]at Y ⊢;replace b:=Aa b;obtain⟨z,U⟩:=Ab ((r:Int):Int);rw[<-U]at a Y ⊢;have g0:0<=z:=by omega
 have gh:z<=1114111:=by omega
 have g1:¬ z<128:=by omega
 have g2:z<2048:=by omega
 replace h1:=Aa h1;replace h2:=Aa h2;replace H:=Aa H;replace U:=Aa U;obtain⟨l,J⟩:=Ab ([u8 (192+r / 64),u8 (y0)]);rw[<-J];replace J:=Aa J;replace hn:=Aa hn;replace hb:=Aa hb;replace j:=Aa j;replace h:=Aa h;replace G:=Aa G
 go_in
 go_wp2_with fail;refine(a.out _).mono ?_;rintro e w2 ⟨rfl,rfl⟩;go_wp2_with (at_builtin;refine Au Aw hb.out (.tmp 47) (.tmp 56) rfl rfl rfl rfl (Az rfl) (by simp;omega) Z (fun A3 c3 w4 T O=>?_));go_ret;exact BO hn.out (by rw[J.out,U.out];simp only[List.map_cons,List.map_nil,Bi (show 192+r / 64<256 by have:=h2.out;omega),Bi (show y0<256 by have:=b.out;omega),Int.natCast_add,Int.natCast_ediv];try rfl) T O
theorem PO (L:List UInt8) (A:Option Addr) (c base r:Nat) (w:World) (hb:Buf w base 5 A L.length c (L.map B8)) (hL:L.length<=4000000000) (h0:base<=w.heap.size) (h:badR r=false) (h1:¬ r<128) (h2:¬ r<2048) (O:r<65536) :
 Calls prog 223 #[.slice A L.length c,.int .i64 (r:Int)] w (PutB w base (L++encR r)):=by
 have H:=Aa (fun W=>C3 (r:Int) W);obtain⟨n,hn⟩:=Ab L.length;rw[<-hn]at hb hL ⊢;have hv:(decide (55296<=(r:Int))&&decide ((r:Int)<=57343))=false:=by
  unfold badR at h;simp only[Bool.or_eq_false_iff,Bool.and_eq_false_iff,decide_eq_false_iff_not]at h ⊢;omega
 have J:r<=1114111:=by
  unfold badR at h;simp only[Bool.or_eq_false_iff,decide_eq_false_iff_not]at h;omega
 rw[hv]at H;have j:encR r = [u8 (224+r / 4096),u8 (128+r / 64%64),u8 (128+r%64)]:=by unfold encR encO;rw[h,if_neg (by simp),if_neg h1,if_neg h2,if_pos O]
 rw[j];have U:=FS (r) (by omega);obtain⟨y0,b⟩:∃y,y=128+r%64:=⟨_,rfl⟩
 rw[<-b]at U ⊢;replace b:=Aa b;have Y:=FS (r / 64) (by omega);obtain⟨y1,a⟩:∃y,y=128+r / 64%64:=⟨_,rfl⟩
 rw[<-a]at Y ⊢;rw[show ((r / 64:Nat):Int)=(r:Int) / 64 by omega]at Y;replace a:=Aa a;obtain⟨z,Z⟩:=Ab ((r:Int):Int);rw[<-Z]at H U Y ⊢;have g0:0<=z:=by omega
 have gh:z<=1114111:=by omega
 have g1:¬ z<128:=by omega
 have g2:¬ z<2048:=by omega
 have g3:z<65536:=by omega
 replace h1:=Aa h1;replace h2:=Aa h2;replace O:=Aa O;replace J:=Aa J;replace Z:=Aa Z;obtain⟨l,T⟩:=Ab ([u8 (224+r / 4096),u8 (y1),u8 (y0)]);rw[<-T];replace T:=Aa T;replace hn:=Aa hn;replace hb:=Aa hb;replace j:=Aa j;replace h:=Aa h;replace hv:=Aa hv
 go_in
 go_wp2_with fail;refine(H.out _).mono ?_;rintro e w2 ⟨rfl,rfl⟩;go_wp2_with (at_builtin;refine Au Aw hb.out (.tmp 61) (.tmp 75) rfl rfl rfl rfl (Az rfl) (by simp;omega) h0 (fun A3 c3 w4 I G=>?_));go_ret;exact BO hn.out (by rw[T.out,Z.out];simp only[List.map_cons,List.map_nil,Bi (show 224+r / 4096<256 by have:=O.out;omega),Bi (show y0<256 by have:=b.out;omega),Bi (show y1<256 by have:=a.out;omega),Int.natCast_add,Int.natCast_ediv];try rfl) I G
theorem PP (L:List UInt8) (A:Option Addr) (c base r:Nat) (w:World) (hb:Buf w base 5 A L.length c (L.map B8)) (hL:L.length<=4000000000) (p0:base<=w.heap.size) (h:badR r=false) (h1:¬ r<128) (h2:¬ r<2048) (I:¬ r<65536) :
 Calls prog 223 #[.slice A L.length c,.int .i64 (r:Int)] w (PutB w base (L++encR r)):=by
 have Y:=Aa (fun W=>C3 (r:Int) W);obtain⟨n,hn⟩:=Ab L.length;rw[<-hn]at hb hL ⊢;have hv:(decide (55296<=(r:Int))&&decide ((r:Int)<=57343))=false:=by
  unfold badR at h;simp only[Bool.or_eq_false_iff,Bool.and_eq_false_iff,decide_eq_false_iff_not]at h ⊢;omega
 have J:r<=1114111:=by
  unfold badR at h;simp only[Bool.or_eq_false_iff,decide_eq_false_iff_not]at h;omega
 rw[hv]at Y;have j:encR r = [u8 (240+r / 262144),u8 (128+r / 4096%64),u8 (128+r / 64%64),u8 (128+r%64)]:=by unfold encR encO;rw[h,if_neg (by simp),if_neg h1,if_neg h2,if_neg I]
 rw[j];have T:=FS (r) (by omega);obtain⟨y0,b⟩:∃y,y=128+r%64:=⟨_,rfl⟩
 rw[<-b]at T ⊢;replace b:=Aa b;have U:=FS (r / 64) (by omega);obtain⟨y1,a⟩:∃y,y=128+r / 64%64:=⟨_,rfl⟩
 rw[<-a]at U ⊢;rw[show ((r / 64:Nat):Int)=(r:Int) / 64 by omega]at U;replace a:=Aa a;have O:=FS (r / 4096) (by omega);obtain⟨y2,H⟩:∃y,y=128+r / 4096%64:=⟨_,rfl⟩
 rw[<-H]at O ⊢;rw[show ((r / 4096:Nat):Int)=(r:Int) / 4096 by omega]at O;replace H:=Aa H;obtain⟨z,G⟩:=Ab ((r:Int):Int);rw[<-G]at Y T U O ⊢;have g0:0<=z:=by omega
 have gh:z<=1114111:=by omega
 have g1:¬ z<128:=by omega
 have g2:¬ z<2048:=by omega
 have g3:¬ z<65536:=by omega
 replace h1:=Aa h1;replace h2:=Aa h2;replace I:=Aa I;replace J:=Aa J;replace G:=Aa G;obtain⟨l,Z⟩:=Ab ([u8 (240+r / 262144),u8 (y2),u8 (y1),u8 (y0)]);rw[<-Z];replace Z:=Aa Z;replace hn:=Aa hn;replace hb:=Aa hb;replace j:=Aa j;replace h:=Aa h;replace hv:=Aa hv
 go_in
 go_wp2_with fail;refine(Y.out _).mono ?_;rintro e w2 ⟨rfl,rfl⟩;go_wp2_with (at_builtin;refine Au Aw hb.out (.tmp 15) (.tmp 34) rfl rfl rfl rfl (Az rfl) (by simp;omega) p0 (fun A3 c3 w4 q0 h0=>?_));go_ret;exact BO hn.out (by rw[Z.out,G.out];simp only[List.map_cons,List.map_nil,Bi (show 240+r / 262144<256 by have:=J.out;omega),Bi (show y0<256 by have:=b.out;omega),Bi (show y1<256 by have:=a.out;omega),Bi (show y2<256 by have:=H.out;omega),Int.natCast_add,Int.natCast_ediv];try rfl) q0 h0
theorem PL (L:List UInt8) (A:Option Addr) (c base r:Nat) (w:World) (hb:Buf w base 5 A L.length c (L.map B8)) (I:L.length<=4000000000) (U:base<=w.heap.size) (h:badR r=true) (Z:r<=1200000) :
 Calls prog 223 #[.slice A L.length c,.int .i64 (r:Int)] w (PutB w base (L++encR r)):=by
 have Y:=Aa (fun W=>C3 (r:Int) W);obtain⟨n,hn⟩:=Ab L.length;rw[<-hn]at hb I ⊢;have j:encR r = [u8 239,u8 191,u8 189]:=by unfold encR;rw[h,if_pos rfl];rfl
 rw[j];have J:1114111<r\/(55296<=r/\r<=57343):=by
  unfold badR at h;simpa using h
 obtain⟨z,O⟩:=Ab ((r:Int):Int);rw[<-O]at Y ⊢;have g0:0<=z:=by omega
 obtain⟨l,T⟩:=Ab ([u8 239,u8 191,u8 189]);rw[<-T];have b : [Value.int .u8 239,.int .u8 191,.int .u8 189]=l.map B8:=by rw[T];rfl
 replace b:=Aa b;replace T:=Aa T;replace hn:=Aa hn;replace hb:=Aa hb;replace j:=Aa j;replace h:=Aa h;rcases J with J | J
 ·have g1:¬ z<=1114111:=by omega
  replace J:=Aa J;replace O:=Aa O;replace Z:=Aa Z
  go_in
  go_wp2_with (at_builtin;refine Au Aw hb.out (.tmp 61) (.tmp 75) rfl rfl rfl rfl (Az rfl) (by simp;omega) U (fun A3 c3 w4 H a=>?_));go_ret;exact BO hn.out b.out H a
 ·have g1:z<=1114111:=by omega
  have G:(decide (55296<=z)&&decide (z<=57343))=true:=by simp;omega
  rw[G]at Y;replace G:=Aa G;replace J:=Aa J;replace O:=Aa O;replace Z:=Aa Z
  go_in
  go_wp2_with fail;refine(Y.out _).mono ?_;rintro e w2 ⟨rfl,rfl⟩;go_wp2_with (at_builtin;refine Au Aw hb.out (.tmp 61) (.tmp 75) rfl rfl rfl rfl (Az rfl) (by simp;omega) U (fun A3 c3 w4 H a=>?_));go_ret;exact BO hn.out b.out H a
theorem Qh (L:List UInt8) (A:Option Addr) (c base r:Nat) (w:World) (hb:Buf w base 5 A L.length c (L.map B8)) (b:L.length<=4000000000) (j:base<=w.heap.size) (H:r<=1200000) :
 Calls prog 223 #[.slice A L.length c,.int .i64 (r:Int)] w (PutB w base (L++encR r)):=by
 cases h:badR r with
 | true=>exact PL L A c base r w hb b j h H
 | false =>
  by_cases h1:r<128
  ·exact PM L A c base r w hb b j h h1
  ·by_cases h2:r<2048
   ·exact PN L A c base r w hb b j h h1 h2
   ·by_cases a:r<65536
    ·exact PO L A c base r w hb b j h h1 h2 a
    ·exact PP L A c base r w hb b j h h1 h2 a
def encL (rs:List Nat):List UInt8:=rs.flatMap encR
theorem D8 (rs:List Nat) (r:Nat):encL (rs ++ [r])=encL rs++encR r:=by
 unfold encL;rw[List.flatMap_append];simp
theorem Lz (rs:List Nat) (A:Option Addr) (n c:Nat) (w:World) (hn:n=rs.length) (hc:Cells w A (rs.map NV)) (I:∀r∈rs,r<=1200000) (t0:n<=500000000) :
 Calls prog 196 #[.slice A n c] w fun e w'=>e = .returned (.string ⟨(encL rs).toArray⟩)/\Ext w w':=by
 have G:=Aa (fun L A c base r W hb hL q0 I=>Qh L A c base r W hb hL q0 I);replace I:=Aa I;replace hc:=Aa hc;replace hn:=Aa hn
 go_in
 go_wp2_with fail
 go_loopw [3,8] (fun s3 s8 wr=>∃(i n1 c1:Nat) (A1:Option Addr),s3 = .slice A1 n1 c1/\s8 = .int .i64 (i:Int)/\i<=n/\Hid (n1=(encL (rs.take i)).length/\n1<=4*i)/\Hid (Buf wr w.heap.size 5 A1 n1 c1 ((encL (rs.take i)).map B8))/\Hid (Ext w wr)) (fun _ s8 _=>n - (intOf s8).toNat)
 case atStart=>exact⟨0,0,0,none,rfl,rfl,by omega,Aa ⟨rfl,by omega⟩,Aa (Buf.nil _ _ _),Aa (Ext.refl w)⟩
 case round =>
  obtain⟨i,n1,c1,A1,rfl,rfl,hi,j,hb,hE⟩:=hrel;by_cases h:i<n
  ·obtain⟨r,b⟩:∃r,rs[i]? = some r:=⟨_,List.getElem?_eq_getElem (by rw[<-hn.out];exact h)⟩
   obtain⟨g,o,hA,J⟩:=hc.out.at_ (by rw[List.length_map,<-hn.out];omega);subst hA;have k0:=hE.out.cell (J i (NV r) (by rw[List.getElem?_map,b];rfl));unfold NV at k0;have T:=I.out r (List.mem_of_getElem? b);have Z:=G.out (encL (rs.take i)) A1 c1 w.heap.size r wr (by rw[<-j.out.1];exact hb.out) (by have:=j.out;omega) hE.out.size T;rw[<-j.out.1]at Z;have a:rs.take (i+1)=rs.take i ++ [r]:=by rw[List.take_add_one,b];rfl
   rw[<-D8,<-a]at Z;have O:=(ES r).2;replace Z:=Aa Z;replace J:=Aa J;replace b:=Aa b;replace a:=Aa a;replace T:=Aa T;replace O:=Aa O;go_wp2_with fail;refine Z.out.mono ?_;rintro e w2 ⟨A2,c2,rfl,Y,H⟩;have U:(encL (rs.take (i+1))).length<=4*(i+1):=by
    rw[a.out,D8,List.length_append];have:=j.out;have:=O.out;omega
   replace Y:=Aa Y;replace H:=Aa (H w hE.out (Nat.le_refl _));replace U:=Aa U;go_wp2_with fail;exact⟨⟨i+1,_,c2,A2,rfl,rfl,by omega,Aa ⟨rfl,U.out⟩,Y,H⟩,by simp only[intOf];omega⟩
  ·obtain rfl:i=n:=by omega
   have hT:rs.take i=rs:=List.take_of_length_le (by rw[hn.out];exact Nat.le_refl _);rw[hT]at hb j;have v0:=CT (Buf.cells hb.out) n1 c1 j.out.1;replace j:=Aa j.out.1;go_wp2_with fail;go_ret;exact⟨rfl,hE.out⟩
end
end Go.Proofs.YtfifdilapbeiiaaGreat
namespace Go.Proofs
open Go.Shelf
def Tryz.bren166:Go.Shelf.Ren:=⟨fun | 166=>199 | 240=>224 | 276=>233 | n=>n,fun | 0=>0 | 3=>3 | 4=>4 | 9=>9 | 20=>20 | 37=>24 | 70=>265 | 72=>267 | 75=>270 | 80=>235 | 164=>303 | n=>n,fun | n=>n⟩
theorem Tryz.blays166:Go.Proofs.Lays.n166 prog Tryz.bren166:= {
 mixed:=by kernel_rfl
 f166:=func199.trans (congrArg some (by kernel_rfl))
 f240:=func224.trans (congrArg some (by kernel_rfl))
 f276:=func233.trans (congrArg some (by kernel_rfl))
 t0:=underlying0
 a0:=isAgg0
 z0:=sizeOf0
 v0:=Tryz.zeroValue0
 t3:=underlying3
 a3:=isAgg3
 z3:=sizeOf3
 v3:=Tryz.zeroValue3
 t4:=underlying4
 a4:=isAgg4
 z4:=sizeOf4
 v4:=Tryz.zeroValue4
 t9:=underlying9
 a9:=isAgg9
 z9:=sizeOf9
 v9:=Tryz.zeroValue9
 t20:=underlying20
 a20:=isAgg20
 z20:=sizeOf20
 v20:=Tryz.zeroValue20
 t37:=underlying24
 a37:=isAgg24
 z37:=sizeOf24
 v37:=Tryz.zeroValue24
 t70:=underlying265
 a70:=isAgg265
 z70:=sizeOf265
 v70:=Tryz.zeroValue265
 t72:=underlying267
 a72:=isAgg267
 z72:=sizeOf267
 v72:=Tryz.zeroValue267
 t75:=underlying270
 a75:=isAgg270
 z75:=sizeOf270
 v75:=Tryz.zeroValue270
 t164:=underlying303
 a164:=isAgg303
 z164:=sizeOf303
 v164:=Tryz.zeroValue303 }
theorem Tryz.bE166:Builder.Extra prog Tryz.bren166:= {
 sizeBuilder:=by kernel_rfl
 liesBuilder:=by kernel_rfl
 t5:=underlying5
 a5:=isAgg5
 z5:=sizeOf5
 v5:=Tryz.zeroValue5
 infoByte:=by kernel_rfl
 cellsByte:=by kernel_rfl
 sizeByte:=by kernel_rfl
 neB5:=by decide }
open Go.RowKit in
theorem Tryz.Builder_WriteString (B b:Nat) (bs:List Value) (s:ByteArray) (w:World) (h:Lib.IsBuilder 267 5 B b bs w) (hlen:bs.length+s.size<=140737488355328) (j:B<=w.heap.size) :
    Calls prog 199 #[.pointer (some ⟨b,0,none⟩),.string s] w fun e w'=>e = .returned (.tuple #[.int .i64 s.size,.nilIface])/\(Lib.BuilderAt 267 5 B b (.pointer (some ⟨b,0,none⟩)) (bs++Lib.strCells s) w'/\Below B w w'):=Any.Builder_WriteString Tryz.blays166 Tryz.bE166 B b bs s w h hlen j
end Go.Proofs
namespace Go.Proofs.YtfifdilapbeiiaaGreat
open _root_.Go.Proofs.Tryz
variable {ops:Array Oper} {Q:Exit → Act → World → Prop} {rs:List Nat} {L l r s:List UInt8} {us xs:List Value} {c fuel g i k n:Nat} {S:Nat → Prop} {o:Oper} {A:Option Addr} {P:Program} {e t:TypeId} {v:Value} {w w' w0 w1:World}
section
open Go.RowKit
theorem K1 (l:List UInt8):Lib.strCells ⟨l.toArray⟩=l.map B8:=rfl
def Bd (w:World) (b:Nat) (l:List UInt8):Prop:=Lib.IsBuilder 267 5 b b (l.map B8) w
theorem Bd.ext {b:Nat} (h:Bd w b l) (a:Ext w w1):Bd w1 b l:=by
 rcases h with ⟨h1,v,h2,j⟩ | ⟨h1,v,h2,j⟩
 ·exact .inl ⟨h1,v,a.block h2,a.owns j.1,j.2⟩
 ·exact .inr ⟨h1,v,a.block h2,a.owns j.1,j.2⟩
theorem Bd.fresh (w:World):Bd (w.alloc (.cells #[.pointer none,.slice none 0 0] 267)) w.heap.size []:=Lib.fresh_isBuilder _ _ w
theorem Bd.lt {b:Nat} (h:Bd w b l):b<w.heap.size:=by
 rcases h with ⟨h1,v,h2,j⟩ | ⟨h1,v,h2,j⟩
 ·exact(Array.getElem?_eq_some_iff.1 h2).1
 ·exact(Array.getElem?_eq_some_iff.1 h2).1
theorem Lj (b:Nat) (l s:List UInt8) (w:World) (h:Bd w b l) (hlen:l.length+s.length<=100000000):Calls prog 199 #[.pointer (some ⟨b,0,none⟩),.string ⟨s.toArray⟩] w fun e w'=>e = .returned (.tuple #[.int .i64 s.length,.nilIface])/\Bd w' b (l++s)/\Below b w w':=by
 have j:(⟨s.toArray⟩:ByteArray).size=s.length:=ByteArray.size_mk_toArray s;refine(Tryz.Builder_WriteString b b (l.map B8) ⟨s.toArray⟩ w h (by rw[j,List.length_map];omega) (Nat.le_of_lt h.lt)).mono fun e w' ⟨H,hb,a⟩=>⟨by rw[H,j],.inr (by rw[K1,<-List.map_append]at hb;exact hb),a⟩
theorem JS (b:Nat) (l:List UInt8) (w:World) (h:Bd w b l):Calls prog 200 #[.pointer (some ⟨b,0,none⟩)] w fun e w'=>e = .returned (.string ⟨l.toArray⟩)/\Below b w w' :=
 Tryz.Builder_String_any b b l w h (Nat.le_of_lt h.lt)
theorem O0 (b:Nat) (l:List UInt8) (w:World) (h:Bd w b l):Calls prog 198 #[.pointer (some ⟨b,0,none⟩)] w fun e w'=>e = .returned (.int .i64 l.length)/\w'=w:=by
 have:=Tryz.Builder_Len b b (l.map B8) w h;rw[List.length_map]at this;exact this
theorem MP {r:Nat} (h:¬ 32<s.length+(encR (lowerR r)).length):cutW s (r::rs)=cutW (s++encR (lowerR r)) rs:=by
 rw[cutW,if_neg h]
theorem JY {r:Nat} (h:32<s.length+(encR (lowerR r)).length):cutW s (r::rs)=s:=by
 rw[cutW,if_pos h]
theorem J5 (r:Nat):encL [r]=encR r:=by
 unfold encL;simp
theorem Ql (rs:List Nat) (A:Option Addr) (n c:Nat) (w:World) (hn:n=rs.length) (hc:Cells w A (rs.map NV)) (hr:∀r∈rs,r<=1114111) (x2:n<=1073741824) :
 Calls prog 175 #[.slice A n c] w fun e w'=>e = .returned (.string ⟨(cutW [] rs).toArray⟩)/\Ext w w':=by
 obtain⟨b,hb⟩:=Ab w.heap.size;obtain⟨W,hW⟩:=Ab (w.alloc (.cells #[.pointer none,.slice none 0 0] 267));have g0:Ext w W:=by rw[hW];exact(Ext.refl w).alloc _
 have p0:Bd W b []:=by rw[hW,hb];exact Bd.fresh w
 have n0:=Aa (fun r W h=>NZ r W h);have l0:=Aa (fun r A n c W h1 h2 h3 h4=>Lz [r] A n c W h1 h2 h3 h4);have hlen:=Aa (fun s W h=>O0 b s W h);have e1:=Aa (fun s t W h hl=>Lj b s t W h hl);have q0:=Aa (fun s W h=>JS b s W h);obtain⟨Z,hZ⟩:=Ab (cutW [] rs);rw[<-hZ];replace hr:=Aa hr;replace hc:=Aa hc;replace hn:=Aa hn;replace hZ:=Aa hZ;replace g0:=Aa g0;replace p0:=Aa p0;replace hW:=Aa hW;replace hb:=Aa hb
 go_in
 go_wp2_with fail;rw[<-hW.out,<-hb.out]
 go_loopw [9] (fun s9 wr=>∃(i:Nat) (s:List UInt8),s9 = .int .i64 (i:Int)/\i<=n/\Hid (Z=cutW s (rs.drop i))/\Hid (s.length<=32)/\Hid (Bd wr b s)/\Hid (Ext w wr)) (fun s9 _=>n - (intOf s9).toNat)
 case atStart=>exact⟨0,[],rfl,by omega,Aa (by rw[hZ.out];rfl),Aa (by simp),p0,g0⟩
 case round =>
  obtain⟨i,s,rfl,hi,f0,h0,hB,hE⟩:=hrel;by_cases h:i<n
  ·obtain⟨r,J⟩:∃r,rs[i]? = some r:=⟨_,List.getElem?_eq_getElem (by rw[<-hn.out];exact h)⟩
   obtain⟨g,o,hA,t0⟩:=hc.out.at_ (by rw[List.length_map,<-hn.out];omega);subst hA;have x1:=hE.out.cell (t0 i (NV r) (by rw[List.getElem?_map,J];rfl));unfold NV at x1;have G:=hr.out r (List.mem_of_getElem? J);have v0:rs.drop i=r::rs.drop (i+1):=by
    rw[List.drop_eq_getElem_cons (List.getElem?_eq_some_iff.1 J).1];congr 1;exact(List.getElem?_eq_some_iff.1 J).2
   have o0:=Aa (fun W=>n0.out r W G);have b0:=IJ G;obtain⟨t,ht⟩:=Ab (encR (lowerR r));have d1:t.length<=4:=by rw[ht];exact(ES _).2
   have x0:=Aa (fun hh=>MP (s:=s) (r:=r) (rs:=rs.drop (i+1)) hh);have T:=Aa (fun hh=>JY (s:=s) (r:=r) (rs:=rs.drop (i+1)) hh);rw[<-ht,<-v0,<-f0.out]at x0 T;obtain⟨y,hy⟩:=Ab (lowerR r);rw[<-hy]at ht o0 b0;have i0:=Aa (fun A W hh=>l0.out y A 1 1 W rfl hh (by simp;omega) (by omega));rw[J5,<-ht]at i0;obtain⟨tn,Y⟩:=Ab t.length;have o1:(⟨t.toArray⟩:ByteArray).size=tn:=by rw[Y];exact ByteArray.size_mk_toArray t
   obtain⟨sn,H⟩:=Ab s.length;rw[<-H,<-Y]at x0 T;rw[<-Y]at d1;rw[<-H]at h0;have a1:=h0.out;have I:=Aa (fun W hh=>hlen.out s W hh);rw[<-H]at I;replace t0:=Aa t0;replace J:=Aa J;replace G:=Aa G;replace v0:=Aa v0;replace hy:=Aa hy;replace ht:=Aa ht;replace Y:=Aa Y;replace H:=Aa H;replace b0:=Aa b0;go_wp2_with fail;refine(o0.out _).mono ?_;rintro e w2 ⟨rfl,j0⟩;go_wp2_with fail;refine(i0.out _ _ (.inr ⟨w2.heap.size,0,rfl,fun j u hu=>?_⟩)).mono ?_
   ·rw[Nat.zero_add,cell_of_row _ _ _ _ _ _ (heap_alloc_new w2 _)];simpa [NV]using hu
   rintro e w3 ⟨rfl,j1⟩;have U:=Aa ((j0.alloc (.cells #[Value.int .i64 (y:Int)] 3)).trans j1);have k0:=Aa (hB.out.ext U.out);go_wp2_with fail;refine(I.out _ k0.out).mono ?_;rintro e w4 ⟨rfl,rfl⟩;by_cases c0:32<sn+tn
   ·have a:=Aa (T.out c0);have d0:(32:Int)<(sn:Int)+(tn:Int):=by omega
    go_wp2_with fail;refine(q0.out s _ k0.out).mono ?_;rintro e w5 ⟨rfl,O⟩;go_wp2_with fail;go_ret;refine⟨by rw[a.out];rfl,?_⟩;have m0:=hb.out;rw[m0]at O;exact Below.trans (hE.out.trans U.out) O
   ·have a:=Aa (x0.out c0);have d0:¬ (32:Int)<(sn:Int)+(tn:Int):=by omega
    go_wp2_with fail;refine(e1.out s t _ k0.out (by rw[<-H.out,<-Y.out];omega)).mono ?_;rintro e w5 ⟨rfl,k1,O⟩;go_wp2_with fail;refine⟨⟨i+1,s++t,rfl,by omega,a,Aa (by rw[List.length_append,<-H.out,<-Y.out];omega),Aa k1,Aa ?_⟩,by simp only[intOf];omega⟩;have m0:=hb.out;rw[m0]at O;exact Below.trans (hE.out.trans U.out) O
  ·obtain rfl:i=n:=by omega
   have a:Z=s:=by rw[f0.out,List.drop_eq_nil_of_le (by rw[<-hn.out];exact Nat.le_refl _),cutW]
   replace a:=Aa a;go_wp2_with fail;refine(q0.out s _ hB.out).mono ?_;rintro e w2 ⟨rfl,j0⟩;go_wp2_with fail;go_ret;exact⟨by rw[a.out];rfl,by have:=hb.out;subst this;exact Below.trans hE.out j0⟩
theorem Ch {rest:List Oper} {a:Act} {T:TypeId} {t e size bytes m:Nat} (E:Elem P t e size bytes)
 {base:Nat} (b:w0.ownsRow base e size v n xs) (s x:Operand)
 (G:o.op = .call { callee:= .builtin .append,args:=#[s,x],argTypes:=#[t,t] }) (Y:o.guard=none)
 (hs:a.eval s=v) (hx:a.eval x = .slice (some ⟨w0.heap.size,0,none⟩) m m) (Z:us.length=m*size) (h1:∀u∈us,u.oneCell'=true) (U:n+m<=4294967296) (H:base<=w0.heap.size)
 (h:∀A1 c1 w',w'.ownsRow base e size (.slice A1 (n+m) c1) (n+m) (xs++us)->w0.grownBy w' v.ownBlock->((Value.slice A1 (n+m) c1).ownBlock=v.ownBlock\/(Value.slice A1 (n+m) c1).ownBlock=some (w0.heap.size+1)) ->
  wpList P ops Q rest (a.put o.dst (.slice A1 (n+m) c1)) w') :
 wpList P ops Q (o::rest) a (w0.alloc (.cells us.toArray T)):=by
 refine AV E (((Ext.refl w0).alloc _).owns b) (A:=some ⟨w0.heap.size,0,none⟩) (news:=us) (.inr ⟨w0.heap.size,0,rfl,fun i u I=>?_⟩) s x G Y hs hx rfl Z h1 U (by simp;omega) fun A1 c1 w' h2 j O=>?_
 ·rw[Nat.zero_add,cell_of_row _ _ _ _ _ _ (heap_alloc_new w0 _)];simpa using I
 ·refine h A1 c1 w' h2 ⟨j.os,j.tape,j.output,Nat.le_trans (by simp) j.size,fun k hk J=>(j.block k (by simp;omega) J).trans (Below.heap_alloc w0 _ k hk)⟩ ?_;simpa using O
theorem Dt {cur rs:List Nat} {r:Nat} (h:wordR r=true):runsW cur (r::rs)=runsW (cur ++ [r]) rs:=by
 rw[runsW,if_pos h]
theorem Cz {r:Nat} (h:wordR r=false):runsW [] (r::rs)=runsW [] rs:=by
 rw[runsW,if_neg (by rw[h];simp),if_pos rfl]
theorem C9 {cur rs:List Nat} {r:Nat} (h:wordR r=false) (j:cur ≠ []):runsW cur (r::rs)=cur::runsW [] rs:=by
 rw[runsW,if_neg (by rw[h];simp),if_neg j]
theorem Eh:∀(L cur:List Nat),runsW cur (L ++ [32])=runsW cur L
 | [],cur=>by
  have h:wordR 32=false:=by decide
  rw[List.nil_append];by_cases j:cur = []
  ·subst j;rw[Cz h]
  ·rw[C9 h j,runsW,if_pos rfl,runsW,if_neg j]
 | r::L,cur=>by
  rw[List.cons_append];cases h:wordR r with
  | true=>rw[Dt h,Dt h,Eh L]
  | false =>
   by_cases j:cur = []
   ·subst j;rw[Cz h,Cz h,Eh L]
   ·rw[C9 h j,C9 h j,Eh L]
def tkV (l:List (List UInt8)):List Value:=l.zipIdx.flatMap fun p=> [.string ⟨p.1.toArray⟩,.int .i64 (p.2:Int)]
theorem HJ (l:List (List UInt8)) (x:List UInt8):tkV (l ++ [x])=tkV l ++ [.string ⟨x.toArray⟩,.int .i64 (l.length:Int)]:=by
 unfold tkV;rw[List.zipIdx_append,List.flatMap_append];simp
theorem Fy (h:Cells w (some ⟨g,0,none⟩) xs) (f i:Nat):Cells w (some ⟨g,f,none⟩) ((xs.take i).drop f):=by
 rcases h with h | ⟨g',o,a,H⟩
 ·subst h;exact .inl (by simp)
 ·cases a;refine .inr ⟨g,f,rfl,fun j v b=>?_⟩;rw[List.getElem?_drop,List.getElem?_take]at b;split at b
  ·have:=H _ v b
   rwa [Nat.zero_add]at this
  ·cases b
theorem Jb {R:List Nat} {st i r:Nat} (hi:R[i]? = some r) (hs:st<=i):(R.take (i+1)).drop st=(R.take i).drop st ++ [r]:=by
 have h1:R.take (i+1)=R.take i ++ [r]:=by rw[List.take_add_one,hi];rfl
 have h:=(List.getElem?_eq_some_iff.1 hi).1;rw[h1,List.drop_append_of_le_length (by rw[List.length_take];omega)]
theorem Db (R:List Nat) (i:Nat):(R.take i).drop i = []:=List.drop_eq_nil_of_le (by rw[List.length_take];omega)
theorem FT {R:List Nat} {st i:Nat} (h:st<i) (hi:i<=R.length):(R.take i).drop st ≠ []:=by
 intro hn;have:=congrArg List.length hn;rw[List.length_drop,List.length_take,List.length_nil]at this;omega
theorem Gs {R:List Nat} {i r:Nat} (hi:R[i]? = some r):R.drop i=r::R.drop (i+1):=by
 rw[List.drop_eq_getElem_cons (List.getElem?_eq_some_iff.1 hi).1];congr 1;exact(List.getElem?_eq_some_iff.1 hi).2
theorem Lw:Elem prog 203 207 2 24:=⟨underlying203,⟨_,_,rfl,rfl,rfl,rfl,rfl⟩,by omega,by omega⟩
def NewTk (w:World) (l:List (List UInt8)) (e:Ending) (w':World):Prop:=∃A c,e = .returned (.slice A l.length c)/\w'.ownsRow w.heap.size 207 2 (.slice A l.length c) l.length (tkV l)/\Ext w w'
theorem HL (l:List UInt8) (w:World) (hl:l.length<=1000000000):Calls prog 130 #[.string ⟨l.toArray⟩] w (NewTk w (tokL l)):=by
 have o1:=Aa (fun W=>OA l W (by omega));have f1:=EG l;have y0:=I4 l;have Y:tokL l=(runsW [] (runesL l)).map (cutW []):=rfl;obtain⟨L,hL⟩:=Ab (runesL l);rw[<-hL]at o1 f1 y0 Y;obtain⟨Z,hZ⟩:=Ab (tokL l);rw[<-hZ]at Y ⊢;obtain⟨R,hR⟩:=Ab (L ++ [32]);rw[<-Eh,<-hR]at Y;have b0:∀r∈R,r<=1114111:=by
  intro r hr;rw[hR]at hr;rcases List.mem_append.1 hr with h | h
  ·exact y0 r h
  ·simp at h;omega
 obtain⟨m,hm⟩:=Ab R.length;have j0:m=L.length+1:=by rw[hm,hR];simp
 have G:R[m - 1]? = some 32:=by rw[hR,show m - 1=L.length by omega];simp
 have j3:=Aa (fun r W h=>LQ r W h);have m3:=Aa (fun rs A n c W h1 h2 h3 h4=>Ql rs A n c W h1 h2 h3 h4);have f3:m<=1000000001:=by omega
 replace G:=Aa G;replace hZ:=Aa hZ;replace hL:=Aa hL;replace Y:=Aa Y;replace b0:=Aa b0;replace hm:=Aa hm;replace y0:=Aa y0;replace hR:=Aa hR;obtain⟨ln,e0⟩:=Ab L.length;rw[<-e0]at j0 f1;replace e0:=Aa e0
 go_in
 go_wp2_with fail;go_step3;go_wp2_with fail;refine(o1.out _).mono ?_;rintro e w1 ⟨A1,c1,rfl,p0,v0⟩;rw[<-e0.out]at p0 ⊢;have j2:=v0.size;replace p0:=Aa p0;replace v0:=Aa v0;go_wp2_with (at_builtin;refine Au FY p0.out (.tmp 9) (.tmp 10) rfl rfl rfl rfl (Az rfl) (by simp;omega) j2 (fun A2 c2 w2 O d1=>?_));have q0:=d1 w v0.out (Nat.le_refl _);have q1:L.map NV ++ [Value.int .i64 32]=R.map NV:=by rw[hR.out,List.map_append];rfl
 simp only[List.length_cons,List.length_nil,Nat.zero_add]at O ⊢;rw[q1,<-j0]at O;rw[<-j0];have i3:=O.2.1;obtain⟨gR,oR,hA,k1⟩:=O.cells.at_ (by rw[List.length_map,<-hm.out];omega);obtain⟨g2,cur2,x2,_⟩:∃g cur,A2=some ⟨g,0,none⟩/\w2.heap.size≥w2.heap.size/\cur=(0:Nat):=by
  rcases O.2.2 with ⟨h,_⟩ | ⟨g,_,h,_⟩
  ·rw[hA]at h;cases h
  ·exact⟨g,0,h,Nat.le_refl _,rfl⟩
 subst x2;cases hA;have d2:=Aa (Buf.cells O);replace k1:=Aa k1;replace O:=Aa O;replace q0:=Aa q0;replace q1:=Aa q1;replace j0:=Aa j0;clear d1 p0;go_wp2_with fail;go_step3;go_wp2_with fail
 go_loopw [3,5,14] (fun s3 s5 s14 wr=>∃(i st k c3:Nat) (A3:Option Addr) (D:List (List Nat)),s3 = .slice A3 k c3/\s5 = .int .i64 (st:Int)/\s14 = .int .i64 (i:Int)/\i<=m/\st<=i/\k<=i/\Hid (k=D.length)/\Hid (i=m->st=i)/\Hid (runsW [] R=D++runsW ((R.take i).drop st) (R.drop i))/\Hid (wr.ownsRow w2.heap.size 207 2 (.slice A3 k c3) k (tkV (D.map (cutW []))))/\Hid (Ext w2 wr)) (fun _ _ s14 _=>m - (intOf s14).toNat)
 case atStart=>exact⟨0,0,0,0,none,[],rfl,rfl,rfl,by omega,by omega,by omega,Aa rfl,Aa (fun _=>rfl),Aa (by simp),Aa (World.ownsRow_nil _ _ _ _),Aa (Ext.refl w2)⟩
 case round =>
  obtain⟨i,st,k,c3,A3,D,rfl,rfl,rfl,him,k3,d3,hk,p3,l0,T,hE⟩:=hrel;by_cases h:i<m
  ·obtain⟨r,h0⟩:∃r,R[i]? = some r:=⟨_,List.getElem?_eq_getElem (by rw[<-hm.out];exact h)⟩
   have d0:=k1.out i (NV r) (by rw[List.getElem?_map,h0];rfl);rw[Nat.zero_add]at d0;replace d0:=hE.out.cell d0;unfold NV at d0;have q2:=b0.out r (List.mem_of_getElem? h0);have J:=Aa (fun W=>j3.out r W (by omega));have x1:=Gs h0;have H:=Jb h0 k3;have y1:i+1=m->r=32:=fun he=>by
    have:=G.out;rw[show m - 1=i by omega,h0]at this;exact Option.some.inj this
   obtain⟨b,hb⟩:=Ab (wordR r);rw[<-hb]at J;have j:=l0.out;rw[x1]at j;replace h0:=Aa h0;replace q2:=Aa q2;replace x1:=Aa x1;replace y1:=Aa y1;cases b with
   | true =>
    rw[Dt hb.symm,<-H]at j;replace j:=Aa j;replace H:=Aa H;replace hb:=Aa hb;go_wp2_with fail;refine(J.out _).mono ?_;rintro e w4 ⟨rfl,U⟩;go_wp2_with fail;refine⟨⟨i+1,st,k,c3,A3,D,rfl,rfl,rfl,by omega,by omega,by omega,hk,Aa (fun he=>?_),j,Aa (U.owns T.out),Aa (hE.out.trans U)⟩,by simp only[intOf];omega⟩;have:=hb.out;rw[y1.out he]at this;exact absurd this (by decide)
   | false =>
    by_cases k2:st<i
    ·rw[C9 hb.symm (FT k2 (by rw[<-hm.out];omega))]at j;have a:runsW [] R=(D ++ [(R.take i).drop st])++runsW ((R.take (i+1)).drop (i+1)) (R.drop (i+1)):=by
      rw[Db,j,List.append_assoc];rfl
     replace a:=Aa a;clear j;replace H:=Aa H;replace hb:=Aa hb;have m0:∀x∈(R.take i).drop st,x<=1114111:=fun x hx=>b0.out x (List.mem_of_mem_take (List.mem_of_mem_drop hx));have I:i - st=((R.take i).drop st).length:=by rw[List.length_drop,List.length_take,<-hm.out];omega
     have m1:=Aa (fun c W (hh:Cells W (some ⟨gR,st,none⟩) (((R.take i).drop st).map NV))=>m3.out ((R.take i).drop st) (some ⟨gR,st,none⟩) (i - st) c W I hh m0 (by omega));have k0:=Fy d2.out st i;rw[<-List.map_take,<-List.map_drop]at k0;obtain⟨t,ht⟩:=Ab (cutW [] ((R.take i).drop st));rw[<-ht]at m1;have t0:(D ++ [(R.take i).drop st]).map (cutW [])=D.map (cutW []) ++ [t]:=by rw[List.map_append,ht];rfl
     obtain⟨cu,j1⟩:=Ab ((R.take i).drop st);rw[<-j1]at m1 k0 a t0;replace m0:=Aa m0;replace I:=Aa I;replace k0:=Aa k0;replace ht:=Aa ht;replace t0:=Aa t0;replace j1:=Aa j1;go_wp2_with fail;refine(J.out _).mono ?_;rintro e w4 ⟨rfl,U⟩;have f0:=Aa (hE.out.trans U);have i1:=Aa (k0.out.ext f0.out);go_wp2_with fail;refine(m1.out _ _ i1.out).mono ?_;rintro e w5 ⟨rfl,x0⟩;have i0:=Aa (f0.out.trans x0);have g0:=Aa (x0.owns (U.owns T.out));have m2:=i0.out.size;replace x0:=Aa x0;go_wp2_with (at_builtin;refine Ch (m:=1) Lw g0.out (.tmp 24) (.tmp 33) rfl rfl rfl rfl rfl (Az rfl) (by omega) m2 (fun A6 c6 w6 o2 f2 e3=>?_));have e1:=i0.out.grown f2 (fun q hq=>(g0.out.lt q hq).1);refine⟨⟨i+1,i+1,k+1,c6,A6,D ++ [cu],rfl,rfl,rfl,by omega,by omega,by omega,Aa (by rw[List.length_append,<-hk.out];rfl),Aa (fun _=>rfl),a,Aa ?_,Aa e1⟩,by simp only[intOf];omega⟩;rw[t0.out,HJ,List.length_map,<-hk.out];exact o2
    ·obtain rfl:st=i:=by omega
     rw[Db,Cz hb.symm]at j;have a:runsW [] R=D++runsW ((R.take (st+1)).drop (st+1)) (R.drop (st+1)):=by rw[Db];exact j
     clear j;replace a:=Aa a;replace H:=Aa H;replace hb:=Aa hb;go_wp2_with fail;refine(J.out _).mono ?_;rintro e w4 ⟨rfl,U⟩;go_wp2_with fail;exact⟨⟨st+1,st+1,k,c3,A3,D,rfl,rfl,rfl,by omega,by omega,by omega,hk,Aa (fun _=>rfl),a,Aa (U.owns T.out),Aa (hE.out.trans U)⟩,by simp only[intOf];omega⟩
  ·obtain rfl:i=m:=by omega
   have q3:=p3.out rfl;subst q3;have o0:runsW [] R=D:=by
    rw[l0.out,Db,List.drop_eq_nil_of_le (by rw[<-hm.out];exact Nat.le_refl _),runsW,if_pos rfl,List.append_nil]
   have c0:Z=D.map (cutW []):=by rw[Y.out,o0]
   have i2:k=Z.length:=by rw[c0,List.length_map];exact hk.out
   rw[<-c0]at T;replace o0:=Aa o0;replace c0:=Aa c0;subst i2;go_wp2_with fail;go_ret;exact⟨A3,c3,rfl,World.ownsRow.mono T.out q0.out.size,q0.out.trans hE.out⟩
end
section
open Go.RowKit
section
variable {β:Type}
def valsOf (ps:List (List UInt8×β)) (s:List UInt8):List β:=(ps.filter fun p=>decide (p.1=s)).map Prod.snd
theorem AK (ps qs:List (List UInt8×β)) (s:List UInt8):valsOf (ps++qs) s=valsOf ps s++valsOf qs s:=by unfold valsOf;rw[List.filter_append,List.map_append]
theorem Dz (p:List UInt8×β) (s:List UInt8):valsOf [p] s=if p.1=s then [p.2] else []:=by
 unfold valsOf;rw[List.filter_cons];by_cases h:p.1=s
 ·simp[h]
 ·simp[h]
theorem K7 (p:List UInt8×β) (ps:List (List UInt8×β)) (s:List UInt8):valsOf (p::ps) s=(if p.1=s then [p.2] else [])++valsOf ps s:=by
 rw[<-Dz,<-AK];rfl
def Ris {α:Type} (l:List (List UInt8×α)):Prop:=l.Pairwise fun a b=>a.1<b.1
structure Grp (ps:List (List UInt8×β)) (r:List (List UInt8×List β)):Prop where
  up:Ris r
  mem:∀x,x∈r↔x.2=valsOf ps x.1/\x.2 ≠ []
theorem Ris.nodup {α:Type} {l:List (List UInt8×α)} (h:Ris l):l.Nodup:=by
 refine List.Pairwise.imp ?_ h;intro a b hab e;rw[e]at hab;exact List.lt_irrefl _ hab
theorem Ris.ext {α:Type} {a b:List (List UInt8×α)} (j:Ris a) (hb:Ris b) (h:∀x,x∈a↔x∈b):a=b :=
 List.Perm.eq_of_pairwise (le:=fun(x y:List UInt8×α)=>x.1<y.1) (fun x y _ _ h k=>(List.lt_irrefl _ (List.lt_trans h k)).elim) j hb ((List.perm_ext_iff_of_nodup j.nodup hb.nodup).2 h)
theorem Grp.uniq {ps:List (List UInt8×β)} {r q:List (List UInt8×List β)} (h:Grp ps r) (k:Grp ps q):r=q :=
 h.up.ext k.up fun x=>(h.mem x).trans (k.mem x).symm
theorem Grp.same {ps qs:List (List UInt8×β)} {r:List (List UInt8×List β)} (h:Grp ps r) (k:∀s,valsOf ps s=valsOf qs s):Grp qs r :=
 ⟨h.up,fun x=>by rw[h.mem x,k]⟩
theorem Grp.nil:Grp ([]:List (List UInt8×β)) []:=⟨List.Pairwise.nil,fun x=>by simp[valsOf]⟩
def addG (p:List UInt8×β):List (List UInt8×List β)->List (List UInt8×List β)
 | []=> [(p.1,[p.2])]
 | x::xs=>if x.1<p.1 then x::addG p xs else if x.1=p.1 then (x.1,x.2 ++ [p.2])::xs else (p.1,[p.2])::x::xs
theorem Ig (p:List UInt8×β):∀(l:List (List UInt8×List β)) (y:List UInt8×List β),y∈addG p l->y.1=p.1\/y∈l
 | [],y,h=>by simp only[addG,List.mem_singleton]at h;rw[h];exact .inl rfl
 | x::xs,y,h=>by
  unfold addG at h;split at h
  ·rcases List.mem_cons.1 h with rfl | h
   ·exact .inr (List.mem_cons_self ..)
   ·rcases Ig p xs y h with h | h
    ·exact .inl h
    ·exact .inr (List.mem_cons_of_mem _ h)
  ·split at h
   ·rename_i j;rcases List.mem_cons.1 h with rfl | h
    ·exact .inl j
    ·exact .inr (List.mem_cons_of_mem _ h)
   ·rcases List.mem_cons.1 h with rfl | h
    ·exact .inl rfl
    ·exact .inr h
theorem Ex {a b:List UInt8} (h:¬ a<b) (j:¬ a=b):b<a :=
 Decidable.byContradiction fun h2=>j (List.le_antisymm (List.not_lt.1 h2) (List.not_lt.1 h))
theorem JK (p:List UInt8×β):∀(l:List (List UInt8×List β)),Ris l->Ris (addG p l)
 | [],_=>List.pairwise_singleton ..
 | x::xs,h=>by
  obtain⟨h1,h2⟩:=List.pairwise_cons.1 h;unfold addG;split
  ·rename_i a;refine List.pairwise_cons.2 ⟨fun y j=>?_,JK p xs h2⟩;rcases Ig p xs y j with e | j
   ·rw[e];exact a
   ·exact h1 y j
  ·rename_i Y;split
   ·exact List.pairwise_cons.2 ⟨h1,h2⟩
   ·rename_i H;have b:=Ex Y H;refine List.pairwise_cons.2 ⟨fun y j=>?_,h⟩;rcases List.mem_cons.1 j with rfl | j
    ·exact b
    ·exact List.lt_trans b (h1 y j)
theorem Ris.notMem {α:Type} {x:List UInt8×α} {xs:List (List UInt8×α)} (h:Ris (x::xs)):∀y∈xs,¬ y.1=x.1:=fun y j e=>by
 have:=(List.pairwise_cons.1 h).1 y j;rw[e]at this;exact List.lt_irrefl _ this
theorem JJ (p:List UInt8×β):∀(l:List (List UInt8×List β)),Ris l->∀y,y∈addG p l↔(¬ y.1=p.1/\y∈l)\/(y.1=p.1/\((∃v,(p.1,v)∈l/\y.2=v ++ [p.2])\/((∀v,(p.1,v)∉l)/\y.2 = [p.2])))
 | [],_,y=>by
  constructor
  ·intro h;simp only[addG,List.mem_singleton]at h;rw[h];exact .inr ⟨rfl,.inr ⟨fun v=>List.not_mem_nil,rfl⟩⟩
  ·rintro(⟨_,h⟩ | ⟨h,(⟨v,h2,_⟩ | ⟨_,h2⟩)⟩)
   ·cases h
   ·cases h2
   ·obtain⟨a,b⟩:=y;simp only at h h2;rw[h,h2];exact List.mem_singleton.2 rfl
 | x::xs,hr,y=>by
  have q0:=(List.pairwise_cons.1 hr).2;have ih:=JJ p xs q0 y;unfold addG;split
  ·rename_i U;have Z:¬ x.1=p.1:=fun e=>by rw[e]at U;exact List.lt_irrefl _ U
   have T:∀v,¬ (p.1,v)=x:=fun v e=>Z (by rw[<-e]);rw[List.mem_cons,ih];simp only[List.mem_cons];constructor
   ·rintro(rfl | ⟨h1,h2⟩ | ⟨h1,(⟨v,h2,j⟩ | ⟨h2,j⟩)⟩)
    ·exact .inl ⟨Z,.inl rfl⟩
    ·exact .inl ⟨h1,.inr h2⟩
    ·exact .inr ⟨h1,.inl ⟨v,.inr h2,j⟩⟩
    ·exact .inr ⟨h1,.inr ⟨fun v J=>J.elim (T v) (h2 v),j⟩⟩
   ·rintro(⟨h1,(h2 | h2)⟩ | ⟨h1,(⟨v,(h2 | h2),j⟩ | ⟨h2,j⟩)⟩)
    ·exact .inl h2
    ·exact .inr (.inl ⟨h1,h2⟩)
    ·exact absurd h2 (T v)
    ·exact .inr (.inr ⟨h1,.inl ⟨v,h2,j⟩⟩)
    ·exact .inr (.inr ⟨h1,.inr ⟨fun v J=>h2 v (.inr J),j⟩⟩)
  ·rename_i G;split
   ·rename_i Y;have H:=hr.notMem;rw[List.mem_cons];simp only[List.mem_cons];constructor
    ·rintro(rfl | h)
     ·exact .inr ⟨Y,.inl ⟨x.2,.inl (by rw[<-Y]),rfl⟩⟩
     ·exact .inl ⟨fun e=>H y h (e.trans Y.symm),.inr h⟩
    ·rintro(⟨h1,(rfl | h2)⟩ | ⟨h1,(⟨v,(h2 | h2),j⟩ | ⟨h2,j⟩)⟩)
     ·exact absurd Y h1
     ·exact .inr h2
     ·refine .inl ?_;obtain⟨a,b⟩:=y;simp only at h1 j;rw[h1,j,Y,<-h2]
     ·exact absurd Y.symm (H _ h2)
     ·exact absurd (.inl (by rw[<-Y])) (h2 x.2)
   ·rename_i O;have I:=Ex G O;have H:∀v,(p.1,v)∉x::xs:=fun v J=>by
     rcases List.mem_cons.1 J with e | J
     ·exact O (by rw[<-e])
     ·exact List.lt_irrefl _ (List.lt_trans I ((List.pairwise_cons.1 hr).1 _ J))
    rw[List.mem_cons];constructor
    ·rintro(rfl | h)
     ·exact .inr ⟨rfl,.inr ⟨H,rfl⟩⟩
     ·exact .inl ⟨fun e=>H y.2 (by rw[<-e];exact h),h⟩
    ·rintro(⟨_,h⟩ | ⟨h1,(⟨v,h2,_⟩ | ⟨_,j⟩)⟩)
     ·exact .inr h
     ·exact absurd h2 (H v)
     ·refine .inl ?_;obtain⟨a,b⟩:=y;simp only at h1 j;rw[h1,j]
theorem Grp.add {ps:List (List UInt8×β)} {r:List (List UInt8×List β)} (h:Grp ps r) (p:List UInt8×β):Grp (ps ++ [p]) (addG p r):=by
 refine⟨JK p r h.up,fun y=>?_⟩;rw[JJ p r h.up y,AK,Dz];by_cases hk:p.1=y.1
 ·rw[if_pos hk];have j:∀v,(p.1,v)∈r↔v=valsOf ps p.1/\v ≠ []:=fun v=>h.mem (p.1,v);constructor
  ·rintro(⟨h1,_⟩ | ⟨_,(⟨v,h2,a⟩ | ⟨h2,a⟩)⟩)
   ·exact absurd hk.symm h1
   ·rw[a,<-hk,((j v).1 h2).1];exact⟨rfl,by simp⟩
   ·have:valsOf ps p.1 = []:=Decidable.byContradiction fun H=>h2 _ ((j _).2 ⟨rfl,H⟩);rw[a,<-hk,this];exact⟨rfl,by simp⟩
  ·rintro⟨h1,_⟩;refine .inr ⟨hk.symm,?_⟩;by_cases Y:valsOf ps p.1 = []
   ·exact .inr ⟨fun v b=>((j v).1 b).2 (((j v).1 b).1.trans Y),by rw[h1,<-hk,Y];rfl⟩
   ·exact .inl ⟨_,(j _).2 ⟨rfl,Y⟩,by rw[h1,<-hk]⟩
 ·rw[if_neg hk,List.append_nil,<-h.mem y];constructor
  ·rintro(⟨_,h2⟩ | ⟨h1,_⟩)
   ·exact h2
   ·exact absurd h1.symm hk
  ·exact fun h2=> .inl ⟨fun e=>hk e.symm,h2⟩
def grp (ps:List (List UInt8×β)):List (List UInt8×List β):=ps.foldl (fun l p=>addG p l) []
theorem EY (ps:List (List UInt8×β)) (p:List UInt8×β):grp (ps ++ [p])=addG p (grp ps):=by unfold grp;rw[List.foldl_append];rfl
theorem BM (ps:List (List UInt8×β)):Grp ps (grp ps):=by
 have key:∀(qs:List (List UInt8×β)) (ps:List (List UInt8×β)) (r:List (List UInt8×List β)),Grp ps r->Grp (ps++qs) (qs.foldl (fun l p=>addG p l) r):=by
  intro qs
  induction qs with
  | nil=>intro ps r h;rw[List.append_nil];exact h
  | cons q qs ih =>
   intro ps r h;have:=ih _ _ (h.add q);rw[List.append_assoc]at this;exact this
 exact key ps [] [] Grp.nil
def joinS (r:List (List UInt8×List β)) (p:List UInt8×β):List (List UInt8×List β):=match r.getLast? with
 | some x=>if x.1=p.1 then r.dropLast ++ [(x.1,x.2 ++ [p.2])] else r ++ [(p.1,[p.2])]
 | none=> [(p.1,[p.2])]
theorem Ih (p:List UInt8×β):∀(r:List (List UInt8×List β)),Ris r->(∀x∈r,¬ p.1<x.1)->addG p r=joinS r p
 | [],_,_=>rfl
 | [x],_,h=>by
  have h1:=h x (List.mem_singleton.2 rfl);unfold addG joinS;simp only[List.getLast?_singleton];by_cases j:x.1=p.1
  ·have:¬ x.1<p.1:=fun J=>by rw[j]at J;exact List.lt_irrefl _ J
   rw[if_neg this,if_pos j,if_pos j];rfl
  ·rw[if_pos (Ex h1 fun e=>j e.symm),if_neg j];rfl
 | x::y::ys,U,h=>by
  have a:=(List.pairwise_cons.1 U).2;have ih:=Ih p (y::ys) a fun z T=>h z (List.mem_cons_of_mem _ T);have b:=(List.pairwise_cons.1 U).1 y (List.mem_cons_self ..);have Y:=h y (List.mem_cons_of_mem _ (List.mem_cons_self ..));have H:x.1<p.1:=by
   by_cases j:y.1=p.1
   ·rw[<-j];exact b
   ·exact List.lt_trans b (Ex Y fun e=>j e.symm)
  rw[addG,if_pos H,ih];unfold joinS;rw[List.getLast?_cons_cons];cases O:(y::ys).getLast? with
  | none=>simp at O
  | some z =>
   simp only;split
   ·rw[List.dropLast_cons_cons];rfl
   ·rfl
structure Stab (ps l:List (List UInt8×β)):Prop where
  up:l.Pairwise fun a b=>¬ b.1<a.1
  vals:∀s,valsOf l s=valsOf ps s
theorem IG:∀(done l:List (List UInt8×β)),(done++l).Pairwise (fun a b=>¬ b.1<a.1)->l.foldl joinS (grp done)=grp (done++l)
 | done,[],_=>by rw[List.append_nil];rfl
 | done,p::l,h=>by
  have j:joinS (grp done) p=grp (done ++ [p]):=by
   rw[EY];refine(Ih p _ (BM done).up fun x T=>?_).symm;have O:=((BM done).mem x).1 T;obtain⟨q,J,U⟩:∃q∈done,q.1=x.1:=by
    have H:valsOf done x.1 ≠ []:=O.1 ▸ O.2;unfold valsOf at H;have Y:(done.filter fun(p:List UInt8×β)=>decide (p.1=x.1)) ≠ []:=fun e=>H (by rw[e];rfl);obtain⟨q,J⟩:=List.exists_mem_of_ne_nil _ Y;exact⟨q,(List.mem_filter.1 J).1,of_decide_eq_true (List.mem_filter.1 J).2⟩
   rw[<-U];exact(List.pairwise_append.1 h).2.2 q J p (List.mem_cons_self ..)
  rw[List.foldl_cons,j];have:=IG (done ++ [p]) l (by rw[List.append_assoc];exact h);rw[List.append_assoc]at this;exact this
theorem Stab.grp {ps l:List (List UInt8×β)} (h:Stab ps l):l.foldl joinS []=grp ps:=by
 have h1:=IG [] l h.up;rw[List.nil_append]at h1;exact h1.trans ((BM l).same h.vals |>.uniq (BM ps))
end
end
section
open Go.ChangeShapes Go.WideShapes Go.ChangeAt Go.RowKit
open Go.ChangeMaps (open_string shut_string)
theorem HN {a:Int} (h:(Lit.int .i64 a).wf=true) : -9223372036854775808<=a/\a<=9223372036854775807:=by
 simp[Lit.wf,IntKind.has,IntKind.min,IntKind.max,IntKind.bits,IntKind.signed]at h;omega
theorem F4 {a:Int} (h:(Lit.int .u8 a).wf=true):0<=a/\a<256:=by
 simp[Lit.wf,IntKind.has,IntKind.min,IntKind.max,IntKind.bits,IntKind.signed]at h;omega
end
section
open Go.ChangeShapes Go.WideShapes Go.Deep Go.RowKit
theorem Jh {a:Addr} (h:w.cell? a=some v):a.block<w.heap.size/\a.spot=none:=by
 unfold World.cell? at h;split at h
 ·rename_i c _ _ hb;refine⟨(Array.getElem?_eq_some_iff.1 hb).1,?_⟩;cases hs:a.spot with
  | none=>rfl
  | some s=>rw[hs]at h;simp at h
 ·cases h
theorem M3 {α:Type} {Q:Nat->α->Prop}:∀(n:Nat),(∀i,i<n->∃x,Q i x)->∃l:List α,l.length=n/\∀i x,l[i]? = some x->Q i x
 | 0,_=>⟨[],rfl,fun i x h=>by simp at h⟩
 | n+1,h=>by
  obtain⟨l,b,a⟩:=M3 n fun i hi=>h i (by omega);obtain⟨x,H⟩:=h n (by omega);refine⟨l ++ [x],by simp[b],fun i y j=>?_⟩;rw[List.getElem?_append]at j;split at j
  ·exact a i y j
  ·rename_i hi;have:i=n:=by
    have:=(List.getElem?_eq_some_iff.1 j).1;simp at this;omega
   subst this;rw[b]at j;simp at j;rw[<-j];exact H
section
variable {H:Type} {enc:TypeId×Value->H} {w:World} {base:Nat} {spare:Nat->Bool} {held:Bool}
end
end
section
open Go.ChangeShapes Go.WideShapes Go.Deep Go.RowKit
def strV (l:List UInt8):Value:= .string ⟨l.toArray⟩
theorem HF (s:ByteArray):strV s.data.toList = .string s:=by
 cases s;simp[strV]
theorem Fp {s:ByteArray} (h:s.size<=maxLen):Value.string s=strV s.data.toList/\s.data.toList.length<=9223372036854775807:=by
 refine⟨(HF s).symm,?_⟩;unfold maxLen at h;rw[Array.length_toList];exact h
section
variable {H:Type} {enc:TypeId×Value->H} {w:World} {base:Nat} {spare:Nat->Bool} {held:Bool}
end
end
section
open Go.RowKit
abbrev Fd:=List UInt8×List UInt8
def Fd.cells (f:Fd):List Value:= [strV f.1,strV f.2]
def fcells (fs:List Fd):List Value:=fs.flatMap Fd.cells
theorem Dl:∀fs:List Fd,(fcells fs).length=fs.length*2
 | []=>rfl
 | f::fs=>by
  have:=Dl fs;unfold fcells at this ⊢;rw[List.flatMap_cons,List.length_append,this,List.length_cons];simp[Fd.cells];omega
theorem Es:∀(fs:List Fd) (i:Nat) (f:Fd) (k:Nat),fs[i]? = some f->k<2->(fcells fs)[i*2+k]? = f.cells[k]?
 | [],i,f,k,h,_=>by simp at h
 | x::fs,0,f,k,h,hk=>by
  obtain rfl:x=f:=by simpa using h
  unfold fcells;rw[List.flatMap_cons,List.getElem?_append_left (by simp[Fd.cells];omega),Nat.zero_mul,Nat.zero_add]
 | x::fs,i+1,f,k,h,hk=>by
  have j:fs[i]? = some f:=by simpa using h
  have ih:=Es fs i f k j hk;unfold fcells at ih ⊢;rw[List.flatMap_cons,List.getElem?_append_right (by simp[Fd.cells];omega)];have:(i+1)*2+k - (Fd.cells x).length=i*2+k:=by
   have:(Fd.cells x).length=2:=rfl;omega
  rw[this];exact ih
theorem F0 (fs:List Fd) (f:Fd):fcells (fs ++ [f])=fcells fs++f.cells:=by
 unfold fcells;rw[List.flatMap_append];simp
theorem Bg {fs:List Fd} (h:Cells w A (fcells fs)) {f:Fd} (j:fs[i]? = some f):∃g o,A=some ⟨g,o,none⟩/\w.cell? ⟨g,o+i*2,none⟩=some (strV f.1)/\w.cell? ⟨g,o+i*2+1,none⟩=some (strV f.2):=by
 have hi:=(List.getElem?_eq_some_iff.1 j).1;obtain⟨g,o,a,b⟩:=h.at_ (by rw[Dl];omega);refine⟨g,o,a,?_,?_⟩
 ·exact b (i*2+0) _ (by rw[Es fs i f 0 j (by omega)];rfl)
 ·rw[Nat.add_assoc];exact b (i*2+1) _ (by rw[Es fs i f 1 j (by omega)];rfl)
structure Ev where
  at_:Int
  fs:List Fd
def Ev.val (e:Ev) (A:Option Addr) (c:Nat):Value:= .agg #[.int .i64 e.at_,.slice A e.fs.length c]
def nameC (c:UInt8):Bool:=decide (c.toNat=95\/(48<=c.toNat/\c.toNat<=57)\/(97<=c.toNat/\c.toNat<=122))
def nameL (s:List UInt8):Bool:=s.all nameC&&decide (1<=s.length/\s.length<=32)
def checkF:List Fd->Nat
 | []=>0
 | f::fs=>if nameL f.1=false then 100 else if 4096<f.2.length then 2 else checkF fs
def checkE (fs:List Fd):Nat:=if 16<fs.length then 3 else checkF fs
theorem FW {fs:List Fd} {f:Fd} (h:fs[i]? = some f):checkF (fs.drop i)=if nameL f.1=false then 100 else if 4096<f.2.length then 2 else checkF (fs.drop (i+1)):=by
 obtain⟨hi,rfl⟩:=List.getElem?_eq_some_iff.1 h;rw[List.drop_eq_getElem_cons hi];rfl
theorem IL {x:UInt8} (h:s[i]? = some x) (j:nameC x=false):nameL s=false:=by
 unfold nameL;have:s.all nameC=false:=by
  rw[List.all_eq_false];exact⟨x,List.mem_of_getElem? h,by rw[j];simp⟩
 rw[this];rfl
theorem Ko {x:UInt8} (h:¬ (x.toNat=95\/(48<=x.toNat/\x.toNat<=57)\/(97<=x.toNat/\x.toNat<=122))):nameC x=false:=decide_eq_false h
theorem IK {x:UInt8} (h:x.toNat=95\/(48<=x.toNat/\x.toNat<=57)\/(97<=x.toNat/\x.toNat<=122)):nameC x=true:=decide_eq_true h
theorem JL {x:UInt8} (h:s[i]? = some x) (j:(s.take i).all nameC=true) (b:nameC x=true):(s.take (i+1)).all nameC=true:=by
 obtain⟨hi,rfl⟩:=List.getElem?_eq_some_iff.1 h;rw[List.take_succ_eq_append_getElem hi,List.all_append,j];simp[b]
theorem LP (s : List UInt8) (w : World) (hs : s.length ≤ 9223372036854775807) : Calls prog 193 #[.string ⟨s.toArray⟩] w fun e w' => e = .returned (.bool (nameL s)) ∧ Ext w w' := by
  obtain ⟨c1, W1, p0, hB, a, I⟩ := FM s w
  obtain ⟨z, Y⟩ := Ab (nameL s)
  rw [← Y]
  have j : ∀ i x, s[i]? = some x → nameC x = false → z = false := fun i x h G => Y.trans (IL h G)
  have b : s.all nameC = true → z = (decide (1 ≤ s.length) && decide (s.length ≤ 32)) := fun h => by rw [Y]; unfold nameL; rw [h]; simp [Bool.decide_and]
  replace b := Aa b
  replace j := Aa j
  replace a := Aa a
  clear Y I
  go_in
  go_wp2_with fail
  go_loopw [8] (fun s8 wr => ∃ i : Nat, s8 = .int .i64 i ∧ i ≤ s.length ∧ Hid ((s.take i).all nameC = true) ∧ wr = W1) (fun s8 _ => s.length - (intOf s8).toNat)
  case atStart => exact ⟨0, rfl, by omega, Aa rfl, rfl⟩
  case round =>
    obtain ⟨i, rfl, hi, H, rfl⟩ := hrel
    by_cases Z : i < s.length
    · obtain ⟨g, o, T, hc⟩ := hB.at_ (by omega)
      injection T with T
      injection T with T ho
      subst T
      subst ho
      have k0 := hc i Z
      rw [Nat.zero_add] at k0
      obtain ⟨x, G⟩ := Ab (s[i])
      have O : s[i]? = some x := by rw [G]; exact List.getElem?_eq_getElem Z
      rw [← G] at k0
      have J : ¬ (x.toNat = 95 ∨ (48 ≤ x.toNat ∧ x.toNat ≤ 57) ∨ (97 ≤ x.toNat ∧ x.toNat ≤ 122)) → z = false := fun h => j.out i x O (Ko h)
      have U : (x.toNat = 95 ∨ (48 ≤ x.toNat ∧ x.toNat ≤ 57) ∨ (97 ≤ x.toNat ∧ x.toNat ≤ 122)) → (s.take (i + 1)).all nameC = true := fun h => JL O H.out (IK h)
      replace J := Aa J
      replace U := Aa U
      clear hc G O
      go_wp2_with fail
      all_goals first
        | (have q := U.out (by first | omega | (simp_all; done) | (simp_all; omega))
           replace q := Aa q
           go_roundw
           case rel => exact ⟨i + 1, by go_num, by omega, q, trivial⟩
           case measure => simp [intOf]; omega)
        | (have q := J.out (by first | omega | (simp_all; done) | (simp_all; omega))
           go_ret
           exact ⟨Bf (by rw [q]), a.out⟩)
    · have Y := b.out (by have h := H.out; rw [List.take_of_length_le (by omega)] at h; exact h)
      replace Y := Aa Y
      go_wp2_with fail
      all_goals go_ret
      all_goals refine ⟨Bf ?_, a.out⟩
      all_goals rw [Y.out]
      all_goals
        rw [Bool.eq_iff_iff]
        simp
        omega
theorem PC (s:List UInt8) (w:World) (hs:s.length<=9223372036854775807):Calls prog 169 #[.string ⟨s.toArray⟩] w fun e w'=>e = .returned (.bool (nameL s))/\Ext w w':=by
 have h:=Aa (LP s w hs)
 go_in
 go_wp2_with fail;refine h.out.mono ?_;rintro e w1 ⟨rfl,j⟩;go_wp2_with fail;go_ret;exact⟨rfl,j⟩
structure Ev.Ok (e:Ev) (w:World) (A:Option Addr):Prop where
  cells:Cells w A (fcells e.fs)
  many:e.fs.length<=9223372036854775807
  long:∀f∈e.fs,f.1.length<=9223372036854775807/\f.2.length<=9223372036854775807
theorem Ev.Ok.ext {e:Ev} (h:e.Ok w A) (j:Ext w w1):e.Ok w1 A:=⟨h.cells.ext j,h.many,h.long⟩
theorem Dj (e:Ev) (A:Option Addr) (c:Nat) (w:World) (h:e.Ok w A):Calls prog 125 #[e.val A c] w fun en w'=>en = .returned (.int .i64 (checkE e.fs:Int))/\Ext w w':=by
 obtain⟨at_,fs⟩:=e;obtain⟨hc,hm,hl⟩:=h;unfold Ev.val;simp only at hc hm hl ⊢;obtain⟨n,hn⟩:=Ab fs.length;obtain⟨z,T⟩:=Ab (checkE fs);have b:16<n->z=3:=fun h=>by rw[T];unfold checkE;rw[if_pos (by omega)]
 have U:n<=16->z=checkF (fs.drop 0):=fun h=>by rw[T];unfold checkE;rw[if_neg (by omega)];rfl
 have O:=fun s W (hs:s.length<=9223372036854775807)=>PC s W hs;rw[<-T,<-hn];rw[<-hn]at hm;replace hn:=Aa hn;replace hl:=Aa hl;replace O:=Aa O;replace U:=Aa U;clear T;by_cases t0:16<n
 ·have Z:=b t0;subst Z;clear b
  go_in
  go_wp2_with fail;go_ret;exact⟨rfl,(Ext.refl w).alloc _⟩
 ·clear b
  go_in
  go_wp2_with fail;have H:=U.out (by omega);replace H:=Aa H;have h0:Ext w (w.alloc (.cells #[.int .i64 at_,.slice A n c] 69)):=(Ext.refl w).alloc _;obtain⟨W0,q0⟩:=Ab (w.alloc (.cells #[.int .i64 at_,.slice A n c] 69));rw[<-q0]at h0 ⊢;clear q0
  go_loopw [12] (fun s12 wr=>∃i:Nat,s12 = .int .i64 i/\i<=n/\Hid (z=checkF (fs.drop i))/\Hid (Ext w wr)) (fun s12 _=>n - (intOf s12).toNat)
  case atStart=>exact⟨0,rfl,by omega,H,Aa h0⟩
  case round =>
   obtain⟨i,rfl,hi,T,hE⟩:=hrel;by_cases y0:i<n
   ·have x0:i<fs.length:=by rw[<-hn.out];exact y0
    obtain⟨f,hf⟩:∃f,fs[i]? = some f:=⟨_,List.getElem?_eq_getElem x0⟩
    obtain⟨g,o,rfl,k0,k1⟩:=Bg (hc.ext hE.out) hf;obtain⟨p0,b0⟩:=hl.out f (List.mem_of_getElem? hf);have j:=T.out;rw[FW hf]at j;unfold strV at k0 k1;have e0:g<wr.heap.size:=World.block_lt_of_cell? wr _ k0;obtain⟨nm,tx⟩:=f;simp only at k0 k1 p0 b0 j;have a:=fun W=>O.out nm W p0;obtain⟨q,hq⟩:=Ab (nameL nm);rw[<-hq]at a j;replace a:=Aa a;replace j:=Aa j;clear hf hq;go_wp2_with fail;have Y:Row (wr.alloc (.cells #[.string ⟨nm.toArray⟩,.string ⟨tx.toArray⟩] 91)) wr.heap.size 91 #[.string ⟨nm.toArray⟩,.string ⟨tx.toArray⟩]:=Row.new wr _ _;have G:Ext w (wr.alloc (.cells #[.string ⟨nm.toArray⟩,.string ⟨tx.toArray⟩] 91)):=hE.out.trans ((Ext.refl wr).alloc _);refine(a.out _).mono ?_;rintro e w3 ⟨rfl,I⟩;have k3:w3.cell? ⟨wr.heap.size,1,none⟩=some (.string ⟨tx.toArray⟩):=I.cell (Y.cell 1 rfl);have J:=Aa (G.trans I);clear Y G;cases q with
    | false =>
     obtain rfl:z=100:=by rw[j.out];rfl
     go_wp2_with fail;go_ret;exact⟨rfl,J.out⟩
    | true =>
     by_cases j0:4096<tx.length
     ·obtain rfl:z=2:=by rw[j.out,if_neg (by simp),if_pos j0]
      go_wp2_with fail;go_ret;exact⟨rfl,J.out⟩
     ·have Z:=Aa (show z=checkF (fs.drop (i+1))by rw[j.out,if_neg (by simp),if_neg j0]);go_wp2_with fail;go_roundw
      case rel=>exact⟨i+1,by go_num,by omega,Z,J⟩
      case measure=>simp[intOf];omega
   ·have H:=T.out;rw[List.drop_of_length_le (by rw[<-hn.out];omega)]at H;have c0:z=0:=H;subst c0;go_wp2_with fail;go_ret;exact⟨rfl,hE.out⟩
def I64ok' (z:Int):Prop:= -9223372036854775808<=z/\z<=9223372036854775807
theorem AD {base b:Nat} {size:Nat} (h:w.ownsRow base e size v n xs) (hb:b<=base):w.ownsRow b e size v n xs:=by
 refine⟨h.1,?_⟩;rcases h.2 with h2 | ⟨g,cap,cur,a,j,r⟩
 ·exact .inl h2
 ·exact .inr ⟨g,cap,cur,a,Nat.le_trans hb j,r⟩
def Ev.Own (e:Ev) (w:World) (base:Nat) (A:Option Addr) (c:Nat):Prop:=w.ownsRow base 91 2 (.slice A e.fs.length c) e.fs.length (fcells e.fs)/\(∀f∈e.fs,f.1.length<=9223372036854775807/\f.2.length<=9223372036854775807)/\e.fs.length<=20
theorem Ev.Own.ok {e:Ev} {base c:Nat} (h:e.Own w base A c):e.Ok w A:=⟨Cells.of_own h.1,by have:=h.2.2;omega,h.2.1⟩
theorem Ev.Own.nil (w:World) (base:Nat) (at_:Int):Ev.Own ⟨at_,[]⟩ w base none 0:=⟨⟨rfl,.inl ⟨rfl,rfl⟩⟩,nofun,by simp⟩
theorem AS {rest:List Oper} {a:Act} {T:TypeId} {t e size bytes m k:Nat} (E:Elem P t e size bytes)
 {base:Nat} (b:w0.ownsRow base e size v n xs) (hk:k=w0.heap.size) (s x:Operand)
 (U:o.op = .call { callee:= .builtin .append,args:=#[s,x],argTypes:=#[t,t] }) (H:o.guard=none)
 (hs:a.eval s=v) (O:a.eval x = .slice (some ⟨k,0,none⟩) m m) (J:us.length=m*size) (h1:∀u∈us,u.oneCell'=true) (Y:n+m<=4294967296) (j:base<=w0.heap.size)
 (h:∀A1 c1 w',w'.ownsRow base e size (.slice A1 (n+m) c1) (n+m) (xs++us)->w0.grownBy w' v.ownBlock->((Value.slice A1 (n+m) c1).ownBlock=v.ownBlock\/(Value.slice A1 (n+m) c1).ownBlock=some (w0.heap.size+1)) ->
  wpList P ops Q rest (a.put o.dst (.slice A1 (n+m) c1)) w') :
 wpList P ops Q (o::rest) a (w0.alloc (.cells us.toArray T)):=by
 subst hk;exact Ch E b s x U H hs O J h1 Y j h
theorem Lu:Elem prog 67 91 2 32:=⟨underlying67,⟨_,_,rfl,rfl,rfl,rfl,rfl⟩,by omega,by omega⟩
structure EvC where
  e:Ev
  A:Option Addr
  c:Nat
def EvC.val (x:EvC):Value:=x.e.val x.A x.c
def EvC.cells (x:EvC):List Value:= [.int .i64 x.e.at_,.slice x.A x.e.fs.length x.c]
def EvC.Own (x:EvC) (w:World) (base:Nat):Prop:=x.e.Own w base x.A x.c
theorem EvC.Own.ok {x:EvC} {base:Nat} (h:x.Own w base):x.e.Ok w x.A:=Ev.Own.ok h
theorem EvC.Own.chg {x:EvC} {base:Nat} (h:x.Own w base) (b:Chg S w w') (j:∀g cs,Row w g 91 cs->¬ S g):x.Own w' base :=
 ⟨b.owns h.1 fun g a=>by obtain⟨cs,H,_⟩:=Ae h.1 a;exact j g cs H,h.2⟩
end
section
def fieldT (base:Nat) (f:Fd):List (List UInt8×Int):=(tokL f.2).zipIdx.map fun p=>(f.1++58::p.1,((base+p.2:Nat):Int))
def nextT (base:Nat) (f:Fd):Nat:=base+(64+(tokL f.2).length)
def rawT:Nat->List Fd->List (List UInt8×Int)
 | _,[]=> []
 | b,f::fs=>fieldT b f++rawT (nextT b f) fs
def baseT:Nat->List Fd->Nat
 | b,[]=>b
 | b,f::fs=>baseT (nextT b f) fs
theorem He:∀(a c:List Fd) (b:Nat),rawT b (a++c)=rawT b a++rawT (baseT b a) c
 | [],c,b=>rfl
 | f::a,c,b=>by
  show fieldT b f++rawT (nextT b f) (a++c)=(fieldT b f++rawT (nextT b f) a)++_;rw[He a c,List.append_assoc];rfl
theorem Fx:∀(a c:List Fd) (b:Nat),baseT b (a++c)=baseT (baseT b a) c
 | [],c,b=>rfl
 | f::a,c,b=>Fx a c (nextT b f)
theorem CB (base:Nat) (f:Fd):(fieldT base f).length=(tokL f.2).length:=by unfold fieldT;rw[List.length_map,List.length_zipIdx]
def termsL (e:Ev):List (List UInt8×List Int):=if checkE e.fs=0 then grp (rawT 0 e.fs) else []
end
section
open Go.RowKit
def risB (n:Int):Int->List Int->Bool
 | _,[]=>true
 | lo,x::t=>decide (lo<x)&&decide (x<n)&&risB n x t
def IV (x:Int):Value:= .int .i64 x
def idV:Value:= .func (.func 121) #[] #[]
theorem QL (x:Int) (w:World):Calls prog 121 #[.int .i64 x] w fun e w'=>e = .returned (.int .i64 x)/\w'=w:=by
 go_in
 go_wp2;go_ret;exact⟨rfl,rfl⟩
theorem KF (xs:List Int) (A:Option Addr) (m c:Nat) (n:Int) (w:World) (U:m=xs.length) (G:Cells w A (xs.map IV)) (p0:m<=1000000000) :
 Calls prog 120 #[.slice A m c,.int .i64 n,idV] w fun e w'=>e = .returned (.bool (risB n (-1) xs))/\Ext w w':=by
 unfold idV;have I:=Aa (fun x W=>QL x W);obtain⟨Z,O⟩:=Ab (risB n (-1) xs);rw[<-O];replace O:=Aa O;replace G:=Aa G;replace U:=Aa U
 go_in
 go_wp2_with fail
 go_loopw [7,13] (fun s7 s13 wr=>∃(i:Nat) (p:Int),s7 = .int .i64 p/\s13 = .int .i64 (i:Int)/\i<=m/\Hid (Z=risB n p (xs.drop i))/\wr=w) (fun _ s13 _=>m - (intOf s13).toNat)
 case atStart=>exact⟨0,-1,rfl,rfl,by omega,Aa (by rw[O.out];rfl),rfl⟩
 case round =>
  obtain⟨i,p,rfl,rfl,hi,J,rfl⟩:=hrel;by_cases h:i<m
  ·obtain⟨x,b⟩:∃x,xs[i]? = some x:=⟨_,List.getElem?_eq_getElem (by rw[<-U.out];exact h)⟩
   obtain⟨g,o,hA,H⟩:=G.out.at_ (by rw[List.length_map,<-U.out];omega);subst hA;have h0:=H i (IV x) (by rw[List.getElem?_map,b];rfl);unfold IV at h0;have Y:xs.drop i=x::xs.drop (i+1):=by
    rw[List.drop_eq_getElem_cons (List.getElem?_eq_some_iff.1 b).1];congr 1;exact(List.getElem?_eq_some_iff.1 b).2
   have j:=J.out;rw[Y,risB]at j;have a:=Aa (fun W=>I.out x W);replace H:=Aa H;replace b:=Aa b;replace Y:=Aa Y;by_cases h1:p<x
   ·by_cases h2:x<n
    ·rw[decide_eq_true h1,decide_eq_true h2,Bool.true_and,Bool.true_and]at j;replace j:=Aa j;go_wp2_with fail;refine(a.out _).mono ?_;rintro e w2 ⟨rfl,rfl⟩;go_wp2_with fail;exact⟨⟨i+1,x,rfl,rfl,by omega,j,trivial⟩,by simp only[intOf];omega⟩
    ·rw[decide_eq_true h1,decide_eq_false h2,Bool.true_and,Bool.false_and]at j;subst j;go_wp2_with fail;refine(a.out _).mono ?_;rintro e w2 ⟨rfl,rfl⟩;go_wp2_with fail;go_ret;exact⟨rfl,Ext.refl _⟩
   ·rw[decide_eq_false h1,Bool.false_and,Bool.false_and]at j;subst j;go_wp2_with fail;refine(a.out _).mono ?_;rintro e w2 ⟨rfl,rfl⟩;go_wp2_with fail;go_ret;exact⟨rfl,Ext.refl _⟩
  ·obtain rfl:i=m:=by omega
   have T:Z=true:=by rw[J.out,List.drop_eq_nil_of_le (by rw[<-U.out];exact Nat.le_refl _),risB]
   subst T;go_wp2_with fail;go_ret;exact⟨rfl,Ext.refl _⟩
end
section
def chunkL {α:Type} (k:Nat) (l:List α):List (List α):=if h:l = []\/k=0 then [] else l.take k::chunkL k (l.drop k)
termination_by l.length
decreasing_by
 rw[List.length_drop];have:0<l.length:=List.length_pos_iff.2 (fun e=>h (.inl e));omega
section
variable {α:Type} {k:Nat}
theorem Eo:chunkL k ([]:List α) = []:=by rw[chunkL,dif_pos (.inl rfl)]
theorem BE {l:List α} (j:l ≠ []) (hk:0<k):chunkL k l=l.take k::chunkL k (l.drop k):=by rw[chunkL,dif_neg (fun h=>h.elim j (by omega))]
theorem DB (hk:0<k) (l:List α):(chunkL k l).flatMap id=l:=by
 by_cases h:l = []
 ·rw[h,Eo];rfl
 ·have:0<l.length:=List.length_pos_iff.2 h;rw[BE h hk,List.flatMap_cons,DB hk (l.drop k)];exact List.take_append_drop k l
termination_by l.length
decreasing_by rw[List.length_drop];omega
theorem AO (hk:0<k) (l:List α):(chunkL k l).length=(l.length+k - 1) / k:=by
 by_cases h:l = []
 ·rw[h,Eo];symm;exact Nat.div_eq_of_lt (by simp;omega)
 ·have j:0<l.length:=List.length_pos_iff.2 h;rw[BE h hk,List.length_cons,AO hk (l.drop k),List.length_drop];rcases Nat.lt_or_ge k l.length with h1 | h1
  ·rw[show l.length+k - 1=(l.length - k+k - 1)+k by omega,Nat.add_div_right _ hk]
  ·rw[show l.length - k+k - 1=k - 1 by omega,Nat.div_eq_of_lt (by omega),show l.length+k - 1=(l.length - 1)+k by omega,Nat.add_div_right _ hk,Nat.div_eq_of_lt (by omega)]
termination_by l.length
decreasing_by rw[List.length_drop];omega
theorem BQ (hk:0<k):∀(i:Nat) (l:List α),i*k<l.length->(chunkL k l)[i]? = some ((l.drop (i*k)).take k)
 | 0,l,h=>by
  have:l ≠ []:=fun e=>by rw[e]at h;simp at h
  rw[BE this hk];simp
 | i+1,l,h=>by
  have j:l ≠ []:=fun e=>by rw[e]at h;simp at h
  rw[BE j hk,List.getElem?_cons_succ,BQ hk i (l.drop k) (by rw[List.length_drop];rw[Nat.succ_mul]at h;omega),List.drop_drop];congr 3;rw[Nat.succ_mul];omega
theorem Cb (hk:0<k) (i:Nat) (l:List α) (h:l.length<=i*k):(chunkL k l).length<=i:=by
 rw[AO hk,Nat.div_le_iff_le_mul_add_pred hk,Nat.mul_comm];omega
theorem Fz (hk:0<k) {l b:List α} (hb:b∈chunkL k l):b ≠ []/\b.length<=k:=by
 by_cases h:l = []
 ·rw[h,Eo]at hb;cases hb
 ·have j:0<l.length:=List.length_pos_iff.2 h;rw[BE h hk]at hb;rcases List.mem_cons.1 hb with rfl | hb
  ·refine⟨fun e=>?_,List.length_take_le ..⟩;have:=congrArg List.length e;rw[List.length_take,List.length_nil]at this;omega
  ·exact Fz hk hb
termination_by l.length
decreasing_by rw[List.length_drop];omega
theorem GB (hk:0<k) {l b:List α} (hb:b∈chunkL k l):∀x∈b,x∈l:=by
 intro x h;rw[<-DB hk l];exact List.mem_flatMap.2 ⟨b,hb,h⟩
theorem BF (hk:0<k) (l:List α):∀i,((chunkL k l).take i).flatMap id=l.take (i*k)
 | 0=>by simp
 | i+1=>by
  rcases Nat.lt_or_ge (i*k) l.length with h | h
  ·have j:=BQ hk i l h;have hi:=(List.getElem?_eq_some_iff.1 j)
   rw[List.take_add_one,j,List.flatMap_append,BF hk l i];show _ ++ [(l.drop (i*k)).take k].flatMap id=_;rw[List.flatMap_cons,List.flatMap_nil,List.append_nil];show _++(l.drop (i*k)).take k=_;rw[Nat.succ_mul,List.take_add]
  ·have h1:=Cb hk i l h;rw[List.take_of_length_le (by omega),DB hk,List.take_of_length_le (by rw[Nat.succ_mul];omega)]
end
end
section
def vb (n:Nat):List UInt8:=if _h:n<128 then [UInt8.ofNat n] else UInt8.ofNat (n%128+128)::vb (n / 128)
termination_by n
decreasing_by omega
theorem Gn (h:n<128):vb n = [UInt8.ofNat n]:=by rw[vb,dif_pos h]
theorem Je (h:¬ n<128):vb n=UInt8.ofNat (n%128+128)::vb (n / 128):=by rw[vb,dif_neg h]
theorem FV:∀(k n:Nat),n<128^k->(vb n).length<=max k 1
 | 0,n,h=>by
  have:n=0:=by simpa using h
  subst this;rw[Gn (by omega)];simp
 | k+1,n,h=>by
  by_cases hn:n<128
  ·rw[Gn hn];simp
  ·rw[Je hn,List.length_cons];have ih:=FV k (n / 128) (by rw[Nat.pow_succ]at h;omega);have:1<=k:=by
    rcases Nat.eq_zero_or_pos k with rfl | hk
    ·simp at h;omega
    ·exact hk
   omega
theorem Ag (h:n<18446744073709551616):(vb n).length<=10:=FV 10 n (by omega)
theorem Qi (n:Nat):1<=(vb n).length:=by
 by_cases hn:n<128
 ·rw[Gn hn];simp
 ·rw[Je hn];simp
def getV (i:Nat):List UInt8->Except Nat (Nat×List UInt8)
 | []=> .error 6
 | x::l=>if 10<=i then .error 6 else if (i=9/\1<x.toNat)\/(0<i/\x.toNat=0) then .error 20 else
  if x.toNat<128 then .ok (x.toNat,l) else match getV (i+1) l with
   | .ok (n,r)=> .ok (x.toNat - 128+128*n,r)
   | .error e=> .error e
theorem Ck:∀(l:List UInt8) (i n:Nat) (r:List UInt8),getV i l = .ok (n,r)->i<=9/\n<2*128^(9 - i)/\∃p,l=p++r/\p ≠ []
 | [],i,n,r,h=>by simp[getV]at h
 | x::l,i,n,r,h=>by
  unfold getV at h;by_cases b:10<=i
  ·rw[if_pos b]at h;cases h
  rw[if_neg b]at h;by_cases hb:(i=9/\1<x.toNat)\/(0<i/\x.toNat=0)
  ·rw[if_pos hb]at h;cases h
  rw[if_neg hb]at h;have O:=x.toNat_lt;by_cases j:x.toNat<128
  ·rw[if_pos j]at h;injection h with h;injection h with h1 h2;subst h1 h2;refine⟨by omega,?_,[x],rfl,by simp⟩;by_cases a:i=9
   ·subst a;simp only[Nat.sub_self,Nat.pow_zero];omega
   ·have:128^1<=128^(9 - i):=Nat.pow_le_pow_right (by omega) (by omega);omega
  ·rw[if_neg j]at h;split at h
   ·rename_i m r' H;injection h with h;injection h with h1 h2;subst h1 h2;obtain⟨J,U,p,Y,_⟩:=Ck l (i+1) m r' H;refine⟨by omega,?_,x::p,by rw[Y];rfl,by simp⟩;have:9 - i=(9 - (i+1))+1:=by omega
    rw[this,Nat.pow_succ];omega
   ·cases h
theorem Ct (h:getV 0 l = .ok (n,r)):n<18446744073709551616:=by
 have:=(Ck l 0 n r h).2.1;omega
theorem MY:∀(k i n:Nat) (r:List UInt8),k+i=9->n<2*128^k->(0<i->0<n)->getV i (vb n++r) = .ok (n,r)
 | k,i,n,r,hk,hn,H=>by
  by_cases b:n<128
  ·rw[Gn b];have a:(UInt8.ofNat n).toNat=n:=by rw[UInt8.toNat_ofNat'];omega
   show getV i (UInt8.ofNat n::r)=_;unfold getV;rw[if_neg (by omega),a,if_neg,if_pos b];rintro(⟨rfl,h1⟩ | ⟨h1,h2⟩)
   ·obtain rfl:k=0:=by omega
    simp at hn;omega
   ·have:=H h1;omega
  ·rw[Je b];have a:(UInt8.ofNat (n%128+128)).toNat=n%128+128:=by rw[UInt8.toNat_ofNat'];omega
   show getV i (UInt8.ofNat (n%128+128)::(vb (n / 128)++r))=_;have Y:1<=k:=by
    rcases Nat.eq_zero_or_pos k with rfl | h
    ·simp at hn;omega
    ·exact h
   obtain⟨k,rfl⟩:∃j,k=j+1:=⟨k - 1,by omega⟩
   have ih:=MY k (i+1) (n / 128) r (by omega) (by rw[Nat.pow_succ]at hn;omega) (fun _=>by omega);unfold getV;rw[if_neg (by omega),a,if_neg (by omega),if_neg (by omega),ih];simp only;rw[show n%128+128 - 128+128*(n / 128)=n by omega]
theorem BD (h:n<18446744073709551616) (r:List UInt8):getV 0 (vb n++r) = .ok (n,r):=MY 9 0 n r rfl (by omega) (by omega)
def zig (n:Int):Nat:=if 0<=n then 2*n.toNat else 2*(-1 - n).toNat+1
def unzig (u:Nat):Int:=if u%2=0 then ((u / 2:Nat):Int) else -1 - ((u / 2:Nat):Int)
theorem OR (n:Int):unzig (zig n)=n:=by
 unfold unzig zig;split <;> split <;> omega
theorem CM {n:Int} (h1 : -9223372036854775808<=n) (h2:n<=9223372036854775807):zig n<18446744073709551616:=by
 unfold zig;split <;> omega
theorem K6 {u:Nat} (h:u<18446744073709551616) : -9223372036854775808<=unzig u/\unzig u<=9223372036854775807:=by
 unfold unzig;split <;> omega
def vall (l:List Int):List UInt8:=l.flatMap fun n=>vb (zig n)
end
section
abbrev Po:=Int×List Int
def okPs (l:List Po):Bool:=risB 65536 (-1) (l.map (·.1))&&l.all fun p=>decide (0<p.2.length)&&risB 1048576 (-1) p.2
def stepsL:Int->List Int->List UInt8
 | _,[]=> []
 | last,n::t=>vb (n - last - 1).toNat++stepsL n t
def onePo (last:Int) (p:Po):List UInt8:=vb (p.1 - last - 1).toNat++vb p.2.length++stepsL (-1) p.2
def blockPo:Int->List Po->List UInt8
 | _,[]=> []
 | last,p::t=>onePo last p++blockPo p.1 t
def lastPo:Int->List Po->Int
 | last,[]=>last
 | _,p::t=>lastPo p.1 t
def headPo:Int->List (List Po)->List UInt8
 | _,[]=> []
 | last,b::bs=>vb (lastPo last b).toNat++vb (blockPo last b).length++headPo (lastPo last b) bs
def encPs (l:List Po):List UInt8:=vb l.length++headPo (-1) (chunkL 32 l)++blockPo (-1) l
theorem Be:∀(a b:List Po) (last:Int),blockPo last (a++b)=blockPo last a++blockPo (lastPo last a) b
 | [],b,last=>rfl
 | p::t,b,last=>by
  show onePo last p++blockPo p.1 (t++b)=_;rw[Be t b];show _=(onePo last p++blockPo p.1 t)++blockPo (lastPo p.1 t) b;rw[List.append_assoc]
theorem CD:∀(a b:List Po) (last:Int),lastPo last (a++b)=lastPo (lastPo last a) b
 | [],b,last=>rfl
 | p::t,b,last=>CD t b p.1
theorem Ew:∀(a b:List (List Po)) (last:Int),headPo last (a++b)=headPo last a++headPo (lastPo last (a.flatMap id)) b
 | [],b,last=>rfl
 | p::t,b,last=>by
  show vb (lastPo last p).toNat++vb (blockPo last p).length++headPo (lastPo last p) (t++b)=_;rw[Ew t b,List.flatMap_cons];show _=(vb (lastPo last p).toNat++vb (blockPo last p).length++headPo (lastPo last p) t)++headPo (lastPo last (p++t.flatMap id)) b;rw[CD,List.append_assoc _ _ (headPo _ b)]
theorem UN {n:Int}:∀ {l:List Int} {lo:Int},risB n lo l=true->∀x∈l,lo<x/\x<n
 | [],lo,_=>nofun
 | y::t,lo,h=>by
  unfold risB at h;rw[Bool.and_eq_true,Bool.and_eq_true]at h;have h1:=of_decide_eq_true h.1.1;have h2:=of_decide_eq_true h.1.2;intro x j;rcases List.mem_cons.1 j with rfl | j
  ·exact⟨h1,h2⟩
  ·have:=UN h.2 x j;omega
theorem DU {n:Int}:∀ {l:List Int} {lo:Int},risB n lo l=true->lo<n->(l.length:Int)<n - lo
 | [],lo,_,h=>by simp;omega
 | y::t,lo,h,_=>by
  unfold risB at h;rw[Bool.and_eq_true,Bool.and_eq_true]at h;have h1:=of_decide_eq_true h.1.1;have h2:=of_decide_eq_true h.1.2;have:=DU h.2 h2;rw[List.length_cons];omega
theorem Qj (h:n<128^k) (hk:1<=k):(vb n).length<=k:=by
 have:=FV k n h;omega
theorem HD:∀ {l:List Int} {lo:Int},risB 1048576 lo l=true -> -1<=lo->(stepsL lo l).length<=3*l.length
 | [],lo,_,_=>by simp[stepsL]
 | y::t,lo,h,b=>by
  unfold risB at h;rw[Bool.and_eq_true,Bool.and_eq_true]at h;have h1:=of_decide_eq_true h.1.1;have h2:=of_decide_eq_true h.1.2;have ih:=HD h.2 (by omega);have j:(128:Nat)^3=2097152:=by decide
  have a:=Qj (n:=(y - lo - 1).toNat) (k:=3) (by omega) (by omega);show (vb _++stepsL y t).length<=_;rw[List.length_append,List.length_cons];omega
end
section
open Go.ChangeShapes Go.WideShapes Go.Deep Go.RowKit
section
variable {H:Type} {enc:TypeId×Value->H} {w:World} {base:Nat} {spare:Nat->Bool} {held:Bool}
theorem IE {fs:Array Field} {tys:Array TypeId} {cs:List Value} {y:DataW H×List MemPlace} (J:prog.underlying t=some (.struct fs)) (Y:oneCellFields prog fs=true) (O:fs.map Field.type=tys)
 (h:DataW.trod enc prog w base spare held fuel t cs=some y):∃n,∀(j:Nat) (t:TypeId) (v:Value),tys[j]? = some t->cs[j]? = some v->∃z,DataW.trod enc prog w base spare held n t [v]=some z:=by
 obtain⟨ys,n,hn,hy,hlen,G,hf⟩:=DataW.trod_struct J h;refine⟨n,fun j t v I T=>?_⟩;rw[<-O,Array.getElem?_map]at I;obtain⟨f,b,rfl⟩:=Option.map_eq_some_iff.1 I;obtain⟨ho,hk⟩:=hone_of Y j f b;have h1:=hf j f b;have a:j<cs.length:=(List.getElem?_eq_some_iff.1 T).1;rw[ho,hk,List.drop_eq_getElem_cons a]at h1;have Z:cs[j]=v:=by rw[List.getElem?_eq_getElem a]at T;simpa using T
 rw[Z]at h1;have U:j<ys.length:=by rw[G];exact(Array.getElem?_eq_some_iff.1 b).1
 rw[List.getElem?_eq_getElem U]at h1;exact⟨_,h1⟩
theorem AU {α:Type} {cellsA:α->List Value} (hlen:∀x,(cellsA x).length=k):∀xs:List α,(xs.flatMap cellsA).length=xs.length*k
 | []=>by simp
 | x::xs=>by rw[List.flatMap_cons,List.length_append,hlen,AU hlen xs,List.length_cons,Nat.add_mul,Nat.one_mul,Nat.add_comm]
theorem AW {α:Type} {cellsA:α->List Value} (hlen:∀x,(cellsA x).length=k):∀(xs:List α) (i:Nat) (x:α) (j:Nat),xs[i]? = some x->j<k->(xs.flatMap cellsA)[i*k+j]? = (cellsA x)[j]?
 | [],i,x,j,h,_=>by simp at h
 | y::xs,0,x,j,h,b=>by
  obtain rfl:y=x:=by simpa using h
  rw[List.flatMap_cons,List.getElem?_append_left (by rw[hlen];omega),Nat.zero_mul,Nat.zero_add]
 | y::xs,i+1,x,j,h,b=>by
  have a:xs[i]? = some x:=by simpa using h
  rw[List.flatMap_cons,List.getElem?_append_right (by rw[hlen,Nat.add_mul,Nat.one_mul];omega),hlen,show (i+1)*k+j - k=i*k+j by rw[Nat.add_mul,Nat.one_mul];omega];exact AW hlen xs i x j a b
theorem IF {x:DataW H×List MemPlace} {α:Type} {cellsA:α->List Value} {Q:α->Prop} (ht:prog.underlying t=some (.slice e)) (hc:prog.cellsOf e=k) (I:0<k) (hlen:∀x,(cellsA x).length=k)
 (g0:∀(fuel:Nat) (cs:List Value) (y:DataW H×List MemPlace),cs.length=k->DataW.trod enc prog w base spare held fuel e cs=some y->∃x,Q x/\cellsA x=cs) (h:DataW.trod enc prog w base spare held fuel t [v]=some x) :
 ∃(A:Option Addr) (c:Nat) (xs:List α),v = .slice A xs.length c/\Cells w A (xs.flatMap cellsA)/\(xs ≠ []->∀a,A=some a->a.block<w.heap.size/\a.spot=none)/\xs.length<=c/\xs.length<=9223372036854775807/\∀x∈xs,Q x:=by
 rcases open_slice ht h with ⟨T,_⟩ | ⟨a,m,c,k',n,D,Pl,T,hb,hl,hm,hk,hx,hi⟩
 ·obtain rfl:v = .slice none 0 0:=by simpa using T
  exact⟨none,0,[],rfl,.inl rfl,fun h=>absurd rfl h,Nat.le_refl _,by show 0<=_;omega,nofun⟩
 ·obtain rfl:v = .slice (some a) m c:=by simpa using T
  rw[hc]at hi;have b0:m<=k':=by rw[hk];split <;> omega
  obtain⟨xs,t0,p0⟩:=M3 (Q:=fun i (p:α)=>Q p/\∀j v,(cellsA p)[j]? = some v->w.cell? ((a.add (i*k)).add j)=some v) m fun i J=>by
   obtain⟨cs,hc,ht⟩:=hi i (by omega);obtain⟨_,j0,U⟩:=World.cells?_some hc;obtain⟨p,hp,rfl⟩:=g0 _ _ _ j0 ht;exact⟨p,hp,fun j v Z=>by rw[U j (by have:=(List.getElem?_eq_some_iff.1 Z).1;omega)];exact Z⟩
  subst t0;have U:∀i v,(xs.flatMap cellsA)[i]? = some v->w.cell? (a.add i)=some v:=fun i v Z=>by
   have J:i<(xs.flatMap cellsA).length:=(List.getElem?_eq_some_iff.1 Z).1;rw[AU hlen]at J;have O:i / k<xs.length:=Nat.div_lt_of_lt_mul (by rw[Nat.mul_comm];exact J);have hg:=AW hlen xs (i / k) xs[i / k] (i%k) (List.getElem?_eq_getElem O) (Nat.mod_lt _ I);have G:i / k*k+i%k=i:=Nat.div_add_mod' i k;rw[G,Z]at hg;have:=(p0 (i / k) _ (List.getElem?_eq_getElem O)).2 (i%k) v hg.symm;rw[Addr.add_add,G]at this;exact this
  have q0:xs ≠ []->a.block<w.heap.size/\a.spot=none:=fun Y=>by
   have h0:0<(xs.flatMap cellsA).length:=by
    rw[AU hlen];exact Nat.mul_pos (List.length_pos_iff.2 Y) I
   have:=U 0 _ (List.getElem?_eq_getElem h0);have:=Jh this;simpa [Addr.add]using this
  refine⟨some a,c,xs,rfl,?_,fun Y b hb=>by cases hb;exact q0 Y,hl,by unfold maxLen at hm;omega,fun p hp=>?_⟩
  ·by_cases Y:xs = []
   ·rw[Y];exact .inl rfl
   ·obtain⟨b,o,s⟩:=a;obtain rfl:s=none:=(q0 Y).2;exact .inr ⟨b,o,rfl,fun i v Z=>by have:=U i v Z;rw[Addr.add_lit]at this;exact this⟩
  ·obtain⟨i,J,rfl⟩:=List.mem_iff_getElem.1 hp;exact(p0 i _ (List.getElem?_eq_getElem J)).1
end
section
variable {H:Type} {enc:TypeId×Value->H}
end
end
end Go.Proofs.YtfifdilapbeiiaaGreat
