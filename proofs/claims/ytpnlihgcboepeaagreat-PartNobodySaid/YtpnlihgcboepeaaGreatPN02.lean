/- Texts of one proof, joined. -/
import Derived.Test.YtpnlihgcboepeaaGreatPN01
import Derived.Deep.CutRange
import Derived.Deep.DeepCutAuto
import Derived.Test.YtpnlihgcboepeaaGreatPNShelf
import Derived.Deep.Onto
import Derived.WalkMore
import Derived.ProofKit
import Derived.OpenShut
import Derived.ShutString
import Derived.ChangeOld
import Derived.Below
import Derived.Deep.Slices
import Derived.Deep.Fields
import Derived.ChangeSame
import Derived.SliceStrings
import Derived.HandedShaped
import Derived.Handed
set_option linter.unusedSimpArgs false
set_option linter.unusedVariables false
set_option maxRecDepth 100000
set_option maxHeartbeats 16000000
namespace Go.Proofs.YtpnlihgcboepeaaGreat
open _root_.Go.Proofs.Tryz
variable {a:Act} {ops:Array Oper} {Q:Exit → Act → World → Prop} {rs:List Nat} {L l r s:List UInt8} {us xs:List Value} {b base c fuel g i j k n:Nat} {o:Oper} {A:Option Addr} {P:Program} {T e t:TypeId} {v:Value} {w w' w0 w1:World}
section
open Go.RowKit
theorem J2 (l:List UInt8) (at_:Nat) (b:UInt8) (w:World) (hb:l[at_]? = some b) (hl:l.length<=1073741824) (f1:¬ b.toNat<128) :
 Calls prog 203 #[.string ⟨l.toArray⟩,.int .i64 (at_:Int)] w fun e w'=>e = .returned (.tuple #[.int .i64 (decR (l.drop at_)).1,.int .i64 (decR (l.drop at_)).2])/\Ext w w':=by
 have p3:=(List.getElem?_eq_some_iff.1 hb).1;have i3:=fun W=>AB hb (z:=(at_:Int)) rfl W;have G:=Aa (fun W=>NN W);obtain⟨F,hF⟩:=Ab formC;rw[<-hF]at G;have k0:=fun i (h:i<3) W=>D3 h W;rw[<-hF]at k0;unfold Frm.cells at k0;replace k0:=Aa k0;replace hF:=Aa hF;obtain⟨t,ht⟩:=Ab (l.drop (at_+1));have h1:l.drop at_=b::t:=by
  rw[ht,List.drop_eq_getElem_cons p3];congr 1;exact(List.getElem?_eq_some_iff.1 hb).2
 have i0:t.length=l.length - (at_+1):=by rw[ht,List.length_drop]
 obtain⟨R,hR⟩:=Ab (decR (b::t));rw[h1,<-hR];replace h1:=Aa h1;replace ht:=Aa ht;replace hR:=Aa hR;replace i0:=Aa i0;have x3:¬ (b.toNat:Int)<128:=by omega
 replace hb:=Aa hb
 go_in
 go_wp2_with fail;refine(G.out _).mono ?_;rintro e w1 ⟨rfl,o2⟩;go_wp2_with fail
 go_loopw [29] (fun s29 wr=>∃i:Nat,s29 = .int .i64 (i:Int)/\i<=3/\Ext w wr/\(∀j,j<i->okF j b t=false)) (fun s29 _=>3 - (intOf s29).toNat)
 case atStart=>exact⟨0,rfl,by omega,o2,fun j hj=>absurd hj (by omega)⟩
 case round =>
  obtain⟨i,rfl,f3,hE,J⟩:=hrel;replace J:=Aa J;by_cases hi:i<3
  ·obtain⟨f,hf⟩:=Ab (frm i);have l1:=k0.out i hi;have U:=Pj hi b;have e0:=QK ⟨b.toNat,b.toNat_lt⟩ ⟨i,hi⟩;have Y:=Pi ⟨i,hi⟩;simp only at e0 Y;rw[<-hf]at l1 U e0 Y;obtain⟨k,msk,hd,lo,c0,d,q'⟩:=f;simp only at l1 U e0 Y;obtain⟨n0,j0⟩:=Ab (b.toNat%d);rw[<-j0]at e0;have h2:n0<32:=by
    have:=Nat.mod_lt b.toNat Y.2.1;omega
   replace j0:=Aa j0;replace hf:=Aa hf;by_cases hA:bits .and .u8 (b.toNat:Int) (msk:Int)=(hd:Int)
   ·replace U:=Aa U;by_cases hk:k<=t.length
    ·have j3:((k:Int)+1)<=(l.length:Int) - (at_:Int):=by have:=i0.out;omega
     obtain⟨T,hT⟩:=Ab (t.take k);have q3:T.length=k:=by rw[hT,List.length_take];omega
     obtain⟨W0,I⟩:=Ab (wr.alloc (.cells #[.int .i64 ((k:Int)+1),.int .u8 (msk:Int),.int .u8 (hd:Int),.int .i64 (lo:Int),.int .i64 (c0:Int),.int .i64 (-1)] 351));obtain⟨c,W1,q1,hB,o0,j2⟩:=FM T W0;have b3:(⟨l.toArray⟩:ByteArray).extract (at_+1) (at_+(k+1))=⟨T.toArray⟩:=by
      rw[Nn,<-ht.out,hT,show at_+(k+1) - (at_+1)=k by omega]
     rw[q3]at q1;replace hT:=Aa hT;have p2:=Row.new wr 351 #[.int .i64 ((k:Int)+1),.int .u8 (msk:Int),.int .u8 (hd:Int),.int .i64 (lo:Int),.int .i64 (c0:Int),.int .i64 (-1)];rw[<-I]at p2;have k2:=Row.ext p2 o0;have m0:Ext w W1:=((hE.alloc _).trans (by rw[<-I];exact o0))
     have n1:W0.heap.size=wr.heap.size+1:=by rw[I];simp
     have y0:=k2.get;obtain⟨g1,j1⟩:=Ab W0.heap.size;rw[<-j1]at q1 hB;replace j1:=Aa j1;rw[I]at q1;obtain⟨g,hg⟩:=Ab wr.heap.size;replace n1:=Aa n1;have i1:=y0;rw[<-hg]at i1;have o3:k<=3:=Y.2.2.2.1;replace Y:=Aa Y;replace hg:=Aa hg;replace I:=Aa I;replace hB:=Aa hB;replace j2:=Aa j2;have O:=fun(j:Nat) (b':UInt8) (h:T[j]? = some b')=>Qz hB.out h;replace y0:=Aa y0;go_upto_region 12 with (fail)
     go_loopw [63,9,10] (fun s63 s9 s10 wr'=>∃(j X:Nat) (q:Bool),s63 = .int .i64 (j:Int)/\s9 = .int .i64 (X:Int)/\s10 = .bool q/\j<=k/\X=foldR n0 (T.take j)/\q=(T.take j).all contB/\wr'=W1) (fun s63 _ _ _=>k - (intOf s63).toNat)
     case atStart=>exact⟨0,n0,true,rfl,rfl,rfl,by omega,rfl,rfl,rfl⟩
     case round =>
      obtain⟨j,X,q,rfl,rfl,rfl,l3,hX,hq,rfl⟩:=hrel;by_cases hj:j<k
      ·obtain⟨b',x0⟩:∃b',T[j]? = some b':=⟨_,List.getElem?_eq_getElem (by omega)⟩
       have r3:=O j b' x0;have l2:=RT b';have d3:X<8388608:=by rw[hX];exact Cd h2 (by rw[List.length_take];omega)
       have q2:=Sp X (b'.toNat%64) (by omega) (by omega);obtain⟨y,hy⟩:=Ab (b'.toNat%64);rw[<-hy]at l2 q2;obtain⟨X2,v0⟩:=Ab (X*64+y);rw[<-v0]at q2;have l0:T.take (j+1)=T.take j ++ [b']:=by rw[List.take_add_one,x0];rfl
       have r0:X2=foldR n0 (T.take (j+1)):=by rw[l0,GN,<-hX,v0,hy]
       have f0:(q&&contB b')=(T.take (j+1)).all contB:=by rw[l0,List.all_append,<-hq];simp
       have Z:=Rj b';have a3:y<64:=by omega
       replace hy:=Aa hy;replace v0:=Aa v0;replace hX:=Aa hX;replace hq:=Aa hq;replace x0:=Aa x0;replace l0:=Aa l0;replace r0:=Aa r0;replace f0:=Aa f0;replace O:=Aa O;obtain⟨qb,x1⟩:=Ab (contB b');rw[<-x1]at Z f0;replace x1:=Aa x1;cases q <;> cases qb
       all_goals
        have q0:=Z;simp only[Bool.false_eq_true,iff_true,iff_false,iff_self]at q0;replace Z:=Aa Z;go_wp2_with fail
        case roundEnd=>exact⟨⟨j+1,X2,_,rfl,rfl,rfl,by omega,r0.out,by rw[<-f0.out];first | rfl | simp[q0],trivial⟩,by simp only[intOf];omega⟩
      ·obtain rfl:j=k:=by omega
       have h3:T.take j=T:=List.take_of_length_le (by omega);rw[h3]at hX hq;have d0:=fun W=>LN (lo:Int) (c0:Int) (-1) (X:Int) W;have b0:=fun W=>C3 (X:Int) W;obtain⟨z,hz⟩:=Ab (inB (lo:Int) (c0:Int) (-1) (X:Int));obtain⟨v,hv⟩:=Ab ((decide (55296<=(X:Int))&&decide ((X:Int)<=57343)));rw[<-hz]at d0;rw[<-hv]at b0;have h0:okF i b t=(q&&z && !v):=by
        unfold okF okR;rw[<-hf.out];simp only;rw[<-j0.out,<-hT.out,<-hX,<-hq,hz,hv,show (b.toNat / d==q')=true from beq_iff_eq.2 (U.out.1 hA)];unfold inB;have e1:(55296<=(X:Int))↔55296<=X:=by omega
        have e2:((X:Int)<=57343)↔X<=57343:=by omega
        have e3:((X:Int) != -1)=true:=bne_iff_ne.2 (by omega);simp only[e1,e2,e3,Int.ofNat_le,hk,decide_true,Bool.true_and,Bool.and_true,Bool.and_assoc]
       replace d0:=Aa d0;replace b0:=Aa b0;replace h0:=Aa h0;replace hX:=Aa hX;replace hq:=Aa hq;replace hz:=Aa hz;replace hv:=Aa hv;replace O:=Aa O;have y3:=y0.out;cases q
       ·go_wp2_with fail
        case roundEnd =>
         refine⟨⟨i+1,rfl,by omega,m0,fun j' o1=>?_⟩,by simp only[intOf];omega⟩;by_cases h:j'<i
         ·exact J.out j' h
         ·obtain rfl:j'=i:=by omega
          exact h0.out
       ·go_wp2_with fail;refine(d0.out _).mono ?_;rintro e w2 ⟨rfl,g0⟩;cases z
        ·go_wp2_with fail
         case roundEnd =>
          refine⟨⟨i+1,rfl,by omega,(m0.trans g0),fun j' o1=>?_⟩,by simp only[intOf];omega⟩;by_cases h:j'<i
          ·exact J.out j' h
          ·obtain rfl:j'=i:=by omega
           exact h0.out
        ·go_wp2_with fail;refine(b0.out _).mono ?_;rintro e w3 ⟨rfl,rfl⟩;cases v
         ·have p0:=Nw hi f1 J.out h0.out;rw[<-hf.out,<-j0.out,<-hR.out]at p0;simp only at p0;rw[<-hT.out,<-hX.out]at p0;obtain⟨R1,R2⟩:=R;simp only[Prod.mk.injEq]at p0;obtain⟨rfl,rfl⟩:=p0;have m3:=Row.ext k2 g0;have z3:=m3.get;go_wp2_with fail;go_quiet (fail);go_wp2_with fail;go_ret2;exact⟨rfl,(m0.trans g0).drewN _⟩
         ·go_wp2_with fail
          case roundEnd =>
           refine⟨⟨i+1,rfl,by omega,(m0.trans g0),fun j' o1=>?_⟩,by simp only[intOf];omega⟩;by_cases h:j'<i
           ·exact J.out j' h
           ·obtain rfl:j'=i:=by omega
            exact h0.out
    ·have j3:¬ ((k:Int)+1)<=(l.length:Int) - (at_:Int):=by have:=i0.out;omega
     have H:okF i b t=false:=by
      unfold okF okR;rw[<-hf.out];simp[hk]
     replace H:=Aa H;replace Y:=Aa Y;go_wp2_with fail
     case roundEnd =>
      refine⟨⟨i+1,rfl,by omega,(hE.alloc _),fun j hj=>?_⟩,by simp only[intOf];omega⟩;by_cases h:j<i
      ·exact J.out j h
      ·obtain rfl:j=i:=by omega
       exact H.out
   ·have H:okF i b t=false:=by
     unfold okF;rw[<-hf.out];have:¬ b.toNat / d=q':=fun h=>hA (U.2 h);simp[this]
    replace H:=Aa H;replace U:=Aa U;replace Y:=Aa Y;go_wp2_with fail
    case roundEnd =>
     refine⟨⟨i+1,rfl,by omega,(hE.alloc _),fun j hj=>?_⟩,by simp only[intOf];omega⟩;by_cases h:j<i
     ·exact J.out j h
     ·obtain rfl:j=i:=by omega
      exact H.out
  ·obtain rfl:i=3:=by omega
   have d1:R=(65533,1):=by
    rw[hR.out];exact Ny f1 J.out
   obtain⟨R1,R2⟩:=R;simp only[Prod.mk.injEq]at d1;obtain⟨rfl,rfl⟩:=d1;go_wp2_with fail
   all_goals
    go_ret2;exact⟨rfl,hE⟩
structure Spn where
  lo:Int
  hi:Int
  but:Int
def Spn.cells (s:Spn):Array Value:=#[.int .i64 s.lo,.int .i64 s.hi,.int .i64 s.but]
def Spn.has (s:Spn) (z:Int):Bool:=inB s.lo s.hi s.but z
def spL (i:Nat):Spn:=if i=0 then ⟨65,90,-1⟩ else if i=1 then ⟨192,222,215⟩ else if i=2 then ⟨913,939,930⟩ else ⟨1040,1071,-1⟩
def spW (i:Nat):Spn:=if i=0 then ⟨48,57,-1⟩ else if i=1 then ⟨65,90,-1⟩ else if i=2 then ⟨97,122,-1⟩ else if i=3 then ⟨192,255,215⟩ else if i=4 then ⟨913,974,930⟩ else ⟨1024,1119,-1⟩
def LC:Array Value:=#[.int .i64 65,.int .i64 90,.int .i64 (-1),.int .i64 192,.int .i64 222,.int .i64 215,.int .i64 913,.int .i64 939,.int .i64 930,.int .i64 1040,.int .i64 1071,.int .i64 (-1)]
def WC:Array Value:=#[.int .i64 48,.int .i64 57,.int .i64 (-1),.int .i64 65,.int .i64 90,.int .i64 (-1),.int .i64 97,.int .i64 122,.int .i64 (-1),.int .i64 192,.int .i64 255,.int .i64 215,.int .i64 913,.int .i64 974,.int .i64 930,.int .i64 1024,.int .i64 1119,.int .i64 (-1)]
theorem four (h:i<4):i=0\/i=1\/i=2\/i=3:=by omega
theorem six (h:i<6):i=0\/i=1\/i=2\/i=3\/i=4\/i=5:=by omega
theorem Q6 (hi:i<4) (W:World):(Instr.index 354 (.agg LC) (.int .i64 (i:Int))).run prog W = .ok (.agg (spL i).cells) W:=by
 rcases four hi with rfl | rfl | rfl | rfl
 ·show _=_
  kernel_rfl
 ·show _=_
  kernel_rfl
 ·show _=_
  kernel_rfl
 ·show _=_
  kernel_rfl
theorem Q7 (hi:i<6) (W:World):(Instr.index 312 (.agg WC) (.int .i64 (i:Int))).run prog W = .ok (.agg (spW i).cells) W:=by
 rcases six hi with rfl | rfl | rfl | rfl | rfl | rfl
 ·show _=_
  kernel_rfl
 ·show _=_
  kernel_rfl
 ·show _=_
  kernel_rfl
 ·show _=_
  kernel_rfl
 ·show _=_
  kernel_rfl
 ·show _=_
  kernel_rfl
theorem Gw (lo hi but:Int) (r:Nat):(Spn.mk lo hi but).has (r:Int)=true↔lo<=r/\(r:Int)<=hi/\(r:Int)≠but:=by
 unfold Spn.has inB;simp only[Bool.and_eq_true,decide_eq_true_eq,bne_iff_ne,and_assoc]
theorem Ca (lo hi but:Int) (r:Nat):(Spn.mk lo hi but).has (r:Int)=false↔¬ (lo<=r/\(r:Int)<=hi/\(r:Int)≠but):=by
 rw[<-Gw,Bool.not_eq_true]
theorem LV {r i:Nat} (hi:i<4) (h:(spL i).has (r:Int)=true):lowerR r=r+32:=by
 unfold lowerR;rcases four hi with rfl | rfl | rfl | rfl
 all_goals
  have h:=(Gw _ _ _ r).1 h;rw[if_pos (by omega)]
theorem NY {r:Nat} (h:∀i,i<4->(spL i).has (r:Int)=false):lowerR r=if inB 1024 1039 (-1) (r:Int)=true then r+80 else r:=by
 have Y:=(Ca 65 90 (-1) r).1 (h 0 (by omega));have h1:=(Ca 192 222 215 r).1 (h 1 (by omega));have h2:=(Ca 913 939 930 r).1 (h 2 (by omega));have J:=(Ca 1040 1071 (-1) r).1 (h 3 (by omega));have d:=Gw 1024 1039 (-1) r;unfold Spn.has at d;unfold lowerR;rw[if_neg (by omega)];by_cases H:1024<=r/\r<=1039
 ·rw[if_pos H,if_pos (d.2 (by omega))]
 ·rw[if_neg H,if_neg (fun h=>H (by have:=d.1 h;omega))]
theorem OS {r i:Nat} (hi:i<6) (h:(spW i).has (r:Int)=true):wordR r=((r:Int) != 247):=by
 have e:((r:Int) != 247)=decide (r≠247):=by
  rw[Bool.eq_iff_iff];simp only[bne_iff_ne,decide_eq_true_eq];omega
 unfold wordR;rw[e,decide_eq_decide];rcases six hi with rfl | rfl | rfl | rfl | rfl | rfl
 all_goals
  have h:=(Gw _ _ _ r).1 h;omega
theorem Qk {r:Nat} (h:∀i,i<6->(spW i).has (r:Int)=false):wordR r=false:=by
 have d:=(Ca 48 57 (-1) r).1 (h 0 (by omega));have h1:=(Ca 65 90 (-1) r).1 (h 1 (by omega));have h2:=(Ca 97 122 (-1) r).1 (h 2 (by omega));have H:=(Ca 192 255 215 r).1 (h 3 (by omega));have Y:=(Ca 913 974 930 r).1 (h 4 (by omega));have J:=(Ca 1024 1119 (-1) r).1 (h 5 (by omega));unfold wordR;rw[decide_eq_false_iff_not];omega
theorem NZ (r:Nat) (w:World) (hr:r<=1114111):Calls prog 206 #[.int .i64 (r:Int)] w fun e w'=>e = .returned (.int .i64 (lowerR r:Int))/\Ext w w':=by
 have Z:=fun i (h:i<4) W=>Q6 h W;unfold LC Spn.cells at Z;replace Z:=Aa Z;have O:=Row.new w 354 LC;unfold LC at O;replace O:=Aa O;have U:=Aa (fun i (h:i<4) hh=>LV (r:=r) h hh);have Y:=Aa (fun h=>NY (r:=r) h);obtain⟨z,hz⟩:=Ab ((r:Int):Int);have p0:=Aa (fun lo hi but W=>LN lo hi but z W);obtain⟨y,hy⟩:=Ab (lowerR r);rw[<-hz]at U Y ⊢;rw[<-hy]at U Y ⊢;have g0:0<=z:=by omega
 have g1:z<=1114111:=by omega
 replace hz:=Aa hz;replace hy:=Aa hy;replace hr:=Aa hr
 go_in
 go_wp2_with (refine wpList_load_row rfl 354 (.tmp 3) rfl w.heap.size rfl 354 _ (0,0) _ O.out underlying354 rfl (by kernel_rfl) ?_)
 go_loopw [12] (fun s12 wr=>∃i:Nat,s12 = .int .i64 (i:Int)/\i<=4/\Hid (Ext w wr)/\Hid (∀j,j<i->(spL j).has z=false)) (fun s12 _=>4 - (intOf s12).toNat)
 case atStart=>exact⟨0,rfl,by omega,Aa ((Ext.refl w).alloc _),Aa (fun j hj=>absurd hj (by omega))⟩
 case round =>
  obtain⟨i,rfl,d0,hE,k0⟩:=hrel;by_cases hi:i<4
  ·have hx:=Z.out i hi;obtain⟨f,hf⟩:=Ab (spL i);rw[<-hf]at hx;have d:=Aa (fun W=>p0.out f.lo f.hi f.but W);obtain⟨b,hb⟩:=Ab (f.has z);have G:=hb;unfold Spn.has at G;rw[<-G]at d;rw[hf]at hb;obtain⟨lo,c0,but⟩:=f;replace hb:=Aa hb;replace hf:=Aa hf;clear G;simp only at hx d;cases b with
   | true =>
    have h0:=U.out i hi hb.out.symm;have J:z+32=(y:Int):=by rw[h0];have:=hz.out;omega
    replace h0:=Aa h0;go_wp2_with fail;refine(d.out _).mono ?_;rintro e w2 ⟨rfl,H⟩;go_wp2_with fail;go_ret;exact⟨rfl,(hE.out.alloc _).trans H⟩
   | false =>
    go_wp2_with fail;refine(d.out _).mono ?_;rintro e w2 ⟨rfl,H⟩;go_wp2_with fail;refine⟨⟨i+1,rfl,by omega,Aa ((hE.out.alloc _).trans H),Aa (fun j hj=>?_)⟩,by simp only[intOf];omega⟩;by_cases h:j<i
    ·exact k0.out j h
    ·obtain rfl:j=i:=by omega
     exact hb.out.symm
  ·obtain rfl:i=4:=by omega
   have I:=Y.out k0.out;have d:=Aa (fun W=>p0.out 1024 1039 (-1) W);obtain⟨b,hb⟩:=Ab (inB 1024 1039 (-1) z);rw[<-hb]at d I;replace hb:=Aa hb;cases b with
   | true =>
    have J:z+80=(y:Int):=by rw[I,if_pos rfl];have:=hz.out;omega
    replace I:=Aa I;go_wp2_with fail;refine(d.out _).mono ?_;rintro e w2 ⟨rfl,H⟩;go_wp2_with fail;go_ret;exact⟨rfl,hE.out.trans H⟩
   | false =>
    have J:z=(y:Int):=by rw[I,if_neg (by simp)];exact hz.out
    replace J:=Aa J;replace I:=Aa I;go_wp2_with fail;refine(d.out _).mono ?_;rintro e w2 ⟨rfl,H⟩;go_wp2_with fail;go_ret;exact⟨by rw[J.out];rfl,hE.out.trans H⟩
theorem LQ (r:Nat) (w:World) (hr:r<=1114191):Calls prog 152 #[.int .i64 (r:Int)] w fun e w'=>e = .returned (.bool (wordR r))/\Ext w w':=by
 have U:=fun i (h:i<6) W=>Q7 h W;unfold WC Spn.cells at U;replace U:=Aa U;have J:=Row.new w 312 WC;unfold WC at J;replace J:=Aa J;have H:=Aa (fun i (h:i<6) hh=>OS (r:=r) h hh);have d:=Aa (fun h=>Qk (r:=r) h);obtain⟨z,hz⟩:=Ab ((r:Int):Int);have p0:=Aa (fun lo hi but W=>LN lo hi but z W);obtain⟨y,hy⟩:=Ab (wordR r);rw[<-hz]at H d ⊢;rw[<-hy]at H d ⊢;have g0:0<=z:=by omega
 have g1:z<=1114191:=by omega
 replace hz:=Aa hz;replace hy:=Aa hy;replace hr:=Aa hr
 go_in
 go_wp2_with (refine wpList_load_row rfl 312 (.tmp 3) rfl w.heap.size rfl 312 _ (0,0) _ J.out underlying312 rfl (by kernel_rfl) ?_)
 go_loopw [14] (fun s14 wr=>∃i:Nat,s14 = .int .i64 (i:Int)/\i<=6/\Hid (Ext w wr)/\Hid (∀j,j<i->(spW j).has z=false)) (fun s14 _=>6 - (intOf s14).toNat)
 case atStart=>exact⟨0,rfl,by omega,Aa ((Ext.refl w).alloc _),Aa (fun j hj=>absurd hj (by omega))⟩
 case round =>
  obtain⟨i,rfl,c0,hE,I⟩:=hrel;by_cases hi:i<6
  ·have hx:=U.out i hi;obtain⟨f,hf⟩:=Ab (spW i);rw[<-hf]at hx;have Y:=Aa (fun W=>p0.out f.lo f.hi f.but W);obtain⟨b,hb⟩:=Ab (f.has z);have Z:=hb;unfold Spn.has at Z;rw[<-Z]at Y;rw[hf]at hb;obtain⟨lo,b0,but⟩:=f;replace hb:=Aa hb;replace hf:=Aa hf;clear Z;simp only at hx Y;cases b with
   | true =>
    have G:=H.out i hi hb.out.symm;replace G:=Aa G;go_wp2_with fail;refine(Y.out _).mono ?_;rintro e w2 ⟨rfl,O⟩;go_wp2_with fail;go_ret;exact⟨by rw[G.out];rfl,(hE.out.alloc _).trans O⟩
   | false =>
    go_wp2_with fail;refine(Y.out _).mono ?_;rintro e w2 ⟨rfl,O⟩;go_wp2_with fail;refine⟨⟨i+1,rfl,by omega,Aa ((hE.out.alloc _).trans O),Aa (fun j hj=>?_)⟩,by simp only[intOf];omega⟩;by_cases h:j<i
    ·exact I.out j h
    ·obtain rfl:j=i:=by omega
     exact hb.out.symm
  ·obtain rfl:i=6:=by omega
   have hn:=d.out I.out;replace hn:=Aa hn;go_wp2_with fail;go_ret;exact⟨by rw[hn.out];rfl,hE.out⟩
theorem K5 (l:List UInt8) (at_:Nat) (w:World) (d:at_<l.length) (U:l.length<=1073741824) :
 Calls prog 203 #[.string ⟨l.toArray⟩,.int .i64 (at_:Int)] w fun e w'=>e = .returned (.tuple #[.int .i64 (decR (l.drop at_)).1,.int .i64 (decR (l.drop at_)).2])/\Ext w w':=by
 obtain⟨b,hb⟩:∃b,l[at_]? = some b:=⟨_,List.getElem?_eq_getElem d⟩
 by_cases H:b.toNat<128
 ·have h:decR (l.drop at_)=(b.toNat,1):=by
   rw[List.drop_eq_getElem_cons d,(List.getElem?_eq_some_iff.1 hb).2,decR,if_pos H]
  rw[h];have J:=fun W=>AB hb (z:=(at_:Int)) rfl W;have Y:(b.toNat:Int)<128:=by omega
  replace hb:=Aa hb;replace h:=Aa h
  go_in
  go_wp2_with fail
  all_goals
   go_ret2;exact⟨rfl,Ext.refl w⟩
 ·exact J2 l at_ b w hb U H
theorem FY:Elem prog 115 3 1 8:=⟨underlying115,⟨_,_,rfl,rfl,rfl,rfl,rfl⟩,by omega,by omega⟩
def NV (n:Nat):Value:= .int .i64 (n:Int)
def NewN (w:World) (l:List Nat) (e:Ending) (w':World):Prop:=∃A c,e = .returned (.slice A l.length c)/\Buf w' w.heap.size 3 A l.length c (l.map NV)/\Ext w w'
theorem OA (l:List UInt8) (w:World) (hl:l.length<=1073741824) :
 Calls prog 151 #[.string ⟨l.toArray⟩] w (NewN w (runesL l)):=by
 have Y:=Aa (fun at_ W (h:at_<l.length)=>K5 l at_ W h hl);obtain⟨n,J⟩:=Ab l.length;have hlen:(⟨l.toArray⟩:ByteArray).size=n:=by rw[J];exact ByteArray.size_mk_toArray l
 rw[<-J]at hl Y;replace J:=Aa J
 go_in
 go_wp2_with fail
 go_loopw [3,4] (fun s3 s4 wr=>∃(at_ c:Nat) (A:Option Addr) (D:List Nat),s3 = .slice A D.length c/\s4 = .int .i64 (at_:Int)/\at_<=n/\D.length<=at_/\Hid (runesL l=D++runesL (l.drop at_))/\Hid (Buf wr w.heap.size 3 A D.length c (D.map NV))/\Hid (Ext w wr)) (fun _ s4 _=>n - (intOf s4).toNat)
 case atStart=>exact⟨0,0,none,[],rfl,rfl,by omega,by simp,Aa rfl,Aa (Buf.nil _ _ _),Aa (Ext.refl w)⟩
 case round =>
  obtain⟨at_,c,A,D,rfl,rfl,v0,hD,O,hb,hE⟩:=hrel;by_cases h:at_<n
  ·have d:=I3 (s:=l) (at_:=at_) (by rw[<-J.out];exact h);obtain⟨r,G⟩:=Ab ((decR (l.drop at_)).1);obtain⟨k,hk⟩:=Ab ((decR (l.drop at_)).2);rw[<-G,<-hk,<-J.out]at d;have Z:=Aa d.1;have m0:=d.2.1;have t0:=d.2.2;clear d;have hd:=Aa (fun W=>Y.out at_ W h);rw[<-G,<-hk]at hd;replace G:=Aa G;replace hk:=Aa hk;go_wp2_with fail;refine(hd.out _).mono ?_;rintro e w2 ⟨rfl,U⟩;have q0:=Aa (hb.out.ext U);have H:=hE.out.trans U;have k0:=H.size;replace H:=Aa H;go_wp2_with (at_builtin;refine Au FY q0.out (.tmp 17) (.tmp 19) rfl rfl rfl rfl (Az rfl) (by simp;omega) k0 (fun A3 c3 w4 p0 h0=>?_));go_roundw
   case rel=>exact⟨at_+k,c3,A3,D ++ [r],by simp,by simp,by omega,by simp;omega,Aa (by rw[O.out,Z.out];simp),Aa (by simpa [NV]using p0),Aa (h0 w H.out (Nat.le_refl _))⟩
   case measure=>simp[intOf];omega
  ·obtain rfl:at_=n:=by omega
   have I:D=runesL l:=by
    rw[O.out,List.drop_eq_nil_of_le (by rw[<-J.out];exact Nat.le_refl _),Hm,List.append_nil]
   subst I;go_wp2_with fail;go_ret;exact⟨A,c,rfl,hb.out,hE.out⟩
theorem Rk (x:Nat) (h:x<4611686018427387904):bits .and .i64 (x:Int) 63=((x%64:Nat):Int):=by
 have h1:(BitVec.ofInt 64 (x:Int)).toNat=x:=by
  rw[BitVec.ofInt_natCast,BitVec.toNat_ofNat];exact Nat.mod_eq_of_lt (by omega)
 have h2:(BitVec.ofInt 64 63).toNat=63:=by decide
 show IntKind.i64.wrap ((BitVec.ofInt 64 (x:Int) &&& BitVec.ofInt 64 63).toNat:Int)=_;rw[BitVec.toNat_and,h1,h2,show x &&& 63=x%64 from Nat.and_two_pow_sub_one_eq_mod x 6,IntKind.wrap_i64];omega
theorem Sh (y:Nat) (d:y<64):bits .or .u8 128 ((y:Int)%256)=((128+y:Nat):Int):=by
 have h:∀k:Fin 64,bits .or .u8 128 (((k.val:Nat):Int)%256)=((128+k.val:Nat):Int):=by decide +kernel
 exact h ⟨y,d⟩
theorem FS (x:Nat) (h:x<4611686018427387904):bits .or .u8 128 (bits .and .i64 (x:Int) 63%256)=((128+x%64:Nat):Int):=by
 rw[Rk x h,Sh _ (Nat.mod_lt _ (by omega))]
theorem Bi (h:k<256):B8 (u8 k) = .int .u8 (k:Int):=by
 unfold B8 u8;rw[UInt8.toNat_ofNat',Nat.mod_eq_of_lt h]
def PutB (w:World) (base:Nat) (l:List UInt8) (e:Ending) (w':World):Prop:=∃A c,e = .returned (.slice A l.length c)/\Buf w' base 5 A l.length c (l.map B8)/\(∀w00,Ext w00 w->w00.heap.size<=base->Ext w00 w')
theorem BO (h:n=L.length) (H:us=l.map B8) (hb:Buf w' base 5 A (n+us.length) c (L.map B8++us)) (d:∀w00,Ext w00 w->w00.heap.size<=base->Ext w00 w'):PutB w base (L++l) (.returned (.slice A (n+us.length) c)) w':=by
 subst H;rw[<-List.map_append,List.length_map,h,<-List.length_append]at hb;exact⟨A,c,by rw[List.length_map,h,List.length_append],hb,d⟩
theorem PM (L:List UInt8) (A:Option Addr) (c base r:Nat) (w:World) (hb:Buf w base 5 A L.length c (L.map B8)) (hL:L.length<=4000000000) (I:base<=w.heap.size) (h:badR r=false) (h1:r<128) :
 Calls prog 255 #[.slice A L.length c,.int .i64 (r:Int)] w (PutB w base (L++encR r)):=by
 have H:=Aa (fun W=>C3 (r:Int) W);obtain⟨n,U⟩:=Ab L.length;rw[<-U]at hb hL ⊢;have hv:(decide (55296<=(r:Int))&&decide ((r:Int)<=57343))=false:=by
  unfold badR at h;simp only[Bool.or_eq_false_iff,Bool.and_eq_false_iff,decide_eq_false_iff_not]at h ⊢;omega
 have Y:r<=1114111:=by
  unfold badR at h;simp only[Bool.or_eq_false_iff,decide_eq_false_iff_not]at h;omega
 rw[hv]at H;have d:encR r = [u8 r]:=by unfold encR encO;rw[h,if_neg (by simp),if_pos h1]
 rw[d];obtain⟨z,O⟩:=Ab ((r:Int):Int);rw[<-O]at H ⊢;have g0:0<=z:=by omega
 have gh:z<=1114111:=by omega
 have g1:z<128:=by omega
 replace h1:=Aa h1;replace Y:=Aa Y;replace O:=Aa O;obtain⟨l,J⟩:=Ab ([u8 r]);rw[<-J];replace J:=Aa J;replace U:=Aa U;replace hb:=Aa hb;replace d:=Aa d;replace h:=Aa h;replace hv:=Aa hv
 go_in
 go_wp2_with fail;refine(H.out _).mono ?_;rintro e w2 ⟨rfl,rfl⟩;go_wp2_with (at_builtin;refine Au Aw hb.out (.tmp 39) (.tmp 42) rfl rfl rfl rfl (Az rfl) (by simp;omega) I (fun A3 c3 w4 G Z=>?_));go_ret;exact BO U.out (by rw[J.out,O.out];simp only[List.map_cons,List.map_nil,Bi (show r<256 by have:=h1.out;omega),Int.natCast_add,Int.natCast_ediv];try rfl) G Z
theorem PN (L:List UInt8) (A:Option Addr) (c base r:Nat) (w:World) (hb:Buf w base 5 A L.length c (L.map B8)) (hL:L.length<=4000000000) (q0:base<=w.heap.size) (h:badR r=false) (h1:¬ r<128) (h2:r<2048) :
 Calls prog 255 #[.slice A L.length c,.int .i64 (r:Int)] w (PutB w base (L++encR r)):=by
 have Y:=Aa (fun W=>C3 (r:Int) W);obtain⟨n,Z⟩:=Ab L.length;rw[<-Z]at hb hL ⊢;have hv:(decide (55296<=(r:Int))&&decide ((r:Int)<=57343))=false:=by
  unfold badR at h;simp only[Bool.or_eq_false_iff,Bool.and_eq_false_iff,decide_eq_false_iff_not]at h ⊢;omega
 have J:r<=1114111:=by
  unfold badR at h;simp only[Bool.or_eq_false_iff,decide_eq_false_iff_not]at h;omega
 rw[hv]at Y;have d:encR r = [u8 (192+r / 64),u8 (128+r%64)]:=by unfold encR encO;rw[h,if_neg (by simp),if_neg h1,if_pos h2]
 rw[d];have U:=FS (r) (by omega);obtain⟨y0,H⟩:∃y,y=128+r%64:=⟨_,rfl⟩
 rw[<-H]at U ⊢;replace H:=Aa H;obtain⟨z,G⟩:=Ab ((r:Int):Int);rw[<-G]at Y U ⊢;have g0:0<=z:=by omega
 have gh:z<=1114111:=by omega
 have g1:¬ z<128:=by omega
 have g2:z<2048:=by omega
 replace h1:=Aa h1;replace h2:=Aa h2;replace J:=Aa J;replace G:=Aa G;obtain⟨l,O⟩:=Ab ([u8 (192+r / 64),u8 (y0)]);rw[<-O];replace O:=Aa O;replace Z:=Aa Z;replace hb:=Aa hb;replace d:=Aa d;replace h:=Aa h;replace hv:=Aa hv
 go_in
 go_wp2_with fail;refine(Y.out _).mono ?_;rintro e w2 ⟨rfl,rfl⟩;go_wp2_with (at_builtin;refine Au Aw hb.out (.tmp 47) (.tmp 56) rfl rfl rfl rfl (Az rfl) (by simp;omega) q0 (fun A3 c3 w4 h0 I=>?_));go_ret;exact BO Z.out (by rw[O.out,G.out];simp only[List.map_cons,List.map_nil,Bi (show 192+r / 64<256 by have:=h2.out;omega),Bi (show y0<256 by have:=H.out;omega),Int.natCast_add,Int.natCast_ediv];try rfl) h0 I
theorem PO (L:List UInt8) (A:Option Addr) (c base r:Nat) (w:World) (hb:Buf w base 5 A L.length c (L.map B8)) (hL:L.length<=4000000000) (j0:base<=w.heap.size) (h:badR r=false) (h1:¬ r<128) (h2:¬ r<2048) (G:r<65536) :
 Calls prog 255 #[.slice A L.length c,.int .i64 (r:Int)] w (PutB w base (L++encR r)):=by
 have J:=Aa (fun W=>C3 (r:Int) W);obtain⟨n,hn⟩:=Ab L.length;rw[<-hn]at hb hL ⊢;have hv:(decide (55296<=(r:Int))&&decide ((r:Int)<=57343))=false:=by
  unfold badR at h;simp only[Bool.or_eq_false_iff,Bool.and_eq_false_iff,decide_eq_false_iff_not]at h ⊢;omega
 have O:r<=1114111:=by
  unfold badR at h;simp only[Bool.or_eq_false_iff,decide_eq_false_iff_not]at h;omega
 rw[hv]at J;have d:encR r = [u8 (224+r / 4096),u8 (128+r / 64%64),u8 (128+r%64)]:=by unfold encR encO;rw[h,if_neg (by simp),if_neg h1,if_neg h2,if_pos G]
 rw[d];have Z:=FS (r) (by omega);obtain⟨y0,H⟩:∃y,y=128+r%64:=⟨_,rfl⟩
 rw[<-H]at Z ⊢;replace H:=Aa H;have U:=FS (r / 64) (by omega);obtain⟨y1,Y⟩:∃y,y=128+r / 64%64:=⟨_,rfl⟩
 rw[<-Y]at U ⊢;rw[show ((r / 64:Nat):Int)=(r:Int) / 64 by omega]at U;replace Y:=Aa Y;obtain⟨z,hz⟩:=Ab ((r:Int):Int);rw[<-hz]at J Z U ⊢;have g0:0<=z:=by omega
 have gh:z<=1114111:=by omega
 have g1:¬ z<128:=by omega
 have g2:¬ z<2048:=by omega
 have g3:z<65536:=by omega
 replace h1:=Aa h1;replace h2:=Aa h2;replace G:=Aa G;replace O:=Aa O;replace hz:=Aa hz;obtain⟨l,I⟩:=Ab ([u8 (224+r / 4096),u8 (y1),u8 (y0)]);rw[<-I];replace I:=Aa I;replace hn:=Aa hn;replace hb:=Aa hb;replace d:=Aa d;replace h:=Aa h;replace hv:=Aa hv
 go_in
 go_wp2_with fail;refine(J.out _).mono ?_;rintro e w2 ⟨rfl,rfl⟩;go_wp2_with (at_builtin;refine Au Aw hb.out (.tmp 61) (.tmp 75) rfl rfl rfl rfl (Az rfl) (by simp;omega) j0 (fun A3 c3 w4 k0 p0=>?_));go_ret;exact BO hn.out (by rw[I.out,hz.out];simp only[List.map_cons,List.map_nil,Bi (show 224+r / 4096<256 by have:=G.out;omega),Bi (show y0<256 by have:=H.out;omega),Bi (show y1<256 by have:=Y.out;omega),Int.natCast_add,Int.natCast_ediv];try rfl) k0 p0
theorem PP (L:List UInt8) (A:Option Addr) (c base r:Nat) (w:World) (hb:Buf w base 5 A L.length c (L.map B8)) (hL:L.length<=4000000000) (t0:base<=w.heap.size) (h:badR r=false) (h1:¬ r<128) (h2:¬ r<2048) (h3:¬ r<65536) :
 Calls prog 255 #[.slice A L.length c,.int .i64 (r:Int)] w (PutB w base (L++encR r)):=by
 have U:=Aa (fun W=>C3 (r:Int) W);obtain⟨n,hn⟩:=Ab L.length;rw[<-hn]at hb hL ⊢;have hv:(decide (55296<=(r:Int))&&decide ((r:Int)<=57343))=false:=by
  unfold badR at h;simp only[Bool.or_eq_false_iff,Bool.and_eq_false_iff,decide_eq_false_iff_not]at h ⊢;omega
 have O:r<=1114111:=by
  unfold badR at h;simp only[Bool.or_eq_false_iff,decide_eq_false_iff_not]at h;omega
 rw[hv]at U;have d:encR r = [u8 (240+r / 262144),u8 (128+r / 4096%64),u8 (128+r / 64%64),u8 (128+r%64)]:=by unfold encR encO;rw[h,if_neg (by simp),if_neg h1,if_neg h2,if_neg h3]
 rw[d];have I:=FS (r) (by omega);obtain⟨y0,H⟩:∃y,y=128+r%64:=⟨_,rfl⟩
 rw[<-H]at I ⊢;replace H:=Aa H;have Z:=FS (r / 64) (by omega);obtain⟨y1,Y⟩:∃y,y=128+r / 64%64:=⟨_,rfl⟩
 rw[<-Y]at Z ⊢;rw[show ((r / 64:Nat):Int)=(r:Int) / 64 by omega]at Z;replace Y:=Aa Y;have G:=FS (r / 4096) (by omega);obtain⟨y2,J⟩:∃y,y=128+r / 4096%64:=⟨_,rfl⟩
 rw[<-J]at G ⊢;rw[show ((r / 4096:Nat):Int)=(r:Int) / 4096 by omega]at G;replace J:=Aa J;obtain⟨z,hz⟩:=Ab ((r:Int):Int);rw[<-hz]at U I Z G ⊢;have g0:0<=z:=by omega
 have gh:z<=1114111:=by omega
 have g1:¬ z<128:=by omega
 have g2:¬ z<2048:=by omega
 have g3:¬ z<65536:=by omega
 replace h1:=Aa h1;replace h2:=Aa h2;replace h3:=Aa h3;replace O:=Aa O;replace hz:=Aa hz;obtain⟨l,hl⟩:=Ab ([u8 (240+r / 262144),u8 (y2),u8 (y1),u8 (y0)]);rw[<-hl];replace hl:=Aa hl;replace hn:=Aa hn;replace hb:=Aa hb;replace d:=Aa d;replace h:=Aa h;replace hv:=Aa hv
 go_in
 go_wp2_with fail;refine(U.out _).mono ?_;rintro e w2 ⟨rfl,rfl⟩;go_wp2_with (at_builtin;refine Au Aw hb.out (.tmp 15) (.tmp 34) rfl rfl rfl rfl (Az rfl) (by simp;omega) t0 (fun A3 c3 w4 m0 j0=>?_));go_ret;exact BO hn.out (by rw[hl.out,hz.out];simp only[List.map_cons,List.map_nil,Bi (show 240+r / 262144<256 by have:=O.out;omega),Bi (show y0<256 by have:=H.out;omega),Bi (show y1<256 by have:=Y.out;omega),Bi (show y2<256 by have:=J.out;omega),Int.natCast_add,Int.natCast_ediv];try rfl) m0 j0
theorem PL (L:List UInt8) (A:Option Addr) (c base r:Nat) (w:World) (hb:Buf w base 5 A L.length c (L.map B8)) (hL:L.length<=4000000000) (Z:base<=w.heap.size) (h:badR r=true) (hr:r<=1200000) :
 Calls prog 255 #[.slice A L.length c,.int .i64 (r:Int)] w (PutB w base (L++encR r)):=by
 have U:=Aa (fun W=>C3 (r:Int) W);obtain⟨n,G⟩:=Ab L.length;rw[<-G]at hb hL ⊢;have d:encR r = [u8 239,u8 191,u8 189]:=by unfold encR;rw[h,if_pos rfl];rfl
 rw[d];have O:1114111<r\/(55296<=r/\r<=57343):=by
  unfold badR at h;simpa using h
 obtain⟨z,I⟩:=Ab ((r:Int):Int);rw[<-I]at U ⊢;have g0:0<=z:=by omega
 obtain⟨l,hl⟩:=Ab ([u8 239,u8 191,u8 189]);rw[<-hl];have H : [Value.int .u8 239,.int .u8 191,.int .u8 189]=l.map B8:=by rw[hl];rfl
 replace H:=Aa H;replace hl:=Aa hl;replace G:=Aa G;replace hb:=Aa hb;replace d:=Aa d;replace h:=Aa h;rcases O with O | O
 ·have g1:¬ z<=1114111:=by omega
  replace O:=Aa O;replace I:=Aa I;replace hr:=Aa hr
  go_in
  go_wp2_with (at_builtin;refine Au Aw hb.out (.tmp 61) (.tmp 75) rfl rfl rfl rfl (Az rfl) (by simp;omega) Z (fun A3 c3 w4 J Y=>?_));go_ret;exact BO G.out H.out J Y
 ·have g1:z<=1114111:=by omega
  have hv:(decide (55296<=z)&&decide (z<=57343))=true:=by simp;omega
  rw[hv]at U;replace hv:=Aa hv;replace O:=Aa O;replace I:=Aa I;replace hr:=Aa hr
  go_in
  go_wp2_with fail;refine(U.out _).mono ?_;rintro e w2 ⟨rfl,rfl⟩;go_wp2_with (at_builtin;refine Au Aw hb.out (.tmp 61) (.tmp 75) rfl rfl rfl rfl (Az rfl) (by simp;omega) Z (fun A3 c3 w4 J Y=>?_));go_ret;exact BO G.out H.out J Y
theorem Qh (L:List UInt8) (A:Option Addr) (c base r:Nat) (w:World) (hb:Buf w base 5 A L.length c (L.map B8)) (H:L.length<=4000000000) (d:base<=w.heap.size) (J:r<=1200000) :
 Calls prog 255 #[.slice A L.length c,.int .i64 (r:Int)] w (PutB w base (L++encR r)):=by
 cases h:badR r with
 | true=>exact PL L A c base r w hb H d h J
 | false =>
  by_cases h1:r<128
  ·exact PM L A c base r w hb H d h h1
  ·by_cases h2:r<2048
   ·exact PN L A c base r w hb H d h h1 h2
   ·by_cases Y:r<65536
    ·exact PO L A c base r w hb H d h h1 h2 Y
    ·exact PP L A c base r w hb H d h h1 h2 Y
def encL (rs:List Nat):List UInt8:=rs.flatMap encR
theorem D8 (rs:List Nat) (r:Nat):encL (rs ++ [r])=encL rs++encR r:=by
 unfold encL;rw[List.flatMap_append];simp
theorem Lz (rs:List Nat) (A:Option Addr) (n c:Nat) (w:World) (hn:n=rs.length) (hc:Cells w A (rs.map NV)) (hr:∀r∈rs,r<=1200000) (b0:n<=500000000) :
 Calls prog 205 #[.slice A n c] w fun e w'=>e = .returned (.string ⟨(encL rs).toArray⟩)/\Ext w w':=by
 have p0:=Aa (fun L A c base r W hb hL g0 hr=>Qh L A c base r W hb hL g0 hr);replace hr:=Aa hr;replace hc:=Aa hc;replace hn:=Aa hn
 go_in
 go_wp2_with fail
 go_loopw [3,8] (fun s3 s8 wr=>∃(i n1 c1:Nat) (A1:Option Addr),s3 = .slice A1 n1 c1/\s8 = .int .i64 (i:Int)/\i<=n/\Hid (n1=(encL (rs.take i)).length/\n1<=4*i)/\Hid (Buf wr w.heap.size 5 A1 n1 c1 ((encL (rs.take i)).map B8))/\Hid (Ext w wr)) (fun _ s8 _=>n - (intOf s8).toNat)
 case atStart=>exact⟨0,0,0,none,rfl,rfl,by omega,Aa ⟨rfl,by omega⟩,Aa (Buf.nil _ _ _),Aa (Ext.refl w)⟩
 case round =>
  obtain⟨i,n1,c1,A1,rfl,rfl,hi,d,hb,hE⟩:=hrel;by_cases h:i<n
  ·obtain⟨r,H⟩:∃r,rs[i]? = some r:=⟨_,List.getElem?_eq_getElem (by rw[<-hn.out];exact h)⟩
   obtain⟨g,o,hA,O⟩:=hc.out.at_ (by rw[List.length_map,<-hn.out];omega);subst hA;have t0:=hE.out.cell (O i (NV r) (by rw[List.getElem?_map,H];rfl));unfold NV at t0;have I:=hr.out r (List.mem_of_getElem? H);have hp:=p0.out (encL (rs.take i)) A1 c1 w.heap.size r wr (by rw[<-d.out.1];exact hb.out) (by have:=d.out;omega) hE.out.size I;rw[<-d.out.1]at hp;have Y:rs.take (i+1)=rs.take i ++ [r]:=by rw[List.take_add_one,H];rfl
   rw[<-D8,<-Y]at hp;have G:=(ES r).2;replace hp:=Aa hp;replace O:=Aa O;replace H:=Aa H;replace Y:=Aa Y;replace I:=Aa I;replace G:=Aa G;go_wp2_with fail;refine hp.out.mono ?_;rintro e w2 ⟨A2,c2,rfl,U,J⟩;have Z:(encL (rs.take (i+1))).length<=4*(i+1):=by
    rw[Y.out,D8,List.length_append];have:=d.out;have:=G.out;omega
   replace U:=Aa U;replace J:=Aa (J w hE.out (Nat.le_refl _));replace Z:=Aa Z;go_wp2_with fail;exact⟨⟨i+1,_,c2,A2,rfl,rfl,by omega,Aa ⟨rfl,Z.out⟩,U,J⟩,by simp only[intOf];omega⟩
  ·obtain rfl:i=n:=by omega
   have hT:rs.take i=rs:=List.take_of_length_le (by rw[hn.out];exact Nat.le_refl _);rw[hT]at hb d;have c0:=CT (Buf.cells hb.out) n1 c1 d.out.1;replace d:=Aa d.out.1;go_wp2_with fail;go_ret;exact⟨rfl,hE.out⟩
end
end Go.Proofs.YtpnlihgcboepeaaGreat
namespace Go.Proofs
open Go.Shelf
def Tryz.bren166:Go.Shelf.Ren:=⟨fun | 166=>208 | 240=>256 | 276=>289 | n=>n,fun | 0=>0 | 3=>3 | 4=>4 | 9=>9 | 20=>20 | 37=>25 | 70=>313 | 72=>315 | 75=>318 | 80=>287 | 164=>373 | n=>n,fun | n=>n⟩
theorem Tryz.blays166:Go.Proofs.Lays.n166 prog Tryz.bren166:= {
 mixed:=by kernel_rfl
 f166:=func208.trans (congrArg some (by kernel_rfl))
 f240:=func256.trans (congrArg some (by kernel_rfl))
 f276:=func289.trans (congrArg some (by kernel_rfl))
 t0:=underlying0
 a0:=isAgg0
 z0:=sizeOf0
 v0:=Tryz.zeroValue0
 t3:=underlying3
 a3:=isAgg3
 z3:=sizeOf3
 v3:=Tryz.zeroValue3
 t4:=underlying4
 a4:=isAgg4
 z4:=sizeOf4
 v4:=Tryz.zeroValue4
 t9:=underlying9
 a9:=isAgg9
 z9:=sizeOf9
 v9:=Tryz.zeroValue9
 t20:=underlying20
 a20:=isAgg20
 z20:=sizeOf20
 v20:=Tryz.zeroValue20
 t37:=underlying25
 a37:=isAgg25
 z37:=sizeOf25
 v37:=Tryz.zeroValue25
 t70:=underlying313
 a70:=isAgg313
 z70:=sizeOf313
 v70:=Tryz.zeroValue313
 t72:=underlying315
 a72:=isAgg315
 z72:=sizeOf315
 v72:=Tryz.zeroValue315
 t75:=underlying318
 a75:=isAgg318
 z75:=sizeOf318
 v75:=Tryz.zeroValue318
 t164:=underlying373
 a164:=isAgg373
 z164:=sizeOf373
 v164:=Tryz.zeroValue373 }
theorem Tryz.bE166:Builder.Extra prog Tryz.bren166:= {
 sizeBuilder:=by kernel_rfl
 liesBuilder:=by kernel_rfl
 t5:=underlying5
 a5:=isAgg5
 z5:=sizeOf5
 v5:=Tryz.zeroValue5
 infoByte:=by kernel_rfl
 cellsByte:=by kernel_rfl
 sizeByte:=by kernel_rfl
 neB5:=by decide }
open Go.RowKit in
theorem Tryz.Builder_WriteString (B b:Nat) (bs:List Value) (s:ByteArray) (w:World) (h:Lib.IsBuilder 315 5 B b bs w) (hlen:bs.length+s.size<=140737488355328) (d:B<=w.heap.size) :
    Calls prog 208 #[.pointer (some ⟨b,0,none⟩),.string s] w fun e w'=>e = .returned (.tuple #[.int .i64 s.size,.nilIface])/\(Lib.BuilderAt 315 5 B b (.pointer (some ⟨b,0,none⟩)) (bs++Lib.strCells s) w'/\Below B w w'):=Any.Builder_WriteString Tryz.blays166 Tryz.bE166 B b bs s w h hlen d
end Go.Proofs
namespace Go.Proofs.YtpnlihgcboepeaaGreat
open _root_.Go.Proofs.Tryz
variable {a:Act} {ops:Array Oper} {Q:Exit → Act → World → Prop} {rs:List Nat} {L l r s:List UInt8} {us xs:List Value} {b base c fuel g i j k n:Nat} {o:Oper} {A:Option Addr} {P:Program} {T e t:TypeId} {v:Value} {w w' w0 w1:World}
section
open Go.RowKit
theorem K1 (l:List UInt8):Lib.strCells ⟨l.toArray⟩=l.map B8:=rfl
def Bd (w:World) (b:Nat) (l:List UInt8):Prop:=Lib.IsBuilder 315 5 b b (l.map B8) w
theorem Bd.ext (h:Bd w b l) (H:Ext w w1):Bd w1 b l:=by
 rcases h with ⟨h1,v,h2,d⟩ | ⟨h1,v,h2,d⟩
 ·exact .inl ⟨h1,v,H.block h2,H.owns d.1,d.2⟩
 ·exact .inr ⟨h1,v,H.block h2,H.owns d.1,d.2⟩
theorem Bd.fresh (w:World):Bd (w.alloc (.cells #[.pointer none,.slice none 0 0] 315)) w.heap.size []:=Lib.fresh_isBuilder _ _ w
theorem Bd.lt (h:Bd w b l):b<w.heap.size:=by
 rcases h with ⟨h1,v,h2,d⟩ | ⟨h1,v,h2,d⟩
 ·exact(Array.getElem?_eq_some_iff.1 h2).1
 ·exact(Array.getElem?_eq_some_iff.1 h2).1
theorem Lj (b:Nat) (l s:List UInt8) (w:World) (h:Bd w b l) (hlen:l.length+s.length<=100000000):Calls prog 208 #[.pointer (some ⟨b,0,none⟩),.string ⟨s.toArray⟩] w fun e w'=>e = .returned (.tuple #[.int .i64 s.length,.nilIface])/\Bd w' b (l++s)/\Below b w w':=by
 have d:(⟨s.toArray⟩:ByteArray).size=s.length:=ByteArray.size_mk_toArray s;refine(Tryz.Builder_WriteString b b (l.map B8) ⟨s.toArray⟩ w h (by rw[d,List.length_map];omega) (Nat.le_of_lt h.lt)).mono fun e w' ⟨Y,hb,H⟩=>⟨by rw[Y,d],.inr (by rw[K1,<-List.map_append]at hb;exact hb),H⟩
theorem JS (b:Nat) (l:List UInt8) (w:World) (h:Bd w b l):Calls prog 209 #[.pointer (some ⟨b,0,none⟩)] w fun e w'=>e = .returned (.string ⟨l.toArray⟩)/\Below b w w' :=
 Tryz.Builder_String_any b b l w h (Nat.le_of_lt h.lt)
theorem O0 (b:Nat) (l:List UInt8) (w:World) (h:Bd w b l):Calls prog 207 #[.pointer (some ⟨b,0,none⟩)] w fun e w'=>e = .returned (.int .i64 l.length)/\w'=w:=by
 have:=Tryz.Builder_Len b b (l.map B8) w h;rw[List.length_map]at this;exact this
theorem MP {r:Nat} (h:¬ 32<s.length+(encR (lowerR r)).length):cutW s (r::rs)=cutW (s++encR (lowerR r)) rs:=by
 rw[cutW,if_neg h]
theorem JY {r:Nat} (h:32<s.length+(encR (lowerR r)).length):cutW s (r::rs)=s:=by
 rw[cutW,if_pos h]
theorem J5 (r:Nat):encL [r]=encR r:=by
 unfold encL;simp
theorem Ql (rs:List Nat) (A:Option Addr) (n c:Nat) (w:World) (hn:n=rs.length) (hc:Cells w A (rs.map NV)) (hr:∀r∈rs,r<=1114111) (m2:n<=1073741824) :
 Calls prog 153 #[.slice A n c] w fun e w'=>e = .returned (.string ⟨(cutW [] rs).toArray⟩)/\Ext w w':=by
 obtain⟨b,hb⟩:=Ab w.heap.size;obtain⟨W,hW⟩:=Ab (w.alloc (.cells #[.pointer none,.slice none 0 0] 315));have m0:Ext w W:=by rw[hW];exact(Ext.refl w).alloc _
 have k0:Bd W b []:=by rw[hW,hb];exact Bd.fresh w
 have o0:=Aa (fun r W h=>NZ r W h);have n0:=Aa (fun r A n c W h1 h2 h3 h4=>Lz [r] A n c W h1 h2 h3 h4);have hlen:=Aa (fun s W h=>O0 b s W h);have i1:=Aa (fun s t W h hl=>Lj b s t W h hl);have p0:=Aa (fun s W h=>JS b s W h);obtain⟨Z,hZ⟩:=Ab (cutW [] rs);rw[<-hZ];replace hr:=Aa hr;replace hc:=Aa hc;replace hn:=Aa hn;replace hZ:=Aa hZ;replace m0:=Aa m0;replace k0:=Aa k0;replace hW:=Aa hW;replace hb:=Aa hb
 go_in
 go_wp2_with fail;rw[<-hW.out,<-hb.out]
 go_loopw [9] (fun s9 wr=>∃(i:Nat) (s:List UInt8),s9 = .int .i64 (i:Int)/\i<=n/\Hid (Z=cutW s (rs.drop i))/\Hid (s.length<=32)/\Hid (Bd wr b s)/\Hid (Ext w wr)) (fun s9 _=>n - (intOf s9).toNat)
 case atStart=>exact⟨0,[],rfl,by omega,Aa (by rw[hZ.out];rfl),Aa (by simp),k0,m0⟩
 case round =>
  obtain⟨i,s,rfl,hi,i0,q0,hB,hE⟩:=hrel;by_cases h:i<n
  ·obtain⟨r,J⟩:∃r,rs[i]? = some r:=⟨_,List.getElem?_eq_getElem (by rw[<-hn.out];exact h)⟩
   obtain⟨g,o,hA,v0⟩:=hc.out.at_ (by rw[List.length_map,<-hn.out];omega);subst hA;have a1:=hE.out.cell (v0 i (NV r) (by rw[List.getElem?_map,J];rfl));unfold NV at a1;have I:=hr.out r (List.mem_of_getElem? J);have x0:rs.drop i=r::rs.drop (i+1):=by
    rw[List.drop_eq_getElem_cons (List.getElem?_eq_some_iff.1 J).1];congr 1;exact(List.getElem?_eq_some_iff.1 J).2
   have r0:=Aa (fun W=>o0.out r W I);have c0:=IJ I;obtain⟨t,ht⟩:=Ab (encR (lowerR r));have f1:t.length<=4:=by rw[ht];exact(ES _).2
   have y0:=Aa (fun hh=>MP (s:=s) (r:=r) (rs:=rs.drop (i+1)) hh);have G:=Aa (fun hh=>JY (s:=s) (r:=r) (rs:=rs.drop (i+1)) hh);rw[<-ht,<-x0,<-i0.out]at y0 G;obtain⟨y,hy⟩:=Ab (lowerR r);rw[<-hy]at ht r0 c0;have l0:=Aa (fun A W hh=>n0.out y A 1 1 W rfl hh (by simp;omega) (by omega));rw[J5,<-ht]at l0;obtain⟨tn,Y⟩:=Ab t.length;have o1:(⟨t.toArray⟩:ByteArray).size=tn:=by rw[Y];exact ByteArray.size_mk_toArray t
   obtain⟨sn,H⟩:=Ab s.length;rw[<-H,<-Y]at y0 G;rw[<-Y]at f1;rw[<-H]at q0;have e1:=q0.out;have h0:=Aa (fun W hh=>hlen.out s W hh);rw[<-H]at h0;replace v0:=Aa v0;replace J:=Aa J;replace I:=Aa I;replace x0:=Aa x0;replace hy:=Aa hy;replace ht:=Aa ht;replace Y:=Aa Y;replace H:=Aa H;replace c0:=Aa c0;go_wp2_with fail;refine(r0.out _).mono ?_;rintro e w2 ⟨rfl,g0⟩;go_wp2_with fail;refine(l0.out _ _ (.inr ⟨w2.heap.size,0,rfl,fun j u hu=>?_⟩)).mono ?_
   ·rw[Nat.zero_add,cell_of_row _ _ _ _ _ _ (heap_alloc_new w2 _)];simpa [NV]using hu
   rintro e w3 ⟨rfl,x1⟩;have U:=Aa ((g0.alloc (.cells #[Value.int .i64 (y:Int)] 3)).trans x1);have j0:=Aa (hB.out.ext U.out);go_wp2_with fail;refine(h0.out _ j0.out).mono ?_;rintro e w4 ⟨rfl,rfl⟩;by_cases d0:32<sn+tn
   ·have d:=Aa (G.out d0);have e0:(32:Int)<(sn:Int)+(tn:Int):=by omega
    go_wp2_with fail;refine(p0.out s _ j0.out).mono ?_;rintro e w5 ⟨rfl,O⟩;go_wp2_with fail;go_ret;refine⟨by rw[d.out];rfl,?_⟩;have t0:=hb.out;rw[t0]at O;exact Below.trans (hE.out.trans U.out) O
   ·have d:=Aa (y0.out d0);have e0:¬ (32:Int)<(sn:Int)+(tn:Int):=by omega
    go_wp2_with fail;refine(i1.out s t _ j0.out (by rw[<-H.out,<-Y.out];omega)).mono ?_;rintro e w5 ⟨rfl,m1,O⟩;go_wp2_with fail;refine⟨⟨i+1,s++t,rfl,by omega,d,Aa (by rw[List.length_append,<-H.out,<-Y.out];omega),Aa m1,Aa ?_⟩,by simp only[intOf];omega⟩;have t0:=hb.out;rw[t0]at O;exact Below.trans (hE.out.trans U.out) O
  ·obtain rfl:i=n:=by omega
   have d:Z=s:=by rw[i0.out,List.drop_eq_nil_of_le (by rw[<-hn.out];exact Nat.le_refl _),cutW]
   replace d:=Aa d;go_wp2_with fail;refine(p0.out s _ hB.out).mono ?_;rintro e w2 ⟨rfl,g0⟩;go_wp2_with fail;go_ret;exact⟨by rw[d.out];rfl,by have:=hb.out;subst this;exact Below.trans hE.out g0⟩
theorem Ch {rest:List Oper} {t e size bytes m:Nat} (E:Elem P t e size bytes) (H:w0.ownsRow base e size v n xs) (s x:Operand)
 (I:o.op = .call { callee:= .builtin .append,args:=#[s,x],argTypes:=#[t,t] }) (J:o.guard=none)
 (hs:a.eval s=v) (hx:a.eval x = .slice (some ⟨w0.heap.size,0,none⟩) m m) (G:us.length=m*size) (h1:∀u∈us,u.oneCell'=true) (O:n+m<=4294967296) (Y:base<=w0.heap.size)
 (h:∀A1 c1 w',w'.ownsRow base e size (.slice A1 (n+m) c1) (n+m) (xs++us)->w0.grownBy w' v.ownBlock->((Value.slice A1 (n+m) c1).ownBlock=v.ownBlock\/(Value.slice A1 (n+m) c1).ownBlock=some (w0.heap.size+1)) ->
  wpList P ops Q rest (a.put o.dst (.slice A1 (n+m) c1)) w') :
 wpList P ops Q (o::rest) a (w0.alloc (.cells us.toArray T)):=by
 refine AV E (((Ext.refl w0).alloc _).owns H) (A:=some ⟨w0.heap.size,0,none⟩) (news:=us) (.inr ⟨w0.heap.size,0,rfl,fun i u hu=>?_⟩) s x I J hs hx rfl G h1 O (by simp;omega) fun A1 c1 w' h2 d Z=>?_
 ·rw[Nat.zero_add,cell_of_row _ _ _ _ _ _ (heap_alloc_new w0 _)];simpa using hu
 ·refine h A1 c1 w' h2 ⟨d.os,d.tape,d.output,Nat.le_trans (by simp) d.size,fun k hk U=>(d.block k (by simp;omega) U).trans (Below.heap_alloc w0 _ k hk)⟩ ?_;simpa using Z
theorem Dt {cur rs:List Nat} {r:Nat} (h:wordR r=true):runsW cur (r::rs)=runsW (cur ++ [r]) rs:=by
 rw[runsW,if_pos h]
theorem Cz {r:Nat} (h:wordR r=false):runsW [] (r::rs)=runsW [] rs:=by
 rw[runsW,if_neg (by rw[h];simp),if_pos rfl]
theorem C9 {cur rs:List Nat} {r:Nat} (h:wordR r=false) (d:cur ≠ []):runsW cur (r::rs)=cur::runsW [] rs:=by
 rw[runsW,if_neg (by rw[h];simp),if_neg d]
theorem Eh:∀(L cur:List Nat),runsW cur (L ++ [32])=runsW cur L
 | [],cur=>by
  have h:wordR 32=false:=by decide
  rw[List.nil_append];by_cases d:cur = []
  ·subst d;rw[Cz h]
  ·rw[C9 h d,runsW,if_pos rfl,runsW,if_neg d]
 | r::L,cur=>by
  rw[List.cons_append];cases h:wordR r with
  | true=>rw[Dt h,Dt h,Eh L]
  | false =>
   by_cases d:cur = []
   ·subst d;rw[Cz h,Cz h,Eh L]
   ·rw[C9 h d,C9 h d,Eh L]
def tkV (l:List (List UInt8)):List Value:=l.zipIdx.flatMap fun p=> [.string ⟨p.1.toArray⟩,.int .i64 (p.2:Int)]
theorem HJ (l:List (List UInt8)) (x:List UInt8):tkV (l ++ [x])=tkV l ++ [.string ⟨x.toArray⟩,.int .i64 (l.length:Int)]:=by
 unfold tkV;rw[List.zipIdx_append,List.flatMap_append];simp
theorem Fy (h:Cells w (some ⟨g,0,none⟩) xs) (f i:Nat):Cells w (some ⟨g,f,none⟩) ((xs.take i).drop f):=by
 rcases h with h | ⟨g',o,H,Y⟩
 ·subst h;exact .inl (by simp)
 ·cases H;refine .inr ⟨g,f,rfl,fun j v d=>?_⟩;rw[List.getElem?_drop,List.getElem?_take]at d;split at d
  ·have:=Y _ v d
   rwa [Nat.zero_add]at this
  ·cases d
theorem Jb {R:List Nat} {st i r:Nat} (hi:R[i]? = some r) (hs:st<=i):(R.take (i+1)).drop st=(R.take i).drop st ++ [r]:=by
 have h1:R.take (i+1)=R.take i ++ [r]:=by rw[List.take_add_one,hi];rfl
 have h:=(List.getElem?_eq_some_iff.1 hi).1;rw[h1,List.drop_append_of_le_length (by rw[List.length_take];omega)]
theorem Db (R:List Nat) (i:Nat):(R.take i).drop i = []:=List.drop_eq_nil_of_le (by rw[List.length_take];omega)
theorem FT {R:List Nat} {st i:Nat} (h:st<i) (hi:i<=R.length):(R.take i).drop st ≠ []:=by
 intro d;have:=congrArg List.length d;rw[List.length_drop,List.length_take,List.length_nil]at this;omega
theorem Gs {R:List Nat} {i r:Nat} (hi:R[i]? = some r):R.drop i=r::R.drop (i+1):=by
 rw[List.drop_eq_getElem_cons (List.getElem?_eq_some_iff.1 hi).1];congr 1;exact(List.getElem?_eq_some_iff.1 hi).2
theorem Lw:Elem prog 182 185 2 24:=⟨underlying182,⟨_,_,rfl,rfl,rfl,rfl,rfl⟩,by omega,by omega⟩
def NewTk (w:World) (l:List (List UInt8)) (e:Ending) (w':World):Prop:=∃A c,e = .returned (.slice A l.length c)/\w'.ownsRow w.heap.size 185 2 (.slice A l.length c) l.length (tkV l)/\Ext w w'
theorem HL (l:List UInt8) (w:World) (hl:l.length<=1000000000):Calls prog 99 #[.string ⟨l.toArray⟩] w (NewTk w (tokL l)):=by
 have o1:=Aa (fun W=>OA l W (by omega));have l1:=EG l;have c0:=I4 l;have J:tokL l=(runsW [] (runesL l)).map (cutW []):=rfl;obtain⟨L,hL⟩:=Ab (runesL l);rw[<-hL]at o1 l1 c0 J;obtain⟨Z,hZ⟩:=Ab (tokL l);rw[<-hZ]at J ⊢;obtain⟨R,hR⟩:=Ab (L ++ [32]);rw[<-Eh,<-hR]at J;have d0:∀r∈R,r<=1114111:=by
  intro r hr;rw[hR]at hr;rcases List.mem_append.1 hr with h | h
  ·exact c0 r h
  ·simp at h;omega
 obtain⟨m,hm⟩:=Ab R.length;have m0:m=L.length+1:=by rw[hm,hR];simp
 have h0:R[m - 1]? = some 32:=by rw[hR,show m - 1=L.length by omega];simp
 have q3:=Aa (fun r W h=>LQ r W h);have p3:=Aa (fun rs A n c W h1 h2 h3 h4=>Ql rs A n c W h1 h2 h3 h4);have b3:m<=1000000001:=by omega
 replace h0:=Aa h0;replace hZ:=Aa hZ;replace hL:=Aa hL;replace J:=Aa J;replace d0:=Aa d0;replace hm:=Aa hm;replace c0:=Aa c0;replace hR:=Aa hR;obtain⟨ln,i0⟩:=Ab L.length;rw[<-i0]at m0 l1;replace i0:=Aa i0
 go_in
 go_wp2_with fail;go_step3;go_wp2_with fail;refine(o1.out _).mono ?_;rintro e w1 ⟨A1,c1,rfl,j0,y0⟩;rw[<-i0.out]at j0 ⊢;have k2:=y0.size;replace j0:=Aa j0;replace y0:=Aa y0;go_wp2_with (at_builtin;refine Au FY j0.out (.tmp 9) (.tmp 10) rfl rfl rfl rfl (Az rfl) (by simp;omega) k2 (fun A2 c2 w2 G f1=>?_));have k0:=f1 w y0.out (Nat.le_refl _);have j1:L.map NV ++ [Value.int .i64 32]=R.map NV:=by rw[hR.out,List.map_append];rfl
 simp only[List.length_cons,List.length_nil,Nat.zero_add]at G ⊢;rw[j1,<-m0]at G;rw[<-m0];have d3:=G.2.1;obtain⟨gR,oR,hA,m1⟩:=G.cells.at_ (by rw[List.length_map,<-hm.out];omega);obtain⟨g2,cur2,m2,_⟩:∃g cur,A2=some ⟨g,0,none⟩/\w2.heap.size≥w2.heap.size/\cur=(0:Nat):=by
  rcases G.2.2 with ⟨h,_⟩ | ⟨g,_,h,_⟩
  ·rw[hA]at h;cases h
  ·exact⟨g,0,h,Nat.le_refl _,rfl⟩
 subst m2;cases hA;have a2:=Aa (Buf.cells G);replace m1:=Aa m1;replace G:=Aa G;replace k0:=Aa k0;replace j1:=Aa j1;replace m0:=Aa m0;clear f1 j0;go_wp2_with fail;go_step3;go_wp2_with fail
 go_loopw [3,5,14] (fun s3 s5 s14 wr=>∃(i st k c3:Nat) (A3:Option Addr) (D:List (List Nat)),s3 = .slice A3 k c3/\s5 = .int .i64 (st:Int)/\s14 = .int .i64 (i:Int)/\i<=m/\st<=i/\k<=i/\Hid (k=D.length)/\Hid (i=m->st=i)/\Hid (runsW [] R=D++runsW ((R.take i).drop st) (R.drop i))/\Hid (wr.ownsRow w2.heap.size 185 2 (.slice A3 k c3) k (tkV (D.map (cutW []))))/\Hid (Ext w2 wr)) (fun _ _ s14 _=>m - (intOf s14).toNat)
 case atStart=>exact⟨0,0,0,0,none,[],rfl,rfl,rfl,by omega,by omega,by omega,Aa rfl,Aa (fun _=>rfl),Aa (by simp),Aa (World.ownsRow_nil _ _ _ _),Aa (Ext.refl w2)⟩
 case round =>
  obtain⟨i,st,k,c3,A3,D,rfl,rfl,rfl,him,o2,z3,hk,l2,o0,I,hE⟩:=hrel;by_cases h:i<m
  ·obtain⟨r,p0⟩:∃r,R[i]? = some r:=⟨_,List.getElem?_eq_getElem (by rw[<-hm.out];exact h)⟩
   have f0:=m1.out i (NV r) (by rw[List.getElem?_map,p0];rfl);rw[Nat.zero_add]at f0;replace f0:=hE.out.cell f0;unfold NV at f0;have q2:=d0.out r (List.mem_of_getElem? p0);have U:=Aa (fun W=>q3.out r W (by omega));have a1:=Gs p0;have Y:=Jb p0 o2;have d1:i+1=m->r=32:=fun he=>by
    have:=h0.out;rw[show m - 1=i by omega,p0]at this;exact Option.some.inj this
   obtain⟨b,hb⟩:=Ab (wordR r);rw[<-hb]at U;have d:=o0.out;rw[a1]at d;replace p0:=Aa p0;replace q2:=Aa q2;replace a1:=Aa a1;replace d1:=Aa d1;cases b with
   | true =>
    rw[Dt hb.symm,<-Y]at d;replace d:=Aa d;replace Y:=Aa Y;replace hb:=Aa hb;go_wp2_with fail;refine(U.out _).mono ?_;rintro e w4 ⟨rfl,O⟩;go_wp2_with fail;refine⟨⟨i+1,st,k,c3,A3,D,rfl,rfl,rfl,by omega,by omega,by omega,hk,Aa (fun he=>?_),d,Aa (O.owns I.out),Aa (hE.out.trans O)⟩,by simp only[intOf];omega⟩;have:=hb.out;rw[d1.out he]at this;exact absurd this (by decide)
   | false =>
    by_cases p2:st<i
    ·rw[C9 hb.symm (FT p2 (by rw[<-hm.out];omega))]at d;have H:runsW [] R=(D ++ [(R.take i).drop st])++runsW ((R.take (i+1)).drop (i+1)) (R.drop (i+1)):=by
      rw[Db,d,List.append_assoc];rfl
     replace H:=Aa H;clear d;replace Y:=Aa Y;replace hb:=Aa hb;have v0:∀x∈(R.take i).drop st,x<=1114111:=fun x hx=>d0.out x (List.mem_of_mem_take (List.mem_of_mem_drop hx));have q0:i - st=((R.take i).drop st).length:=by rw[List.length_drop,List.length_take,<-hm.out];omega
     have y1:=Aa (fun c W (hh:Cells W (some ⟨gR,st,none⟩) (((R.take i).drop st).map NV))=>p3.out ((R.take i).drop st) (some ⟨gR,st,none⟩) (i - st) c W q0 hh v0 (by omega));have g0:=Fy a2.out st i;rw[<-List.map_take,<-List.map_drop]at g0;obtain⟨t,ht⟩:=Ab (cutW [] ((R.take i).drop st));rw[<-ht]at y1;have x0:(D ++ [(R.take i).drop st]).map (cutW [])=D.map (cutW []) ++ [t]:=by rw[List.map_append,ht];rfl
     obtain⟨cu,x1⟩:=Ab ((R.take i).drop st);rw[<-x1]at y1 g0 H x0;replace v0:=Aa v0;replace q0:=Aa q0;replace g0:=Aa g0;replace ht:=Aa ht;replace x0:=Aa x0;replace x1:=Aa x1;go_wp2_with fail;refine(U.out _).mono ?_;rintro e w4 ⟨rfl,O⟩;have l0:=Aa (hE.out.trans O);have n1:=Aa (g0.out.ext l0.out);go_wp2_with fail;refine(y1.out _ _ n1.out).mono ?_;rintro e w5 ⟨rfl,b0⟩;have n0:=Aa (l0.out.trans b0);have t0:=Aa (b0.owns (O.owns I.out));have j2:=n0.out.size;replace b0:=Aa b0;go_wp2_with (at_builtin;refine Ch (m:=1) Lw t0.out (.tmp 24) (.tmp 33) rfl rfl rfl rfl rfl (Az rfl) (by omega) j2 (fun A6 c6 w6 f2 d2 a3=>?_));have i1:=n0.out.grown d2 (fun q hq=>(t0.out.lt q hq).1);refine⟨⟨i+1,i+1,k+1,c6,A6,D ++ [cu],rfl,rfl,rfl,by omega,by omega,by omega,Aa (by rw[List.length_append,<-hk.out];rfl),Aa (fun _=>rfl),H,Aa ?_,Aa i1⟩,by simp only[intOf];omega⟩;rw[x0.out,HJ,List.length_map,<-hk.out];exact f2
    ·obtain rfl:st=i:=by omega
     rw[Db,Cz hb.symm]at d;have H:runsW [] R=D++runsW ((R.take (st+1)).drop (st+1)) (R.drop (st+1)):=by rw[Db];exact d
     clear d;replace H:=Aa H;replace Y:=Aa Y;replace hb:=Aa hb;go_wp2_with fail;refine(U.out _).mono ?_;rintro e w4 ⟨rfl,O⟩;go_wp2_with fail;exact⟨⟨st+1,st+1,k,c3,A3,D,rfl,rfl,rfl,by omega,by omega,by omega,hk,Aa (fun _=>rfl),H,Aa (O.owns I.out),Aa (hE.out.trans O)⟩,by simp only[intOf];omega⟩
  ·obtain rfl:i=m:=by omega
   have i2:=l2.out rfl;subst i2;have q1:runsW [] R=D:=by
    rw[o0.out,Db,List.drop_eq_nil_of_le (by rw[<-hm.out];exact Nat.le_refl _),runsW,if_pos rfl,List.append_nil]
   have e0:Z=D.map (cutW []):=by rw[J.out,q1]
   have e2:k=Z.length:=by rw[e0,List.length_map];exact hk.out
   rw[<-e0]at I;replace q1:=Aa q1;replace e0:=Aa e0;subst e2;go_wp2_with fail;go_ret;exact⟨A3,c3,rfl,World.ownsRow.mono I.out k0.out.size,k0.out.trans hE.out⟩
end
section
open Go.RowKit
section
variable {β:Type}
def valsOf (ps:List (List UInt8×β)) (s:List UInt8):List β:=(ps.filter fun p=>decide (p.1=s)).map Prod.snd
theorem AK (ps qs:List (List UInt8×β)) (s:List UInt8):valsOf (ps++qs) s=valsOf ps s++valsOf qs s:=by unfold valsOf;rw[List.filter_append,List.map_append]
theorem Dz (p:List UInt8×β) (s:List UInt8):valsOf [p] s=if p.1=s then [p.2] else []:=by
 unfold valsOf;rw[List.filter_cons];by_cases h:p.1=s
 ·simp[h]
 ·simp[h]
theorem K7 (p:List UInt8×β) (ps:List (List UInt8×β)) (s:List UInt8):valsOf (p::ps) s=(if p.1=s then [p.2] else [])++valsOf ps s:=by
 rw[<-Dz,<-AK];rfl
def Ris {α:Type} (l:List (List UInt8×α)):Prop:=l.Pairwise fun a b=>a.1<b.1
structure Grp (ps:List (List UInt8×β)) (r:List (List UInt8×List β)):Prop where
  up:Ris r
  mem:∀x,x∈r↔x.2=valsOf ps x.1/\x.2 ≠ []
theorem Ris.nodup {α:Type} {l:List (List UInt8×α)} (h:Ris l):l.Nodup:=by
 refine List.Pairwise.imp ?_ h;intro a b hab e;rw[e]at hab;exact List.lt_irrefl _ hab
theorem Ris.ext {α:Type} {a b:List (List UInt8×α)} (d:Ris a) (hb:Ris b) (h:∀x,x∈a↔x∈b):a=b :=
 List.Perm.eq_of_pairwise (le:=fun(x y:List UInt8×α)=>x.1<y.1) (fun x y _ _ h k=>(List.lt_irrefl _ (List.lt_trans h k)).elim) d hb ((List.perm_ext_iff_of_nodup d.nodup hb.nodup).2 h)
theorem Grp.uniq {ps:List (List UInt8×β)} {r q:List (List UInt8×List β)} (h:Grp ps r) (k:Grp ps q):r=q :=
 h.up.ext k.up fun x=>(h.mem x).trans (k.mem x).symm
theorem Grp.same {ps qs:List (List UInt8×β)} {r:List (List UInt8×List β)} (h:Grp ps r) (k:∀s,valsOf ps s=valsOf qs s):Grp qs r :=
 ⟨h.up,fun x=>by rw[h.mem x,k]⟩
theorem Grp.nil:Grp ([]:List (List UInt8×β)) []:=⟨List.Pairwise.nil,fun x=>by simp[valsOf]⟩
def addG (p:List UInt8×β):List (List UInt8×List β)->List (List UInt8×List β)
 | []=> [(p.1,[p.2])]
 | x::xs=>if x.1<p.1 then x::addG p xs else if x.1=p.1 then (x.1,x.2 ++ [p.2])::xs else (p.1,[p.2])::x::xs
theorem Ig (p:List UInt8×β):∀(l:List (List UInt8×List β)) (y:List UInt8×List β),y∈addG p l->y.1=p.1\/y∈l
 | [],y,h=>by simp only[addG,List.mem_singleton]at h;rw[h];exact .inl rfl
 | x::xs,y,h=>by
  unfold addG at h;split at h
  ·rcases List.mem_cons.1 h with rfl | h
   ·exact .inr (List.mem_cons_self ..)
   ·rcases Ig p xs y h with h | h
    ·exact .inl h
    ·exact .inr (List.mem_cons_of_mem _ h)
  ·split at h
   ·rename_i d;rcases List.mem_cons.1 h with rfl | h
    ·exact .inl d
    ·exact .inr (List.mem_cons_of_mem _ h)
   ·rcases List.mem_cons.1 h with rfl | h
    ·exact .inl rfl
    ·exact .inr h
theorem Ex {a b:List UInt8} (h:¬ a<b) (d:¬ a=b):b<a :=
 Decidable.byContradiction fun h2=>d (List.le_antisymm (List.not_lt.1 h2) (List.not_lt.1 h))
theorem JK (p:List UInt8×β):∀(l:List (List UInt8×List β)),Ris l->Ris (addG p l)
 | [],_=>List.pairwise_singleton ..
 | x::xs,h=>by
  obtain⟨h1,h2⟩:=List.pairwise_cons.1 h;unfold addG;split
  ·rename_i Y;refine List.pairwise_cons.2 ⟨fun y d=>?_,JK p xs h2⟩;rcases Ig p xs y d with e | d
   ·rw[e];exact Y
   ·exact h1 y d
  ·rename_i U;split
   ·exact List.pairwise_cons.2 ⟨h1,h2⟩
   ·rename_i J;have H:=Ex U J;refine List.pairwise_cons.2 ⟨fun y d=>?_,h⟩;rcases List.mem_cons.1 d with rfl | d
    ·exact H
    ·exact List.lt_trans H (h1 y d)
theorem Ris.notMem {α:Type} {x:List UInt8×α} {xs:List (List UInt8×α)} (h:Ris (x::xs)):∀y∈xs,¬ y.1=x.1:=fun y d e=>by
 have:=(List.pairwise_cons.1 h).1 y d;rw[e]at this;exact List.lt_irrefl _ this
theorem JJ (p:List UInt8×β):∀(l:List (List UInt8×List β)),Ris l->∀y,y∈addG p l↔(¬ y.1=p.1/\y∈l)\/(y.1=p.1/\((∃v,(p.1,v)∈l/\y.2=v ++ [p.2])\/((∀v,(p.1,v)∉l)/\y.2 = [p.2])))
 | [],_,y=>by
  constructor
  ·intro h;simp only[addG,List.mem_singleton]at h;rw[h];exact .inr ⟨rfl,.inr ⟨fun v=>List.not_mem_nil,rfl⟩⟩
  ·rintro(⟨_,h⟩ | ⟨h,(⟨v,h2,_⟩ | ⟨_,h2⟩)⟩)
   ·cases h
   ·cases h2
   ·obtain⟨a,b⟩:=y;simp only at h h2;rw[h,h2];exact List.mem_singleton.2 rfl
 | x::xs,hr,y=>by
  have p0:=(List.pairwise_cons.1 hr).2;have ih:=JJ p xs p0 y;unfold addG;split
  ·rename_i U;have G:¬ x.1=p.1:=fun e=>by rw[e]at U;exact List.lt_irrefl _ U
   have Z:∀v,¬ (p.1,v)=x:=fun v e=>G (by rw[<-e]);rw[List.mem_cons,ih];simp only[List.mem_cons];constructor
   ·rintro(rfl | ⟨h1,h2⟩ | ⟨h1,(⟨v,h2,d⟩ | ⟨h2,d⟩)⟩)
    ·exact .inl ⟨G,.inl rfl⟩
    ·exact .inl ⟨h1,.inr h2⟩
    ·exact .inr ⟨h1,.inl ⟨v,.inr h2,d⟩⟩
    ·exact .inr ⟨h1,.inr ⟨fun v J=>J.elim (Z v) (h2 v),d⟩⟩
   ·rintro(⟨h1,(h2 | h2)⟩ | ⟨h1,(⟨v,(h2 | h2),d⟩ | ⟨h2,d⟩)⟩)
    ·exact .inl h2
    ·exact .inr (.inl ⟨h1,h2⟩)
    ·exact absurd h2 (Z v)
    ·exact .inr (.inr ⟨h1,.inl ⟨v,h2,d⟩⟩)
    ·exact .inr (.inr ⟨h1,.inr ⟨fun v J=>h2 v (.inr J),d⟩⟩)
  ·rename_i I;split
   ·rename_i Y;have H:=hr.notMem;rw[List.mem_cons];simp only[List.mem_cons];constructor
    ·rintro(rfl | h)
     ·exact .inr ⟨Y,.inl ⟨x.2,.inl (by rw[<-Y]),rfl⟩⟩
     ·exact .inl ⟨fun e=>H y h (e.trans Y.symm),.inr h⟩
    ·rintro(⟨h1,(rfl | h2)⟩ | ⟨h1,(⟨v,(h2 | h2),d⟩ | ⟨h2,d⟩)⟩)
     ·exact absurd Y h1
     ·exact .inr h2
     ·refine .inl ?_;obtain⟨a,b⟩:=y;simp only at h1 d;rw[h1,d,Y,<-h2]
     ·exact absurd Y.symm (H _ h2)
     ·exact absurd (.inl (by rw[<-Y])) (h2 x.2)
   ·rename_i O;have h0:=Ex I O;have H:∀v,(p.1,v)∉x::xs:=fun v J=>by
     rcases List.mem_cons.1 J with e | J
     ·exact O (by rw[<-e])
     ·exact List.lt_irrefl _ (List.lt_trans h0 ((List.pairwise_cons.1 hr).1 _ J))
    rw[List.mem_cons];constructor
    ·rintro(rfl | h)
     ·exact .inr ⟨rfl,.inr ⟨H,rfl⟩⟩
     ·exact .inl ⟨fun e=>H y.2 (by rw[<-e];exact h),h⟩
    ·rintro(⟨_,h⟩ | ⟨h1,(⟨v,h2,_⟩ | ⟨_,d⟩)⟩)
     ·exact .inr h
     ·exact absurd h2 (H v)
     ·refine .inl ?_;obtain⟨a,b⟩:=y;simp only at h1 d;rw[h1,d]
theorem Grp.add {ps:List (List UInt8×β)} {r:List (List UInt8×List β)} (h:Grp ps r) (p:List UInt8×β):Grp (ps ++ [p]) (addG p r):=by
 refine⟨JK p r h.up,fun y=>?_⟩;rw[JJ p r h.up y,AK,Dz];by_cases hk:p.1=y.1
 ·rw[if_pos hk];have d:∀v,(p.1,v)∈r↔v=valsOf ps p.1/\v ≠ []:=fun v=>h.mem (p.1,v);constructor
  ·rintro(⟨h1,_⟩ | ⟨_,(⟨v,h2,Y⟩ | ⟨h2,Y⟩)⟩)
   ·exact absurd hk.symm h1
   ·rw[Y,<-hk,((d v).1 h2).1];exact⟨rfl,by simp⟩
   ·have:valsOf ps p.1 = []:=Decidable.byContradiction fun J=>h2 _ ((d _).2 ⟨rfl,J⟩);rw[Y,<-hk,this];exact⟨rfl,by simp⟩
  ·rintro⟨h1,_⟩;refine .inr ⟨hk.symm,?_⟩;by_cases U:valsOf ps p.1 = []
   ·exact .inr ⟨fun v H=>((d v).1 H).2 (((d v).1 H).1.trans U),by rw[h1,<-hk,U];rfl⟩
   ·exact .inl ⟨_,(d _).2 ⟨rfl,U⟩,by rw[h1,<-hk]⟩
 ·rw[if_neg hk,List.append_nil,<-h.mem y];constructor
  ·rintro(⟨_,h2⟩ | ⟨h1,_⟩)
   ·exact h2
   ·exact absurd h1.symm hk
  ·exact fun h2=> .inl ⟨fun e=>hk e.symm,h2⟩
def grp (ps:List (List UInt8×β)):List (List UInt8×List β):=ps.foldl (fun l p=>addG p l) []
theorem EY (ps:List (List UInt8×β)) (p:List UInt8×β):grp (ps ++ [p])=addG p (grp ps):=by unfold grp;rw[List.foldl_append];rfl
theorem BM (ps:List (List UInt8×β)):Grp ps (grp ps):=by
 have key:∀(qs:List (List UInt8×β)) (ps:List (List UInt8×β)) (r:List (List UInt8×List β)),Grp ps r->Grp (ps++qs) (qs.foldl (fun l p=>addG p l) r):=by
  intro qs
  induction qs with
  | nil=>intro ps r h;rw[List.append_nil];exact h
  | cons q qs ih =>
   intro ps r h;have:=ih _ _ (h.add q);rw[List.append_assoc]at this;exact this
 exact key ps [] [] Grp.nil
def joinS (r:List (List UInt8×List β)) (p:List UInt8×β):List (List UInt8×List β):=match r.getLast? with
 | some x=>if x.1=p.1 then r.dropLast ++ [(x.1,x.2 ++ [p.2])] else r ++ [(p.1,[p.2])]
 | none=> [(p.1,[p.2])]
theorem Ih (p:List UInt8×β):∀(r:List (List UInt8×List β)),Ris r->(∀x∈r,¬ p.1<x.1)->addG p r=joinS r p
 | [],_,_=>rfl
 | [x],_,h=>by
  have h1:=h x (List.mem_singleton.2 rfl);unfold addG joinS;simp only[List.getLast?_singleton];by_cases d:x.1=p.1
  ·have:¬ x.1<p.1:=fun O=>by rw[d]at O;exact List.lt_irrefl _ O
   rw[if_neg this,if_pos d,if_pos d];rfl
  ·rw[if_pos (Ex h1 fun e=>d e.symm),if_neg d];rfl
 | x::y::ys,Z,h=>by
  have Y:=(List.pairwise_cons.1 Z).2;have ih:=Ih p (y::ys) Y fun z I=>h z (List.mem_cons_of_mem _ I);have H:=(List.pairwise_cons.1 Z).1 y (List.mem_cons_self ..);have U:=h y (List.mem_cons_of_mem _ (List.mem_cons_self ..));have J:x.1<p.1:=by
   by_cases d:y.1=p.1
   ·rw[<-d];exact H
   ·exact List.lt_trans H (Ex U fun e=>d e.symm)
  rw[addG,if_pos J,ih];unfold joinS;rw[List.getLast?_cons_cons];cases G:(y::ys).getLast? with
  | none=>simp at G
  | some z =>
   simp only;split
   ·rw[List.dropLast_cons_cons];rfl
   ·rfl
structure Stab (ps l:List (List UInt8×β)):Prop where
  up:l.Pairwise fun a b=>¬ b.1<a.1
  vals:∀s,valsOf l s=valsOf ps s
theorem IG:∀(done l:List (List UInt8×β)),(done++l).Pairwise (fun a b=>¬ b.1<a.1)->l.foldl joinS (grp done)=grp (done++l)
 | done,[],_=>by rw[List.append_nil];rfl
 | done,p::l,h=>by
  have d:joinS (grp done) p=grp (done ++ [p]):=by
   rw[EY];refine(Ih p _ (BM done).up fun x Z=>?_).symm;have O:=((BM done).mem x).1 Z;obtain⟨q,J,U⟩:∃q∈done,q.1=x.1:=by
    have H:valsOf done x.1 ≠ []:=O.1 ▸ O.2;unfold valsOf at H;have Y:(done.filter fun(p:List UInt8×β)=>decide (p.1=x.1)) ≠ []:=fun e=>H (by rw[e];rfl);obtain⟨q,J⟩:=List.exists_mem_of_ne_nil _ Y;exact⟨q,(List.mem_filter.1 J).1,of_decide_eq_true (List.mem_filter.1 J).2⟩
   rw[<-U];exact(List.pairwise_append.1 h).2.2 q J p (List.mem_cons_self ..)
  rw[List.foldl_cons,d];have:=IG (done ++ [p]) l (by rw[List.append_assoc];exact h);rw[List.append_assoc]at this;exact this
theorem Stab.grp {ps l:List (List UInt8×β)} (h:Stab ps l):l.foldl joinS []=grp ps:=by
 have h1:=IG [] l h.up;rw[List.nil_append]at h1;exact h1.trans ((BM l).same h.vals |>.uniq (BM ps))
end
end
section
open Go.ChangeShapes Go.WideShapes Go.Deep Go.RowKit
theorem Jh {a:Addr} (h:w.cell? a=some v):a.block<w.heap.size/\a.spot=none:=by
 unfold World.cell? at h;split at h
 ·rename_i c _ _ hb;refine⟨(Array.getElem?_eq_some_iff.1 hb).1,?_⟩;cases hs:a.spot with
  | none=>rfl
  | some s=>rw[hs]at h;simp at h
 ·cases h
section
variable {H:Type} {enc:TypeId×Value->H} {w:World} {base:Nat} {spare:Nat->Bool} {held:Bool}
end
end
section
open Go.ChangeShapes Go.WideShapes Go.Deep Go.RowKit
def strV (l:List UInt8):Value:= .string ⟨l.toArray⟩
theorem HF (s:ByteArray):strV s.data.toList = .string s:=by
 cases s;simp[strV]
section
variable {H:Type} {enc:TypeId×Value->H} {w:World} {base:Nat} {spare:Nat->Bool} {held:Bool}
theorem LO {x:DataW H×List MemPlace} (ht:prog.underlying t=some (.slice e)) (he:prog.underlying e=some .string) (hc:prog.cellsOf e=1)
 (h:DataW.trod enc prog w base spare held fuel t [v]=some x) :
 ∃(A:Option Addr) (cap:Nat) (ss:List (List UInt8)),v = .slice A ss.length cap/\Cells w A (ss.map strV)/\(ss ≠ []->∀a,A=some a->a.block<w.heap.size/\a.spot=none)/\ss.length<=cap/\ss.length<=9223372036854775807/\∀s∈ss,s.length<=9223372036854775807:=by
 rcases open_strings ht he hc h with ⟨Y,_⟩ | ⟨y,m,c,zs,Y,_,hl,hm,hz,_,d,G⟩
 ·obtain rfl:v = .slice none 0 0:=by simpa using Y
  exact⟨none,0,[],rfl,.inl rfl,fun h=>absurd rfl h,by simp,by simp,nofun⟩
 ·obtain rfl:v = .slice (some y) m c:=by simpa using Y
  have v0:m<=zs.length:=by rw[hz];split <;> omega
  have O:m<=9223372036854775807:=by unfold maxLen at hm;omega
  have hlen:((zs.take m).map fun s=>s.data.toList).length=m:=by simp;omega
  refine⟨some y,c,(zs.take m).map fun s=>s.data.toList,by rw[hlen],?_,?_,by rw[hlen];exact hl,by rw[hlen];exact O,fun s hs=>?_⟩
  ·rcases Nat.eq_zero_or_pos m with rfl | J
   ·exact .inl rfl
   ·have h0:=d 0 (by omega);have hs:=(Jh h0).2;obtain⟨b,o,s⟩:=y;obtain rfl:s=none:=hs;refine .inr ⟨b,o,rfl,fun i u U=>?_⟩;rw[List.getElem?_map,List.getElem?_map,List.getElem?_take]at U;split at U
    ·rename_i hi;have hi2:i<zs.length:=by omega
     rw[List.getElem?_eq_getElem hi2]at U;simp only[Option.map_some]at U;have h1:=d i hi2;rw[Addr.add_lit]at h1;rw[h1,<-U,HF];simp[List.getD,hi2]
    ·simp at U
  ·intro Z a ha;obtain rfl:y=a:=by simpa using ha
   have J:0<m:=by
    rcases Nat.eq_zero_or_pos m with rfl | J
    ·exact absurd rfl Z
    ·exact J
   exact Jh (d 0 (by omega))
  ·obtain⟨z,I,rfl⟩:=List.mem_map.1 hs;have:=G z (List.mem_of_mem_take I);unfold maxLen at this;rw[Array.length_toList];exact this
end
end
section
open Go.RowKit
abbrev Fd:=List UInt8×List UInt8
def Fd.cells (f:Fd):List Value:= [strV f.1,strV f.2]
def fcells (fs:List Fd):List Value:=fs.flatMap Fd.cells
theorem Dl:∀fs:List Fd,(fcells fs).length=fs.length*2
 | []=>rfl
 | f::fs=>by
  have:=Dl fs;unfold fcells at this ⊢;rw[List.flatMap_cons,List.length_append,this,List.length_cons];simp[Fd.cells];omega
theorem Es:∀(fs:List Fd) (i:Nat) (f:Fd) (k:Nat),fs[i]? = some f->k<2->(fcells fs)[i*2+k]? = f.cells[k]?
 | [],i,f,k,h,_=>by simp at h
 | x::fs,0,f,k,h,hk=>by
  obtain rfl:x=f:=by simpa using h
  unfold fcells;rw[List.flatMap_cons,List.getElem?_append_left (by simp[Fd.cells];omega),Nat.zero_mul,Nat.zero_add]
 | x::fs,i+1,f,k,h,hk=>by
  have d:fs[i]? = some f:=by simpa using h
  have ih:=Es fs i f k d hk;unfold fcells at ih ⊢;rw[List.flatMap_cons,List.getElem?_append_right (by simp[Fd.cells];omega)];have:(i+1)*2+k - (Fd.cells x).length=i*2+k:=by
   have:(Fd.cells x).length=2:=rfl;omega
  rw[this];exact ih
theorem F0 (fs:List Fd) (f:Fd):fcells (fs ++ [f])=fcells fs++f.cells:=by
 unfold fcells;rw[List.flatMap_append];simp
theorem Bg {fs:List Fd} (h:Cells w A (fcells fs)) {f:Fd} (d:fs[i]? = some f):∃g o,A=some ⟨g,o,none⟩/\w.cell? ⟨g,o+i*2,none⟩=some (strV f.1)/\w.cell? ⟨g,o+i*2+1,none⟩=some (strV f.2):=by
 have hi:=(List.getElem?_eq_some_iff.1 d).1;obtain⟨g,o,Y,H⟩:=h.at_ (by rw[Dl];omega);refine⟨g,o,Y,?_,?_⟩
 ·exact H (i*2+0) _ (by rw[Es fs i f 0 d (by omega)];rfl)
 ·rw[Nat.add_assoc];exact H (i*2+1) _ (by rw[Es fs i f 1 d (by omega)];rfl)
structure Ev where
  at_:Int
  fs:List Fd
def Ev.val (e:Ev) (A:Option Addr) (c:Nat):Value:= .agg #[.int .i64 e.at_,.slice A e.fs.length c]
def nameC (c:UInt8):Bool:=decide (c.toNat=95\/(48<=c.toNat/\c.toNat<=57)\/(97<=c.toNat/\c.toNat<=122))
def nameL (s:List UInt8):Bool:=s.all nameC&&decide (1<=s.length/\s.length<=32)
def checkF:List Fd->Nat
 | []=>0
 | f::fs=>if nameL f.1=false then 100 else if 4096<f.2.length then 2 else checkF fs
def checkE (fs:List Fd):Nat:=if 16<fs.length then 3 else checkF fs
theorem FW {fs:List Fd} {f:Fd} (h:fs[i]? = some f):checkF (fs.drop i)=if nameL f.1=false then 100 else if 4096<f.2.length then 2 else checkF (fs.drop (i+1)):=by
 obtain⟨hi,rfl⟩:=List.getElem?_eq_some_iff.1 h;rw[List.drop_eq_getElem_cons hi];rfl
theorem IL {x:UInt8} (h:s[i]? = some x) (d:nameC x=false):nameL s=false:=by
 unfold nameL;have:s.all nameC=false:=by
  rw[List.all_eq_false];exact⟨x,List.mem_of_getElem? h,by rw[d];simp⟩
 rw[this];rfl
theorem Ko {x:UInt8} (h:¬ (x.toNat=95\/(48<=x.toNat/\x.toNat<=57)\/(97<=x.toNat/\x.toNat<=122))):nameC x=false:=decide_eq_false h
theorem IK {x:UInt8} (h:x.toNat=95\/(48<=x.toNat/\x.toNat<=57)\/(97<=x.toNat/\x.toNat<=122)):nameC x=true:=decide_eq_true h
theorem JL {x:UInt8} (h:s[i]? = some x) (d:(s.take i).all nameC=true) (H:nameC x=true):(s.take (i+1)).all nameC=true:=by
 obtain⟨hi,rfl⟩:=List.getElem?_eq_some_iff.1 h;rw[List.take_succ_eq_append_getElem hi,List.all_append,d];simp[H]
theorem LP (s : List UInt8) (w : World) (hs : s.length ≤ 9223372036854775807) : Calls prog 202 #[.string ⟨s.toArray⟩] w fun e w' => e = .returned (.bool (nameL s)) ∧ Ext w w' := by
  obtain ⟨c1, W1, m0, hB, Y, p0⟩ := FM s w
  obtain ⟨z, U⟩ := Ab (nameL s)
  rw [← U]
  have d : ∀ i x, s[i]? = some x → nameC x = false → z = false := fun i x h hx => U.trans (IL h hx)
  have H : s.all nameC = true → z = (decide (1 ≤ s.length) && decide (s.length ≤ 32)) := fun h => by rw [U]; unfold nameL; rw [h]; simp [Bool.decide_and]
  replace H := Aa H
  replace d := Aa d
  replace Y := Aa Y
  clear U p0
  go_in
  go_wp2_with fail
  go_loopw [8] (fun s8 wr => ∃ i : Nat, s8 = .int .i64 i ∧ i ≤ s.length ∧ Hid ((s.take i).all nameC = true) ∧ wr = W1) (fun s8 _ => s.length - (intOf s8).toNat)
  case atStart => exact ⟨0, rfl, by omega, Aa rfl, rfl⟩
  case round =>
    obtain ⟨i, rfl, hi, J, rfl⟩ := hrel
    by_cases h0 : i < s.length
    · obtain ⟨g, o, I, hc⟩ := hB.at_ (by omega)
      injection I with I
      injection I with I ho
      subst I
      subst ho
      have k0 := hc i h0
      rw [Nat.zero_add] at k0
      obtain ⟨x, hx⟩ := Ab (s[i])
      have G : s[i]? = some x := by rw [hx]; exact List.getElem?_eq_getElem h0
      rw [← hx] at k0
      have O : ¬ (x.toNat = 95 ∨ (48 ≤ x.toNat ∧ x.toNat ≤ 57) ∨ (97 ≤ x.toNat ∧ x.toNat ≤ 122)) → z = false := fun h => d.out i x G (Ko h)
      have Z : (x.toNat = 95 ∨ (48 ≤ x.toNat ∧ x.toNat ≤ 57) ∨ (97 ≤ x.toNat ∧ x.toNat ≤ 122)) → (s.take (i + 1)).all nameC = true := fun h => JL G J.out (IK h)
      replace O := Aa O
      replace Z := Aa Z
      clear hc hx G
      go_wp2_with fail
      all_goals first
        | (have q := Z.out (by first | omega | (simp_all; done) | (simp_all; omega))
           replace q := Aa q
           go_roundw
           case rel => exact ⟨i + 1, by go_num, by omega, q, trivial⟩
           case measure => simp [intOf]; omega)
        | (have q := O.out (by first | omega | (simp_all; done) | (simp_all; omega))
           go_ret
           exact ⟨Bf (by rw [q]), Y.out⟩)
    · have U := H.out (by have h := J.out; rw [List.take_of_length_le (by omega)] at h; exact h)
      replace U := Aa U
      go_wp2_with fail
      all_goals go_ret
      all_goals refine ⟨Bf ?_, Y.out⟩
      all_goals rw [U.out]
      all_goals
        rw [Bool.eq_iff_iff]
        simp
        omega
theorem PC (s:List UInt8) (w:World) (hs:s.length<=9223372036854775807):Calls prog 149 #[.string ⟨s.toArray⟩] w fun e w'=>e = .returned (.bool (nameL s))/\Ext w w':=by
 have h:=Aa (LP s w hs)
 go_in
 go_wp2_with fail;refine h.out.mono ?_;rintro e w1 ⟨rfl,d⟩;go_wp2_with fail;go_ret;exact⟨rfl,d⟩
structure Ev.Ok (e:Ev) (w:World) (A:Option Addr):Prop where
  cells:Cells w A (fcells e.fs)
  many:e.fs.length<=9223372036854775807
  long:∀f∈e.fs,f.1.length<=9223372036854775807/\f.2.length<=9223372036854775807
theorem Ev.Ok.ext {e:Ev} (h:e.Ok w A) (d:Ext w w1):e.Ok w1 A:=⟨h.cells.ext d,h.many,h.long⟩
theorem Dj (e:Ev) (A:Option Addr) (c:Nat) (w:World) (h:e.Ok w A):Calls prog 97 #[e.val A c] w fun en w'=>en = .returned (.int .i64 (checkE e.fs:Int))/\Ext w w':=by
 obtain⟨at_,fs⟩:=e;obtain⟨hc,hm,hl⟩:=h;unfold Ev.val;simp only at hc hm hl ⊢;obtain⟨n,hn⟩:=Ab fs.length;obtain⟨z,I⟩:=Ab (checkE fs);have H:16<n->z=3:=fun h=>by rw[I];unfold checkE;rw[if_pos (by omega)]
 have Z:n<=16->z=checkF (fs.drop 0):=fun h=>by rw[I];unfold checkE;rw[if_neg (by omega)];rfl
 have G:=fun s W (hs:s.length<=9223372036854775807)=>PC s W hs;rw[<-I,<-hn];rw[<-hn]at hm;replace hn:=Aa hn;replace hl:=Aa hl;replace G:=Aa G;replace Z:=Aa Z;clear I;by_cases b0:16<n
 ·have h0:=H b0;subst h0;clear H
  go_in
  go_wp2_with fail;go_ret;exact⟨rfl,(Ext.refl w).alloc _⟩
 ·clear H
  go_in
  go_wp2_with fail;have J:=Z.out (by omega);replace J:=Aa J;have g0:Ext w (w.alloc (.cells #[.int .i64 at_,.slice A n c] 93)):=(Ext.refl w).alloc _;obtain⟨W0,m0⟩:=Ab (w.alloc (.cells #[.int .i64 at_,.slice A n c] 93));rw[<-m0]at g0 ⊢;clear m0
  go_loopw [12] (fun s12 wr=>∃i:Nat,s12 = .int .i64 i/\i<=n/\Hid (z=checkF (fs.drop i))/\Hid (Ext w wr)) (fun s12 _=>n - (intOf s12).toNat)
  case atStart=>exact⟨0,rfl,by omega,J,Aa g0⟩
  case round =>
   obtain⟨i,rfl,hi,I,hE⟩:=hrel;by_cases e0:i<n
   ·have d0:i<fs.length:=by rw[<-hn.out];exact e0
    obtain⟨f,hf⟩:∃f,fs[i]? = some f:=⟨_,List.getElem?_eq_getElem d0⟩
    obtain⟨g,o,rfl,k0,k1⟩:=Bg (hc.ext hE.out) hf;obtain⟨t0,f0⟩:=hl.out f (List.mem_of_getElem? hf);have d:=I.out;rw[FW hf]at d;unfold strV at k0 k1;have n0:g<wr.heap.size:=World.block_lt_of_cell? wr _ k0;obtain⟨nm,tx⟩:=f;simp only at k0 k1 t0 f0 d;have Y:=fun W=>G.out nm W t0;obtain⟨q,hq⟩:=Ab (nameL nm);rw[<-hq]at Y d;replace Y:=Aa Y;replace d:=Aa d;clear hf hq;go_wp2_with fail;have U:Row (wr.alloc (.cells #[.string ⟨nm.toArray⟩,.string ⟨tx.toArray⟩] 90)) wr.heap.size 90 #[.string ⟨nm.toArray⟩,.string ⟨tx.toArray⟩]:=Row.new wr _ _;have p0:Ext w (wr.alloc (.cells #[.string ⟨nm.toArray⟩,.string ⟨tx.toArray⟩] 90)):=hE.out.trans ((Ext.refl wr).alloc _);refine(Y.out _).mono ?_;rintro e w3 ⟨rfl,j0⟩;have k3:w3.cell? ⟨wr.heap.size,1,none⟩=some (.string ⟨tx.toArray⟩):=j0.cell (U.cell 1 rfl);have O:=Aa (p0.trans j0);clear U p0;cases q with
    | false =>
     obtain rfl:z=100:=by rw[d.out];rfl
     go_wp2_with fail;go_ret;exact⟨rfl,O.out⟩
    | true =>
     by_cases v0:4096<tx.length
     ·obtain rfl:z=2:=by rw[d.out,if_neg (by simp),if_pos v0]
      go_wp2_with fail;go_ret;exact⟨rfl,O.out⟩
     ·have h0:=Aa (show z=checkF (fs.drop (i+1))by rw[d.out,if_neg (by simp),if_neg v0]);go_wp2_with fail;go_roundw
      case rel=>exact⟨i+1,by go_num,by omega,h0,O⟩
      case measure=>simp[intOf];omega
   ·have J:=I.out;rw[List.drop_of_length_le (by rw[<-hn.out];omega)]at J;have i0:z=0:=J;subst i0;go_wp2_with fail;go_ret;exact⟨rfl,hE.out⟩
def I64ok' (z:Int):Prop:= -9223372036854775808<=z/\z<=9223372036854775807
theorem AD {size:Nat} (h:w.ownsRow base e size v n xs) (hb:b<=base):w.ownsRow b e size v n xs:=by
 refine⟨h.1,?_⟩;rcases h.2 with h2 | ⟨g,cap,cur,H,d,r⟩
 ·exact .inl h2
 ·exact .inr ⟨g,cap,cur,H,Nat.le_trans hb d,r⟩
def Ev.Own (e:Ev) (w:World) (base:Nat) (A:Option Addr) (c:Nat):Prop:=w.ownsRow base 90 2 (.slice A e.fs.length c) e.fs.length (fcells e.fs)/\(∀f∈e.fs,f.1.length<=9223372036854775807/\f.2.length<=9223372036854775807)/\e.fs.length<=20
theorem Ev.Own.ok {e:Ev} (h:e.Own w base A c):e.Ok w A:=⟨Cells.of_own h.1,by have:=h.2.2;omega,h.2.1⟩
theorem Ev.Own.nil (w:World) (base:Nat) (at_:Int):Ev.Own ⟨at_,[]⟩ w base none 0:=⟨⟨rfl,.inl ⟨rfl,rfl⟩⟩,nofun,by simp⟩
theorem AS {rest:List Oper} {t e size bytes m k:Nat} (E:Elem P t e size bytes) (H:w0.ownsRow base e size v n xs) (hk:k=w0.heap.size) (s x:Operand)
 (O:o.op = .call { callee:= .builtin .append,args:=#[s,x],argTypes:=#[t,t] }) (Y:o.guard=none)
 (hs:a.eval s=v) (Z:a.eval x = .slice (some ⟨k,0,none⟩) m m) (U:us.length=m*size) (h1:∀u∈us,u.oneCell'=true) (J:n+m<=4294967296) (d:base<=w0.heap.size)
 (h:∀A1 c1 w',w'.ownsRow base e size (.slice A1 (n+m) c1) (n+m) (xs++us)->w0.grownBy w' v.ownBlock->((Value.slice A1 (n+m) c1).ownBlock=v.ownBlock\/(Value.slice A1 (n+m) c1).ownBlock=some (w0.heap.size+1)) ->
  wpList P ops Q rest (a.put o.dst (.slice A1 (n+m) c1)) w') :
 wpList P ops Q (o::rest) a (w0.alloc (.cells us.toArray T)):=by
 subst hk;exact Ch E H s x O Y hs Z U h1 J d h
theorem Lu:Elem prog 91 90 2 32:=⟨underlying91,⟨_,_,rfl,rfl,rfl,rfl,rfl⟩,by omega,by omega⟩
end
section
def fieldT (base:Nat) (f:Fd):List (List UInt8×Int):=(tokL f.2).zipIdx.map fun p=>(f.1++58::p.1,((base+p.2:Nat):Int))
def nextT (base:Nat) (f:Fd):Nat:=base+(64+(tokL f.2).length)
def rawT:Nat->List Fd->List (List UInt8×Int)
 | _,[]=> []
 | b,f::fs=>fieldT b f++rawT (nextT b f) fs
def baseT:Nat->List Fd->Nat
 | b,[]=>b
 | b,f::fs=>baseT (nextT b f) fs
theorem He:∀(a c:List Fd) (b:Nat),rawT b (a++c)=rawT b a++rawT (baseT b a) c
 | [],c,b=>rfl
 | f::a,c,b=>by
  show fieldT b f++rawT (nextT b f) (a++c)=(fieldT b f++rawT (nextT b f) a)++_;rw[He a c,List.append_assoc];rfl
theorem Fx:∀(a c:List Fd) (b:Nat),baseT b (a++c)=baseT (baseT b a) c
 | [],c,b=>rfl
 | f::a,c,b=>Fx a c (nextT b f)
theorem CB (base:Nat) (f:Fd):(fieldT base f).length=(tokL f.2).length:=by unfold fieldT;rw[List.length_map,List.length_zipIdx]
def termsL (e:Ev):List (List UInt8×List Int):=if checkE e.fs=0 then grp (rawT 0 e.fs) else []
end
section
open Go.RowKit
def risB (n:Int):Int->List Int->Bool
 | _,[]=>true
 | lo,x::t=>decide (lo<x)&&decide (x<n)&&risB n x t
def IV (x:Int):Value:= .int .i64 x
def idV:Value:= .func (.func 220) #[] #[]
theorem QL (x:Int) (w:World):Calls prog 220 #[.int .i64 x] w fun e w'=>e = .returned (.int .i64 x)/\w'=w:=by
 go_in
 go_wp2;go_ret;exact⟨rfl,rfl⟩
theorem KF (xs:List Int) (A:Option Addr) (m c:Nat) (n:Int) (w:World) (G:m=xs.length) (hc:Cells w A (xs.map IV)) (g0:m<=1000000000) :
 Calls prog 219 #[.slice A m c,.int .i64 n,idV] w fun e w'=>e = .returned (.bool (risB n (-1) xs))/\Ext w w':=by
 unfold idV;have p0:=Aa (fun x W=>QL x W);obtain⟨Z,I⟩:=Ab (risB n (-1) xs);rw[<-I];replace I:=Aa I;replace hc:=Aa hc;replace G:=Aa G
 go_in
 go_wp2_with fail
 go_loopw [7,13] (fun s7 s13 wr=>∃(i:Nat) (p:Int),s7 = .int .i64 p/\s13 = .int .i64 (i:Int)/\i<=m/\Hid (Z=risB n p (xs.drop i))/\wr=w) (fun _ s13 _=>m - (intOf s13).toNat)
 case atStart=>exact⟨0,-1,rfl,rfl,by omega,Aa (by rw[I.out];rfl),rfl⟩
 case round =>
  obtain⟨i,p,rfl,rfl,hi,O,rfl⟩:=hrel;by_cases h:i<m
  ·obtain⟨x,H⟩:∃x,xs[i]? = some x:=⟨_,List.getElem?_eq_getElem (by rw[<-G.out];exact h)⟩
   obtain⟨g,o,hA,J⟩:=hc.out.at_ (by rw[List.length_map,<-G.out];omega);subst hA;have k0:=J i (IV x) (by rw[List.getElem?_map,H];rfl);unfold IV at k0;have U:xs.drop i=x::xs.drop (i+1):=by
    rw[List.drop_eq_getElem_cons (List.getElem?_eq_some_iff.1 H).1];congr 1;exact(List.getElem?_eq_some_iff.1 H).2
   have d:=O.out;rw[U,risB]at d;have Y:=Aa (fun W=>p0.out x W);replace J:=Aa J;replace H:=Aa H;replace U:=Aa U;by_cases h1:p<x
   ·by_cases h2:x<n
    ·rw[decide_eq_true h1,decide_eq_true h2,Bool.true_and,Bool.true_and]at d;replace d:=Aa d;go_wp2_with fail;refine(Y.out _).mono ?_;rintro e w2 ⟨rfl,rfl⟩;go_wp2_with fail;exact⟨⟨i+1,x,rfl,rfl,by omega,d,trivial⟩,by simp only[intOf];omega⟩
    ·rw[decide_eq_true h1,decide_eq_false h2,Bool.true_and,Bool.false_and]at d;subst d;go_wp2_with fail;refine(Y.out _).mono ?_;rintro e w2 ⟨rfl,rfl⟩;go_wp2_with fail;go_ret;exact⟨rfl,Ext.refl _⟩
   ·rw[decide_eq_false h1,Bool.false_and,Bool.false_and]at d;subst d;go_wp2_with fail;refine(Y.out _).mono ?_;rintro e w2 ⟨rfl,rfl⟩;go_wp2_with fail;go_ret;exact⟨rfl,Ext.refl _⟩
  ·obtain rfl:i=m:=by omega
   have h0:Z=true:=by rw[O.out,List.drop_eq_nil_of_le (by rw[<-G.out];exact Nat.le_refl _),risB]
   subst h0;go_wp2_with fail;go_ret;exact⟨rfl,Ext.refl _⟩
end
section
def chunkL {α:Type} (k:Nat) (l:List α):List (List α):=if h:l = []\/k=0 then [] else l.take k::chunkL k (l.drop k)
termination_by l.length
decreasing_by
 rw[List.length_drop];have:0<l.length:=List.length_pos_iff.2 (fun e=>h (.inl e));omega
section
variable {α:Type} {k:Nat}
theorem Eo:chunkL k ([]:List α) = []:=by rw[chunkL,dif_pos (.inl rfl)]
theorem BE {l:List α} (d:l ≠ []) (hk:0<k):chunkL k l=l.take k::chunkL k (l.drop k):=by rw[chunkL,dif_neg (fun h=>h.elim d (by omega))]
theorem DB (hk:0<k) (l:List α):(chunkL k l).flatMap id=l:=by
 by_cases h:l = []
 ·rw[h,Eo];rfl
 ·have:0<l.length:=List.length_pos_iff.2 h;rw[BE h hk,List.flatMap_cons,DB hk (l.drop k)];exact List.take_append_drop k l
termination_by l.length
decreasing_by rw[List.length_drop];omega
theorem AO (hk:0<k) (l:List α):(chunkL k l).length=(l.length+k - 1) / k:=by
 by_cases h:l = []
 ·rw[h,Eo];symm;exact Nat.div_eq_of_lt (by simp;omega)
 ·have d:0<l.length:=List.length_pos_iff.2 h;rw[BE h hk,List.length_cons,AO hk (l.drop k),List.length_drop];rcases Nat.lt_or_ge k l.length with h1 | h1
  ·rw[show l.length+k - 1=(l.length - k+k - 1)+k by omega,Nat.add_div_right _ hk]
  ·rw[show l.length - k+k - 1=k - 1 by omega,Nat.div_eq_of_lt (by omega),show l.length+k - 1=(l.length - 1)+k by omega,Nat.add_div_right _ hk,Nat.div_eq_of_lt (by omega)]
termination_by l.length
decreasing_by rw[List.length_drop];omega
theorem BQ (hk:0<k):∀(i:Nat) (l:List α),i*k<l.length->(chunkL k l)[i]? = some ((l.drop (i*k)).take k)
 | 0,l,h=>by
  have:l ≠ []:=fun e=>by rw[e]at h;simp at h
  rw[BE this hk];simp
 | i+1,l,h=>by
  have d:l ≠ []:=fun e=>by rw[e]at h;simp at h
  rw[BE d hk,List.getElem?_cons_succ,BQ hk i (l.drop k) (by rw[List.length_drop];rw[Nat.succ_mul]at h;omega),List.drop_drop];congr 3;rw[Nat.succ_mul];omega
theorem Cb (hk:0<k) (i:Nat) (l:List α) (h:l.length<=i*k):(chunkL k l).length<=i:=by
 rw[AO hk,Nat.div_le_iff_le_mul_add_pred hk,Nat.mul_comm];omega
theorem Fz (hk:0<k) {l b:List α} (hb:b∈chunkL k l):b ≠ []/\b.length<=k:=by
 by_cases h:l = []
 ·rw[h,Eo]at hb;cases hb
 ·have d:0<l.length:=List.length_pos_iff.2 h;rw[BE h hk]at hb;rcases List.mem_cons.1 hb with rfl | hb
  ·refine⟨fun e=>?_,List.length_take_le ..⟩;have:=congrArg List.length e;rw[List.length_take,List.length_nil]at this;omega
  ·exact Fz hk hb
termination_by l.length
decreasing_by rw[List.length_drop];omega
theorem GB (hk:0<k) {l b:List α} (hb:b∈chunkL k l):∀x∈b,x∈l:=by
 intro x h;rw[<-DB hk l];exact List.mem_flatMap.2 ⟨b,hb,h⟩
theorem BF (hk:0<k) (l:List α):∀i,((chunkL k l).take i).flatMap id=l.take (i*k)
 | 0=>by simp
 | i+1=>by
  rcases Nat.lt_or_ge (i*k) l.length with h | h
  ·have d:=BQ hk i l h;have hi:=(List.getElem?_eq_some_iff.1 d)
   rw[List.take_add_one,d,List.flatMap_append,BF hk l i];show _ ++ [(l.drop (i*k)).take k].flatMap id=_;rw[List.flatMap_cons,List.flatMap_nil,List.append_nil];show _++(l.drop (i*k)).take k=_;rw[Nat.succ_mul,List.take_add]
  ·have h1:=Cb hk i l h;rw[List.take_of_length_le (by omega),DB hk,List.take_of_length_le (by rw[Nat.succ_mul];omega)]
end
end
section
def vb (n:Nat):List UInt8:=if _h:n<128 then [UInt8.ofNat n] else UInt8.ofNat (n%128+128)::vb (n / 128)
termination_by n
decreasing_by omega
theorem Gn (h:n<128):vb n = [UInt8.ofNat n]:=by rw[vb,dif_pos h]
theorem Je (h:¬ n<128):vb n=UInt8.ofNat (n%128+128)::vb (n / 128):=by rw[vb,dif_neg h]
theorem FV:∀(k n:Nat),n<128^k->(vb n).length<=max k 1
 | 0,n,h=>by
  have:n=0:=by simpa using h
  subst this;rw[Gn (by omega)];simp
 | k+1,n,h=>by
  by_cases d:n<128
  ·rw[Gn d];simp
  ·rw[Je d,List.length_cons];have ih:=FV k (n / 128) (by rw[Nat.pow_succ]at h;omega);have:1<=k:=by
    rcases Nat.eq_zero_or_pos k with rfl | hk
    ·simp at h;omega
    ·exact hk
   omega
theorem Ag (h:n<18446744073709551616):(vb n).length<=10:=FV 10 n (by omega)
theorem Qi (n:Nat):1<=(vb n).length:=by
 by_cases h:n<128
 ·rw[Gn h];simp
 ·rw[Je h];simp
def getV (i:Nat):List UInt8->Except Nat (Nat×List UInt8)
 | []=> .error 6
 | x::l=>if 10<=i then .error 6 else if (i=9/\1<x.toNat)\/(0<i/\x.toNat=0) then .error 20 else
  if x.toNat<128 then .ok (x.toNat,l) else match getV (i+1) l with
   | .ok (n,r)=> .ok (x.toNat - 128+128*n,r)
   | .error e=> .error e
theorem Ck:∀(l:List UInt8) (i n:Nat) (r:List UInt8),getV i l = .ok (n,r)->i<=9/\n<2*128^(9 - i)/\∃p,l=p++r/\p ≠ []
 | [],i,n,r,h=>by simp[getV]at h
 | x::l,i,n,r,h=>by
  unfold getV at h;by_cases H:10<=i
  ·rw[if_pos H]at h;cases h
  rw[if_neg H]at h;by_cases hb:(i=9/\1<x.toNat)\/(0<i/\x.toNat=0)
  ·rw[if_pos hb]at h;cases h
  rw[if_neg hb]at h;have G:=x.toNat_lt;by_cases d:x.toNat<128
  ·rw[if_pos d]at h;injection h with h;injection h with h1 h2;subst h1 h2;refine⟨by omega,?_,[x],rfl,by simp⟩;by_cases Y:i=9
   ·subst Y;simp only[Nat.sub_self,Nat.pow_zero];omega
   ·have:128^1<=128^(9 - i):=Nat.pow_le_pow_right (by omega) (by omega);omega
  ·rw[if_neg d]at h;split at h
   ·rename_i m r' J;injection h with h;injection h with h1 h2;subst h1 h2;obtain⟨O,Z,p,U,_⟩:=Ck l (i+1) m r' J;refine⟨by omega,?_,x::p,by rw[U];rfl,by simp⟩;have:9 - i=(9 - (i+1))+1:=by omega
    rw[this,Nat.pow_succ];omega
   ·cases h
theorem Ct (h:getV 0 l = .ok (n,r)):n<18446744073709551616:=by
 have:=(Ck l 0 n r h).2.1;omega
theorem MY:∀(k i n:Nat) (r:List UInt8),k+i=9->n<2*128^k->(0<i->0<n)->getV i (vb n++r) = .ok (n,r)
 | k,i,n,r,hk,H,J=>by
  by_cases d:n<128
  ·rw[Gn d];have Y:(UInt8.ofNat n).toNat=n:=by rw[UInt8.toNat_ofNat'];omega
   show getV i (UInt8.ofNat n::r)=_;unfold getV;rw[if_neg (by omega),Y,if_neg,if_pos d];rintro(⟨rfl,h1⟩ | ⟨h1,h2⟩)
   ·obtain rfl:k=0:=by omega
    simp at H;omega
   ·have:=J h1;omega
  ·rw[Je d];have Y:(UInt8.ofNat (n%128+128)).toNat=n%128+128:=by rw[UInt8.toNat_ofNat'];omega
   show getV i (UInt8.ofNat (n%128+128)::(vb (n / 128)++r))=_;have U:1<=k:=by
    rcases Nat.eq_zero_or_pos k with rfl | h
    ·simp at H;omega
    ·exact h
   obtain⟨k,rfl⟩:∃j,k=j+1:=⟨k - 1,by omega⟩
   have ih:=MY k (i+1) (n / 128) r (by omega) (by rw[Nat.pow_succ]at H;omega) (fun _=>by omega);unfold getV;rw[if_neg (by omega),Y,if_neg (by omega),if_neg (by omega),ih];simp only;rw[show n%128+128 - 128+128*(n / 128)=n by omega]
theorem BD (h:n<18446744073709551616) (r:List UInt8):getV 0 (vb n++r) = .ok (n,r):=MY 9 0 n r rfl (by omega) (by omega)
def zig (n:Int):Nat:=if 0<=n then 2*n.toNat else 2*(-1 - n).toNat+1
def unzig (u:Nat):Int:=if u%2=0 then ((u / 2:Nat):Int) else -1 - ((u / 2:Nat):Int)
theorem OR (n:Int):unzig (zig n)=n:=by
 unfold unzig zig;split <;> split <;> omega
theorem CM {n:Int} (h1 : -9223372036854775808<=n) (h2:n<=9223372036854775807):zig n<18446744073709551616:=by
 unfold zig;split <;> omega
theorem K6 {u:Nat} (h:u<18446744073709551616) : -9223372036854775808<=unzig u/\unzig u<=9223372036854775807:=by
 unfold unzig;split <;> omega
def vall (l:List Int):List UInt8:=l.flatMap fun n=>vb (zig n)
end
section
abbrev Po:=Int×List Int
def okPs (l:List Po):Bool:=risB 65536 (-1) (l.map (·.1))&&l.all fun p=>decide (0<p.2.length)&&risB 1048576 (-1) p.2
def stepsL:Int->List Int->List UInt8
 | _,[]=> []
 | last,n::t=>vb (n - last - 1).toNat++stepsL n t
def onePo (last:Int) (p:Po):List UInt8:=vb (p.1 - last - 1).toNat++vb p.2.length++stepsL (-1) p.2
def blockPo:Int->List Po->List UInt8
 | _,[]=> []
 | last,p::t=>onePo last p++blockPo p.1 t
def lastPo:Int->List Po->Int
 | last,[]=>last
 | _,p::t=>lastPo p.1 t
def headPo:Int->List (List Po)->List UInt8
 | _,[]=> []
 | last,b::bs=>vb (lastPo last b).toNat++vb (blockPo last b).length++headPo (lastPo last b) bs
def encPs (l:List Po):List UInt8:=vb l.length++headPo (-1) (chunkL 32 l)++blockPo (-1) l
theorem Be:∀(a b:List Po) (last:Int),blockPo last (a++b)=blockPo last a++blockPo (lastPo last a) b
 | [],b,last=>rfl
 | p::t,b,last=>by
  show onePo last p++blockPo p.1 (t++b)=_;rw[Be t b];show _=(onePo last p++blockPo p.1 t)++blockPo (lastPo p.1 t) b;rw[List.append_assoc]
theorem CD:∀(a b:List Po) (last:Int),lastPo last (a++b)=lastPo (lastPo last a) b
 | [],b,last=>rfl
 | p::t,b,last=>CD t b p.1
theorem Ew:∀(a b:List (List Po)) (last:Int),headPo last (a++b)=headPo last a++headPo (lastPo last (a.flatMap id)) b
 | [],b,last=>rfl
 | p::t,b,last=>by
  show vb (lastPo last p).toNat++vb (blockPo last p).length++headPo (lastPo last p) (t++b)=_;rw[Ew t b,List.flatMap_cons];show _=(vb (lastPo last p).toNat++vb (blockPo last p).length++headPo (lastPo last p) t)++headPo (lastPo last (p++t.flatMap id)) b;rw[CD,List.append_assoc _ _ (headPo _ b)]
theorem DU {n:Int}:∀ {l:List Int} {lo:Int},risB n lo l=true->lo<n->(l.length:Int)<n - lo
 | [],lo,_,h=>by simp;omega
 | y::t,lo,h,_=>by
  unfold risB at h;rw[Bool.and_eq_true,Bool.and_eq_true]at h;have h1:=of_decide_eq_true h.1.1;have h2:=of_decide_eq_true h.1.2;have:=DU h.2 h2;rw[List.length_cons];omega
end
section
open Go.ChangeShapes Go.WideShapes Go.Deep Go.RowKit
section
variable {H:Type} {enc:TypeId×Value->H} {w:World} {base:Nat} {spare:Nat->Bool} {held:Bool}
theorem AU {α:Type} {cellsA:α->List Value} (hlen:∀x,(cellsA x).length=k):∀xs:List α,(xs.flatMap cellsA).length=xs.length*k
 | []=>by simp
 | x::xs=>by rw[List.flatMap_cons,List.length_append,hlen,AU hlen xs,List.length_cons,Nat.add_mul,Nat.one_mul,Nat.add_comm]
theorem AW {α:Type} {cellsA:α->List Value} (hlen:∀x,(cellsA x).length=k):∀(xs:List α) (i:Nat) (x:α) (j:Nat),xs[i]? = some x->j<k->(xs.flatMap cellsA)[i*k+j]? = (cellsA x)[j]?
 | [],i,x,j,h,_=>by simp at h
 | y::xs,0,x,j,h,d=>by
  obtain rfl:y=x:=by simpa using h
  rw[List.flatMap_cons,List.getElem?_append_left (by rw[hlen];omega),Nat.zero_mul,Nat.zero_add]
 | y::xs,i+1,x,j,h,d=>by
  have H:xs[i]? = some x:=by simpa using h
  rw[List.flatMap_cons,List.getElem?_append_right (by rw[hlen,Nat.add_mul,Nat.one_mul];omega),hlen,show (i+1)*k+j - k=i*k+j by rw[Nat.add_mul,Nat.one_mul];omega];exact AW hlen xs i x j H d
end
section
variable {H:Type} {enc:TypeId×Value->H}
end
end
section
open Go.RowKit
structure PoC where
  doc:Int
  pos:List Int
  A:Option Addr
  c:Nat
def PoC.val (x:PoC):Value:= .agg #[.int .i64 x.doc,.slice x.A x.pos.length x.c]
def PoC.cells (x:PoC):List Value:= [.int .i64 x.doc,.slice x.A x.pos.length x.c]
def PoC.po (x:PoC):Po:=(x.doc,x.pos)
def pcells (l:List PoC):List Value:=l.flatMap PoC.cells
theorem G9 (l:List PoC):(pcells l).length=l.length*2:=AU (cellsA:=PoC.cells) (k:=2) (fun _=>rfl) l
theorem G8 {l:List PoC} {x:PoC} (h:l[i]? = some x) (d:j<2):(pcells l)[i*2+j]? = x.cells[j]? :=AW (cellsA:=PoC.cells) (k:=2) (fun _=>rfl) l i x j h d
theorem Bc {l:List PoC} (h:Cells w A (pcells l)) {x:PoC} (d:l[i]? = some x):∃g o,A=some ⟨g,o,none⟩/\w.cell? ⟨g,o+i*2,none⟩=some (.int .i64 x.doc)/\w.cell? ⟨g,o+i*2+1,none⟩=some (.slice x.A x.pos.length x.c):=by
 obtain⟨g,o,Y,H⟩:=h.at_ (by rw[G9];have:=(List.getElem?_eq_some_iff.1 d).1;omega);refine⟨g,o,Y,?_,?_⟩
 ·have:=H (i*2+0) _ (by rw[G8 d (by omega)];rfl);exact this
 ·have:=H (i*2+1) _ (by rw[G8 d (by omega)];rfl);exact this
structure PosOk (w:World) (A:Option Addr) (l:List PoC):Prop where
  cells:Cells w A (pcells l)
  each:∀x∈l,Cells w x.A (x.pos.map IV)/\x.pos.length<=1000000000
theorem PosOk.ext {l:List PoC} (h:PosOk w A l) (d:Ext w w1):PosOk w1 A l:=⟨h.cells.ext d,fun x H=>⟨(h.each x H).1.ext d,(h.each x H).2⟩⟩
theorem PosOk.nil (w:World) (A:Option Addr):PosOk w A []:=⟨.inl rfl,nofun⟩
def docV:Value:= .func (.func 218) #[] #[]
theorem O9 (x:PoC) (w:World):Calls prog 218 #[x.val] w fun e w'=>e = .returned (.int .i64 x.doc)/\Ext w w':=by
 obtain⟨d,p,A,c⟩:=x;unfold PoC.val
 go_in
 go_wp2;go_ret;exact⟨rfl,(Ext.refl w).alloc _⟩
theorem KG (ps:List PoC) (A:Option Addr) (m c:Nat) (n:Int) (w:World) (hm:m=ps.length) (hc:Cells w A (pcells ps)) (x0:m<=1000000000) :
 Calls prog 217 #[.slice A m c,.int .i64 n,docV] w fun e w'=>e = .returned (.bool (risB n (-1) (ps.map (·.doc))))/\Ext w w':=by
 unfold docV;have t0:=Aa (fun x W=>O9 x W);obtain⟨Z,hZ⟩:=Ab (risB n (-1) (ps.map (·.doc)));rw[<-hZ];replace hZ:=Aa hZ;replace hc:=Aa hc;replace hm:=Aa hm
 go_in
 go_wp2_with fail
 go_loopw [7,13] (fun s7 s13 wr=>∃(i:Nat) (p:Int),s7 = .int .i64 p/\s13 = .int .i64 (i:Int)/\i<=m/\Hid (Z=risB n p ((ps.drop i).map (·.doc)))/\Hid (Ext w wr)) (fun _ s13 _=>m - (intOf s13).toNat)
 case atStart=>exact⟨0,-1,rfl,rfl,by omega,Aa (by rw[hZ.out];rfl),Aa (Ext.refl w)⟩
 case round =>
  obtain⟨i,p,rfl,rfl,hi,I,hE⟩:=hrel;by_cases h:i<m
  ·obtain⟨x,U⟩:∃x,ps[i]? = some x:=⟨_,List.getElem?_eq_getElem (by rw[<-hm.out];exact h)⟩
   obtain⟨g,o,hA,g0,m0⟩:=Bc (hc.out.ext hE.out) U;subst hA;have G:ps.drop i=x::ps.drop (i+1):=by
    rw[List.drop_eq_getElem_cons (List.getElem?_eq_some_iff.1 U).1];congr 1;exact(List.getElem?_eq_some_iff.1 U).2
   have H:=I.out;rw[G,List.map_cons,risB]at H;have J:=Aa (fun W=>t0.out x W);have O:=Aa (fun W=>(hE.out.alloc (.cells #[.int .i64 x.doc,.slice x.A x.pos.length x.c] W)));replace U:=Aa U;replace G:=Aa G;obtain⟨d,pos,B,cB⟩:=x;unfold PoC.val at J;simp only at g0 m0 H J O;by_cases h1:p<d
   ·by_cases h2:d<n
    ·rw[decide_eq_true h1,decide_eq_true h2,Bool.true_and,Bool.true_and]at H;replace H:=Aa H;go_wp2_with fail;refine(J.out _).mono ?_;rintro e w2 ⟨rfl,Y⟩;go_wp2_with fail;exact⟨⟨i+1,d,rfl,rfl,by omega,H,Aa ((O.out _).trans Y)⟩,by simp only[intOf];omega⟩
    ·rw[decide_eq_true h1,decide_eq_false h2,Bool.true_and,Bool.false_and]at H;subst H;go_wp2_with fail;refine(J.out _).mono ?_;rintro e w2 ⟨rfl,Y⟩;go_wp2_with fail;go_ret;exact⟨rfl,(O.out _).trans Y⟩
   ·rw[decide_eq_false h1,Bool.false_and,Bool.false_and]at H;subst H;go_wp2_with fail;refine(J.out _).mono ?_;rintro e w2 ⟨rfl,Y⟩;go_wp2_with fail;go_ret;exact⟨rfl,(O.out _).trans Y⟩
  ·obtain rfl:i=m:=by omega
   have k0:Z=true:=by rw[I.out,List.drop_eq_nil_of_le (by rw[<-hm.out];exact Nat.le_refl _),List.map_nil,risB]
   subst k0;go_wp2_with fail;go_ret;exact⟨rfl,hE.out⟩
def okPo (p:Po):Bool:=decide (0<p.2.length)&&risB 1048576 (-1) p.2
theorem Ed (l:List Po):okPs l=(risB 65536 (-1) (l.map (·.1))&&l.all okPo):=rfl
theorem HR {α:Type} {l:List α} {f:α->Bool} {x:α} (h:l[i]? = some x):(l.take (i+1)).all f=((l.take i).all f&&f x):=by
 obtain⟨hi,rfl⟩:=List.getElem?_eq_some_iff.1 h;rw[List.take_succ_eq_append_getElem hi,List.all_append];simp
theorem Ku (ps:List PoC) (A:Option Addr) (m c:Nat) (w:World) (hm:m=ps.length) (h:PosOk w A ps) (p1:m<=1000000000) :
 Calls prog 160 #[.slice A m c] w fun e w'=>e = .returned (.int .i64 (if okPs (ps.map PoC.po) then 0 else 80))/\Ext w w':=by
 have t0:=Aa (fun W hE=>KG ps A m c 65536 W hm (Cells.ext h.cells hE) p1);have e0:=Aa (fun xs A k c W h1 h2 h3=>KF xs A k c 1048576 W h1 h2 h3);obtain⟨R,hR⟩:=Ab (risB 65536 (-1) (ps.map (·.doc)));obtain⟨Z,hZ⟩:=Ab (if okPs (ps.map PoC.po) then 0 else 80:Int);have g0:okPs (ps.map PoC.po)=(R&&ps.all fun x=>okPo x.po):=by
  rw[Ed,List.map_map,hR,List.all_map];rfl
 rw[g0]at hZ;rw[g0,<-hZ];rw[<-hR]at t0;unfold docV at t0;unfold idV at e0;replace hZ:=Aa hZ;replace hR:=Aa hR;replace hm:=Aa hm;replace h:=Aa h;clear g0
 go_in
 go_wp2_with fail;refine(t0.out _ (Ext.refl w)).mono ?_;rintro e w1 ⟨rfl,l0⟩;go_wp2_with fail
 go_loopw [3,10] (fun s3 s10 wr=>∃(i:Nat) (b:Bool),s3 = .bool b/\s10 = .int .i64 (i:Int)/\i<=m/\Hid (b=(R&&(ps.take i).all fun x=>okPo x.po))/\Hid (Ext w wr)) (fun _ s10 _=>m - (intOf s10).toNat)
 case atStart=>exact⟨0,R,rfl,rfl,by omega,Aa (by simp),Aa l0⟩
 case round =>
  obtain⟨i,b,rfl,rfl,hi,hb,hE⟩:=hrel;by_cases q1:i<m
  ·obtain⟨x,G⟩:∃x,ps[i]? = some x:=⟨_,List.getElem?_eq_getElem (by rw[<-hm.out];exact q1)⟩
   obtain⟨g,o,hA,o0,b0⟩:=Bc (h.out.cells.ext hE.out) G;subst hA;have hx:=h.out.each x (List.mem_of_getElem? G);have v0:=HR (f:=fun x:PoC=>okPo x.po) G;obtain⟨W2,Y⟩:=Ab (wr.alloc (.cells #[.int .i64 x.doc,.slice x.A x.pos.length x.c] 127));have U:Ext w W2:=by rw[Y];exact hE.out.alloc _
   have q0:=Aa (fun W hE=>e0.out x.pos x.A x.pos.length x.c W rfl (Cells.ext hx.1 (Ext.trans U hE)) hx.2);have J:Row W2 wr.heap.size 127 #[.int .i64 x.doc,.slice x.A x.pos.length x.c]:=by rw[Y];exact Row.new wr _ _
   have H:Hid (∀v:Bool,v=(b&&okPo x.po)->v=(R&&(ps.take (i+1)).all fun x=>okPo x.po)):=Aa (by
    intro v hv;rw[hv,hb.out,v0,Bool.and_assoc])
   have k0:okPo x.po=(decide (0<x.pos.length)&&risB 1048576 (-1) x.pos):=rfl;rw[k0]at H;have c0:=hx.2;replace v0:=Aa v0;replace hb:=Aa hb;replace G:=Aa G;replace hx:=Aa hx;clear k0;obtain⟨d,pos,B,cB⟩:=x;simp only at o0 b0 q0 H J c0 Y;obtain⟨pl,m0⟩:=Ab pos.length;rw[<-m0]at b0 q0 H J c0 Y;replace m0:=Aa m0;obtain⟨g2,O⟩:=Ab wr.heap.size;rw[<-O]at J;have r0:=J.cell 0 rfl;have r1:=J.cell 1 rfl;replace J:=Aa J;replace O:=Aa O;replace U:=Aa U;replace Y:=Aa Y;cases b with
   | false =>
    have hv:=Aa (H.out false rfl);clear H;go_upto_region 5 with fail;rw[<-Y.out,<-O.out];go_wp2_with fail;exact⟨⟨i+1,false,rfl,rfl,by omega,hv,U⟩,by simp only[intOf];omega⟩
   | true =>
    by_cases h0:0<pl
    ·obtain⟨v,y0⟩:=Ab (risB 1048576 (-1) pos);rw[<-y0]at q0 H;have hv:=Aa (H.out v (by rw[decide_eq_true h0,Bool.true_and,Bool.true_and]));clear H;replace y0:=Aa y0;go_upto_region 5 with fail;rw[<-Y.out,<-O.out];go_wp2_with fail;refine(q0.out _ (Ext.refl W2)).mono ?_;rintro e w3 ⟨rfl,n0⟩;go_wp2_with fail;exact⟨⟨i+1,v,rfl,rfl,by omega,hv,Aa (U.out.trans n0)⟩,by simp only[intOf];omega⟩
    ·have hv:=Aa (H.out false (by rw[decide_eq_false h0];rfl));clear H;go_upto_region 5 with fail;rw[<-Y.out,<-O.out];go_wp2_with fail;exact⟨⟨i+1,false,rfl,rfl,by omega,hv,U⟩,by simp only[intOf];omega⟩
  ·obtain rfl:i=m:=by omega
   have I:=hb.out;rw[List.take_of_length_le (by rw[<-hm.out];exact Nat.le_refl _)]at I;rw[<-I]at hZ;cases b with
   | true =>
    obtain rfl:Z=0:=hZ.out;clear I hb;go_wp2_with fail;go_ret;exact⟨rfl,hE.out⟩
   | false =>
    obtain rfl:Z=80:=hZ.out;clear I hb;go_wp2_with fail;go_ret;exact⟨rfl,hE.out⟩
end
end Go.Proofs.YtpnlihgcboepeaaGreat
