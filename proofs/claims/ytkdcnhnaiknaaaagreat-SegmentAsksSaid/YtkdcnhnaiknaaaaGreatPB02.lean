/- Texts of one proof, joined. -/
import Derived.Test.YtkdcnhnaiknaaaaGreatPB01
import Derived.Lib.ConvBytes
import Derived.Laws.BitsAllLaws
import Derived.Deep.CutRange
import Derived.Deep.DeepCutAuto
import Derived.Test.YtkdcnhnaiknaaaaGreatPBShelf
import Derived.Deep.Onto
import Derived.WalkMore
import Derived.Test.YtkdcnhnaiknaaaaGreatRows
import Derived.WalkKit
import Derived.ProofKit
import Derived.OpenShut
import Derived.ShutString
import Derived.ChangeOld
import Derived.Below
import Derived.Deep.Slices
import Derived.Deep.Fields
import Derived.ChangeSame
import Derived.SliceStrings
set_option linter.unusedSimpArgs false
set_option linter.unusedVariables false
set_option maxRecDepth 100000
set_option maxHeartbeats 16000000
namespace Go.Proofs.YtkdcnhnaiknaaaaGreat
section
open Go.RowKit
structure Push (w:World) (A A1:Option Addr) (w':World):Prop where
  chg:Chg (fun k=>∃a,A=some a/\a.block=k) w w'
  new:A1=A\/∃a,A1=some a/\w.heap.size<=a.block
theorem Push.refl (w:World) (A:Option Addr):Push w A A w:=⟨Chg.refl _ _,.inl rfl⟩
theorem Push.of_ext {w w1:World} (h:Ext w w1) (A:Option Addr):Push w A A w1:=⟨Chg.of_ext h _,.inl rfl⟩
theorem Push.trans {w w1 w2:World} {A A1 A2:Option Addr} (h:Push w A A1 w1) (k:Push w1 A1 A2 w2):Push w A A2 w2:=by
 refine⟨h.chg.trans k.chg fun i hi ⟨a,ha,hk⟩=>?_,?_⟩
 ·rcases h.new with rfl | ⟨b,hb,h0⟩
  ·exact⟨a,ha,hk⟩
  ·rw[ha]at hb;cases hb;omega
 ·rcases k.new with rfl | ⟨b,hb,h0⟩
  ·exact h.new
  ·exact .inr ⟨b,hb,Nat.le_trans h.chg.size h0⟩
theorem Push.ext {w0 w w1:World} {A A1:Option Addr} (h:Push w A A1 w1) (hE:Ext w0 w) (hA:∀a,A=some a->w0.heap.size<=a.block):Ext w0 w1 :=
 hE.chg h.chg fun i hi ⟨a,ha,hk⟩=>by have:=hA a ha;omega
theorem Push.cells {w w1:World} {A A1 B:Option Addr} {xs:List Value} (h:Push w A A1 w1) (hB:Cells w B xs) (hn:∀a b,A=some a->B=some b->a.block≠b.block):Cells w1 B xs :=
 h.chg.cells hB fun b hb ⟨a,ha,hk⟩=>hn a b ha hb hk
theorem Push.row {w w1:World} {A A1:Option Addr} {g:Nat} {t:TypeId} {cs:Array Value} (h:Push w A A1 w1) (hr:Row w g t cs) (hn:∀a,A=some a->a.block≠g):Row w1 g t cs :=
 h.chg.row hr fun⟨a,ha,hk⟩=>hn a ha hk
theorem Push.away {w w1:World} {A A1:Option Addr} {g:Nat} (h:Push w A A1 w1) (hg:g<w.heap.size) (hn:∀a,A=some a->a.block≠g):∀a,A1=some a->a.block≠g:=fun a ha=>by
 rcases h.new with rfl | ⟨b,hb,h0⟩
 ·exact hn a ha
 ·rw[ha]at hb;cases hb;omega
theorem ZDf (s:List UInt8) (w:World):∃c w1,(convert 9 25 (.string ⟨s.toArray⟩)).run Tryz.prog w = .ok (.slice (some ⟨w.heap.size,0,none⟩) s.length c) w1/\Bs w1 (some ⟨w.heap.size,0,none⟩) s/\Ext w w1/\w1.heap.size=w.heap.size+1:=by
 refine⟨grownCap w s.length 0 5,Lib.bytesWorld w 5 ⟨s.toArray⟩,?_,?_,?_,Lib.bytesWorld_size _ _ _⟩
 ·exact Lib.run_convert_string_bytes w 9 25 5 ⟨s.toArray⟩ Tryz.underlying9 Tryz.underlying25 Tryz.underlying5
 ·refine .inr ⟨w.heap.size,0,rfl,fun i v hv=>?_⟩;rw[List.getElem?_map]at hv;obtain⟨b,hb,rfl⟩:=Option.map_eq_some_iff.1 hv;have hi:=(List.getElem?_eq_some_iff.1 hb).1;have h:=Lib.bytesWorld_cell w 5 ⟨s.toArray⟩ i (by rw[ByteArray.size_mk_toArray];exact hi);rw[Nat.zero_add,h];unfold B8;simp[List.getD,hb]
 ·unfold Lib.bytesWorld;rw[show w.heap.size=w.drew.heap.size from rfl,ZEp];exact(Ext.refl w).drew.alloc _
structure Frm where
  k:Nat
  msk:Nat
  hd:Nat
  lo:Nat
  hi:Nat
  d:Nat
  q:Nat
def frm (i:Nat):Frm:=if i=0 then ⟨1,224,192,128,2047,32,6⟩ else if i=1 then ⟨2,240,224,2048,65535,16,14⟩ else ⟨3,248,240,65536,1114111,8,30⟩
def Frm.cells (f:Frm):Array Value:=#[.int .i64 ((f.k:Int)+1),.int .u8 (f.msk:Int),.int .u8 (f.hd:Int),.int .i64 (f.lo:Int),.int .i64 (f.hi:Int),.int .i64 (-1)]
theorem three {i:Nat} (h:i<3):i=0\/i=1\/i=2:=by omega
theorem ZMa {i:Nat} (hi:i<3) (W:World):(Instr.index 277 (.agg formC) (.int .i64 (i:Int))).run Tryz.prog W = .ok (.agg (frm i).cells) W:=by
 rcases three hi with rfl | rfl | rfl
 ·show _=_
  kernel_rfl
 ·show _=_
  kernel_rfl
 ·show _=_
  kernel_rfl
theorem ZN4:∀b:Fin 256,∀i:Fin 3,bits .and .u8 ((b.val:Nat):Int) ((frm i.val).msk:Int)=((b.val / (frm i.val).d*(frm i.val).d:Nat):Int):=by decide +kernel
theorem ZNW:∀b:Fin 256,∀i:Fin 3,bits .andNot .u8 ((b.val:Nat):Int) ((frm i.val).msk:Int)=((b.val%(frm i.val).d:Nat):Int):=by decide +kernel
theorem ZM4:∀i:Fin 3,(frm i.val).hd=(frm i.val).q*(frm i.val).d/\0<(frm i.val).d/\(frm i.val).d<=32/\(frm i.val).k<=3/\(frm i.val).hi<=1114111:=by decide +kernel
theorem ZMO {i:Nat} (hi:i<3) (b:UInt8):(bits .and .u8 (b.toNat:Int) ((frm i).msk:Int)=((frm i).hd:Int))↔b.toNat / (frm i).d=(frm i).q:=by
 have h1:=ZN4 ⟨b.toNat,b.toNat_lt⟩ ⟨i,hi⟩;have h2:=ZM4 ⟨i,hi⟩;simp only at h1 h2;rw[h1,h2.1];constructor
 ·intro h;exact Nat.eq_of_mul_eq_mul_right h2.2.1 (Int.ofNat.inj h)
 ·intro h;rw[h]
theorem ZOj (b:UInt8):bits .and .u8 (b.toNat:Int) 63=((b.toNat%64:Nat):Int):=by
 have h:∀k:Fin 256,bits .and .u8 ((k.val:Nat):Int) 63=((k.val%64:Nat):Int):=by decide +kernel
 exact h ⟨b.toNat,b.toNat_lt⟩
theorem ZOT (b:UInt8):(bits .and .u8 (b.toNat:Int) 192=128)↔contB b=true:=by
 have h:∀k:Fin 256,(bits .and .u8 ((k.val:Nat):Int) 192=128)↔k.val / 64==2:=by decide +kernel
 exact h ⟨b.toNat,b.toNat_lt⟩
theorem ZI5 (a b:Nat) (ha:a<4611686018427387904) (hb:b<4611686018427387904):bits .or .i64 (a:Int) (b:Int)=((a ||| b:Nat):Int):=by
 have hx:a ||| b<2^62:=Nat.or_lt_two_pow (by omega) (by omega)
 have h1:(BitVec.ofInt 64 (a:Int)).toNat=a:=by
  rw[BitVec.ofInt_natCast,BitVec.toNat_ofNat];exact Nat.mod_eq_of_lt (by omega)
 have h2:(BitVec.ofInt 64 (b:Int)).toNat=b:=by
  rw[BitVec.ofInt_natCast,BitVec.toNat_ofNat];exact Nat.mod_eq_of_lt (by omega)
 show IntKind.i64.wrap ((BitVec.ofInt 64 (a:Int) ||| BitVec.ofInt 64 (b:Int)).toNat:Int)=_;rw[BitVec.toNat_or,h1,h2,IntKind.wrap_i64];omega
theorem or6 (x y:Nat) (hx:x<1073741824) (hy:y<64):bits .or .i64 ((x:Int)*64) (y:Int)=((x*64+y:Nat):Int):=by
 have:=Nat.shiftLeft_add_eq_or_of_lt (i:=6) (b:=y) hy x;rw[Nat.shiftLeft_eq]at this;rw[show (x:Int)*64=((x*64:Nat):Int)by omega,ZI5 _ _ (by omega) (by omega),<-this]
def okF (i:Nat) (b:UInt8) (t:List UInt8):Bool:=b.toNat / (frm i).d==(frm i).q&&okR (frm i).lo (frm i).hi (b.toNat%(frm i).d) (frm i).k t
theorem ZLR {i:Nat} {b:UInt8} {t:List UInt8} (hi:i<3) (hb:¬ b.toNat<128) (hn:∀j,j<i->okF j b t=false) (h:okF i b t=true):decR (b::t)=(foldR (b.toNat%(frm i).d) (t.take (frm i).k),(frm i).k+1):=by
 rw[decR,if_neg hb];rcases three hi with rfl | rfl | rfl
 ·exact if_pos h
 ·have h0:=hn 0 (by omega);rw[if_neg (by rw[show (b.toNat / 32==6&&okR 128 2047 (b.toNat%32) 1 t)=false from h0];decide)];exact if_pos h
 ·have h0:=hn 0 (by omega);have h1:=hn 1 (by omega);rw[if_neg (by rw[show (b.toNat / 32==6&&okR 128 2047 (b.toNat%32) 1 t)=false from h0];decide),if_neg (by rw[show (b.toNat / 16==14&&okR 2048 65535 (b.toNat%16) 2 t)=false from h1];decide)];exact if_pos h
theorem ZKB {b:UInt8} {t:List UInt8} (hb:¬ b.toNat<128) (hn:∀j,j<3->okF j b t=false):decR (b::t)=(65533,1):=by
 have h0:=hn 0 (by omega);have h1:=hn 1 (by omega);have h2:=hn 2 (by omega);rw[decR,if_neg hb,if_neg (by rw[show (b.toNat / 32==6&&okR 128 2047 (b.toNat%32) 1 t)=false from h0];decide),if_neg (by rw[show (b.toNat / 16==14&&okR 2048 65535 (b.toNat%16) 2 t)=false from h1];decide),if_neg (by rw[show (b.toNat / 8==30&&okR 65536 1114111 (b.toNat%8) 3 t)=false from h2];decide)]
theorem ZFj (n:Nat) (l:List UInt8):foldR n l<(n+1)*64^l.length:=by
 induction l generalizing n with
 | nil=>simp[foldR]
 | cons b l ih =>
  have h:=ih (n*64+b.toNat%64);rw[List.length_cons,Nat.pow_succ];refine Nat.lt_of_lt_of_le (show foldR n (b::l)<_ from h) ?_;rw[show (n+1)*(64^l.length*64)=(n*64+64)*64^l.length by rw[Nat.mul_comm (64^l.length) 64,<-Nat.mul_assoc,Nat.add_mul n 1 64]];exact Nat.mul_le_mul_right _ (by omega)
theorem ZEM (n:Nat) (l:List UInt8) (b:UInt8):foldR n (l ++ [b])=foldR n l*64+b.toNat%64:=by
 unfold foldR;rw[List.foldl_append];rfl
theorem ZAZ {n:Nat} {l:List UInt8} (hn:n<32) (hl:l.length<=3):foldR n l<8388608:=by
 have h:=ZFj n l;have h2:(n+1)*64^l.length<=32*64^3:=Nat.mul_le_mul (by omega) (Nat.pow_le_pow_right (by omega) hl);omega
theorem ZLt (l:List UInt8) (a b:Nat):(⟨l.toArray⟩:ByteArray).extract a b=⟨((l.drop a).take (b - a)).toArray⟩:=by
 have:((⟨l.toArray⟩:ByteArray).extract a b).data=((l.drop a).take (b - a)).toArray:=by
  rw[ByteArray.data_extract,List.extract_toArray,List.extract_eq_take_drop]
 generalize (⟨l.toArray⟩:ByteArray).extract a b=x at this;cases x;subst this;rfl
theorem ZNf {w:World} {g:Nat} {l:List UInt8} (h:Bs w (some ⟨g,0,none⟩) l) {j:Nat} {b:UInt8} (hb:l[j]? = some b):w.cell? ⟨g,j,none⟩=some (.int .u8 (b.toNat:Int)):=by
 obtain⟨g',o,hA,hc⟩:=Cells.at_ h (by rw[List.length_map];exact Nat.lt_of_le_of_lt (Nat.zero_le _) (List.getElem?_eq_some_iff.1 hb).1);cases hA;have:=hc j (B8 b) (by rw[List.getElem?_map,hb];rfl)
 rwa [Nat.zero_add]at this
theorem ZHW (l:List UInt8) (at_:Nat) (b:UInt8) (w:World) (hb:l[at_]? = some b) (hl:l.length<=1073741824) (x1:¬ b.toNat<128) :
 Calls Tryz.prog 191 #[.string ⟨l.toArray⟩,.int .i64 (at_:Int)] w fun e w'=>e = .returned (.tuple #[.int .i64 (decR (l.drop at_)).1,.int .i64 (decR (l.drop at_)).2])/\Ext w w':=by
 have r1:=(List.getElem?_eq_some_iff.1 hb).1;have v2:=fun W=>ZO hb (z:=(at_:Int)) rfl W;have q0:=ZA (fun W=>ZKx W);obtain⟨F,hF⟩:∃F,F=formC:=⟨_,rfl⟩
 rw[<-hF]at q0;have z0:=fun i (h:i<3) W=>ZMa h W;rw[<-hF]at z0;unfold Frm.cells at z0;replace z0:=ZA z0;replace hF:=ZA hF;obtain⟨t,ht⟩:∃t,t=l.drop (at_+1):=⟨_,rfl⟩
 have p1:l.drop at_=b::t:=by
  rw[ht,List.drop_eq_getElem_cons r1];congr 1;exact(List.getElem?_eq_some_iff.1 hb).2
 have w0:t.length=l.length - (at_+1):=by rw[ht,List.length_drop]
 obtain⟨R,hR⟩:∃R,R=decR (b::t):=⟨_,rfl⟩
 rw[p1,<-hR];replace p1:=ZA p1;replace ht:=ZA ht;replace hR:=ZA hR;replace w0:=ZA w0;have s1:¬ (b.toNat:Int)<128:=by omega
 replace hb:=ZA hb;go_enter Tryz.func191,Tryz.ntmps191;go_wp2_with fail;refine(q0.out _).mono ?_;rintro e w1 ⟨rfl,l1⟩;go_wp2_with fail
 go_loopw [29] (fun s29 wr=>∃i:Nat,s29 = .int .i64 (i:Int)/\i<=3/\Ext w wr/\(∀j,j<i->okF j b t=false)) (fun s29 _=>3 - (intOf s29).toNat)
 case atStart=>exact⟨0,rfl,by omega,l1,fun j hj=>absurd hj (by omega)⟩
 case round =>
  obtain⟨i,rfl,t2,hE,g0⟩:=hrel;replace g0:=ZA g0;by_cases hi:i<3
  ·obtain⟨f,hf⟩:∃f,f=frm i:=⟨_,rfl⟩
   have y1:=z0.out i hi;have t0:=ZMO hi b;have r0:=ZNW ⟨b.toNat,b.toNat_lt⟩ ⟨i,hi⟩;have k0:=ZM4 ⟨i,hi⟩;simp only at r0 k0;rw[<-hf]at y1 t0 r0 k0;obtain⟨k,msk,hd,lo,l0,d,q'⟩:=f;simp only at y1 t0 r0 k0;obtain⟨n0,a0⟩:∃n0,n0=b.toNat%d:=⟨_,rfl⟩
   rw[<-a0]at r0;have t1:n0<32:=by
    have:=Nat.mod_lt b.toNat k0.2.1;omega
   replace a0:=ZA a0;replace hf:=ZA hf;by_cases hA:bits .and .u8 (b.toNat:Int) (msk:Int)=(hd:Int)
   ·replace t0:=ZA t0;by_cases hk:k<=t.length
    ·have p2:((k:Int)+1)<=(l.length:Int) - (at_:Int):=by have:=w0.out;omega
     obtain⟨T,hT⟩:∃T,T=t.take k:=⟨_,rfl⟩
     have o1:T.length=k:=by rw[hT,List.length_take];omega
     obtain⟨W0,v0⟩:∃W0,W0=wr.alloc (.cells #[.int .i64 ((k:Int)+1),.int .u8 (msk:Int),.int .u8 (hd:Int),.int .i64 (lo:Int),.int .i64 (l0:Int),.int .i64 (-1)] 276):=⟨_,rfl⟩
     obtain⟨c,W1,j1,hB,x0,f1⟩:=ZDf T W0;have g2:(⟨l.toArray⟩:ByteArray).extract (at_+1) (at_+(k+1))=⟨T.toArray⟩:=by
      rw[ZLt,<-ht.out,hT,show at_+(k+1) - (at_+1)=k by omega]
     rw[o1]at j1;replace hT:=ZA hT;have c1:=Row.new wr 276 #[.int .i64 ((k:Int)+1),.int .u8 (msk:Int),.int .u8 (hd:Int),.int .i64 (lo:Int),.int .i64 (l0:Int),.int .i64 (-1)];rw[<-v0]at c1;have d1:=Row.ext c1 x0;have c0:Ext w W1:=((hE.alloc _).trans (by rw[<-v0];exact x0))
     have z1:W0.heap.size=wr.heap.size+1:=by rw[v0];simp
     have f0:=d1.get;obtain⟨g1,m1⟩:∃g1,g1=W0.heap.size:=⟨_,rfl⟩
     rw[<-m1]at j1 hB;replace m1:=ZA m1;rw[v0]at j1;obtain⟨g,hg⟩:∃g,g=wr.heap.size:=⟨_,rfl⟩
     replace z1:=ZA z1;have k1:=f0;rw[<-hg]at k1;have x2:k<=3:=k0.2.2.2.1;replace k0:=ZA k0;replace hg:=ZA hg;replace v0:=ZA v0;replace hB:=ZA hB;replace f1:=ZA f1;have p0:=fun(j:Nat) (b':UInt8) (h:T[j]? = some b')=>ZNf hB.out h;replace f0:=ZA f0;go_upto_region 12 with (fail)
     go_loopw [63,9,10] (fun s63 s9 s10 wr'=>∃(j X:Nat) (q:Bool),s63 = .int .i64 (j:Int)/\s9 = .int .i64 (X:Int)/\s10 = .bool q/\j<=k/\X=foldR n0 (T.take j)/\q=(T.take j).all contB/\wr'=W1) (fun s63 _ _ _=>k - (intOf s63).toNat)
     case atStart=>exact⟨0,n0,true,rfl,rfl,rfl,by omega,rfl,rfl,rfl⟩
     case round =>
      obtain⟨j,X,q,rfl,rfl,rfl,u2,hX,hq,rfl⟩:=hrel;by_cases hj:j<k
      ·obtain⟨b',e0⟩:∃b',T[j]? = some b':=⟨_,List.getElem?_eq_getElem (by omega)⟩
       have y2:=p0 j b' e0;have i1:=ZOj b';have m2:X<8388608:=by rw[hX];exact ZAZ t1 (by rw[List.length_take];omega)
       have b1:=or6 X (b'.toNat%64) (by omega) (by omega);obtain⟨y,hy⟩:∃y,y=b'.toNat%64:=⟨_,rfl⟩
       rw[<-hy]at i1 b1;obtain⟨X2,d0⟩:∃X2,X2=X*64+y:=⟨_,rfl⟩
       rw[<-d0]at b1;have h1:T.take (j+1)=T.take j ++ [b']:=by rw[List.take_add_one,e0];rfl
       have q1:X2=foldR n0 (T.take (j+1)):=by rw[h1,ZEM,<-hX,d0,hy]
       have s0:(q&&contB b')=(T.take (j+1)).all contB:=by rw[h1,List.all_append,<-hq];simp
       have j0:=ZOT b';have j2:y<64:=by omega
       replace hy:=ZA hy;replace d0:=ZA d0;replace hX:=ZA hX;replace hq:=ZA hq;replace e0:=ZA e0;replace h1:=ZA h1;replace q1:=ZA q1;replace s0:=ZA s0;replace p0:=ZA p0;obtain⟨qb,v1⟩:∃qb,qb=contB b':=⟨_,rfl⟩
       rw[<-v1]at j0 s0;replace v1:=ZA v1;cases q <;> cases qb
       all_goals
        have m0:=j0;simp only[Bool.false_eq_true,iff_true,iff_false,iff_self]at m0;replace j0:=ZA j0;go_wp2_with fail
        case roundEnd=>exact⟨⟨j+1,X2,_,rfl,rfl,rfl,by omega,q1.out,by rw[<-s0.out];first | rfl | simp[m0],trivial⟩,by simp only[intOf];omega⟩
      ·obtain rfl:j=k:=by omega
       have n1:T.take j=T:=List.take_of_length_le (by omega);rw[n1]at hX hq;have o0:=fun W=>ZLI (lo:Int) (l0:Int) (-1) (X:Int) W;have i0:=fun W=>ZBd (X:Int) W;obtain⟨z,hz⟩:∃z,z=inB (lo:Int) (l0:Int) (-1) (X:Int):=⟨_,rfl⟩
       obtain⟨v,hv⟩:∃v,v=(decide (55296<=(X:Int))&&decide ((X:Int)<=57343)):=⟨_,rfl⟩
       rw[<-hz]at o0;rw[<-hv]at i0;have u0:okF i b t=(q&&z && !v):=by
        unfold okF okR;rw[<-hf.out];simp only;rw[<-a0.out,<-hT.out,<-hX,<-hq,hz,hv,show (b.toNat / d==q')=true from beq_iff_eq.2 (t0.out.1 hA)];unfold inB;have e1:(55296<=(X:Int))↔55296<=X:=by omega
        have e2:((X:Int)<=57343)↔X<=57343:=by omega
        have e3:((X:Int) != -1)=true:=bne_iff_ne.2 (by omega);simp only[e1,e2,e3,Int.ofNat_le,hk,decide_true,Bool.true_and,Bool.and_true,Bool.and_assoc]
       replace o0:=ZA o0;replace i0:=ZA i0;replace u0:=ZA u0;replace hX:=ZA hX;replace hq:=ZA hq;replace hz:=ZA hz;replace hv:=ZA hv;replace p0:=ZA p0;have h2:=f0.out;cases q
       ·go_wp2_with fail
        case roundEnd =>
         refine⟨⟨i+1,rfl,by omega,c0,fun j' a1=>?_⟩,by simp only[intOf];omega⟩;by_cases h:j'<i
         ·exact g0.out j' h
         ·obtain rfl:j'=i:=by omega
          exact u0.out
       ·go_wp2_with fail;refine(o0.out _).mono ?_;rintro e w2 ⟨rfl,b0⟩;cases z
        ·go_wp2_with fail
         case roundEnd =>
          refine⟨⟨i+1,rfl,by omega,(c0.trans b0),fun j' a1=>?_⟩,by simp only[intOf];omega⟩;by_cases h:j'<i
          ·exact g0.out j' h
          ·obtain rfl:j'=i:=by omega
           exact u0.out
        ·go_wp2_with fail;refine(i0.out _).mono ?_;rintro e w3 ⟨rfl,rfl⟩;cases v
         ·have y0:=ZLR hi x1 g0.out u0.out;rw[<-hf.out,<-a0.out,<-hR.out]at y0;simp only at y0;rw[<-hT.out,<-hX.out]at y0;obtain⟨R1,R2⟩:=R;simp only[Prod.mk.injEq]at y0;obtain⟨rfl,rfl⟩:=y0;have k2:=Row.ext d1 b0;have q2:=k2.get;go_wp2_with fail;go_quiet (fail);go_wp2_with fail;go_ret2;exact⟨rfl,(c0.trans b0).drewN _⟩
         ·go_wp2_with fail
          case roundEnd =>
           refine⟨⟨i+1,rfl,by omega,(c0.trans b0),fun j' a1=>?_⟩,by simp only[intOf];omega⟩;by_cases h:j'<i
           ·exact g0.out j' h
           ·obtain rfl:j'=i:=by omega
            exact u0.out
    ·have p2:¬ ((k:Int)+1)<=(l.length:Int) - (at_:Int):=by have:=w0.out;omega
     have h0:okF i b t=false:=by
      unfold okF okR;rw[<-hf.out];simp[hk]
     replace h0:=ZA h0;replace k0:=ZA k0;go_wp2_with fail
     case roundEnd =>
      refine⟨⟨i+1,rfl,by omega,(hE.alloc _),fun j hj=>?_⟩,by simp only[intOf];omega⟩;by_cases h:j<i
      ·exact g0.out j h
      ·obtain rfl:j=i:=by omega
       exact h0.out
   ·have h0:okF i b t=false:=by
     unfold okF;rw[<-hf.out];have:¬ b.toNat / d=q':=fun h=>hA (t0.2 h);simp[this]
    replace h0:=ZA h0;replace t0:=ZA t0;replace k0:=ZA k0;go_wp2_with fail
    case roundEnd =>
     refine⟨⟨i+1,rfl,by omega,(hE.alloc _),fun j hj=>?_⟩,by simp only[intOf];omega⟩;by_cases h:j<i
     ·exact g0.out j h
     ·obtain rfl:j=i:=by omega
      exact h0.out
  ·obtain rfl:i=3:=by omega
   have u1:R=(65533,1):=by
    rw[hR.out];exact ZKB x1 g0.out
   obtain⟨R1,R2⟩:=R;simp only[Prod.mk.injEq]at u1;obtain⟨rfl,rfl⟩:=u1;go_wp2_with fail
   all_goals
    go_ret2;exact⟨rfl,hE⟩
structure Spn where
  lo:Int
  hi:Int
  but:Int
def Spn.cells (s:Spn):Array Value:=#[.int .i64 s.lo,.int .i64 s.hi,.int .i64 s.but]
def Spn.has (s:Spn) (z:Int):Bool:=inB s.lo s.hi s.but z
def spL (i:Nat):Spn:=if i=0 then ⟨65,90,-1⟩ else if i=1 then ⟨192,222,215⟩ else if i=2 then ⟨913,939,930⟩ else ⟨1040,1071,-1⟩
def spW (i:Nat):Spn:=if i=0 then ⟨48,57,-1⟩ else if i=1 then ⟨65,90,-1⟩ else if i=2 then ⟨97,122,-1⟩ else if i=3 then ⟨192,255,215⟩ else if i=4 then ⟨913,974,930⟩ else ⟨1024,1119,-1⟩
def LC:Array Value:=#[.int .i64 65,.int .i64 90,.int .i64 (-1),.int .i64 192,.int .i64 222,.int .i64 215,.int .i64 913,.int .i64 939,.int .i64 930,.int .i64 1040,.int .i64 1071,.int .i64 (-1)]
def WC:Array Value:=#[.int .i64 48,.int .i64 57,.int .i64 (-1),.int .i64 65,.int .i64 90,.int .i64 (-1),.int .i64 97,.int .i64 122,.int .i64 (-1),.int .i64 192,.int .i64 255,.int .i64 215,.int .i64 913,.int .i64 974,.int .i64 930,.int .i64 1024,.int .i64 1119,.int .i64 (-1)]
theorem four {i:Nat} (h:i<4):i=0\/i=1\/i=2\/i=3:=by omega
theorem six {i:Nat} (h:i<6):i=0\/i=1\/i=2\/i=3\/i=4\/i=5:=by omega
theorem ZNY {i:Nat} (hi:i<4) (W:World):(Instr.index 279 (.agg LC) (.int .i64 (i:Int))).run Tryz.prog W = .ok (.agg (spL i).cells) W:=by
 rcases four hi with rfl | rfl | rfl | rfl
 ·show _=_
  kernel_rfl
 ·show _=_
  kernel_rfl
 ·show _=_
  kernel_rfl
 ·show _=_
  kernel_rfl
theorem ZNd {i:Nat} (hi:i<6) (W:World):(Instr.index 253 (.agg WC) (.int .i64 (i:Int))).run Tryz.prog W = .ok (.agg (spW i).cells) W:=by
 rcases six hi with rfl | rfl | rfl | rfl | rfl | rfl
 ·show _=_
  kernel_rfl
 ·show _=_
  kernel_rfl
 ·show _=_
  kernel_rfl
 ·show _=_
  kernel_rfl
 ·show _=_
  kernel_rfl
 ·show _=_
  kernel_rfl
theorem ZFR (lo hi but:Int) (r:Nat):(Spn.mk lo hi but).has (r:Int)=true↔lo<=r/\(r:Int)<=hi/\(r:Int)≠but:=by
 unfold Spn.has inB;simp only[Bool.and_eq_true,decide_eq_true_eq,bne_iff_ne,and_assoc]
theorem ZAc (lo hi but:Int) (r:Nat):(Spn.mk lo hi but).has (r:Int)=false↔¬ (lo<=r/\(r:Int)<=hi/\(r:Int)≠but):=by
 rw[<-ZFR,Bool.not_eq_true]
theorem ZJG {r i:Nat} (hi:i<4) (h:(spL i).has (r:Int)=true):lowerR r=r+32:=by
 unfold lowerR;rcases four hi with rfl | rfl | rfl | rfl
 all_goals
  have h:=(ZFR _ _ _ r).1 h;rw[if_pos (by omega)]
theorem ZLC {r:Nat} (h:∀i,i<4->(spL i).has (r:Int)=false):lowerR r=if inB 1024 1039 (-1) (r:Int)=true then r+80 else r:=by
 have h0:=(ZAc 65 90 (-1) r).1 (h 0 (by omega));have h1:=(ZAc 192 222 215 r).1 (h 1 (by omega));have h2:=(ZAc 913 939 930 r).1 (h 2 (by omega));have h3:=(ZAc 1040 1071 (-1) r).1 (h 3 (by omega));have h4:=ZFR 1024 1039 (-1) r;unfold Spn.has at h4;unfold lowerR;rw[if_neg (by omega)];by_cases h5:1024<=r/\r<=1039
 ·rw[if_pos h5,if_pos (h4.2 (by omega))]
 ·rw[if_neg h5,if_neg (fun h=>h5 (by have:=h4.1 h;omega))]
theorem ZJ3 {r i:Nat} (hi:i<6) (h:(spW i).has (r:Int)=true):wordR r=((r:Int) != 247):=by
 have e:((r:Int) != 247)=decide (r≠247):=by
  rw[Bool.eq_iff_iff];simp only[bne_iff_ne,decide_eq_true_eq];omega
 unfold wordR;rw[e,decide_eq_decide];rcases six hi with rfl | rfl | rfl | rfl | rfl | rfl
 all_goals
  have h:=(ZFR _ _ _ r).1 h;omega
theorem ZMw {r:Nat} (h:∀i,i<6->(spW i).has (r:Int)=false):wordR r=false:=by
 have h0:=(ZAc 48 57 (-1) r).1 (h 0 (by omega));have h1:=(ZAc 65 90 (-1) r).1 (h 1 (by omega));have h2:=(ZAc 97 122 (-1) r).1 (h 2 (by omega));have h3:=(ZAc 192 255 215 r).1 (h 3 (by omega));have h4:=(ZAc 913 974 930 r).1 (h 4 (by omega));have h5:=(ZAc 1024 1119 (-1) r).1 (h 5 (by omega));unfold wordR;rw[decide_eq_false_iff_not];omega
theorem ZLJ (r:Nat) (w:World) (hr:r<=1114111):Calls Tryz.prog 194 #[.int .i64 (r:Int)] w fun e w'=>e = .returned (.int .i64 (lowerR r:Int))/\Ext w w':=by
 have t0:=fun i (h:i<4) W=>ZNY h W;unfold LC Spn.cells at t0;replace t0:=ZA t0;have m0:=Row.new w 279 LC;unfold LC at m0;replace m0:=ZA m0;have k0:=ZA (fun i (h:i<4) hh=>ZJG (r:=r) h hh);have p0:=ZA (fun h=>ZLC (r:=r) h);obtain⟨z,hz⟩:∃z:Int,z=(r:Int):=⟨_,rfl⟩
 have x0:=ZA (fun lo hi but W=>ZLI lo hi but z W);obtain⟨y,hy⟩:∃y,y=lowerR r:=⟨_,rfl⟩
 rw[<-hz]at k0 p0 ⊢;rw[<-hy]at k0 p0 ⊢;have g0:0<=z:=by omega
 have g1:z<=1114111:=by omega
 replace hz:=ZA hz;replace hy:=ZA hy;replace hr:=ZA hr;go_enter Tryz.func194,Tryz.ntmps194;go_wp2_with (refine wpList_load_row rfl 279 (.tmp 3) rfl w.heap.size rfl 279 _ (0,0) _ m0.out Tryz.underlying279 rfl (by kernel_rfl) ?_)
 go_loopw [12] (fun s12 wr=>∃i:Nat,s12 = .int .i64 (i:Int)/\i<=4/\Hid (Ext w wr)/\Hid (∀j,j<i->(spL j).has z=false)) (fun s12 _=>4 - (intOf s12).toNat)
 case atStart=>exact⟨0,rfl,by omega,ZA ((Ext.refl w).alloc _),ZA (fun j hj=>absurd hj (by omega))⟩
 case round =>
  obtain⟨i,rfl,a0,hE,y0⟩:=hrel;by_cases hi:i<4
  ·have hx:=t0.out i hi;obtain⟨f,hf⟩:∃f,f=spL i:=⟨_,rfl⟩
   rw[<-hf]at hx;have h0:=ZA (fun W=>x0.out f.lo f.hi f.but W);obtain⟨b,hb⟩:∃b,b=f.has z:=⟨_,rfl⟩
   have v0:=hb;unfold Spn.has at v0;rw[<-v0]at h0;rw[hf]at hb;obtain⟨lo,z0,but⟩:=f;replace hb:=ZA hb;replace hf:=ZA hf;clear v0;simp only at hx h0;cases b with
   | true =>
    have u0:=k0.out i hi hb.out.symm;have j0:z+32=(y:Int):=by rw[u0];have:=hz.out;omega
    replace u0:=ZA u0;go_wp2_with fail;refine(h0.out _).mono ?_;rintro e w2 ⟨rfl,q0⟩;go_wp2_with fail;go_ret;exact⟨rfl,(hE.out.alloc _).trans q0⟩
   | false =>
    go_wp2_with fail;refine(h0.out _).mono ?_;rintro e w2 ⟨rfl,q0⟩;go_wp2_with fail;refine⟨⟨i+1,rfl,by omega,ZA ((hE.out.alloc _).trans q0),ZA (fun j hj=>?_)⟩,by simp only[intOf];omega⟩;by_cases h:j<i
    ·exact y0.out j h
    ·obtain rfl:j=i:=by omega
     exact hb.out.symm
  ·obtain rfl:i=4:=by omega
   have hn:=p0.out y0.out;have h0:=ZA (fun W=>x0.out 1024 1039 (-1) W);obtain⟨b,hb⟩:∃b,b=inB 1024 1039 (-1) z:=⟨_,rfl⟩
   rw[<-hb]at h0 hn;replace hb:=ZA hb;cases b with
   | true =>
    have j0:z+80=(y:Int):=by rw[hn,if_pos rfl];have:=hz.out;omega
    replace hn:=ZA hn;go_wp2_with fail;refine(h0.out _).mono ?_;rintro e w2 ⟨rfl,q0⟩;go_wp2_with fail;go_ret;exact⟨rfl,hE.out.trans q0⟩
   | false =>
    have j0:z=(y:Int):=by rw[hn,if_neg (by simp)];exact hz.out
    replace j0:=ZA j0;replace hn:=ZA hn;go_wp2_with fail;refine(h0.out _).mono ?_;rintro e w2 ⟨rfl,q0⟩;go_wp2_with fail;go_ret;exact⟨by rw[j0.out];rfl,hE.out.trans q0⟩
theorem ZIz (r:Nat) (w:World) (hr:r<=1114191):Calls Tryz.prog 177 #[.int .i64 (r:Int)] w fun e w'=>e = .returned (.bool (wordR r))/\Ext w w':=by
 have j0:=fun i (h:i<6) W=>ZNd h W;unfold WC Spn.cells at j0;replace j0:=ZA j0;have k0:=Row.new w 253 WC;unfold WC at k0;replace k0:=ZA k0;have q0:=ZA (fun i (h:i<6) hh=>ZJ3 (r:=r) h hh);have h0:=ZA (fun h=>ZMw (r:=r) h);obtain⟨z,hz⟩:∃z:Int,z=(r:Int):=⟨_,rfl⟩
 have x0:=ZA (fun lo hi but W=>ZLI lo hi but z W);obtain⟨y,hy⟩:∃y,y=wordR r:=⟨_,rfl⟩
 rw[<-hz]at q0 h0 ⊢;rw[<-hy]at q0 h0 ⊢;have g0:0<=z:=by omega
 have g1:z<=1114191:=by omega
 replace hz:=ZA hz;replace hy:=ZA hy;replace hr:=ZA hr;go_enter Tryz.func177,Tryz.ntmps177;go_wp2_with (refine wpList_load_row rfl 253 (.tmp 3) rfl w.heap.size rfl 253 _ (0,0) _ k0.out Tryz.underlying253 rfl (by kernel_rfl) ?_)
 go_loopw [14] (fun s14 wr=>∃i:Nat,s14 = .int .i64 (i:Int)/\i<=6/\Hid (Ext w wr)/\Hid (∀j,j<i->(spW j).has z=false)) (fun s14 _=>6 - (intOf s14).toNat)
 case atStart=>exact⟨0,rfl,by omega,ZA ((Ext.refl w).alloc _),ZA (fun j hj=>absurd hj (by omega))⟩
 case round =>
  obtain⟨i,rfl,z0,hE,u0⟩:=hrel;by_cases hi:i<6
  ·have hx:=j0.out i hi;obtain⟨f,hf⟩:∃f,f=spW i:=⟨_,rfl⟩
   rw[<-hf]at hx;have p0:=ZA (fun W=>x0.out f.lo f.hi f.but W);obtain⟨b,hb⟩:∃b,b=f.has z:=⟨_,rfl⟩
   have t0:=hb;unfold Spn.has at t0;rw[<-t0]at p0;rw[hf]at hb;obtain⟨lo,y0,but⟩:=f;replace hb:=ZA hb;replace hf:=ZA hf;clear t0;simp only at hx p0;cases b with
   | true =>
    have v0:=q0.out i hi hb.out.symm;replace v0:=ZA v0;go_wp2_with fail;refine(p0.out _).mono ?_;rintro e w2 ⟨rfl,m0⟩;go_wp2_with fail;go_ret;exact⟨by rw[v0.out];rfl,(hE.out.alloc _).trans m0⟩
   | false =>
    go_wp2_with fail;refine(p0.out _).mono ?_;rintro e w2 ⟨rfl,m0⟩;go_wp2_with fail;refine⟨⟨i+1,rfl,by omega,ZA ((hE.out.alloc _).trans m0),ZA (fun j hj=>?_)⟩,by simp only[intOf];omega⟩;by_cases h:j<i
    ·exact u0.out j h
    ·obtain rfl:j=i:=by omega
     exact hb.out.symm
  ·obtain rfl:i=6:=by omega
   have hn:=h0.out u0.out;replace hn:=ZA hn;go_wp2_with fail;go_ret;exact⟨by rw[hn.out];rfl,hE.out⟩
theorem ZGz (l:List UInt8) (at_:Nat) (w:World) (q0:at_<l.length) (hl:l.length<=1073741824) :
 Calls Tryz.prog 191 #[.string ⟨l.toArray⟩,.int .i64 (at_:Int)] w fun e w'=>e = .returned (.tuple #[.int .i64 (decR (l.drop at_)).1,.int .i64 (decR (l.drop at_)).2])/\Ext w w':=by
 obtain⟨b,hb⟩:∃b,l[at_]? = some b:=⟨_,List.getElem?_eq_getElem q0⟩
 by_cases p0:b.toNat<128
 ·have h0:decR (l.drop at_)=(b.toNat,1):=by
   rw[List.drop_eq_getElem_cons q0,(List.getElem?_eq_some_iff.1 hb).2,decR,if_pos p0]
  rw[h0];have j0:=fun W=>ZO hb (z:=(at_:Int)) rfl W;have k0:(b.toNat:Int)<128:=by omega
  replace hb:=ZA hb;replace h0:=ZA h0;go_enter Tryz.func191,Tryz.ntmps191;go_wp2_with fail
  all_goals
   go_ret2;exact⟨rfl,Ext.refl w⟩
 ·exact ZHW l at_ b w hb hl p0
theorem ZIu:Elem Tryz.prog 40 3 1 8:=⟨Tryz.underlying40,⟨_,_,rfl,rfl,rfl,rfl,rfl⟩,by omega,by omega⟩
def NV (n:Nat):Value:= .int .i64 (n:Int)
def NewN (w:World) (l:List Nat) (e:Ending) (w':World):Prop:=∃A c,e = .returned (.slice A l.length c)/\Buf w' w.heap.size 3 A l.length c (l.map NV)/\Ext w w'
theorem ZJ4 (l:List UInt8) (w:World) (hl:l.length<=1073741824) :
 Calls Tryz.prog 176 #[.string ⟨l.toArray⟩] w (NewN w (runesL l)):=by
 have h0:=ZA (fun at_ W (h:at_<l.length)=>ZGz l at_ W h hl);obtain⟨n,hn⟩:∃n,n=l.length:=⟨_,rfl⟩
 have hlen:(⟨l.toArray⟩:ByteArray).size=n:=by rw[hn];exact ByteArray.size_mk_toArray l
 rw[<-hn]at hl h0;replace hn:=ZA hn;go_enter Tryz.func176,Tryz.ntmps176;go_wp2_with fail
 go_loopw [3,4] (fun s3 s4 wr=>∃(at_ c:Nat) (A:Option Addr) (D:List Nat),s3 = .slice A D.length c/\s4 = .int .i64 (at_:Int)/\at_<=n/\D.length<=at_/\Hid (runesL l=D++runesL (l.drop at_))/\Hid (Buf wr w.heap.size 3 A D.length c (D.map NV))/\Hid (Ext w wr)) (fun _ s4 _=>n - (intOf s4).toNat)
 case atStart=>exact⟨0,0,none,[],rfl,rfl,by omega,by simp,ZA rfl,ZA (Buf.nil _ _ _),ZA (Ext.refl w)⟩
 case round =>
  obtain⟨at_,c,A,D,rfl,rfl,a0,hD,g0,hb,hE⟩:=hrel;by_cases h:at_<n
  ·have q0:=ZGK (s:=l) (at_:=at_) (by rw[<-hn.out];exact h);obtain⟨r,hr⟩:∃r,r=(decR (l.drop at_)).1:=⟨_,rfl⟩
   obtain⟨k,hk⟩:∃k,k=(decR (l.drop at_)).2:=⟨_,rfl⟩
   rw[<-hr,<-hk,<-hn.out]at q0;have k0:=ZA q0.1;have x0:=q0.2.1;have y0:=q0.2.2;clear q0;have hd:=ZA (fun W=>h0.out at_ W h);rw[<-hr,<-hk]at hd;replace hr:=ZA hr;replace hk:=ZA hk;go_wp2_with fail;refine(hd.out _).mono ?_;rintro e w2 ⟨rfl,j0⟩;have v0:=ZA (hb.out.ext j0);have p0:=hE.out.trans j0;have z0:=p0.size;replace p0:=ZA p0;go_wp2_with (at_builtin;refine ZM ZIu v0.out (.tmp 17) (.tmp 19) rfl rfl rfl rfl (ZS rfl) (by simp;omega) z0 (fun A3 c3 w4 u0 t0=>?_));go_roundw
   case rel=>exact⟨at_+k,c3,A3,D ++ [r],by simp,by simp,by omega,by simp;omega,ZA (by rw[g0.out,k0.out];simp),ZA (by simpa [NV]using u0),ZA (t0 w p0.out (Nat.le_refl _))⟩
   case measure=>simp[intOf];omega
  ·obtain rfl:at_=n:=by omega
   have m0:D=runesL l:=by
    rw[g0.out,List.drop_eq_nil_of_le (by rw[<-hn.out];exact Nat.le_refl _),ZEu,List.append_nil]
   subst m0;go_wp2_with fail;go_ret;exact⟨A,c,rfl,hb.out,hE.out⟩
theorem ZOM (x:Nat) (hx:x<4611686018427387904):bits .and .i64 (x:Int) 63=((x%64:Nat):Int):=by
 have h1:(BitVec.ofInt 64 (x:Int)).toNat=x:=by
  rw[BitVec.ofInt_natCast,BitVec.toNat_ofNat];exact Nat.mod_eq_of_lt (by omega)
 have h2:(BitVec.ofInt 64 63).toNat=63:=by decide
 show IntKind.i64.wrap ((BitVec.ofInt 64 (x:Int) &&& BitVec.ofInt 64 63).toNat:Int)=_;rw[BitVec.toNat_and,h1,h2,show x &&& 63=x%64 from Nat.and_two_pow_sub_one_eq_mod x 6,IntKind.wrap_i64];omega
theorem ZOk (y:Nat) (hy:y<64):bits .or .u8 128 ((y:Int)%256)=((128+y:Nat):Int):=by
 have h:∀k:Fin 64,bits .or .u8 128 (((k.val:Nat):Int)%256)=((128+k.val:Nat):Int):=by decide +kernel
 exact h ⟨y,hy⟩
theorem ZEH (x:Nat) (hx:x<4611686018427387904):bits .or .u8 128 (bits .and .i64 (x:Int) 63%256)=((128+x%64:Nat):Int):=by
 rw[ZOM x hx,ZOk _ (Nat.mod_lt _ (by omega))]
theorem ZAY {k:Nat} (h:k<256):B8 (u8 k) = .int .u8 (k:Int):=by
 unfold B8 u8;rw[UInt8.toNat_ofNat',Nat.mod_eq_of_lt h]
def PutB (w:World) (base:Nat) (l:List UInt8) (e:Ending) (w':World):Prop:=∃A c,e = .returned (.slice A l.length c)/\Buf w' base 5 A l.length c (l.map B8)/\(∀w00,Ext w00 w->w00.heap.size<=base->Ext w00 w')
theorem ZAU {w w':World} {base n:Nat} {L l:List UInt8} {us:List Value} {A:Option Addr} {c:Nat} (hn:n=L.length) (hu:us=l.map B8) (hb:Buf w' base 5 A (n+us.length) c (L.map B8++us)) (hE:∀w00,Ext w00 w->w00.heap.size<=base->Ext w00 w'):PutB w base (L++l) (.returned (.slice A (n+us.length) c)) w':=by
 subst hu;rw[<-List.map_append,List.length_map,hn,<-List.length_append]at hb;exact⟨A,c,by rw[List.length_map,hn,List.length_append],hb,hE⟩
theorem ZMi (L:List UInt8) (A:Option Addr) (c base r:Nat) (w:World) (hb:Buf w base 5 A L.length c (L.map B8)) (hL:L.length<=4000000000) (t0:base<=w.heap.size) (h0:badR r=false) (h1:r<128) :
 Calls Tryz.prog 216 #[.slice A L.length c,.int .i64 (r:Int)] w (PutB w base (L++encR r)):=by
 have p0:=ZA (fun W=>ZBd (r:Int) W);obtain⟨n,hn⟩:∃n,n=L.length:=⟨_,rfl⟩
 rw[<-hn]at hb hL ⊢;have hv:(decide (55296<=(r:Int))&&decide ((r:Int)<=57343))=false:=by
  unfold badR at h0;simp only[Bool.or_eq_false_iff,Bool.and_eq_false_iff,decide_eq_false_iff_not]at h0 ⊢;omega
 have k0:r<=1114111:=by
  unfold badR at h0;simp only[Bool.or_eq_false_iff,decide_eq_false_iff_not]at h0;omega
 rw[hv]at p0;have q0:encR r = [u8 r]:=by unfold encR encO;rw[h0,if_neg (by simp),if_pos h1]
 rw[q0];obtain⟨z,hz⟩:∃z:Int,z=(r:Int):=⟨_,rfl⟩
 rw[<-hz]at p0 ⊢;have g0:0<=z:=by omega
 have gh:z<=1114111:=by omega
 have g1:z<128:=by omega
 replace h1:=ZA h1;replace k0:=ZA k0;replace hz:=ZA hz;obtain⟨l,hl⟩:∃l,l = [u8 r]:=⟨_,rfl⟩
 rw[<-hl];replace hl:=ZA hl;replace hn:=ZA hn;replace hb:=ZA hb;replace q0:=ZA q0;replace h0:=ZA h0;replace hv:=ZA hv;go_enter Tryz.func216,Tryz.ntmps216;go_wp2_with fail;refine(p0.out _).mono ?_;rintro e w2 ⟨rfl,rfl⟩;go_wp2_with (at_builtin;refine ZM ZV hb.out (.tmp 39) (.tmp 42) rfl rfl rfl rfl (ZS rfl) (by simp;omega) t0 (fun A3 c3 w4 m0 j0=>?_));go_ret;exact ZAU hn.out (by rw[hl.out,hz.out];simp only[List.map_cons,List.map_nil,ZAY (show r<256 by have:=h1.out;omega),Int.natCast_add,Int.natCast_ediv];try rfl) m0 j0
theorem ZLx (L:List UInt8) (A:Option Addr) (c base r:Nat) (w:World) (hb:Buf w base 5 A L.length c (L.map B8)) (hL:L.length<=4000000000) (u0:base<=w.heap.size) (h0:badR r=false) (h1:¬ r<128) (h2:r<2048) :
 Calls Tryz.prog 216 #[.slice A L.length c,.int .i64 (r:Int)] w (PutB w base (L++encR r)):=by
 have k0:=ZA (fun W=>ZBd (r:Int) W);obtain⟨n,hn⟩:∃n,n=L.length:=⟨_,rfl⟩
 rw[<-hn]at hb hL ⊢;have hv:(decide (55296<=(r:Int))&&decide ((r:Int)<=57343))=false:=by
  unfold badR at h0;simp only[Bool.or_eq_false_iff,Bool.and_eq_false_iff,decide_eq_false_iff_not]at h0 ⊢;omega
 have j0:r<=1114111:=by
  unfold badR at h0;simp only[Bool.or_eq_false_iff,decide_eq_false_iff_not]at h0;omega
 rw[hv]at k0;have q0:encR r = [u8 (192+r / 64),u8 (128+r%64)]:=by unfold encR encO;rw[h0,if_neg (by simp),if_neg h1,if_pos h2]
 rw[q0];have m0:=ZEH (r) (by omega);obtain⟨y0,p0⟩:∃y,y=128+r%64:=⟨_,rfl⟩
 rw[<-p0]at m0 ⊢;replace p0:=ZA p0;obtain⟨z,hz⟩:∃z:Int,z=(r:Int):=⟨_,rfl⟩
 rw[<-hz]at k0 m0 ⊢;have g0:0<=z:=by omega
 have gh:z<=1114111:=by omega
 have g1:¬ z<128:=by omega
 have g2:z<2048:=by omega
 replace h1:=ZA h1;replace h2:=ZA h2;replace j0:=ZA j0;replace hz:=ZA hz;obtain⟨l,hl⟩:∃l,l = [u8 (192+r / 64),u8 (y0)]:=⟨_,rfl⟩
 rw[<-hl];replace hl:=ZA hl;replace hn:=ZA hn;replace hb:=ZA hb;replace q0:=ZA q0;replace h0:=ZA h0;replace hv:=ZA hv;go_enter Tryz.func216,Tryz.ntmps216;go_wp2_with fail;refine(k0.out _).mono ?_;rintro e w2 ⟨rfl,rfl⟩;go_wp2_with (at_builtin;refine ZM ZV hb.out (.tmp 47) (.tmp 56) rfl rfl rfl rfl (ZS rfl) (by simp;omega) u0 (fun A3 c3 w4 v0 t0=>?_));go_ret;exact ZAU hn.out (by rw[hl.out,hz.out];simp only[List.map_cons,List.map_nil,ZAY (show 192+r / 64<256 by have:=h2.out;omega),ZAY (show y0<256 by have:=p0.out;omega),Int.natCast_add,Int.natCast_ediv];try rfl) v0 t0
theorem ZLz (L:List UInt8) (A:Option Addr) (c base r:Nat) (w:World) (hb:Buf w base 5 A L.length c (L.map B8)) (hL:L.length<=4000000000) (z0:base<=w.heap.size) (h0:badR r=false) (h1:¬ r<128) (h2:¬ r<2048) (h3:r<65536) :
 Calls Tryz.prog 216 #[.slice A L.length c,.int .i64 (r:Int)] w (PutB w base (L++encR r)):=by
 have j0:=ZA (fun W=>ZBd (r:Int) W);obtain⟨n,hn⟩:∃n,n=L.length:=⟨_,rfl⟩
 rw[<-hn]at hb hL ⊢;have hv:(decide (55296<=(r:Int))&&decide ((r:Int)<=57343))=false:=by
  unfold badR at h0;simp only[Bool.or_eq_false_iff,Bool.and_eq_false_iff,decide_eq_false_iff_not]at h0 ⊢;omega
 have t0:r<=1114111:=by
  unfold badR at h0;simp only[Bool.or_eq_false_iff,decide_eq_false_iff_not]at h0;omega
 rw[hv]at j0;have q0:encR r = [u8 (224+r / 4096),u8 (128+r / 64%64),u8 (128+r%64)]:=by unfold encR encO;rw[h0,if_neg (by simp),if_neg h1,if_neg h2,if_pos h3]
 rw[q0];have v0:=ZEH (r) (by omega);obtain⟨y0,p0⟩:∃y,y=128+r%64:=⟨_,rfl⟩
 rw[<-p0]at v0 ⊢;replace p0:=ZA p0;have m0:=ZEH (r / 64) (by omega);obtain⟨y1,k0⟩:∃y,y=128+r / 64%64:=⟨_,rfl⟩
 rw[<-k0]at m0 ⊢;rw[show ((r / 64:Nat):Int)=(r:Int) / 64 by omega]at m0;replace k0:=ZA k0;obtain⟨z,hz⟩:∃z:Int,z=(r:Int):=⟨_,rfl⟩
 rw[<-hz]at j0 v0 m0 ⊢;have g0:0<=z:=by omega
 have gh:z<=1114111:=by omega
 have g1:¬ z<128:=by omega
 have g2:¬ z<2048:=by omega
 have g3:z<65536:=by omega
 replace h1:=ZA h1;replace h2:=ZA h2;replace h3:=ZA h3;replace t0:=ZA t0;replace hz:=ZA hz;obtain⟨l,hl⟩:∃l,l = [u8 (224+r / 4096),u8 (y1),u8 (y0)]:=⟨_,rfl⟩
 rw[<-hl];replace hl:=ZA hl;replace hn:=ZA hn;replace hb:=ZA hb;replace q0:=ZA q0;replace h0:=ZA h0;replace hv:=ZA hv;go_enter Tryz.func216,Tryz.ntmps216;go_wp2_with fail;refine(j0.out _).mono ?_;rintro e w2 ⟨rfl,rfl⟩;go_wp2_with (at_builtin;refine ZM ZV hb.out (.tmp 61) (.tmp 75) rfl rfl rfl rfl (ZS rfl) (by simp;omega) z0 (fun A3 c3 w4 x0 u0=>?_));go_ret;exact ZAU hn.out (by rw[hl.out,hz.out];simp only[List.map_cons,List.map_nil,ZAY (show 224+r / 4096<256 by have:=h3.out;omega),ZAY (show y0<256 by have:=p0.out;omega),ZAY (show y1<256 by have:=k0.out;omega),Int.natCast_add,Int.natCast_ediv];try rfl) x0 u0
theorem ZL3 (L:List UInt8) (A:Option Addr) (c base r:Nat) (w:World) (hb:Buf w base 5 A L.length c (L.map B8)) (hL:L.length<=4000000000) (b0:base<=w.heap.size) (h0:badR r=false) (h1:¬ r<128) (h2:¬ r<2048) (h3:¬ r<65536) :
 Calls Tryz.prog 216 #[.slice A L.length c,.int .i64 (r:Int)] w (PutB w base (L++encR r)):=by
 have m0:=ZA (fun W=>ZBd (r:Int) W);obtain⟨n,hn⟩:∃n,n=L.length:=⟨_,rfl⟩
 rw[<-hn]at hb hL ⊢;have hv:(decide (55296<=(r:Int))&&decide ((r:Int)<=57343))=false:=by
  unfold badR at h0;simp only[Bool.or_eq_false_iff,Bool.and_eq_false_iff,decide_eq_false_iff_not]at h0 ⊢;omega
 have t0:r<=1114111:=by
  unfold badR at h0;simp only[Bool.or_eq_false_iff,decide_eq_false_iff_not]at h0;omega
 rw[hv]at m0;have q0:encR r = [u8 (240+r / 262144),u8 (128+r / 4096%64),u8 (128+r / 64%64),u8 (128+r%64)]:=by unfold encR encO;rw[h0,if_neg (by simp),if_neg h1,if_neg h2,if_neg h3]
 rw[q0];have x0:=ZEH (r) (by omega);obtain⟨y0,p0⟩:∃y,y=128+r%64:=⟨_,rfl⟩
 rw[<-p0]at x0 ⊢;replace p0:=ZA p0;have v0:=ZEH (r / 64) (by omega);obtain⟨y1,k0⟩:∃y,y=128+r / 64%64:=⟨_,rfl⟩
 rw[<-k0]at v0 ⊢;rw[show ((r / 64:Nat):Int)=(r:Int) / 64 by omega]at v0;replace k0:=ZA k0;have u0:=ZEH (r / 4096) (by omega);obtain⟨y2,j0⟩:∃y,y=128+r / 4096%64:=⟨_,rfl⟩
 rw[<-j0]at u0 ⊢;rw[show ((r / 4096:Nat):Int)=(r:Int) / 4096 by omega]at u0;replace j0:=ZA j0;obtain⟨z,hz⟩:∃z:Int,z=(r:Int):=⟨_,rfl⟩
 rw[<-hz]at m0 x0 v0 u0 ⊢;have g0:0<=z:=by omega
 have gh:z<=1114111:=by omega
 have g1:¬ z<128:=by omega
 have g2:¬ z<2048:=by omega
 have g3:¬ z<65536:=by omega
 replace h1:=ZA h1;replace h2:=ZA h2;replace h3:=ZA h3;replace t0:=ZA t0;replace hz:=ZA hz;obtain⟨l,hl⟩:∃l,l = [u8 (240+r / 262144),u8 (y2),u8 (y1),u8 (y0)]:=⟨_,rfl⟩
 rw[<-hl];replace hl:=ZA hl;replace hn:=ZA hn;replace hb:=ZA hb;replace q0:=ZA q0;replace h0:=ZA h0;replace hv:=ZA hv;go_enter Tryz.func216,Tryz.ntmps216;go_wp2_with fail;refine(m0.out _).mono ?_;rintro e w2 ⟨rfl,rfl⟩;go_wp2_with (at_builtin;refine ZM ZV hb.out (.tmp 15) (.tmp 34) rfl rfl rfl rfl (ZS rfl) (by simp;omega) b0 (fun A3 c3 w4 a0 z0=>?_));go_ret;exact ZAU hn.out (by rw[hl.out,hz.out];simp only[List.map_cons,List.map_nil,ZAY (show 240+r / 262144<256 by have:=t0.out;omega),ZAY (show y0<256 by have:=p0.out;omega),ZAY (show y1<256 by have:=k0.out;omega),ZAY (show y2<256 by have:=j0.out;omega),Int.natCast_add,Int.natCast_ediv];try rfl) a0 z0
theorem ZMY (L:List UInt8) (A:Option Addr) (c base r:Nat) (w:World) (hb:Buf w base 5 A L.length c (L.map B8)) (hL:L.length<=4000000000) (t0:base<=w.heap.size) (q0:badR r=true) (hr:r<=1200000) :
 Calls Tryz.prog 216 #[.slice A L.length c,.int .i64 (r:Int)] w (PutB w base (L++encR r)):=by
 have m0:=ZA (fun W=>ZBd (r:Int) W);obtain⟨n,hn⟩:∃n,n=L.length:=⟨_,rfl⟩
 rw[<-hn]at hb hL ⊢;have h0:encR r = [u8 239,u8 191,u8 189]:=by unfold encR;rw[q0,if_pos rfl];rfl
 rw[h0];have hq:1114111<r\/(55296<=r/\r<=57343):=by
  unfold badR at q0;simpa using q0
 obtain⟨z,hz⟩:∃z:Int,z=(r:Int):=⟨_,rfl⟩
 rw[<-hz]at m0 ⊢;have g0:0<=z:=by omega
 obtain⟨l,hl⟩:∃l,l = [u8 239,u8 191,u8 189]:=⟨_,rfl⟩
 rw[<-hl];have p0 : [Value.int .u8 239,.int .u8 191,.int .u8 189]=l.map B8:=by rw[hl];rfl
 replace p0:=ZA p0;replace hl:=ZA hl;replace hn:=ZA hn;replace hb:=ZA hb;replace h0:=ZA h0;replace q0:=ZA q0;rcases hq with hq | hq
 ·have g1:¬ z<=1114111:=by omega
  replace hq:=ZA hq;replace hz:=ZA hz;replace hr:=ZA hr;go_enter Tryz.func216,Tryz.ntmps216;go_wp2_with (at_builtin;refine ZM ZV hb.out (.tmp 61) (.tmp 75) rfl rfl rfl rfl (ZS rfl) (by simp;omega) t0 (fun A3 c3 w4 j0 k0=>?_));go_ret;exact ZAU hn.out p0.out j0 k0
 ·have g1:z<=1114111:=by omega
  have hv:(decide (55296<=z)&&decide (z<=57343))=true:=by simp;omega
  rw[hv]at m0;replace hv:=ZA hv;replace hq:=ZA hq;replace hz:=ZA hz;replace hr:=ZA hr;go_enter Tryz.func216,Tryz.ntmps216;go_wp2_with fail;refine(m0.out _).mono ?_;rintro e w2 ⟨rfl,rfl⟩;go_wp2_with (at_builtin;refine ZM ZV hb.out (.tmp 61) (.tmp 75) rfl rfl rfl rfl (ZS rfl) (by simp;omega) t0 (fun A3 c3 w4 j0 k0=>?_));go_ret;exact ZAU hn.out p0.out j0 k0
theorem ZMW (L:List UInt8) (A:Option Addr) (c base r:Nat) (w:World) (hb:Buf w base 5 A L.length c (L.map B8)) (hL:L.length<=4000000000) (q0:base<=w.heap.size) (hr:r<=1200000) :
 Calls Tryz.prog 216 #[.slice A L.length c,.int .i64 (r:Int)] w (PutB w base (L++encR r)):=by
 cases h0:badR r with
 | true=>exact ZMY L A c base r w hb hL q0 h0 hr
 | false =>
  by_cases h1:r<128
  ·exact ZMi L A c base r w hb hL q0 h0 h1
  ·by_cases h2:r<2048
   ·exact ZLx L A c base r w hb hL q0 h0 h1 h2
   ·by_cases h3:r<65536
    ·exact ZLz L A c base r w hb hL q0 h0 h1 h2 h3
    ·exact ZL3 L A c base r w hb hL q0 h0 h1 h2 h3
def encL (rs:List Nat):List UInt8:=rs.flatMap encR
theorem ZB1 (rs:List Nat) (r:Nat):encL (rs ++ [r])=encL rs++encR r:=by
 unfold encL;rw[List.flatMap_append];simp
theorem ZIr (rs:List Nat) (A:Option Addr) (n c:Nat) (w:World) (hn:n=rs.length) (hc:Cells w A (rs.map NV)) (hr:∀r∈rs,r<=1200000) (z0:n<=500000000) :
 Calls Tryz.prog 193 #[.slice A n c] w fun e w'=>e = .returned (.string ⟨(encL rs).toArray⟩)/\Ext w w':=by
 have t0:=ZA (fun L A c base r W hb hL x0 hr=>ZMW L A c base r W hb hL x0 hr);replace hr:=ZA hr;replace hc:=ZA hc;replace hn:=ZA hn;go_enter Tryz.func193,Tryz.ntmps193;go_wp2_with fail
 go_loopw [3,8] (fun s3 s8 wr=>∃(i n1 c1:Nat) (A1:Option Addr),s3 = .slice A1 n1 c1/\s8 = .int .i64 (i:Int)/\i<=n/\Hid (n1=(encL (rs.take i)).length/\n1<=4*i)/\Hid (Buf wr w.heap.size 5 A1 n1 c1 ((encL (rs.take i)).map B8))/\Hid (Ext w wr)) (fun _ s8 _=>n - (intOf s8).toNat)
 case atStart=>exact⟨0,0,0,none,rfl,rfl,by omega,ZA ⟨rfl,by omega⟩,ZA (Buf.nil _ _ _),ZA (Ext.refl w)⟩
 case round =>
  obtain⟨i,n1,c1,A1,rfl,rfl,hi,h0,hb,hE⟩:=hrel;by_cases h:i<n
  ·obtain⟨r,q0⟩:∃r,rs[i]? = some r:=⟨_,List.getElem?_eq_getElem (by rw[<-hn.out];exact h)⟩
   obtain⟨g,o,hA,g0⟩:=hc.out.at_ (by rw[List.length_map,<-hn.out];omega);subst hA;have y0:=hE.out.cell (g0 i (NV r) (by rw[List.getElem?_map,q0];rfl));unfold NV at y0;have u0:=hr.out r (List.mem_of_getElem? q0);have hp:=t0.out (encL (rs.take i)) A1 c1 w.heap.size r wr (by rw[<-h0.out.1];exact hb.out) (by have:=h0.out;omega) hE.out.size u0;rw[<-h0.out.1]at hp;have p0:rs.take (i+1)=rs.take i ++ [r]:=by rw[List.take_add_one,q0];rfl
   rw[<-ZB1,<-p0]at hp;have v0:=(ZC2 r).2;replace hp:=ZA hp;replace g0:=ZA g0;replace q0:=ZA q0;replace p0:=ZA p0;replace u0:=ZA u0;replace v0:=ZA v0;go_wp2_with fail;refine hp.out.mono ?_;rintro e w2 ⟨A2,c2,rfl,j0,k0⟩;have m0:(encL (rs.take (i+1))).length<=4*(i+1):=by
    rw[p0.out,ZB1,List.length_append];have:=h0.out;have:=v0.out;omega
   replace j0:=ZA j0;replace k0:=ZA (k0 w hE.out (Nat.le_refl _));replace m0:=ZA m0;go_wp2_with fail;exact⟨⟨i+1,_,c2,A2,rfl,rfl,by omega,ZA ⟨rfl,m0.out⟩,j0,k0⟩,by simp only[intOf];omega⟩
  ·obtain rfl:i=n:=by omega
   have hT:rs.take i=rs:=List.take_of_length_le (by rw[hn.out];exact Nat.le_refl _);rw[hT]at hb h0;have a0:=Zr (Buf.cells hb.out) n1 c1 h0.out.1;replace h0:=ZA h0.out.1;go_wp2_with fail;go_ret;exact⟨rfl,hE.out⟩
end
end Go.Proofs.YtkdcnhnaiknaaaaGreat
namespace Go.Proofs
open Go.Shelf
def Tryz.bren166:Go.Shelf.Ren:=⟨fun | 166=>196 | 240=>217 | 276=>225 | n=>n,fun | 0=>0 | 3=>3 | 4=>4 | 9=>9 | 20=>20 | 37=>25 | 70=>254 | 72=>256 | 75=>259 | 80=>229 | 164=>287 | n=>n,fun | n=>n⟩
theorem Tryz.blays166:Go.Proofs.Lays.n166 Tryz.prog Tryz.bren166:= {
 mixed:=by kernel_rfl
 f166:=Tryz.func196.trans (congrArg some (by kernel_rfl))
 f240:=Tryz.func217.trans (congrArg some (by kernel_rfl))
 f276:=Tryz.func225.trans (congrArg some (by kernel_rfl))
 t0:=Tryz.underlying0
 a0:=Tryz.isAgg0
 z0:=Tryz.sizeOf0
 v0:=Tryz.zeroValue0
 t3:=Tryz.underlying3
 a3:=Tryz.isAgg3
 z3:=Tryz.sizeOf3
 v3:=Tryz.zeroValue3
 t4:=Tryz.underlying4
 a4:=Tryz.isAgg4
 z4:=Tryz.sizeOf4
 v4:=Tryz.zeroValue4
 t9:=Tryz.underlying9
 a9:=Tryz.isAgg9
 z9:=Tryz.sizeOf9
 v9:=Tryz.zeroValue9
 t20:=Tryz.underlying20
 a20:=Tryz.isAgg20
 z20:=Tryz.sizeOf20
 v20:=Tryz.zeroValue20
 t37:=Tryz.underlying25
 a37:=Tryz.isAgg25
 z37:=Tryz.sizeOf25
 v37:=Tryz.zeroValue25
 t70:=Tryz.underlying254
 a70:=Tryz.isAgg254
 z70:=Tryz.sizeOf254
 v70:=Tryz.zeroValue254
 t72:=Tryz.underlying256
 a72:=Tryz.isAgg256
 z72:=Tryz.sizeOf256
 v72:=Tryz.zeroValue256
 t75:=Tryz.underlying259
 a75:=Tryz.isAgg259
 z75:=Tryz.sizeOf259
 v75:=Tryz.zeroValue259
 t164:=Tryz.underlying287
 a164:=Tryz.isAgg287
 z164:=Tryz.sizeOf287
 v164:=Tryz.zeroValue287 }
theorem Tryz.bE166:Builder.Extra Tryz.prog Tryz.bren166:= {
 sizeBuilder:=by kernel_rfl
 liesBuilder:=by kernel_rfl
 t5:=Tryz.underlying5
 a5:=Tryz.isAgg5
 z5:=Tryz.sizeOf5
 v5:=Tryz.zeroValue5
 infoByte:=by kernel_rfl
 cellsByte:=by kernel_rfl
 sizeByte:=by kernel_rfl
 neB5:=by decide }
open Go.RowKit in
theorem Tryz.Builder_WriteString (B b:Nat) (bs:List Value) (s:ByteArray) (w:World) (h:Lib.IsBuilder 256 5 B b bs w) (hlen:bs.length+s.size<=140737488355328) (h0:B<=w.heap.size) :
    Calls Tryz.prog 196 #[.pointer (some ⟨b,0,none⟩),.string s] w fun e w'=>e = .returned (.tuple #[.int .i64 s.size,.nilIface])/\(Lib.BuilderAt 256 5 B b (.pointer (some ⟨b,0,none⟩)) (bs++Lib.strCells s) w'/\Below B w w'):=Any.Builder_WriteString Tryz.blays166 Tryz.bE166 B b bs s w h hlen h0
end Go.Proofs
namespace Go.Proofs.YtkdcnhnaiknaaaaGreat
section
open Go.RowKit
theorem ZHc (l:List UInt8):Lib.strCells ⟨l.toArray⟩=l.map B8:=rfl
def Bd (w:World) (b:Nat) (l:List UInt8):Prop:=Lib.IsBuilder 256 5 b b (l.map B8) w
theorem Bd.ext {w w1:World} {b:Nat} {l:List UInt8} (h:Bd w b l) (hE:Ext w w1):Bd w1 b l:=by
 rcases h with ⟨h1,v,h2,h3⟩ | ⟨h1,v,h2,h3⟩
 ·exact .inl ⟨h1,v,hE.block h2,hE.owns h3.1,h3.2⟩
 ·exact .inr ⟨h1,v,hE.block h2,hE.owns h3.1,h3.2⟩
theorem Bd.fresh (w:World):Bd (w.alloc (.cells #[.pointer none,.slice none 0 0] 256)) w.heap.size []:=Lib.fresh_isBuilder _ _ w
theorem Bd.lt {w:World} {b:Nat} {l:List UInt8} (h:Bd w b l):b<w.heap.size:=by
 rcases h with ⟨h1,v,h2,h3⟩ | ⟨h1,v,h2,h3⟩
 ·exact(Array.getElem?_eq_some_iff.1 h2).1
 ·exact(Array.getElem?_eq_some_iff.1 h2).1
theorem ZIk (b:Nat) (l s:List UInt8) (w:World) (h:Bd w b l) (hlen:l.length+s.length<=100000000):Calls Tryz.prog 196 #[.pointer (some ⟨b,0,none⟩),.string ⟨s.toArray⟩] w fun e w'=>e = .returned (.tuple #[.int .i64 s.length,.nilIface])/\Bd w' b (l++s)/\Below b w w':=by
 have h0:(⟨s.toArray⟩:ByteArray).size=s.length:=ByteArray.size_mk_toArray s;refine(Tryz.Builder_WriteString b b (l.map B8) ⟨s.toArray⟩ w h (by rw[h0,List.length_map];omega) (Nat.le_of_lt h.lt)).mono fun e w' ⟨he,hb,hE⟩=>⟨by rw[he,h0],.inr (by rw[ZHc,<-List.map_append]at hb;exact hb),hE⟩
theorem ZHR (b:Nat) (l:List UInt8) (w:World) (h:Bd w b l):Calls Tryz.prog 197 #[.pointer (some ⟨b,0,none⟩)] w fun e w'=>e = .returned (.string ⟨l.toArray⟩)/\Below b w w' :=
 Tryz.Builder_String_any b b l w h (Nat.le_of_lt h.lt)
theorem ZMS (b:Nat) (l:List UInt8) (w:World) (h:Bd w b l):Calls Tryz.prog 195 #[.pointer (some ⟨b,0,none⟩)] w fun e w'=>e = .returned (.int .i64 l.length)/\w'=w:=by
 have:=Tryz.Builder_Len b b (l.map B8) w h;rw[List.length_map]at this;exact this
theorem ZKA {s:List UInt8} {r:Nat} {rs:List Nat} (h:¬ 32<s.length+(encR (lowerR r)).length):cutW s (r::rs)=cutW (s++encR (lowerR r)) rs:=by
 rw[cutW,if_neg h]
theorem ZIH {s:List UInt8} {r:Nat} {rs:List Nat} (h:32<s.length+(encR (lowerR r)).length):cutW s (r::rs)=s:=by
 rw[cutW,if_pos h]
theorem ZHv (r:Nat):encL [r]=encR r:=by
 unfold encL;simp
theorem ZMP (rs:List Nat) (A:Option Addr) (n c:Nat) (w:World) (hn:n=rs.length) (hc:Cells w A (rs.map NV)) (hr:∀r∈rs,r<=1114111) (u1:n<=1073741824) :
 Calls Tryz.prog 178 #[.slice A n c] w fun e w'=>e = .returned (.string ⟨(cutW [] rs).toArray⟩)/\Ext w w':=by
 obtain⟨b,hb⟩:∃b,b=w.heap.size:=⟨_,rfl⟩
 obtain⟨W,hW⟩:∃W,W=w.alloc (.cells #[.pointer none,.slice none 0 0] 256):=⟨_,rfl⟩
 have c0:Ext w W:=by rw[hW];exact(Ext.refl w).alloc _
 have z0:Bd W b []:=by rw[hW,hb];exact Bd.fresh w
 have n0:=ZA (fun r W h=>ZLJ r W h);have i0:=ZA (fun r A n c W h1 h2 h3 h4=>ZIr [r] A n c W h1 h2 h3 h4);have hlen:=ZA (fun s W h=>ZMS b s W h);have v1:=ZA (fun s t W h hl=>ZIk b s t W h hl);have u0:=ZA (fun s W h=>ZHR b s W h);obtain⟨Z,hZ⟩:∃Z,Z=cutW [] rs:=⟨_,rfl⟩
 rw[<-hZ];replace hr:=ZA hr;replace hc:=ZA hc;replace hn:=ZA hn;replace hZ:=ZA hZ;replace c0:=ZA c0;replace z0:=ZA z0;replace hW:=ZA hW;replace hb:=ZA hb;go_enter Tryz.func178,Tryz.ntmps178;go_wp2_with fail;rw[<-hW.out,<-hb.out]
 go_loopw [9] (fun s9 wr=>∃(i:Nat) (s:List UInt8),s9 = .int .i64 (i:Int)/\i<=n/\Hid (Z=cutW s (rs.drop i))/\Hid (s.length<=32)/\Hid (Bd wr b s)/\Hid (Ext w wr)) (fun s9 _=>n - (intOf s9).toNat)
 case atStart=>exact⟨0,[],rfl,by omega,ZA (by rw[hZ.out];rfl),ZA (by simp),z0,c0⟩
 case round =>
  obtain⟨i,s,rfl,hi,s0,v0,hB,hE⟩:=hrel;by_cases h:i<n
  ·obtain⟨r,g0⟩:∃r,rs[i]? = some r:=⟨_,List.getElem?_eq_getElem (by rw[<-hn.out];exact h)⟩
   obtain⟨g,o,hA,e0⟩:=hc.out.at_ (by rw[List.length_map,<-hn.out];omega);subst hA;have g1:=hE.out.cell (e0 i (NV r) (by rw[List.getElem?_map,g0];rfl));unfold NV at g1;have x0:=hr.out r (List.mem_of_getElem? g0);have f0:rs.drop i=r::rs.drop (i+1):=by
    rw[List.drop_eq_getElem_cons (List.getElem?_eq_some_iff.1 g0).1];congr 1;exact(List.getElem?_eq_some_iff.1 g0).2
   have q1:=ZA (fun W=>n0.out r W x0);have o0:=ZFp x0;obtain⟨t,ht⟩:∃t,t=encR (lowerR r):=⟨_,rfl⟩
   have m1:t.length<=4:=by rw[ht];exact(ZC2 _).2
   have l0:=ZA (fun hh=>ZKA (s:=s) (r:=r) (rs:=rs.drop (i+1)) hh);have p0:=ZA (fun hh=>ZIH (s:=s) (r:=r) (rs:=rs.drop (i+1)) hh);rw[<-ht,<-f0,<-s0.out]at l0 p0;obtain⟨y,hy⟩:∃y,y=lowerR r:=⟨_,rfl⟩
   rw[<-hy]at ht q1 o0;have w0:=ZA (fun A W hh=>i0.out y A 1 1 W rfl hh (by simp;omega) (by omega));rw[ZHv,<-ht]at w0;obtain⟨tn,j0⟩:∃tn,tn=t.length:=⟨_,rfl⟩
   have t1:(⟨t.toArray⟩:ByteArray).size=tn:=by rw[j0];exact ByteArray.size_mk_toArray t
   obtain⟨sn,k0⟩:∃sn,sn=s.length:=⟨_,rfl⟩
   rw[<-k0,<-j0]at l0 p0;rw[<-j0]at m1;rw[<-k0]at v0;have p1:=v0.out;have t0:=ZA (fun W hh=>hlen.out s W hh);rw[<-k0]at t0;replace e0:=ZA e0;replace g0:=ZA g0;replace x0:=ZA x0;replace f0:=ZA f0;replace hy:=ZA hy;replace ht:=ZA ht;replace j0:=ZA j0;replace k0:=ZA k0;replace o0:=ZA o0;go_wp2_with fail;refine(q1.out _).mono ?_;rintro e w2 ⟨rfl,b0⟩;go_wp2_with fail;refine(w0.out _ _ (.inr ⟨w2.heap.size,0,rfl,fun j u hu=>?_⟩)).mono ?_
   ·rw[Nat.zero_add,cell_of_row _ _ _ _ _ _ (heap_alloc_new w2 _)];simpa [NV]using hu
   rintro e w3 ⟨rfl,j1⟩;have h0:=ZA ((b0.alloc (.cells #[Value.int .i64 (y:Int)] 3)).trans j1);have a0:=ZA (hB.out.ext h0.out);go_wp2_with fail;refine(t0.out _ a0.out).mono ?_;rintro e w4 ⟨rfl,rfl⟩;by_cases r0:32<sn+tn
   ·have q0:=ZA (p0.out r0);have y0:(32:Int)<(sn:Int)+(tn:Int):=by omega
    go_wp2_with fail;refine(u0.out s _ a0.out).mono ?_;rintro e w5 ⟨rfl,m0⟩;go_wp2_with fail;go_ret;refine⟨by rw[q0.out];rfl,?_⟩;have d0:=hb.out;rw[d0]at m0;exact Below.trans (hE.out.trans h0.out) m0
   ·have q0:=ZA (l0.out r0);have y0:¬ (32:Int)<(sn:Int)+(tn:Int):=by omega
    go_wp2_with fail;refine(v1.out s t _ a0.out (by rw[<-k0.out,<-j0.out];omega)).mono ?_;rintro e w5 ⟨rfl,k1,m0⟩;go_wp2_with fail;refine⟨⟨i+1,s++t,rfl,by omega,q0,ZA (by rw[List.length_append,<-k0.out,<-j0.out];omega),ZA k1,ZA ?_⟩,by simp only[intOf];omega⟩;have d0:=hb.out;rw[d0]at m0;exact Below.trans (hE.out.trans h0.out) m0
  ·obtain rfl:i=n:=by omega
   have q0:Z=s:=by rw[s0.out,List.drop_eq_nil_of_le (by rw[<-hn.out];exact Nat.le_refl _),cutW]
   replace q0:=ZA q0;go_wp2_with fail;refine(u0.out s _ hB.out).mono ?_;rintro e w2 ⟨rfl,b0⟩;go_wp2_with fail;go_ret;exact⟨by rw[q0.out];rfl,by have:=hb.out;subst this;exact Below.trans hE.out b0⟩
theorem Z7 {P:Program} {ops:Array Oper} {rest:List Oper} {o:Oper} {a:Act} {Q:Exit->Act->World->Prop} {w0:World} {us:List Value} {T:TypeId} {t e size bytes m:Nat} (E:Elem P t e size bytes)
 {base:Nat} {v:Value} {n:Nat} {xs:List Value} (h0:w0.ownsRow base e size v n xs) (s x:Operand)
 (ho:o.op = .call { callee:= .builtin .append,args:=#[s,x],argTypes:=#[t,t] }) (p0:o.guard=none)
 (hs:a.eval s=v) (hx:a.eval x = .slice (some ⟨w0.heap.size,0,none⟩) m m) (hl:us.length=m*size) (h1:∀u∈us,u.oneCell'=true) (j0:n+m<=4294967296) (q0:base<=w0.heap.size)
 (h:∀A1 c1 w',w'.ownsRow base e size (.slice A1 (n+m) c1) (n+m) (xs++us)->w0.grownBy w' v.ownBlock->((Value.slice A1 (n+m) c1).ownBlock=v.ownBlock\/(Value.slice A1 (n+m) c1).ownBlock=some (w0.heap.size+1)) ->
  wpList P ops Q rest (a.put o.dst (.slice A1 (n+m) c1)) w') :
 wpList P ops Q (o::rest) a (w0.alloc (.cells us.toArray T)):=by
 refine Zh E (((Ext.refl w0).alloc _).owns h0) (A:=some ⟨w0.heap.size,0,none⟩) (news:=us) (.inr ⟨w0.heap.size,0,rfl,fun i u hu=>?_⟩) s x ho p0 hs hx rfl hl h1 j0 (by simp;omega) fun A1 c1 w' h2 h3 h4=>?_
 ·rw[Nat.zero_add,cell_of_row _ _ _ _ _ _ (heap_alloc_new w0 _)];simpa using hu
 ·refine h A1 c1 w' h2 ⟨h3.os,h3.tape,h3.output,Nat.le_trans (by simp) h3.size,fun k hk k0=>(h3.block k (by simp;omega) k0).trans (Below.heap_alloc w0 _ k hk)⟩ ?_;simpa using h4
theorem ZBW {cur rs:List Nat} {r:Nat} (h:wordR r=true):runsW cur (r::rs)=runsW (cur ++ [r]) rs:=by
 rw[runsW,if_pos h]
theorem ZAp {rs:List Nat} {r:Nat} (h:wordR r=false):runsW [] (r::rs)=runsW [] rs:=by
 rw[runsW,if_neg (by rw[h];simp),if_pos rfl]
theorem ZBJ {cur rs:List Nat} {r:Nat} (h:wordR r=false) (hc:cur ≠ []):runsW cur (r::rs)=cur::runsW [] rs:=by
 rw[runsW,if_neg (by rw[h];simp),if_neg hc]
theorem ZB8:∀(L cur:List Nat),runsW cur (L ++ [32])=runsW cur L
 | [],cur=>by
  have h:wordR 32=false:=by decide
  rw[List.nil_append];by_cases hc:cur = []
  ·subst hc;rw[ZAp h]
  ·rw[ZBJ h hc,runsW,if_pos rfl,runsW,if_neg hc]
 | r::L,cur=>by
  rw[List.cons_append];cases h:wordR r with
  | true=>rw[ZBW h,ZBW h,ZB8 L]
  | false =>
   by_cases hc:cur = []
   ·subst hc;rw[ZAp h,ZAp h,ZB8 L]
   ·rw[ZBJ h hc,ZBJ h hc,ZB8 L]
def tkV (l:List (List UInt8)):List Value:=l.zipIdx.flatMap fun p=> [.string ⟨p.1.toArray⟩,.int .i64 (p.2:Int)]
theorem ZFE (l:List (List UInt8)) (x:List UInt8):tkV (l ++ [x])=tkV l ++ [.string ⟨x.toArray⟩,.int .i64 (l.length:Int)]:=by
 unfold tkV;rw[List.zipIdx_append,List.flatMap_append];simp
theorem ZDg {w:World} {g:Nat} {xs:List Value} (h:Cells w (some ⟨g,0,none⟩) xs) (f i:Nat):Cells w (some ⟨g,f,none⟩) ((xs.take i).drop f):=by
 rcases h with h | ⟨g',o,hA,hc⟩
 ·subst h;exact .inl (by simp)
 ·cases hA;refine .inr ⟨g,f,rfl,fun j v hv=>?_⟩;rw[List.getElem?_drop,List.getElem?_take]at hv;split at hv
  ·have:=hc _ v hv
   rwa [Nat.zero_add]at this
  ·cases hv
theorem ZFz {R:List Nat} {st i r:Nat} (hi:R[i]? = some r) (hs:st<=i):(R.take (i+1)).drop st=(R.take i).drop st ++ [r]:=by
 have h1:R.take (i+1)=R.take i ++ [r]:=by rw[List.take_add_one,hi];rfl
 have hl:=(List.getElem?_eq_some_iff.1 hi).1;rw[h1,List.drop_append_of_le_length (by rw[List.length_take];omega)]
theorem ZBI (R:List Nat) (i:Nat):(R.take i).drop i = []:=List.drop_eq_nil_of_le (by rw[List.length_take];omega)
theorem ZDS {R:List Nat} {st i:Nat} (h:st<i) (hi:i<=R.length):(R.take i).drop st ≠ []:=by
 intro hn;have:=congrArg List.length hn;rw[List.length_drop,List.length_take,List.length_nil]at this;omega
theorem ZE3 {R:List Nat} {i r:Nat} (hi:R[i]? = some r):R.drop i=r::R.drop (i+1):=by
 rw[List.drop_eq_getElem_cons (List.getElem?_eq_some_iff.1 hi).1];congr 1;exact(List.getElem?_eq_some_iff.1 hi).2
theorem ZJt:Elem Tryz.prog 119 123 2 24:=⟨Tryz.underlying119,⟨_,_,rfl,rfl,rfl,rfl,rfl⟩,by omega,by omega⟩
def NewTk (w:World) (l:List (List UInt8)) (e:Ending) (w':World):Prop:=∃A c,e = .returned (.slice A l.length c)/\w'.ownsRow w.heap.size 123 2 (.slice A l.length c) l.length (tkV l)/\Ext w w'
theorem ZEv (l:List UInt8) (w:World) (hl:l.length<=1000000000):Calls Tryz.prog 135 #[.string ⟨l.toArray⟩] w (NewTk w (tokL l)):=by
 have f1:=ZA (fun W=>ZJ4 l W (by omega));have e1:=ZCO l;have r0:=ZF0 l;have j0:tokL l=(runsW [] (runesL l)).map (cutW []):=rfl;obtain⟨L,hL⟩:∃L,L=runesL l:=⟨_,rfl⟩
 rw[<-hL]at f1 e1 r0 j0;obtain⟨Z,hZ⟩:∃Z,Z=tokL l:=⟨_,rfl⟩
 rw[<-hZ]at j0 ⊢;obtain⟨R,hR⟩:∃R,R=L ++ [32]:=⟨_,rfl⟩
 rw[<-ZB8,<-hR]at j0;have s0:∀r∈R,r<=1114111:=by
  intro r hr;rw[hR]at hr;rcases List.mem_append.1 hr with h | h
  ·exact r0 r h
  ·simp at h;omega
 obtain⟨m,hm⟩:∃m,m=R.length:=⟨_,rfl⟩
 have i0:m=L.length+1:=by rw[hm,hR];simp
 have g0:R[m - 1]? = some 32:=by rw[hR,show m - 1=L.length by omega];simp
 have j2:=ZA (fun r W h=>ZIz r W h);have m2:=ZA (fun rs A n c W h1 h2 h3 h4=>ZMP rs A n c W h1 h2 h3 h4);have u2:m<=1000000001:=by omega
 replace g0:=ZA g0;replace hZ:=ZA hZ;replace hL:=ZA hL;replace j0:=ZA j0;replace s0:=ZA s0;replace hm:=ZA hm;replace r0:=ZA r0;replace hR:=ZA hR;obtain⟨ln,p1⟩:∃ln,ln=L.length:=⟨_,rfl⟩
 rw[<-p1]at i0 e1;replace p1:=ZA p1;go_enter Tryz.func135,Tryz.ntmps135;go_wp2_with fail;go_step3;go_wp2_with fail;refine(f1.out _).mono ?_;rintro e w1 ⟨A1,c1,rfl,d0,n0⟩;rw[<-p1.out]at d0 ⊢;have a1:=n0.size;replace d0:=ZA d0;replace n0:=ZA n0;go_wp2_with (at_builtin;refine ZM ZIu d0.out (.tmp 9) (.tmp 10) rfl rfl rfl rfl (ZS rfl) (by simp;omega) a1 (fun A2 c2 w2 x0 d1=>?_));have v0:=d1 w n0.out (Nat.le_refl _);have g1:L.map NV ++ [Value.int .i64 32]=R.map NV:=by rw[hR.out,List.map_append];rfl
 simp only[List.length_cons,List.length_nil,Nat.zero_add]at x0 ⊢;rw[g1,<-i0]at x0;rw[<-i0];have x2:=x0.2.1;obtain⟨gR,oR,hA,t1⟩:=x0.cells.at_ (by rw[List.length_map,<-hm.out];omega);obtain⟨g2,cur2,l1,_⟩:∃g cur,A2=some ⟨g,0,none⟩/\w2.heap.size≥w2.heap.size/\cur=(0:Nat):=by
  rcases x0.2.2 with ⟨h,_⟩ | ⟨g,_,h,_⟩
  ·rw[hA]at h;cases h
  ·exact⟨g,0,h,Nat.le_refl _,rfl⟩
 subst l1;cases hA;have n1:=ZA (Buf.cells x0);replace t1:=ZA t1;replace x0:=ZA x0;replace v0:=ZA v0;replace g1:=ZA g1;replace i0:=ZA i0;clear d1 d0;go_wp2_with fail;go_step3;go_wp2_with fail
 go_loopw [3,5,14] (fun s3 s5 s14 wr=>∃(i st k c3:Nat) (A3:Option Addr) (D:List (List Nat)),s3 = .slice A3 k c3/\s5 = .int .i64 (st:Int)/\s14 = .int .i64 (i:Int)/\i<=m/\st<=i/\k<=i/\Hid (k=D.length)/\Hid (i=m->st=i)/\Hid (runsW [] R=D++runsW ((R.take i).drop st) (R.drop i))/\Hid (wr.ownsRow w2.heap.size 123 2 (.slice A3 k c3) k (tkV (D.map (cutW []))))/\Hid (Ext w2 wr)) (fun _ _ s14 _=>m - (intOf s14).toNat)
 case atStart=>exact⟨0,0,0,0,none,[],rfl,rfl,rfl,by omega,by omega,by omega,ZA rfl,ZA (fun _=>rfl),ZA (by simp),ZA (World.ownsRow_nil _ _ _ _),ZA (Ext.refl w2)⟩
 case round =>
  obtain⟨i,st,k,c3,A3,D,rfl,rfl,rfl,him,k2,t2,hk,p2,f0,t0,hE⟩:=hrel;by_cases h:i<m
  ·obtain⟨r,z0⟩:∃r,R[i]? = some r:=⟨_,List.getElem?_eq_getElem (by rw[<-hm.out];exact h)⟩
   have q1:=t1.out i (NV r) (by rw[List.getElem?_map,z0];rfl);rw[Nat.zero_add]at q1;replace q1:=hE.out.cell q1;unfold NV at q1;have i1:=s0.out r (List.mem_of_getElem? z0);have k0:=ZA (fun W=>j2.out r W (by omega));have x1:=ZE3 z0;have p0:=ZFz z0 k2;have y1:i+1=m->r=32:=fun he=>by
    have:=g0.out;rw[show m - 1=i by omega,z0]at this;exact Option.some.inj this
   obtain⟨b,hb⟩:∃b,b=wordR r:=⟨_,rfl⟩
   rw[<-hb]at k0;have h0:=f0.out;rw[x1]at h0;replace z0:=ZA z0;replace i1:=ZA i1;replace x1:=ZA x1;replace y1:=ZA y1;cases b with
   | true =>
    rw[ZBW hb.symm,<-p0]at h0;replace h0:=ZA h0;replace p0:=ZA p0;replace hb:=ZA hb;go_wp2_with fail;refine(k0.out _).mono ?_;rintro e w4 ⟨rfl,u0⟩;go_wp2_with fail;refine⟨⟨i+1,st,k,c3,A3,D,rfl,rfl,rfl,by omega,by omega,by omega,hk,ZA (fun he=>?_),h0,ZA (u0.owns t0.out),ZA (hE.out.trans u0)⟩,by simp only[intOf];omega⟩;have:=hb.out;rw[y1.out he]at this;exact absurd this (by decide)
   | false =>
    by_cases z1:st<i
    ·rw[ZBJ hb.symm (ZDS z1 (by rw[<-hm.out];omega))]at h0;have q0:runsW [] R=(D ++ [(R.take i).drop st])++runsW ((R.take (i+1)).drop (i+1)) (R.drop (i+1)):=by
      rw[ZBI,h0,List.append_assoc];rfl
     replace q0:=ZA q0;clear h0;replace p0:=ZA p0;replace hb:=ZA hb;have a0:∀x∈(R.take i).drop st,x<=1114111:=fun x hx=>s0.out x (List.mem_of_mem_take (List.mem_of_mem_drop hx));have m0:i - st=((R.take i).drop st).length:=by rw[List.length_drop,List.length_take,<-hm.out];omega
     have u1:=ZA (fun c W (hh:Cells W (some ⟨gR,st,none⟩) (((R.take i).drop st).map NV))=>m2.out ((R.take i).drop st) (some ⟨gR,st,none⟩) (i - st) c W m0 hh a0 (by omega));have e0:=ZDg n1.out st i;rw[<-List.map_take,<-List.map_drop]at e0;obtain⟨t,ht⟩:∃t,t=cutW [] ((R.take i).drop st):=⟨_,rfl⟩
     rw[<-ht]at u1;have l0:(D ++ [(R.take i).drop st]).map (cutW [])=D.map (cutW []) ++ [t]:=by rw[List.map_append,ht];rfl
     obtain⟨cu,v1⟩:∃cu,cu=(R.take i).drop st:=⟨_,rfl⟩
     rw[<-v1]at u1 e0 q0 l0;replace a0:=ZA a0;replace m0:=ZA m0;replace e0:=ZA e0;replace ht:=ZA ht;replace l0:=ZA l0;replace v1:=ZA v1;go_wp2_with fail;refine(k0.out _).mono ?_;rintro e w4 ⟨rfl,u0⟩;have b0:=ZA (hE.out.trans u0);have m1:=ZA (e0.out.ext b0.out);go_wp2_with fail;refine(u1.out _ _ m1.out).mono ?_;rintro e w5 ⟨rfl,o0⟩;have c0:=ZA (b0.out.trans o0);have y0:=ZA (o0.owns (u0.owns t0.out));have b1:=c0.out.size;replace o0:=ZA o0;go_wp2_with (at_builtin;refine Z7 (m:=1) ZJt y0.out (.tmp 24) (.tmp 33) rfl rfl rfl rfl rfl (ZS rfl) (by omega) b1 (fun A6 c6 w6 s1 o1 v2=>?_));have j1:=c0.out.grown o1 (fun q hq=>(y0.out.lt q hq).1);refine⟨⟨i+1,i+1,k+1,c6,A6,D ++ [cu],rfl,rfl,rfl,by omega,by omega,by omega,ZA (by rw[List.length_append,<-hk.out];rfl),ZA (fun _=>rfl),q0,ZA ?_,ZA j1⟩,by simp only[intOf];omega⟩;rw[l0.out,ZFE,List.length_map,<-hk.out];exact s1
    ·obtain rfl:st=i:=by omega
     rw[ZBI,ZAp hb.symm]at h0;have q0:runsW [] R=D++runsW ((R.take (st+1)).drop (st+1)) (R.drop (st+1)):=by rw[ZBI];exact h0
     clear h0;replace q0:=ZA q0;replace p0:=ZA p0;replace hb:=ZA hb;go_wp2_with fail;refine(k0.out _).mono ?_;rintro e w4 ⟨rfl,u0⟩;go_wp2_with fail;exact⟨⟨st+1,st+1,k,c3,A3,D,rfl,rfl,rfl,by omega,by omega,by omega,hk,ZA (fun _=>rfl),q0,ZA (u0.owns t0.out),ZA (hE.out.trans u0)⟩,by simp only[intOf];omega⟩
  ·obtain rfl:i=m:=by omega
   have q2:=p2.out rfl;subst q2;have k1:runsW [] R=D:=by
    rw[f0.out,ZBI,List.drop_eq_nil_of_le (by rw[<-hm.out];exact Nat.le_refl _),runsW,if_pos rfl,List.append_nil]
   have w0:Z=D.map (cutW []):=by rw[j0.out,k1]
   have r1:k=Z.length:=by rw[w0,List.length_map];exact hk.out
   rw[<-w0]at t0;replace k1:=ZA k1;replace w0:=ZA w0;subst r1;go_wp2_with fail;go_ret;exact⟨A3,c3,rfl,World.ownsRow.mono t0.out v0.out.size,v0.out.trans hE.out⟩
end
section
open Go.RowKit
section
variable {β:Type}
def valsOf (ps:List (List UInt8×β)) (s:List UInt8):List β:=(ps.filter fun p=>decide (p.1=s)).map Prod.snd
theorem ZW (ps qs:List (List UInt8×β)) (s:List UInt8):valsOf (ps++qs) s=valsOf ps s++valsOf qs s:=by unfold valsOf;rw[List.filter_append,List.map_append]
theorem ZBc (p:List UInt8×β) (s:List UInt8):valsOf [p] s=if p.1=s then [p.2] else []:=by
 unfold valsOf;rw[List.filter_cons];by_cases h:p.1=s
 ·simp[h]
 ·simp[h]
theorem ZHJ (p:List UInt8×β) (ps:List (List UInt8×β)) (s:List UInt8):valsOf (p::ps) s=(if p.1=s then [p.2] else [])++valsOf ps s:=by
 rw[<-ZBc,<-ZW];rfl
def Ris {α:Type} (l:List (List UInt8×α)):Prop:=l.Pairwise fun a b=>a.1<b.1
structure Grp (ps:List (List UInt8×β)) (r:List (List UInt8×List β)):Prop where
  up:Ris r
  mem:∀x,x∈r↔x.2=valsOf ps x.1/\x.2 ≠ []
theorem Ris.nodup {α:Type} {l:List (List UInt8×α)} (h:Ris l):l.Nodup:=by
 refine List.Pairwise.imp ?_ h;intro a b hab e;rw[e]at hab;exact List.lt_irrefl _ hab
theorem Ris.ext {α:Type} {a b:List (List UInt8×α)} (ha:Ris a) (hb:Ris b) (h:∀x,x∈a↔x∈b):a=b :=
 List.Perm.eq_of_pairwise (le:=fun(x y:List UInt8×α)=>x.1<y.1) (fun x y _ _ h k=>(List.lt_irrefl _ (List.lt_trans h k)).elim) ha hb ((List.perm_ext_iff_of_nodup ha.nodup hb.nodup).2 h)
theorem Grp.uniq {ps:List (List UInt8×β)} {r q:List (List UInt8×List β)} (h:Grp ps r) (k:Grp ps q):r=q :=
 h.up.ext k.up fun x=>(h.mem x).trans (k.mem x).symm
theorem Grp.same {ps qs:List (List UInt8×β)} {r:List (List UInt8×List β)} (h:Grp ps r) (k:∀s,valsOf ps s=valsOf qs s):Grp qs r :=
 ⟨h.up,fun x=>by rw[h.mem x,k]⟩
theorem Grp.nil:Grp ([]:List (List UInt8×β)) []:=⟨List.Pairwise.nil,fun x=>by simp[valsOf]⟩
def addG (p:List UInt8×β):List (List UInt8×List β)->List (List UInt8×List β)
 | []=> [(p.1,[p.2])]
 | x::xs=>if x.1<p.1 then x::addG p xs else if x.1=p.1 then (x.1,x.2 ++ [p.2])::xs else (p.1,[p.2])::x::xs
theorem ZGa (p:List UInt8×β):∀(l:List (List UInt8×List β)) (y:List UInt8×List β),y∈addG p l->y.1=p.1\/y∈l
 | [],y,h=>by simp only[addG,List.mem_singleton]at h;rw[h];exact .inl rfl
 | x::xs,y,h=>by
  unfold addG at h;split at h
  ·rcases List.mem_cons.1 h with rfl | h
   ·exact .inr (List.mem_cons_self ..)
   ·rcases ZGa p xs y h with h | h
    ·exact .inl h
    ·exact .inr (List.mem_cons_of_mem _ h)
  ·split at h
   ·rename_i he;rcases List.mem_cons.1 h with rfl | h
    ·exact .inl he
    ·exact .inr (List.mem_cons_of_mem _ h)
   ·rcases List.mem_cons.1 h with rfl | h
    ·exact .inl rfl
    ·exact .inr h
theorem ZDP {a b:List UInt8} (h:¬ a<b) (h0:¬ a=b):b<a :=
 Decidable.byContradiction fun h2=>h0 (List.le_antisymm (List.not_lt.1 h2) (List.not_lt.1 h))
theorem ZH9 (p:List UInt8×β):∀(l:List (List UInt8×List β)),Ris l->Ris (addG p l)
 | [],_=>List.pairwise_singleton ..
 | x::xs,h=>by
  obtain⟨h1,h2⟩:=List.pairwise_cons.1 h;unfold addG;split
  ·rename_i q0;refine List.pairwise_cons.2 ⟨fun y hy=>?_,ZH9 p xs h2⟩;rcases ZGa p xs y hy with e | hy
   ·rw[e];exact q0
   ·exact h1 y hy
  ·rename_i k0;split
   ·exact List.pairwise_cons.2 ⟨h1,h2⟩
   ·rename_i p0;have h0:=ZDP k0 p0;refine List.pairwise_cons.2 ⟨fun y hy=>?_,h⟩;rcases List.mem_cons.1 hy with rfl | hy
    ·exact h0
    ·exact List.lt_trans h0 (h1 y hy)
theorem Ris.notMem {α:Type} {x:List UInt8×α} {xs:List (List UInt8×α)} (h:Ris (x::xs)):∀y∈xs,¬ y.1=x.1:=fun y hy e=>by
 have:=(List.pairwise_cons.1 h).1 y hy;rw[e]at this;exact List.lt_irrefl _ this
theorem ZIE (p:List UInt8×β):∀(l:List (List UInt8×List β)),Ris l->∀y,y∈addG p l↔(¬ y.1=p.1/\y∈l)\/(y.1=p.1/\((∃v,(p.1,v)∈l/\y.2=v ++ [p.2])\/((∀v,(p.1,v)∉l)/\y.2 = [p.2])))
 | [],_,y=>by
  constructor
  ·intro h;simp only[addG,List.mem_singleton]at h;rw[h];exact .inr ⟨rfl,.inr ⟨fun v=>List.not_mem_nil,rfl⟩⟩
  ·rintro(⟨_,h⟩ | ⟨h,(⟨v,h2,_⟩ | ⟨_,h2⟩)⟩)
   ·cases h
   ·cases h2
   ·obtain⟨a,b⟩:=y;simp only at h h2;rw[h,h2];exact List.mem_singleton.2 rfl
 | x::xs,hr,y=>by
  have t0:=(List.pairwise_cons.1 hr).2;have ih:=ZIE p xs t0 y;unfold addG;split
  ·rename_i q0;have j0:¬ x.1=p.1:=fun e=>by rw[e]at q0;exact List.lt_irrefl _ q0
   have k0:∀v,¬ (p.1,v)=x:=fun v e=>j0 (by rw[<-e]);rw[List.mem_cons,ih];simp only[List.mem_cons];constructor
   ·rintro(rfl | ⟨h1,h2⟩ | ⟨h1,(⟨v,h2,h3⟩ | ⟨h2,h3⟩)⟩)
    ·exact .inl ⟨j0,.inl rfl⟩
    ·exact .inl ⟨h1,.inr h2⟩
    ·exact .inr ⟨h1,.inl ⟨v,.inr h2,h3⟩⟩
    ·exact .inr ⟨h1,.inr ⟨fun v hv=>hv.elim (k0 v) (h2 v),h3⟩⟩
   ·rintro(⟨h1,(h2 | h2)⟩ | ⟨h1,(⟨v,(h2 | h2),h3⟩ | ⟨h2,h3⟩)⟩)
    ·exact .inl h2
    ·exact .inr (.inl ⟨h1,h2⟩)
    ·exact absurd h2 (k0 v)
    ·exact .inr (.inr ⟨h1,.inl ⟨v,h2,h3⟩⟩)
    ·exact .inr (.inr ⟨h1,.inr ⟨fun v hv=>h2 v (.inr hv),h3⟩⟩)
  ·rename_i g0;split
   ·rename_i he;have h0:=hr.notMem;rw[List.mem_cons];simp only[List.mem_cons];constructor
    ·rintro(rfl | h)
     ·exact .inr ⟨he,.inl ⟨x.2,.inl (by rw[<-he]),rfl⟩⟩
     ·exact .inl ⟨fun e=>h0 y h (e.trans he.symm),.inr h⟩
    ·rintro(⟨h1,(rfl | h2)⟩ | ⟨h1,(⟨v,(h2 | h2),h3⟩ | ⟨h2,h3⟩)⟩)
     ·exact absurd he h1
     ·exact .inr h2
     ·refine .inl ?_;obtain⟨a,b⟩:=y;simp only at h1 h3;rw[h1,h3,he,<-h2]
     ·exact absurd he.symm (h0 _ h2)
     ·exact absurd (.inl (by rw[<-he])) (h2 x.2)
   ·rename_i p0;have m0:=ZDP g0 p0;have h0:∀v,(p.1,v)∉x::xs:=fun v hv=>by
     rcases List.mem_cons.1 hv with e | hv
     ·exact p0 (by rw[<-e])
     ·exact List.lt_irrefl _ (List.lt_trans m0 ((List.pairwise_cons.1 hr).1 _ hv))
    rw[List.mem_cons];constructor
    ·rintro(rfl | h)
     ·exact .inr ⟨rfl,.inr ⟨h0,rfl⟩⟩
     ·exact .inl ⟨fun e=>h0 y.2 (by rw[<-e];exact h),h⟩
    ·rintro(⟨_,h⟩ | ⟨h1,(⟨v,h2,_⟩ | ⟨_,h3⟩)⟩)
     ·exact .inr h
     ·exact absurd h2 (h0 v)
     ·refine .inl ?_;obtain⟨a,b⟩:=y;simp only at h1 h3;rw[h1,h3]
theorem Grp.add {ps:List (List UInt8×β)} {r:List (List UInt8×List β)} (h:Grp ps r) (p:List UInt8×β):Grp (ps ++ [p]) (addG p r):=by
 refine⟨ZH9 p r h.up,fun y=>?_⟩;rw[ZIE p r h.up y,ZW,ZBc];by_cases hk:p.1=y.1
 ·rw[if_pos hk];have h0:∀v,(p.1,v)∈r↔v=valsOf ps p.1/\v ≠ []:=fun v=>h.mem (p.1,v);constructor
  ·rintro(⟨h1,_⟩ | ⟨_,(⟨v,h2,h3⟩ | ⟨h2,h3⟩)⟩)
   ·exact absurd hk.symm h1
   ·rw[h3,<-hk,((h0 v).1 h2).1];exact⟨rfl,by simp⟩
   ·have:valsOf ps p.1 = []:=Decidable.byContradiction fun p0=>h2 _ ((h0 _).2 ⟨rfl,p0⟩);rw[h3,<-hk,this];exact⟨rfl,by simp⟩
  ·rintro⟨h1,_⟩;refine .inr ⟨hk.symm,?_⟩;by_cases hv:valsOf ps p.1 = []
   ·exact .inr ⟨fun v q0=>((h0 v).1 q0).2 (((h0 v).1 q0).1.trans hv),by rw[h1,<-hk,hv];rfl⟩
   ·exact .inl ⟨_,(h0 _).2 ⟨rfl,hv⟩,by rw[h1,<-hk]⟩
 ·rw[if_neg hk,List.append_nil,<-h.mem y];constructor
  ·rintro(⟨_,h2⟩ | ⟨h1,_⟩)
   ·exact h2
   ·exact absurd h1.symm hk
  ·exact fun h2=> .inl ⟨fun e=>hk e.symm,h2⟩
def grp (ps:List (List UInt8×β)):List (List UInt8×List β):=ps.foldl (fun l p=>addG p l) []
theorem ZC0 (ps:List (List UInt8×β)) (p:List UInt8×β):grp (ps ++ [p])=addG p (grp ps):=by unfold grp;rw[List.foldl_append];rfl
theorem ZA6 (ps:List (List UInt8×β)):Grp ps (grp ps):=by
 have key:∀(qs:List (List UInt8×β)) (ps:List (List UInt8×β)) (r:List (List UInt8×List β)),Grp ps r->Grp (ps++qs) (qs.foldl (fun l p=>addG p l) r):=by
  intro qs
  induction qs with
  | nil=>intro ps r h;rw[List.append_nil];exact h
  | cons q qs ih =>
   intro ps r h;have:=ih _ _ (h.add q);rw[List.append_assoc]at this;exact this
 exact key ps [] [] Grp.nil
def joinS (r:List (List UInt8×List β)) (p:List UInt8×β):List (List UInt8×List β):=match r.getLast? with
 | some x=>if x.1=p.1 then r.dropLast ++ [(x.1,x.2 ++ [p.2])] else r ++ [(p.1,[p.2])]
 | none=> [(p.1,[p.2])]
theorem ZFw (p:List UInt8×β):∀(r:List (List UInt8×List β)),Ris r->(∀x∈r,¬ p.1<x.1)->addG p r=joinS r p
 | [],_,_=>rfl
 | [x],_,h=>by
  have h1:=h x (List.mem_singleton.2 rfl);unfold addG joinS;simp only[List.getLast?_singleton];by_cases he:x.1=p.1
  ·have:¬ x.1<p.1:=fun hl=>by rw[he]at hl;exact List.lt_irrefl _ hl
   rw[if_neg this,if_pos he,if_pos he];rfl
  ·rw[if_pos (ZDP h1 fun e=>he e.symm),if_neg he];rfl
 | x::y::ys,hr,h=>by
  have q0:=(List.pairwise_cons.1 hr).2;have ih:=ZFw p (y::ys) q0 fun z hz=>h z (List.mem_cons_of_mem _ hz);have h0:=(List.pairwise_cons.1 hr).1 y (List.mem_cons_self ..);have k0:=h y (List.mem_cons_of_mem _ (List.mem_cons_self ..));have p0:x.1<p.1:=by
   by_cases he:y.1=p.1
   ·rw[<-he];exact h0
   ·exact List.lt_trans h0 (ZDP k0 fun e=>he e.symm)
  rw[addG,if_pos p0,ih];unfold joinS;rw[List.getLast?_cons_cons];cases hg:(y::ys).getLast? with
  | none=>simp at hg
  | some z =>
   simp only;split
   ·rw[List.dropLast_cons_cons];rfl
   ·rfl
structure Stab (ps l:List (List UInt8×β)):Prop where
  up:l.Pairwise fun a b=>¬ b.1<a.1
  vals:∀s,valsOf l s=valsOf ps s
theorem ZGn:∀(done l:List (List UInt8×β)),(done++l).Pairwise (fun a b=>¬ b.1<a.1)->l.foldl joinS (grp done)=grp (done++l)
 | done,[],_=>by rw[List.append_nil];rfl
 | done,p::l,h=>by
  have h0:joinS (grp done) p=grp (done ++ [p]):=by
   rw[ZC0];refine(ZFw p _ (ZA6 done).up fun x hx=>?_).symm;have hv:=((ZA6 done).mem x).1 hx;obtain⟨q,hq,k0⟩:∃q∈done,q.1=x.1:=by
    have p0:valsOf done x.1 ≠ []:=hv.1 ▸ hv.2;unfold valsOf at p0;have q0:(done.filter fun(p:List UInt8×β)=>decide (p.1=x.1)) ≠ []:=fun e=>p0 (by rw[e];rfl);obtain⟨q,hq⟩:=List.exists_mem_of_ne_nil _ q0;exact⟨q,(List.mem_filter.1 hq).1,of_decide_eq_true (List.mem_filter.1 hq).2⟩
   rw[<-k0];exact(List.pairwise_append.1 h).2.2 q hq p (List.mem_cons_self ..)
  rw[List.foldl_cons,h0];have:=ZGn (done ++ [p]) l (by rw[List.append_assoc];exact h);rw[List.append_assoc]at this;exact this
theorem Stab.grp {ps l:List (List UInt8×β)} (h:Stab ps l):l.foldl joinS []=grp ps:=by
 have h1:=ZGn [] l h.up;rw[List.nil_append]at h1;exact h1.trans ((ZA6 l).same h.vals |>.uniq (ZA6 ps))
end
end
section
open Go.ChangeShapes Go.WideShapes Go.ChangeAt Go.RowKit
open Go.ChangeMaps (open_string shut_string)
theorem ZM9 {a:Int} (h:(Lit.int .i64 a).wf=true) : -9223372036854775808<=a/\a<=9223372036854775807:=by
 simp[Lit.wf,IntKind.has,IntKind.min,IntKind.max,IntKind.bits,IntKind.signed]at h;omega
end
section
open Go.ChangeShapes Go.WideShapes Go.Deep Go.RowKit
theorem ZNr {w:World} {a:Addr} {v:Value} (h:w.cell? a=some v):a.block<w.heap.size/\a.spot=none:=by
 unfold World.cell? at h;split at h
 ·rename_i c _ _ hb;refine⟨(Array.getElem?_eq_some_iff.1 hb).1,?_⟩;cases hs:a.spot with
  | none=>rfl
  | some s=>rw[hs]at h;simp at h
 ·cases h
theorem ZKw {α:Type} {Q:Nat->α->Prop}:∀(n:Nat),(∀i,i<n->∃x,Q i x)->∃l:List α,l.length=n/\∀i x,l[i]? = some x->Q i x
 | 0,_=>⟨[],rfl,fun i x h=>by simp at h⟩
 | n+1,h=>by
  obtain⟨l,hl,hq⟩:=ZKw n fun i hi=>h i (by omega);obtain⟨x,hx⟩:=h n (by omega);refine⟨l ++ [x],by simp[hl],fun i y hy=>?_⟩;rw[List.getElem?_append]at hy;split at hy
  ·exact hq i y hy
  ·rename_i hi;have:i=n:=by
    have:=(List.getElem?_eq_some_iff.1 hy).1;simp at this;omega
   subst this;rw[hl]at hy;simp at hy;rw[<-hy];exact hx
section
variable {H:Type} {enc:TypeId×Value->H} {w:World} {base:Nat} {spare:Nat->Bool} {held:Bool}
end
end
section
open Go.ChangeShapes Go.WideShapes Go.Deep Go.RowKit
def strV (l:List UInt8):Value:= .string ⟨l.toArray⟩
theorem ZIm (s:ByteArray):strV s.data.toList = .string s:=by
 cases s;simp[strV]
theorem ZCv {s:ByteArray} (h:s.size<=maxLen):Value.string s=strV s.data.toList/\s.data.toList.length<=9223372036854775807:=by
 refine⟨(ZIm s).symm,?_⟩;unfold maxLen at h;rw[Array.length_toList];exact h
section
variable {H:Type} {enc:TypeId×Value->H} {w:World} {base:Nat} {spare:Nat->Bool} {held:Bool}
theorem ZPS {t e:TypeId} {fuel:Nat} {v:Value} {x:DataW H×List MemPlace} (ht:Tryz.prog.underlying t=some (.slice e)) (he:Tryz.prog.underlying e=some .string) (hc:Tryz.prog.cellsOf e=1)
 (h:DataW.trod enc Tryz.prog w base spare held fuel t [v]=some x) :
 ∃(A:Option Addr) (cap:Nat) (ss:List (List UInt8)),v = .slice A ss.length cap/\Cells w A (ss.map strV)/\(ss ≠ []->∀a,A=some a->a.block<w.heap.size/\a.spot=none)/\ss.length<=cap/\ss.length<=9223372036854775807/\∀s∈ss,s.length<=9223372036854775807:=by
 rcases open_strings ht he hc h with ⟨p0,_⟩ | ⟨y,m,c,zs,p0,_,hl,hm,hz,_,q0,m0⟩
 ·obtain rfl:v = .slice none 0 0:=by simpa using p0
  exact⟨none,0,[],rfl,.inl rfl,fun h=>absurd rfl h,by simp,by simp,nofun⟩
 ·obtain rfl:v = .slice (some y) m c:=by simpa using p0
  have v0:m<=zs.length:=by rw[hz];split <;> omega
  have j0:m<=9223372036854775807:=by unfold maxLen at hm;omega
  have hlen:((zs.take m).map fun s=>s.data.toList).length=m:=by simp;omega
  refine⟨some y,c,(zs.take m).map fun s=>s.data.toList,by rw[hlen],?_,?_,by rw[hlen];exact hl,by rw[hlen];exact j0,fun s hs=>?_⟩
  ·rcases Nat.eq_zero_or_pos m with rfl | k0
   ·exact .inl rfl
   ·have h0:=q0 0 (by omega);have hs:=(ZNr h0).2;obtain⟨b,o,s⟩:=y;obtain rfl:s=none:=hs;refine .inr ⟨b,o,rfl,fun i u hu=>?_⟩;rw[List.getElem?_map,List.getElem?_map,List.getElem?_take]at hu;split at hu
    ·rename_i hi;have hi2:i<zs.length:=by omega
     rw[List.getElem?_eq_getElem hi2]at hu;simp only[Option.map_some]at hu;have h1:=q0 i hi2;rw[Addr.add_lit]at h1;rw[h1,<-hu,ZIm];simp[List.getD,hi2]
    ·simp at hu
  ·intro g0 a ha;obtain rfl:y=a:=by simpa using ha
   have k0:0<m:=by
    rcases Nat.eq_zero_or_pos m with rfl | k0
    ·exact absurd rfl g0
    ·exact k0
   exact ZNr (q0 0 (by omega))
  ·obtain⟨z,t0,rfl⟩:=List.mem_map.1 hs;have:=m0 z (List.mem_of_mem_take t0);unfold maxLen at this;rw[Array.length_toList];exact this
end
end
section
open Go.RowKit
abbrev Fd:=List UInt8×List UInt8
def Fd.cells (f:Fd):List Value:= [strV f.1,strV f.2]
def fcells (fs:List Fd):List Value:=fs.flatMap Fd.cells
theorem ZBZ:∀fs:List Fd,(fcells fs).length=fs.length*2
 | []=>rfl
 | f::fs=>by
  have:=ZBZ fs;unfold fcells at this ⊢;rw[List.flatMap_cons,List.length_append,this,List.length_cons];simp[Fd.cells];omega
theorem ZCY:∀(fs:List Fd) (i:Nat) (f:Fd) (k:Nat),fs[i]? = some f->k<2->(fcells fs)[i*2+k]? = f.cells[k]?
 | [],i,f,k,h,_=>by simp at h
 | x::fs,0,f,k,h,hk=>by
  obtain rfl:x=f:=by simpa using h
  unfold fcells;rw[List.flatMap_cons,List.getElem?_append_left (by simp[Fd.cells];omega),Nat.zero_mul,Nat.zero_add]
 | x::fs,i+1,f,k,h,hk=>by
  have h':fs[i]? = some f:=by simpa using h
  have ih:=ZCY fs i f k h' hk;unfold fcells at ih ⊢;rw[List.flatMap_cons,List.getElem?_append_right (by simp[Fd.cells];omega)];have:(i+1)*2+k - (Fd.cells x).length=i*2+k:=by
   have:(Fd.cells x).length=2:=rfl;omega
  rw[this];exact ih
theorem ZBi (fs:List Fd) (f:Fd):fcells (fs ++ [f])=fcells fs++f.cells:=by
 unfold fcells;rw[List.flatMap_append];simp
theorem Zu {w:World} {A:Option Addr} {fs:List Fd} (h:Cells w A (fcells fs)) {i:Nat} {f:Fd} (hf:fs[i]? = some f):∃g o,A=some ⟨g,o,none⟩/\w.cell? ⟨g,o+i*2,none⟩=some (strV f.1)/\w.cell? ⟨g,o+i*2+1,none⟩=some (strV f.2):=by
 have hi:=(List.getElem?_eq_some_iff.1 hf).1;obtain⟨g,o,hA,hc⟩:=h.at_ (by rw[ZBZ];omega);refine⟨g,o,hA,?_,?_⟩
 ·exact hc (i*2+0) _ (by rw[ZCY fs i f 0 hf (by omega)];rfl)
 ·rw[Nat.add_assoc];exact hc (i*2+1) _ (by rw[ZCY fs i f 1 hf (by omega)];rfl)
structure Ev where
  at_:Int
  fs:List Fd
def Ev.val (e:Ev) (A:Option Addr) (c:Nat):Value:= .agg #[.int .i64 e.at_,.slice A e.fs.length c]
def nameC (c:UInt8):Bool:=decide (c.toNat=95\/(48<=c.toNat/\c.toNat<=57)\/(97<=c.toNat/\c.toNat<=122))
def nameL (s:List UInt8):Bool:=s.all nameC&&decide (1<=s.length/\s.length<=32)
def checkF:List Fd->Nat
 | []=>0
 | f::fs=>if nameL f.1=false then 100 else if 4096<f.2.length then 2 else checkF fs
def checkE (fs:List Fd):Nat:=if 16<fs.length then 3 else checkF fs
theorem ZDl {fs:List Fd} {i:Nat} {f:Fd} (h:fs[i]? = some f):checkF (fs.drop i)=if nameL f.1=false then 100 else if 4096<f.2.length then 2 else checkF (fs.drop (i+1)):=by
 obtain⟨hi,rfl⟩:=List.getElem?_eq_some_iff.1 h;rw[List.drop_eq_getElem_cons hi];rfl
theorem ZGv {s:List UInt8} {i:Nat} {x:UInt8} (h:s[i]? = some x) (hx:nameC x=false):nameL s=false:=by
 unfold nameL;have:s.all nameC=false:=by
  rw[List.all_eq_false];exact⟨x,List.mem_of_getElem? h,by rw[hx];simp⟩
 rw[this];rfl
theorem ZIA {x:UInt8} (h:¬ (x.toNat=95\/(48<=x.toNat/\x.toNat<=57)\/(97<=x.toNat/\x.toNat<=122))):nameC x=false:=decide_eq_false h
theorem ZFm {x:UInt8} (h:x.toNat=95\/(48<=x.toNat/\x.toNat<=57)\/(97<=x.toNat/\x.toNat<=122)):nameC x=true:=decide_eq_true h
theorem ZIT {s:List UInt8} {i:Nat} {x:UInt8} (h:s[i]? = some x) (ha:(s.take i).all nameC=true) (hx:nameC x=true):(s.take (i+1)).all nameC=true:=by
 obtain⟨hi,rfl⟩:=List.getElem?_eq_some_iff.1 h;rw[List.take_succ_eq_append_getElem hi,List.all_append,ha];simp[hx]
theorem ZJW (s : List UInt8) (w : World) (hs : s.length ≤ 9223372036854775807) : Calls Tryz.prog 190 #[.string ⟨s.toArray⟩] w fun e w' => e = .returned (.bool (nameL s)) ∧ Ext w w' := by
  obtain ⟨c1, W1, x0, hB, j0, u0⟩ := ZDf s w
  obtain ⟨z, hz⟩ : ∃ z, z = nameL s := ⟨_, rfl⟩
  rw [← hz]
  have h0 : ∀ i x, s[i]? = some x → nameC x = false → z = false := fun i x h hx => hz.trans (ZGv h hx)
  have q0 : s.all nameC = true → z = (decide (1 ≤ s.length) && decide (s.length ≤ 32)) := fun h => by rw [hz]; unfold nameL; rw [h]; simp [Bool.decide_and]
  replace q0 := ZA q0
  replace h0 := ZA h0
  replace j0 := ZA j0
  clear hz u0
  go_enter Tryz.func190, Tryz.ntmps190
  go_wp2_with fail
  go_loopw [8] (fun s8 wr => ∃ i : Nat, s8 = .int .i64 i ∧ i ≤ s.length ∧ Hid ((s.take i).all nameC = true) ∧ wr = W1) (fun s8 _ => s.length - (intOf s8).toNat)
  case atStart => exact ⟨0, rfl, by omega, ZA rfl, rfl⟩
  case round =>
    obtain ⟨i, rfl, hi, p0, rfl⟩ := hrel
    by_cases v0 : i < s.length
    · obtain ⟨g, o, hg, hc⟩ := hB.at_ (by omega)
      injection hg with hg
      injection hg with hg ho
      subst hg
      subst ho
      have k0 := hc i v0
      rw [Nat.zero_add] at k0
      obtain ⟨x, hx⟩ : ∃ x, x = s[i] := ⟨_, rfl⟩
      have t0 : s[i]? = some x := by rw [hx]; exact List.getElem?_eq_getElem v0
      rw [← hx] at k0
      have g0 : ¬ (x.toNat = 95 ∨ (48 ≤ x.toNat ∧ x.toNat ≤ 57) ∨ (97 ≤ x.toNat ∧ x.toNat ≤ 122)) → z = false := fun h => h0.out i x t0 (ZIA h)
      have m0 : (x.toNat = 95 ∨ (48 ≤ x.toNat ∧ x.toNat ≤ 57) ∨ (97 ≤ x.toNat ∧ x.toNat ≤ 122)) → (s.take (i + 1)).all nameC = true := fun h => ZIT t0 p0.out (ZFm h)
      replace g0 := ZA g0
      replace m0 := ZA m0
      clear hc hx t0
      go_wp2_with fail
      all_goals first
        | (have q := m0.out (by first | omega | (simp_all; done) | (simp_all; omega))
           replace q := ZA q
           go_roundw
           case rel => exact ⟨i + 1, by go_num, by omega, q, trivial⟩
           case measure => simp [intOf]; omega)
        | (have q := g0.out (by first | omega | (simp_all; done) | (simp_all; omega))
           go_ret
           exact ⟨Zw (by rw [q]), j0.out⟩)
    · have hz := q0.out (by have h := p0.out; rw [List.take_of_length_le (by omega)] at h; exact h)
      replace hz := ZA hz
      go_wp2_with fail
      all_goals go_ret
      all_goals refine ⟨Zw ?_, j0.out⟩
      all_goals rw [hz.out]
      all_goals
        rw [Bool.eq_iff_iff]
        simp
        omega
theorem ZMG (s:List UInt8) (w:World) (hs:s.length<=9223372036854775807):Calls Tryz.prog 172 #[.string ⟨s.toArray⟩] w fun e w'=>e = .returned (.bool (nameL s))/\Ext w w':=by
 have h:=ZA (ZJW s w hs);go_enter Tryz.func172,Tryz.ntmps172;go_wp2_with fail;refine h.out.mono ?_;rintro e w1 ⟨rfl,hE⟩;go_wp2_with fail;go_ret;exact⟨rfl,hE⟩
theorem ZHL (s : List UInt8) (w : World) (hs : s.length ≤ 9223372036854775807) : Calls Tryz.prog 99 #[.string ⟨s.toArray⟩] w fun e w' => e = .returned (.bool (nameL s)) ∧ w' = w := by
  obtain ⟨z, hz⟩ : ∃ z, z = nameL s := ⟨_, rfl⟩
  rw [← hz]
  have h0 : ∀ i x, s[i]? = some x → nameC x = false → z = false := fun i x h hx => hz.trans (ZGv h hx)
  have q0 : s.all nameC = true → z = (decide (1 ≤ s.length) && decide (s.length ≤ 32)) := fun h => by rw [hz]; unfold nameL; rw [h]; simp [Bool.decide_and]
  have hlen : ¬ (1 ≤ s.length ∧ s.length ≤ 32) → z = false := fun h => by rw [hz]; unfold nameL; rw [decide_eq_false h]; simp
  replace q0 := ZA q0
  replace h0 := ZA h0
  replace hlen := ZA hlen
  clear hz
  by_cases hl : 1 ≤ s.length ∧ s.length ≤ 32
  · obtain ⟨t0, v0⟩ := hl
    go_enter Tryz.func99, Tryz.ntmps99
    go_wp2_with fail
    go_loopw [3] (fun s3 wr => ∃ i : Nat, s3 = .int .i64 i ∧ i ≤ s.length ∧ Hid ((s.take i).all nameC = true) ∧ wr = w) (fun s3 _ => s.length - (intOf s3).toNat)
    case atStart => exact ⟨0, rfl, by omega, ZA rfl, rfl⟩
    case round =>
      obtain ⟨i, rfl, hi, p0, rfl⟩ := hrel
      by_cases m0 : i < s.length
      · obtain ⟨x, hx⟩ : ∃ x, x = s[i] := ⟨_, rfl⟩
        have k0 : s[i]? = some x := by rw [hx]; exact List.getElem?_eq_getElem m0
        have u0 := fun W => ZO k0 (z := (i : Int)) rfl W
        have j0 : ¬ (x.toNat = 95 ∨ (48 ≤ x.toNat ∧ x.toNat ≤ 57) ∨ (97 ≤ x.toNat ∧ x.toNat ≤ 122)) → z = false := fun h => h0.out i x k0 (ZIA h)
        have g0 : (x.toNat = 95 ∨ (48 ≤ x.toNat ∧ x.toNat ≤ 57) ∨ (97 ≤ x.toNat ∧ x.toNat ≤ 122)) → (s.take (i + 1)).all nameC = true := fun h => ZIT k0 p0.out (ZFm h)
        replace j0 := ZA j0
        replace g0 := ZA g0
        clear hx k0
        go_wp2_with fail
        all_goals first
          | (have q := g0.out (by first | omega | (simp_all; done) | (simp_all; omega))
             replace q := ZA q
             go_roundw
             case rel => exact ⟨i + 1, by go_num, by omega, q, trivial⟩
             case measure => simp [intOf]; omega)
          | (have q := j0.out (by first | omega | (simp_all; done) | (simp_all; omega))
             go_ret
             exact ⟨Zw (by rw [q]), rfl⟩)
      · have hz := q0.out (by have h := p0.out; rw [List.take_of_length_le (by omega)] at h; exact h)
        rw [decide_eq_true t0, decide_eq_true v0] at hz
        subst hz
        go_wp2_with fail
        go_ret
        exact ⟨rfl, rfl⟩
  · obtain rfl := hlen.out hl
    go_enter Tryz.func99, Tryz.ntmps99
    go_wp2_with fail
    all_goals first
      | (go_ret; exact ⟨rfl, rfl⟩)
      | (exfalso; simp_all; omega)
structure Ev.Ok (e:Ev) (w:World) (A:Option Addr):Prop where
  cells:Cells w A (fcells e.fs)
  many:e.fs.length<=9223372036854775807
  long:∀f∈e.fs,f.1.length<=9223372036854775807/\f.2.length<=9223372036854775807
theorem Ev.Ok.ext {e:Ev} {w w1:World} {A:Option Addr} (h:e.Ok w A) (hE:Ext w w1):e.Ok w1 A:=⟨h.cells.ext hE,h.many,h.long⟩
theorem ZBQ (e:Ev) (A:Option Addr) (c:Nat) (w:World) (h:e.Ok w A):Calls Tryz.prog 130 #[e.val A c] w fun en w'=>en = .returned (.int .i64 (checkE e.fs:Int))/\Ext w w':=by
 obtain⟨at_,fs⟩:=e;obtain⟨hc,hm,hl⟩:=h;unfold Ev.val;simp only at hc hm hl ⊢;obtain⟨n,hn⟩:∃n,n=fs.length:=⟨_,rfl⟩
 obtain⟨z,hz⟩:∃z,z=checkE fs:=⟨_,rfl⟩
 have h0:16<n->z=3:=fun h=>by rw[hz];unfold checkE;rw[if_pos (by omega)]
 have t0:n<=16->z=checkF (fs.drop 0):=fun h=>by rw[hz];unfold checkE;rw[if_neg (by omega)];rfl
 have v0:=fun s W (hs:s.length<=9223372036854775807)=>ZMG s W hs;rw[<-hz,<-hn];rw[<-hn]at hm;replace hn:=ZA hn;replace hl:=ZA hl;replace v0:=ZA v0;replace t0:=ZA t0;clear hz;by_cases d0:16<n
 ·have u0:=h0 d0;subst u0;clear h0;go_enter Tryz.func130,Tryz.ntmps130;go_wp2_with fail;go_ret;exact⟨rfl,(Ext.refl w).alloc _⟩
 ·clear h0;go_enter Tryz.func130,Tryz.ntmps130;go_wp2_with fail;have j0:=t0.out (by omega);replace j0:=ZA j0;have z0:Ext w (w.alloc (.cells #[.int .i64 at_,.slice A n c] 37)):=(Ext.refl w).alloc _;obtain⟨W0,a0⟩:∃W0,W0=w.alloc (.cells #[.int .i64 at_,.slice A n c] 37):=⟨_,rfl⟩
  rw[<-a0]at z0 ⊢;clear a0
  go_loopw [12] (fun s12 wr=>∃i:Nat,s12 = .int .i64 i/\i<=n/\Hid (z=checkF (fs.drop i))/\Hid (Ext w wr)) (fun s12 _=>n - (intOf s12).toNat)
  case atStart=>exact⟨0,rfl,by omega,j0,ZA z0⟩
  case round =>
   obtain⟨i,rfl,hi,hz,hE⟩:=hrel;by_cases i0:i<n
   ·have f0:i<fs.length:=by rw[<-hn.out];exact i0
    obtain⟨f,hf⟩:∃f,fs[i]? = some f:=⟨_,List.getElem?_eq_getElem f0⟩
    obtain⟨g,o,rfl,k0,k1⟩:=Zu (hc.ext hE.out) hf;obtain⟨b0,l0⟩:=hl.out f (List.mem_of_getElem? hf);have p0:=hz.out;rw[ZDl hf]at p0;unfold strV at k0 k1;have e0:g<wr.heap.size:=World.block_lt_of_cell? wr _ k0;obtain⟨nm,tx⟩:=f;simp only at k0 k1 b0 l0 p0;have q0:=fun W=>v0.out nm W b0;obtain⟨q,hq⟩:∃q,q=nameL nm:=⟨_,rfl⟩
    rw[<-hq]at q0 p0;replace q0:=ZA q0;replace p0:=ZA p0;clear hf hq;go_wp2_with fail;have g0:Row (wr.alloc (.cells #[.string ⟨nm.toArray⟩,.string ⟨tx.toArray⟩] 105)) wr.heap.size 105 #[.string ⟨nm.toArray⟩,.string ⟨tx.toArray⟩]:=Row.new wr _ _;have x0:Ext w (wr.alloc (.cells #[.string ⟨nm.toArray⟩,.string ⟨tx.toArray⟩] 105)):=hE.out.trans ((Ext.refl wr).alloc _);refine(q0.out _).mono ?_;rintro e w3 ⟨rfl,y0⟩;have k3:w3.cell? ⟨wr.heap.size,1,none⟩=some (.string ⟨tx.toArray⟩):=y0.cell (g0.cell 1 rfl);have m0:=ZA (x0.trans y0);clear g0 x0;cases q with
    | false =>
     obtain rfl:z=100:=by rw[p0.out];rfl
     go_wp2_with fail;go_ret;exact⟨rfl,m0.out⟩
    | true =>
     by_cases c0:4096<tx.length
     ·obtain rfl:z=2:=by rw[p0.out,if_neg (by simp),if_pos c0]
      go_wp2_with fail;go_ret;exact⟨rfl,m0.out⟩
     ·have u0:=ZA (show z=checkF (fs.drop (i+1))by rw[p0.out,if_neg (by simp),if_neg c0]);go_wp2_with fail;go_roundw
      case rel=>exact⟨i+1,by go_num,by omega,u0,m0⟩
      case measure=>simp[intOf];omega
   ·have j0:=hz.out;rw[List.drop_of_length_le (by rw[<-hn.out];omega)]at j0;have n0:z=0:=j0;subst n0;go_wp2_with fail;go_ret;exact⟨rfl,hE.out⟩
def I64ok' (z:Int):Prop:= -9223372036854775808<=z/\z<=9223372036854775807
theorem ZN {w:World} {base b:Nat} {e:TypeId} {size:Nat} {v:Value} {n:Nat} {xs:List Value} (h:w.ownsRow base e size v n xs) (hb:b<=base):w.ownsRow b e size v n xs:=by
 refine⟨h.1,?_⟩;rcases h.2 with h2 | ⟨g,cap,cur,hv,hg,r⟩
 ·exact .inl h2
 ·exact .inr ⟨g,cap,cur,hv,Nat.le_trans hb hg,r⟩
def Ev.Own (e:Ev) (w:World) (base:Nat) (A:Option Addr) (c:Nat):Prop:=w.ownsRow base 105 2 (.slice A e.fs.length c) e.fs.length (fcells e.fs)/\(∀f∈e.fs,f.1.length<=9223372036854775807/\f.2.length<=9223372036854775807)/\e.fs.length<=20
theorem Ev.Own.ok {e:Ev} {w:World} {base c:Nat} {A:Option Addr} (h:e.Own w base A c):e.Ok w A:=⟨Cells.of_own h.1,by have:=h.2.2;omega,h.2.1⟩
theorem Ev.Own.nil (w:World) (base:Nat) (at_:Int):Ev.Own ⟨at_,[]⟩ w base none 0:=⟨⟨rfl,.inl ⟨rfl,rfl⟩⟩,nofun,by simp⟩
theorem ZR {P:Program} {ops:Array Oper} {rest:List Oper} {o:Oper} {a:Act} {Q:Exit->Act->World->Prop} {w0:World} {us:List Value} {T:TypeId} {t e size bytes m k:Nat} (E:Elem P t e size bytes)
 {base:Nat} {v:Value} {n:Nat} {xs:List Value} (q0:w0.ownsRow base e size v n xs) (hk:k=w0.heap.size) (s x:Operand)
 (ho:o.op = .call { callee:= .builtin .append,args:=#[s,x],argTypes:=#[t,t] }) (p0:o.guard=none)
 (hs:a.eval s=v) (hx:a.eval x = .slice (some ⟨k,0,none⟩) m m) (hl:us.length=m*size) (h1:∀u∈us,u.oneCell'=true) (k0:n+m<=4294967296) (h0:base<=w0.heap.size)
 (h:∀A1 c1 w',w'.ownsRow base e size (.slice A1 (n+m) c1) (n+m) (xs++us)->w0.grownBy w' v.ownBlock->((Value.slice A1 (n+m) c1).ownBlock=v.ownBlock\/(Value.slice A1 (n+m) c1).ownBlock=some (w0.heap.size+1)) ->
  wpList P ops Q rest (a.put o.dst (.slice A1 (n+m) c1)) w') :
 wpList P ops Q (o::rest) a (w0.alloc (.cells us.toArray T)):=by
 subst hk;exact Z7 E q0 s x ho p0 hs hx hl h1 k0 h0 h
theorem ZIZ:Elem Tryz.prog 35 105 2 32:=⟨Tryz.underlying35,⟨_,_,rfl,rfl,rfl,rfl,rfl⟩,by omega,by omega⟩
structure EvC where
  e:Ev
  A:Option Addr
  c:Nat
def EvC.val (x:EvC):Value:=x.e.val x.A x.c
def EvC.cells (x:EvC):List Value:= [.int .i64 x.e.at_,.slice x.A x.e.fs.length x.c]
def EvC.Own (x:EvC) (w:World) (base:Nat):Prop:=x.e.Own w base x.A x.c
theorem EvC.Own.ok {x:EvC} {w:World} {base:Nat} (h:x.Own w base):x.e.Ok w x.A:=Ev.Own.ok h
theorem EvC.Own.chg {x:EvC} {w w':World} {base:Nat} {S:Nat->Prop} (h:x.Own w base) (hc:Chg S w w') (hS:∀g cs,Row w g 105 cs->¬ S g):x.Own w' base :=
 ⟨hc.owns h.1 fun g hg=>by obtain⟨cs,hr,_⟩:=ZC h.1 hg;exact hS g cs hr,h.2⟩
end
section
def fieldT (base:Nat) (f:Fd):List (List UInt8×Int):=(tokL f.2).zipIdx.map fun p=>(f.1++58::p.1,((base+p.2:Nat):Int))
def nextT (base:Nat) (f:Fd):Nat:=base+(64+(tokL f.2).length)
def rawT:Nat->List Fd->List (List UInt8×Int)
 | _,[]=> []
 | b,f::fs=>fieldT b f++rawT (nextT b f) fs
def baseT:Nat->List Fd->Nat
 | b,[]=>b
 | b,f::fs=>baseT (nextT b f) fs
theorem ZFS:∀(a c:List Fd) (b:Nat),rawT b (a++c)=rawT b a++rawT (baseT b a) c
 | [],c,b=>rfl
 | f::a,c,b=>by
  show fieldT b f++rawT (nextT b f) (a++c)=(fieldT b f++rawT (nextT b f) a)++_;rw[ZFS a c,List.append_assoc];rfl
theorem ZDr:∀(a c:List Fd) (b:Nat),baseT b (a++c)=baseT (baseT b a) c
 | [],c,b=>rfl
 | f::a,c,b=>ZDr a c (nextT b f)
theorem ZAf (base:Nat) (f:Fd):(fieldT base f).length=(tokL f.2).length:=by unfold fieldT;rw[List.length_map,List.length_zipIdx]
def termsL (e:Ev):List (List UInt8×List Int):=if checkE e.fs=0 then grp (rawT 0 e.fs) else []
end
section
open Go.RowKit
def risB (n:Int):Int->List Int->Bool
 | _,[]=>true
 | lo,x::t=>decide (lo<x)&&decide (x<n)&&risB n x t
def IV (x:Int):Value:= .int .i64 x
def idV:Value:= .func (.func 143) #[] #[]
theorem ZNO (x:Int) (w:World):Calls Tryz.prog 143 #[.int .i64 x] w fun e w'=>e = .returned (.int .i64 x)/\w'=w:=by
 go_enter Tryz.func143,Tryz.ntmps143;go_wp2;go_ret;exact⟨rfl,rfl⟩
theorem ZHG (xs:List Int) (A:Option Addr) (m c:Nat) (n:Int) (w:World) (hm:m=xs.length) (hc:Cells w A (xs.map IV)) (u0:m<=1000000000) :
 Calls Tryz.prog 142 #[.slice A m c,.int .i64 n,idV] w fun e w'=>e = .returned (.bool (risB n (-1) xs))/\Ext w w':=by
 unfold idV;have t0:=ZA (fun x W=>ZNO x W);obtain⟨Z,hZ⟩:∃Z,Z=risB n (-1) xs:=⟨_,rfl⟩
 rw[<-hZ];replace hZ:=ZA hZ;replace hc:=ZA hc;replace hm:=ZA hm;go_enter Tryz.func142,Tryz.ntmps142;go_wp2_with fail
 go_loopw [7,13] (fun s7 s13 wr=>∃(i:Nat) (p:Int),s7 = .int .i64 p/\s13 = .int .i64 (i:Int)/\i<=m/\Hid (Z=risB n p (xs.drop i))/\wr=w) (fun _ s13 _=>m - (intOf s13).toNat)
 case atStart=>exact⟨0,-1,rfl,rfl,by omega,ZA (by rw[hZ.out];rfl),rfl⟩
 case round =>
  obtain⟨i,p,rfl,rfl,hi,g0,rfl⟩:=hrel;by_cases h:i<m
  ·obtain⟨x,q0⟩:∃x,xs[i]? = some x:=⟨_,List.getElem?_eq_getElem (by rw[<-hm.out];exact h)⟩
   obtain⟨g,o,hA,k0⟩:=hc.out.at_ (by rw[List.length_map,<-hm.out];omega);subst hA;have v0:=k0 i (IV x) (by rw[List.getElem?_map,q0];rfl);unfold IV at v0;have j0:xs.drop i=x::xs.drop (i+1):=by
    rw[List.drop_eq_getElem_cons (List.getElem?_eq_some_iff.1 q0).1];congr 1;exact(List.getElem?_eq_some_iff.1 q0).2
   have h0:=g0.out;rw[j0,risB]at h0;have p0:=ZA (fun W=>t0.out x W);replace k0:=ZA k0;replace q0:=ZA q0;replace j0:=ZA j0;by_cases h1:p<x
   ·by_cases h2:x<n
    ·rw[decide_eq_true h1,decide_eq_true h2,Bool.true_and,Bool.true_and]at h0;replace h0:=ZA h0;go_wp2_with fail;refine(p0.out _).mono ?_;rintro e w2 ⟨rfl,rfl⟩;go_wp2_with fail;exact⟨⟨i+1,x,rfl,rfl,by omega,h0,trivial⟩,by simp only[intOf];omega⟩
    ·rw[decide_eq_true h1,decide_eq_false h2,Bool.true_and,Bool.false_and]at h0;subst h0;go_wp2_with fail;refine(p0.out _).mono ?_;rintro e w2 ⟨rfl,rfl⟩;go_wp2_with fail;go_ret;exact⟨rfl,Ext.refl _⟩
   ·rw[decide_eq_false h1,Bool.false_and,Bool.false_and]at h0;subst h0;go_wp2_with fail;refine(p0.out _).mono ?_;rintro e w2 ⟨rfl,rfl⟩;go_wp2_with fail;go_ret;exact⟨rfl,Ext.refl _⟩
  ·obtain rfl:i=m:=by omega
   have m0:Z=true:=by rw[g0.out,List.drop_eq_nil_of_le (by rw[<-hm.out];exact Nat.le_refl _),risB]
   subst m0;go_wp2_with fail;go_ret;exact⟨rfl,Ext.refl _⟩
end
section
def chunkL {α:Type} (k:Nat) (l:List α):List (List α):=if h:l = []\/k=0 then [] else l.take k::chunkL k (l.drop k)
termination_by l.length
decreasing_by
 rw[List.length_drop];have:0<l.length:=List.length_pos_iff.2 (fun e=>h (.inl e));omega
section
variable {α:Type} {k:Nat}
theorem ZCK:chunkL k ([]:List α) = []:=by rw[chunkL,dif_pos (.inl rfl)]
theorem ZAB {l:List α} (hl:l ≠ []) (hk:0<k):chunkL k l=l.take k::chunkL k (l.drop k):=by rw[chunkL,dif_neg (fun h=>h.elim hl (by omega))]
theorem ZBq (hk:0<k) (l:List α):(chunkL k l).flatMap id=l:=by
 by_cases h:l = []
 ·rw[h,ZCK];rfl
 ·have:0<l.length:=List.length_pos_iff.2 h;rw[ZAB h hk,List.flatMap_cons,ZBq hk (l.drop k)];exact List.take_append_drop k l
termination_by l.length
decreasing_by rw[List.length_drop];omega
theorem ZZ (hk:0<k) (l:List α):(chunkL k l).length=(l.length+k - 1) / k:=by
 by_cases h:l = []
 ·rw[h,ZCK];symm;exact Nat.div_eq_of_lt (by simp;omega)
 ·have hl:0<l.length:=List.length_pos_iff.2 h;rw[ZAB h hk,List.length_cons,ZZ hk (l.drop k),List.length_drop];rcases Nat.lt_or_ge k l.length with h1 | h1
  ·rw[show l.length+k - 1=(l.length - k+k - 1)+k by omega,Nat.add_div_right _ hk]
  ·rw[show l.length - k+k - 1=k - 1 by omega,Nat.div_eq_of_lt (by omega),show l.length+k - 1=(l.length - 1)+k by omega,Nat.add_div_right _ hk,Nat.div_eq_of_lt (by omega)]
termination_by l.length
decreasing_by rw[List.length_drop];omega
theorem ZAP (hk:0<k):∀(i:Nat) (l:List α),i*k<l.length->(chunkL k l)[i]? = some ((l.drop (i*k)).take k)
 | 0,l,h=>by
  have:l ≠ []:=fun e=>by rw[e]at h;simp at h
  rw[ZAB this hk];simp
 | i+1,l,h=>by
  have hl:l ≠ []:=fun e=>by rw[e]at h;simp at h
  rw[ZAB hl hk,List.getElem?_cons_succ,ZAP hk i (l.drop k) (by rw[List.length_drop];rw[Nat.succ_mul]at h;omega),List.drop_drop];congr 3;rw[Nat.succ_mul];omega
theorem ZAR (hk:0<k) (i:Nat) (l:List α) (h:l.length<=i*k):(chunkL k l).length<=i:=by
 rw[ZZ hk,Nat.div_le_iff_le_mul_add_pred hk,Nat.mul_comm];omega
theorem ZDh (hk:0<k) {l b:List α} (hb:b∈chunkL k l):b ≠ []/\b.length<=k:=by
 by_cases h:l = []
 ·rw[h,ZCK]at hb;cases hb
 ·have hl:0<l.length:=List.length_pos_iff.2 h;rw[ZAB h hk]at hb;rcases List.mem_cons.1 hb with rfl | hb
  ·refine⟨fun e=>?_,List.length_take_le ..⟩;have:=congrArg List.length e;rw[List.length_take,List.length_nil]at this;omega
  ·exact ZDh hk hb
termination_by l.length
decreasing_by rw[List.length_drop];omega
theorem ZEx (hk:0<k) {l b:List α} (hb:b∈chunkL k l):∀x∈b,x∈l:=by
 intro x hx;rw[<-ZBq hk l];exact List.mem_flatMap.2 ⟨b,hb,hx⟩
theorem Zx (hk:0<k) (l:List α):∀i,((chunkL k l).take i).flatMap id=l.take (i*k)
 | 0=>by simp
 | i+1=>by
  rcases Nat.lt_or_ge (i*k) l.length with h | h
  ·have hg:=ZAP hk i l h;have hi:=(List.getElem?_eq_some_iff.1 hg)
   rw[List.take_add_one,hg,List.flatMap_append,Zx hk l i];show _ ++ [(l.drop (i*k)).take k].flatMap id=_;rw[List.flatMap_cons,List.flatMap_nil,List.append_nil];show _++(l.drop (i*k)).take k=_;rw[Nat.succ_mul,List.take_add]
  ·have h1:=ZAR hk i l h;rw[List.take_of_length_le (by omega),ZBq hk,List.take_of_length_le (by rw[Nat.succ_mul];omega)]
end
end
end Go.Proofs.YtkdcnhnaiknaaaaGreat
