/- Texts of one proof, joined. -/
import Derived.Test.YtkdcnhnaiknaaaaGreatPB03
import Derived.Laws.DeepNot64
import Derived.Test.YtkdcnhnaiknaaaaGreatPB01
import Derived.Lib.AppendStr
import Derived.Test.YtkdcnhnaiknaaaaGreatPB02
import Derived.Laws.StructEq
import Derived.Deep.QuietTactic
import Derived.BigQuiet
import Derived.Deep.RegionHeld3
import Derived.Deep.CutRange
import Derived.Deep.DeepCutAuto
import Derived.RangeFuncNested
import Derived.RangeFuncBound
import Derived.RangeFuncCalls
import Derived.RangeFuncLeaves
import Derived.WalkKit
import Derived.OwnWalkIn
import Derived.TacticsInMore
import Derived.LoopNIn
import Derived.LoopIn
import Derived.Shelf.Abstract
import Derived.Test.YtkdcnhnaiknaaaaGreatPBShelf
set_option linter.unusedSimpArgs false
set_option linter.unusedVariables false
set_option maxRecDepth 100000
set_option maxHeartbeats 16000000
namespace Go.Proofs.YtkdcnhnaiknaaaaGreat
section
open Go.RowKit
def be4 (s:Nat):List UInt8:= [UInt8.ofNat (s / 16777216%256),UInt8.ofNat (s / 65536%256),UInt8.ofNat (s / 256%256),UInt8.ofNat (s%256)]
def be (l:List UInt8):Nat:=l.foldl (fun s x=>s*256+x.toNat) 0
theorem ZOQ {s:Nat} (h:s<4294967296):be (be4 s)=s:=by
 have h1:∀k,(UInt8.ofNat (k%256)).toNat=k%256:=fun k=>by rw[UInt8.toNat_ofNat'];omega
 unfold be be4;simp only[List.foldl_cons,List.foldl_nil,h1];omega
theorem ZK0 {x:Nat} (h:x<4294967296):cnot (cnot x)=x:=by unfold cnot;omega
theorem ZF2 (a b:List UInt8):cnext (cnext 0 a) b=cnext 0 (a++b):=by
 unfold cnext;rw[ZK0 (ZLf a (by unfold cnot;omega)),List.foldl_append]
def frameL (p:List UInt8):List UInt8:=vb p.length++be4 (cnext 0 (vb p.length++p))++p
def getF (l:List UInt8):Except Nat (List UInt8×List UInt8):=match getV 0 l with
 | .error k=>if k=6 then .error 41 else .error 40
 | .ok (n,r)=>if 16777216<n then .error 40 else if r.length<4+n then .error 41 else
  if cnext 0 (l.take (l.length - r.length)++(r.drop 4).take n)=be (r.take 4) then .ok ((r.drop 4).take n,r.drop (4+n)) else .error 40
theorem ZMR {p:List UInt8} (h:p.length<=16777216) (r:List UInt8):getF (frameL p++r) = .ok (p,r):=by
 have p0:∀s,(be4 s).length=4:=fun _=>rfl;unfold getF frameL;rw[List.append_assoc,List.append_assoc,Zm (by omega)];simp only;rw[if_neg (by omega),if_neg (by rw[List.length_append,List.length_append,p0];omega)];obtain⟨B,hB⟩:∃B,B=be4 (cnext 0 (vb p.length++p)):=⟨_,rfl⟩
 have h0:B.length=4:=by rw[hB];rfl
 have q0:be B=cnext 0 (vb p.length++p):=by rw[hB];exact ZOQ (ZCt _ _)
 rw[<-hB];have e1:(vb p.length++(B++(p++r))).length - (B++(p++r)).length=(vb p.length).length:=by rw[List.length_append];omega
 have e2:(B++(p++r)).drop 4=p++r:=List.drop_left' h0;have e3:(B++(p++r)).take 4=B:=List.take_left' h0;have e4:(B++(p++r)).drop (4+p.length)=r:=by rw[<-List.drop_drop,e2];exact List.drop_left' rfl
 rw[e1,e2,e3,e4,List.take_left' rfl,List.take_left' rfl,q0,if_pos rfl]
theorem ZBO:∀(l:List UInt8) (i n:Nat) (r r':List UInt8),getV i l = .ok (n,r)->∃p,l=p++r/\getV i (p++r') = .ok (n,r')
 | [],i,n,r,r',h=>by unfold getV at h;cases h
 | x::l,i,n,r,r',h=>by
  unfold getV at h;split at h
  ·cases h
  ·rename_i h1;split at h
   ·cases h
   ·rename_i h2;split at h
    ·rename_i h3;injection h with h;injection h with e1 e2;refine⟨[x],by rw[<-e2];rfl,?_⟩;show getV i (x::r')=_;unfold getV;rw[if_neg h1,if_neg h2,if_pos h3,e1]
    ·rename_i h3;split at h
     ·rename_i m r1 hg;injection h with h;injection h with e1 e2;obtain⟨p,hp,hq⟩:=ZBO l (i+1) m r1 r' hg;refine⟨x::p,by rw[hp,<-e2];rfl,?_⟩;show getV i (x::(p++r'))=_;unfold getV;rw[if_neg h1,if_neg h2,if_neg h3,hq];simp only;rw[e1]
     ·cases h
theorem ZI4 {l p r:List UInt8} (h:getF l = .ok (p,r)) (r':List UInt8):∃f,l=f++r/\f ≠ []/\getF (f++r') = .ok (p,r'):=by
 unfold getF at h;split at h
 ·split at h <;> cases h
 ·rename_i n r0 hg;split at h
  ·cases h
  ·rename_i h1;split at h
   ·cases h
   ·rename_i h2;split at h
    ·rename_i h3;injection h with h;injection h with e1 e2;obtain⟨v,hv,hq⟩:=ZBO l 0 n r0 (r0.take (4+n)++r') hg;have k0:v ≠ []:=by
      obtain⟨_,_,q,q0,p0⟩:=ZAH l 0 n r0 hg;rw[hv]at q0;rw[List.append_cancel_right q0];exact p0
     refine⟨v++r0.take (4+n),by rw[hv,<-e2,List.append_assoc,List.take_append_drop],by simp[k0],?_⟩;unfold getF;rw[List.append_assoc,hq];simp only;have h0:(r0.take (4+n)).length=4+n:=by rw[List.length_take];omega
     rw[if_neg h1,if_neg (by rw[List.length_append,h0];omega)];have e3:(v++(r0.take (4+n)++r')).length - (r0.take (4+n)++r').length=v.length:=by rw[List.length_append];omega
     have e4:l.length - r0.length=v.length:=by rw[hv,List.length_append];omega
     have e5:((r0.take (4+n)++r').drop 4).take n=(r0.drop 4).take n:=by
      rw[List.drop_append_of_le_length (by omega),List.take_append_of_le_length (by rw[List.length_drop];omega),List.drop_take,List.take_take];congr 1;omega
     have e6:(r0.take (4+n)++r').take 4=r0.take 4:=by
      rw[List.take_append_of_le_length (by omega),List.take_take];congr 1;omega
     have e7:(r0.take (4+n)++r').drop (4+n)=r':=List.drop_left' h0;rw[e4,hv,List.take_left' rfl]at h3;rw[e3,List.take_left' rfl,e5,e6,e7,if_pos h3,e1]
    ·cases h
theorem ZAT {l p r:List UInt8} (h:getF l = .ok (p,r)):r.length<l.length/\p.length<=16777216/\p.length<=l.length:=by
 obtain⟨f,hf,h0,_⟩:=ZI4 h [];have q0:=List.length_pos_iff.2 h0;refine⟨by rw[hf,List.length_append];omega,?_⟩;unfold getF at h;split at h
 ·split at h <;> cases h
 ·rename_i n r0 hg;obtain⟨_,_,q,hq,_⟩:=ZAH l 0 n r0 hg;split at h
  ·cases h
  ·split at h
   ·cases h
   ·split at h
    ·injection h with h;injection h with e1 e2;rw[<-e1,List.length_take,List.length_drop,hq,List.length_append];omega
    ·cases h
theorem ZGL {l:List UInt8} {k:Nat} (h:getF l = .error k):k=40\/k=41:=by
 unfold getF at h;split at h
 ·split at h <;> (injection h with h;omega)
 ·split at h
  ·injection h with h;omega
  ·split at h
   ·injection h with h;omega
   ·split at h
    ·cases h
    ·injection h with h;omega
theorem ZIJ (k:Nat):B8 (UInt8.ofNat (k%256)) = .int .u8 ((k%256:Nat):Int):=by
 unfold B8;rw[UInt8.toNat_ofNat'];congr 2;omega
theorem ZNA {s:Nat} (h:s<4294967296) : [.int .u8 ((s:Int) / 16777216),.int .u8 ((s:Int) / 65536%256),.int .u8 ((s:Int) / 256%256),.int .u8 ((s:Int)%256)]=(be4 s).map B8:=by
 unfold be4;rw[List.map_cons,List.map_cons,List.map_cons,List.map_cons,List.map_nil,ZIJ,ZIJ,ZIJ,ZIJ];congr 2
 ·omega
theorem ZBK {m:Nat} (h:m<18446744073709551616):IntKind.u64.wrap (m:Int)=(m:Int):=by
 simp[IntKind.wrap,IntKind.bits,IntKind.signed];omega
def PutP (w:World) (l:List UInt8) (e:Ending) (w':World):Prop:=∃A c,e = .returned (.tuple #[.slice A l.length c,.int .i64 0])/\Buf w' w.heap.size 5 A l.length c (l.map B8)/\Ext w w'
theorem ZMk (A:Option Addr) (n c:Nat) (l:List UInt8) (B:Option Addr) (m d:Nat) (p:List UInt8) (w:World) (hl:In8 w A n c l) (hp:In8 w B m d p) (hn:n<=900000000) (hm:m<=16777216) :
 Calls Tryz.prog 87 #[.slice A n c,.slice B m d] w fun e w'=>PutP w (l++frameL p) e w':=by
 have s0:=ZA (ZA3 none 0 0 m [] w rfl (.inl rfl) (fun _=>rfl) (by omega) (by omega));have p0:=hp.len;have t0:=hl.len;have p1:=ZD (n:=m) (by omega);have j1:=ZBK (m:=m) (by omega);have k1:¬ (16777216:Int)<m:=by omega
 obtain⟨V,hV⟩:∃V,V=vb m:=⟨_,rfl⟩
 rw[List.nil_append,<-hV]at s0;rw[<-hV]at p1;have f0:l++frameL p=l++(V++(be4 (cnext 0 (V++p))++p)):=by unfold frameL;rw[<-p0,<-hV,List.append_assoc]
 have r0:=ZCt 0 (V++p);have e0:csum 0 [V,p]=cnext 0 (V++p):=ZF2 V p;obtain⟨s,hs⟩:∃s,s=cnext 0 (V++p):=⟨_,rfl⟩
 rw[<-hs]at f0 r0 e0;rw[f0];obtain⟨R,hR⟩:∃R,R=l++(V++(be4 s++p)):=⟨_,rfl⟩
 rw[<-hR];replace hR:=ZA hR;have c0:=ZNA r0;replace p0:=ZA p0;replace t0:=ZA t0;replace hV:=ZA hV;clear hs f0;go_enter Tryz.func87,Tryz.ntmps87;go_wp2_with fail;refine s0.out.mono ?_;rintro e w1 ⟨A1,c1,rfl,o0,i0⟩;have q0:=o0.in8;obtain⟨w2,v0⟩:∃w2,w2=w1.alloc (.cells #[.slice A1 V.length c1,.slice B m d] 25):=⟨_,rfl⟩
 have x0:Ext w1 w2:=by rw[v0];exact(Ext.refl w1).alloc _
 have w0:Row w2 w1.heap.size 25 #[.slice A1 V.length c1,.slice B m d]:=by rw[v0];exact Row.new w1 _ _
 have z0:=ZK3 (some ⟨w1.heap.size,0,none⟩) 2 2 [(A1,c1,V),(B,d,p)] w2 rfl (.inr ⟨w1.heap.size,0,rfl,fun i v hv=>by
  rw[Nat.zero_add];exact w0.cell i (by rw[p0.out];simpa using hv)⟩) (fun q hq=>by
  rcases List.mem_cons.1 hq with rfl | hq
  ·exact q0.ext x0
  ·rw[List.mem_singleton.1 hq];have:=(hp.ext i0).ext x0;rw[p0.out]at this;exact this) (fun q hq=>by
  rcases List.mem_cons.1 hq with rfl | hq
  ·simp only;omega
  ·rw[List.mem_singleton.1 hq];simp only;have:=p0.out;omega) (by omega)
 rw[show ([(A1,c1,V),(B,d,p)].map fun p:Option Addr×Nat×List UInt8=>p.2.2) = [V,p] from rfl,e0]at z0;replace z0:=ZA z0;replace v0:=ZA v0;replace c0:=ZA c0;replace q0:=ZA q0;clear o0 e0 w0;go_wp2_with fail;rw[<-v0.out];refine z0.out.mono ?_;rintro e w3 ⟨rfl,l0⟩;go_wp2_with fail;obtain⟨g,hg⟩:∃g,g=w3.heap.size:=⟨_,rfl⟩
 obtain⟨w4,u0⟩:∃w4,w4=w3.alloc (.cells #[.int .u8 ((s:Int) / 16777216),.int .u8 ((s:Int) / 65536%256),.int .u8 ((s:Int) / 256%256),.int .u8 ((s:Int)%256)] 5):=⟨_,rfl⟩
 have y0:Ext w3 w4:=by rw[u0];exact(Ext.refl w3).alloc _
 have hb:Buf w4 g 5 (some ⟨g,0,none⟩) 4 4 ((be4 s).map B8):=by
  have h:=ZCT w3 [.int .u8 ((s:Int) / 16777216),.int .u8 ((s:Int) / 65536%256),.int .u8 ((s:Int) / 256%256),.int .u8 ((s:Int)%256)] 5 (by simp);rw[u0,hg,<-c0.out];exact h
 have q1:w4.heap.size=g+1:=by rw[u0,hg];simp
 obtain⟨w5,a0⟩:∃w5,w5=w4.alloc (.cells #[.slice A n c,.slice A1 V.length c1,.slice (some ⟨g,0,none⟩) 4 4,.slice B m d] 25):=⟨_,rfl⟩
 have j0:Ext w4 w5:=by rw[a0];exact(Ext.refl w4).alloc _
 have h1:Row w5 (g+1) 25 #[.slice A n c,.slice A1 V.length c1,.slice (some ⟨g,0,none⟩) 4 4,.slice B m d]:=by rw[a0,<-q1];exact Row.new w4 _ _
 have k0:=((i0.trans x0).trans l0)
 have m0:=ZIx (some ⟨g+1,0,none⟩) 4 4 [(A,c,l),(A1,c1,V),(some ⟨g,0,none⟩,4,be4 s),(B,d,p)] w5 rfl (.inr ⟨g+1,0,rfl,fun i v hv=>by
  rw[Nat.zero_add];refine h1.cell i ?_;have e4:(be4 s).length=4:=rfl;rw[p0.out,t0.out];simpa [e4]using hv⟩) (fun q hq=>by
  have e4:(be4 s).length=4:=rfl;simp only[List.mem_cons,List.not_mem_nil,or_false]at hq;rcases hq with rfl | rfl | rfl | rfl
  ·have:=(hl.ext k0).ext (y0.trans j0);rw[t0.out]at this;exact this
  ·exact q0.out.ext ((x0.trans l0).trans (y0.trans j0))
  ·exact hb.in8.ext j0
  ·have:=(hp.ext k0).ext (y0.trans j0);rw[p0.out]at this;exact this) (by
  have e4:(be4 s).length=4:=rfl;unfold catL;simp only[List.flatMap_cons,List.flatMap_nil,List.length_append,List.length_nil,e4];have:=p0.out;have:=t0.out;omega) (by omega)
 have g0:catL [(A,c,l),(A1,c1,V),(some ⟨g,0,none⟩,4,be4 s),(B,d,p)]=l++(V++(be4 s++p)):=by unfold catL;simp
 rw[g0]at m0;rw[<-hR.out]at m0;have h0:=k0.trans (y0.trans j0);rw[a0,u0,hg]at m0 h0;replace h0:=ZA h0;refine m0.mono ?_;rintro e w6 ⟨A6,c6,rfl,d0,n0⟩;replace d0:=ZA (d0.lower h0.out.size);have b0:=ZA (h0.out.trans n0);clear n0 m0 g0 u0 a0 q1 hg h1 hb;go_wp2_with fail;go_ret2;exact⟨A6,c6,rfl,d0.out,b0.out⟩
theorem ZOd:Elem Tryz.prog 40 3 1 8:=⟨Tryz.underlying40,⟨_,_,rfl,rfl,rfl,rfl,rfl⟩,by omega,by omega⟩
theorem Zl:∀(l:List UInt8) (i k:Nat),getV i l = .error k->0<k
 | [],i,k,h=>by unfold getV at h;cases h;omega
 | x::l,i,k,h=>by
  unfold getV at h;split at h
  ·cases h;omega
  ·split at h
   ·cases h;omega
   ·split at h
    ·cases h
    ·split at h
     ·cases h
     ·rename_i e hg;cases h;exact Zl l (i+1) k hg
def GotI (w0 w:World) (res:Except Nat (Nat×List UInt8)) (e:Ending) (w':World):Prop:=Ext w w'/\match res with
 | .ok (v,r)=>∃A c,e = .returned (.tuple #[.int .i64 (unzig v),.slice A r.length c,.int .i64 0])/\In8 w0 A r.length c r
 | .error k=>e = .returned (.tuple #[.int .i64 0,.slice none 0 0,.int .i64 k])
theorem ZJk (A:Option Addr) (n c:Nat) (l:List UInt8) (w0 w:World) (h:In8 w0 A n c l) (hw:Ext w0 w) (j0:n<=1000000000) :
 Calls Tryz.prog 153 #[.slice A n c] w fun e w'=>GotI w0 w (getV 0 l) e w':=by
 have hg:=ZA1 A n c l w0 w h hw j0;cases hr:getV 0 l with
 | error k =>
  rw[hr]at hg;have hk:=Zl l 0 k hr;have v0:((k:Int) != 0)=true:=by simp;omega
  replace hg:=ZA hg;clear h hr hk;go_enter Tryz.func153,Tryz.ntmps153;go_wp2_with fail;refine hg.out.mono ?_;rintro e w1 ⟨q0,rfl⟩;go_wp2_with fail;go_ret3;exact⟨q0,rfl⟩
 | ok p =>
  obtain⟨v,r⟩:=p;have hv:=Zp hr;rw[hr]at hg;replace hg:=ZA hg;have p0:bits .and .u64 (v:Int) 1=((v%2:Nat):Int):=by
   rw[show (1:Int)=((1:Nat):Int)from rfl,u64_and_nat _ _ hv (by omega),Nat.and_one_is_mod]
  obtain⟨q,hq⟩:∃q,q=v%2:=⟨_,rfl⟩
  obtain⟨d,hd⟩:∃d,d=v / 2:=⟨_,rfl⟩
  have g0:=i64_not d (by omega);have t0:(v:Int) / 2=(d:Int):=by omega
  rw[<-hq]at p0;have hu:unzig v=if q=0 then (d:Int) else -1 - (d:Int):=by unfold unzig;rw[<-hq,<-hd]
  have u0:q<=1:=by omega
  have m0:d<9223372036854775808:=by omega
  replace hu:=ZA hu;clear hq hd h hr;rcases (show q=0\/q=1 by omega)with rfl | rfl
  ·have h0:unzig v=d:=hu.out;replace h0:=ZA h0;clear hu;go_enter Tryz.func153,Tryz.ntmps153;go_wp2_with fail;refine hg.out.mono ?_;rintro e w1 ⟨q0,A1,c1,rfl,k0⟩;go_wp2_with fail;go_ret3;exact⟨q0,A1,c1,by rw[h0.out];rfl,k0⟩
  ·have h0:unzig v = -1 - (d:Int):=hu.out;replace h0:=ZA h0;clear hu;go_enter Tryz.func153,Tryz.ntmps153;go_wp2_with fail;refine hg.out.mono ?_;rintro e w1 ⟨q0,A1,c1,rfl,k0⟩;go_wp2_with fail;go_ret3;exact⟨q0,A1,c1,by rw[h0.out];rfl,k0⟩
theorem ZDV (l:List UInt8):Lib.strCells ⟨l.toArray⟩=l.map B8:=rfl
theorem ZHM (w:World) (ty:TypeId) {base:Nat} {A:Option Addr} {n c:Nat} {xs:List Value} (hb:Buf w base 5 A n c xs) (s:List UInt8) (z0:n+s.length<=4294967296) (q0:base<=w.heap.size) :
 ∃A1 c1 w',(Builtin.append_ #[25,9] ty #[.slice A n c,.string ⟨s.toArray⟩]).run Tryz.prog w = .ok (.slice A1 (n+s.length) c1) w'/\Buf w' base 5 A1 (n+s.length) c1 (xs++s.map B8)/\w.grownBy w' (Value.slice A n c).ownBlock /\
  (A1=A\/A1=some ⟨w.heap.size,0,none⟩):=by
 obtain⟨i,z,hi,hz,h3,h4,h5⟩:=ZV.hi;have t0:i.zero=some (.int .u8 0):=by
  obtain⟨j,hj,u0⟩:∃j,Tryz.prog.info? 5=some j/\j.zero=some (.int .u8 0):=⟨_,rfl,rfl⟩
  rw[hi]at hj;injection hj with hj;rw[hj];exact u0
 have ht:=Tryz.underlying25;have hu:=Tryz.underlying9;have h0:(⟨s.toArray⟩:ByteArray).size=s.length:=ByteArray.size_mk_toArray s;obtain⟨hx,y0,hA⟩:=hb;rcases hA with ⟨rfl,rfl⟩ | ⟨g,cur,rfl,v0,hg,hs,m0⟩
 ·obtain rfl:n=0:=by omega
  obtain rfl:xs = []:=List.eq_nil_of_length_eq_zero hx;by_cases g0:s = []
  ·subst g0;refine⟨none,0,w,?_,⟨rfl,Nat.le_refl _,.inl ⟨rfl,rfl⟩⟩,World.grownBy.refl w _,.inl rfl⟩;have hf:=Lib.run_firstCells_string (P:=Tryz.prog) (w:=w) 1 ⟨#[]⟩;rw[show (ByteArray.mk #[]).size=0 from rfl]at hf;have e0:(ByteArray.mk #[]).size=0:=rfl;simp[Builtin.append_,run_underlying ht,run_underlying hu,sizeOf,typeInfo,hi,h3,Builtin.lenOf,e0,hf]
  ·have hl:0<s.length:=List.length_pos_iff.2 g0;have hr:=run_append_nil_string (P:=Tryz.prog) w 25 9 ty 5 i (.int .u8 0) ht hu hi t0 ⟨s.toArray⟩ (by omega) (by omega) (by rw[h4,h0];omega);have j0:=grownCap_ge w s.length 0 5;rw[h0]at hr;refine⟨_,_,_,by rw[hr,Nat.zero_add],⟨by simp,by rw[Nat.zero_add];exact j0,.inr ⟨w.heap.size,_,rfl,q0,heap_alloc_new w.drew _,?_,?_⟩⟩,?_,.inr rfl⟩
   ·simp only[Array.size_append,size_zeroCells];simp[Value.cells];omega
   ·simp only[Array.toList_append];rw[Nat.zero_add,List.take_append_of_le_length (by simp),List.take_of_length_le (by simp)];simp;exact fun b _=>rfl
   ·exact(Ext.refl w |>.drew.alloc _) |> fun h=>⟨Below.os h,Below.tape h,Below.output h,Below.size h,fun k hk _=>Below.block h k hk⟩
 ·by_cases p0:n+s.length<=c
  ·have hr:=Lib.run_append_room_string (P:=Tryz.prog) (w:=w) 25 9 ty 5 i ht hu hi h3 g n c cur hg ⟨s.toArray⟩ (by rw[h0];exact p0) (by rw[h0];omega);rw[h0,ZDV]at hr;refine⟨some ⟨g,0,none⟩,c,_,hr,⟨by rw[List.length_append,List.length_map];omega,p0,.inr ⟨g,_,rfl,v0,setRow_heap w g cur _ 5 (0,0) hg,?_,?_⟩⟩,ZCi w g _,.inl rfl⟩
   ·simp;omega
   ·simp only;rw[m0];rw[List.take_append_of_le_length (by rw[List.length_append,List.length_map];omega),List.take_of_length_le (by rw[List.length_append,List.length_map];omega)]
  ·have j0:=grownCap_ge w (n+s.length) c 5;have x0:=nextslicecap_le (need:=n+s.length) (old:=c) (by omega);have k0:∀(j:Nat) (v:Value),xs[j]? = some v->w.cell? (Addr.add ⟨g,0,none⟩ j)=some v:=by
    intro j v hv;rw[Addr.add_lit,Nat.zero_add,cell_of_row w g j cur 5 (0,0) hg];rw[<-m0,List.getElem?_take]at hv;split at hv
    ·simpa using hv
    ·cases hv
   have hr:=Lib.run_append_grow_string (P:=Tryz.prog) (w:=w) 25 9 ty 5 i (.int .u8 0) ht hu hi t0 ⟨g,0,none⟩ n c xs (by rw[h3];omega) k0 ⟨s.toArray⟩ (by rw[h0];omega) (by rw[h0];omega) (by rw[h0,h4];omega);rw[h0,ZDV]at hr;refine⟨some ⟨w.heap.size,0,none⟩,grownCap w (n+s.length) c 5,_,hr,⟨by rw[List.length_append,List.length_map];omega,j0,.inr ⟨w.heap.size,_,rfl,q0,heap_alloc_new w.drew _,?_,?_⟩⟩,?_,.inr rfl⟩
   ·simp only[Array.size_append,List.size_toArray,size_zeroCells,List.length_map];simp[Value.cells];omega
   ·simp only[Array.toList_append];rw[List.take_append_of_le_length (by simp;omega),List.take_of_length_le (by simp;omega)]
   ·exact(Ext.refl w |>.drew.alloc _) |> fun h=>⟨Below.os h,Below.tape h,Below.output h,Below.size h,fun k hk _=>Below.block h k hk⟩
theorem ZBf {ops:Array Oper} {rest:List Oper} {o:Oper} {a:Act} {Q:Exit->Act->World->Prop} {w:World} {base:Nat} {A:Option Addr} {n c:Nat} {xs:List Value} {s:List UInt8} (hb:Buf w base 5 A n c xs) (x y:Operand)
 (ho:o.op = .call { callee:= .builtin .append,args:=#[x,y],argTypes:=#[25,9] }) (k0:o.guard=none) (hx:a.eval x = .slice A n c) (hy:a.eval y = .string ⟨s.toArray⟩) (j0:n+s.length<=4294967296) (h0:base<=w.heap.size)
 (h:∀A1 c1 w',Buf w' base 5 A1 (n+s.length) c1 (xs++s.map B8)->w.grownBy w' (Value.slice A n c).ownBlock->(∀w0,Ext w0 w->w0.heap.size<=base->Ext w0 w')->wpList Tryz.prog ops Q rest (a.put o.dst (.slice A1 (n+s.length) c1)) w'):wpList Tryz.prog ops Q (o::rest) a w :=
 wpList_plain k0 fun K hK=>by
  obtain⟨A1,c1,w',q0,h2,h3,_⟩:=ZHM w o.type hb s j0 h0;unfold Oper.wp execOp;simp only[ho,resolve,invoke,builtin,Sem.run_bind,Sem.run_pure,Result.andThen_ok,List.map_toArray,List.map_cons,List.map_nil,hx,hy,q0];refine hK _ _ (h A1 c1 w' h2 h3 (fun w0 hE hw=>hE.grown h3 fun k hk=>?_));have p0:=hb.base_le;cases A with
  | none=>simp[Value.ownBlock]at hk
  | some b =>
   have:=p0 b rfl;simp[Value.ownBlock]at hk;omega
theorem ZBH {P:Program} (ts:Array TypeId) (ty:TypeId) {x y m:Int} (hm:m=max x y) (W:World):(Builtin.max_ ts ty #[.int .i64 x,.int .i64 y]).run P W = .ok (.int .i64 m) W:=by
 simp only[Builtin.max_,List.foldlM,Builtin.max2,Sem.run_bind,Sem.run_pure,Result.andThen_ok];subst hm;congr 2;split <;> omega
def GotT (w0 w:World) (res:Except Nat (List UInt8×List UInt8)) (e:Ending) (w':World):Prop:=Ext w w'/\match res with
 | .ok (s,r)=>∃A c,e = .returned (.tuple #[.string ⟨s.toArray⟩,.slice A r.length c,.int .i64 0])/\In8 w0 A r.length c r
 | .error k=>e = .returned (.tuple #[.string ⟨#[]⟩,.slice none 0 0,.int .i64 k])
theorem ZBx (A:Option Addr) (n c:Nat) (l s:List UInt8) (w:World) (hn:n=l.length) (hl:Bs w A l) (hz:A=none->c=0) (m0:n<=1000000000) (hs:s.length<=1000000000) :
 Calls Tryz.prog 147 #[.slice A n c,.string ⟨s.toArray⟩] w fun e w'=>NewB w (l++txL s) e w':=by
 have hp:=ZA (ZA3 A n c s.length l w hn hl hz m0 (by omega));have p0:=ZAt (n:=s.length) (by omega);have q0:l++txL s=(l++vb s.length)++s:=by unfold txL;simp
 rw[q0];obtain⟨L,hL⟩:∃L,L=l++vb s.length:=⟨_,rfl⟩
 have v0:L.length<=1000000010:=by rw[hL,List.length_append];omega
 rw[<-hL]at hp ⊢;clear hL q0 hl hz hn p0;go_enter Tryz.func147,Tryz.ntmps147;go_wp2_with fail;refine hp.out.mono ?_;rintro e w1 ⟨A1,c1,rfl,j0,h0⟩;have t0:=h0.size;go_wp2_with (at_builtin;refine ZBf j0 (.tmp 9) (.tmp 10) rfl rfl rfl rfl (by omega) t0 (fun A2 c2 w2 g0 u0 k0=>?_));go_ret;exact⟨A2,c2,ZAn (by rw[List.length_append]),by rw[List.length_append,List.map_append];exact g0,k0 _ h0 (Nat.le_refl _)⟩
theorem ZBr (A:Option Addr) (n c most:Nat) (l:List UInt8) (w0 w:World) (h:In8 w0 A n c l) (hw:Ext w0 w) (g0:n<=1000000000) (hm:most<=1000000000) :
 Calls Tryz.prog 154 #[.slice A n c,.int .i64 most] w fun e w'=>GotT w0 w (getT most l) e w':=by
 have hg:=ZA1 A n c l w0 w h hw g0;have m0:=ZBH (P:=Tryz.prog) #[3,3] 3 (x:=0) (y:=(most:Int)) (m:=(most:Int)) (by omega);unfold getT;cases hr:getV 0 l with
 | error k =>
  rw[hr]at hg;have hk:=Zl l 0 k hr;have y0:((k:Int) != 0)=true:=by simp;omega
  replace hg:=ZA hg;clear h hr hk;go_enter Tryz.func154,Tryz.ntmps154;go_wp2_with fail;refine hg.out.mono ?_;rintro e w1 ⟨h0,rfl⟩;go_wp2_with fail;go_ret3;exact⟨h0,rfl⟩
 | ok p =>
  obtain⟨v,r⟩:=p;have hv:=Zp hr;have z0:r.length<=1000000000:=by
   obtain⟨_,_,q,hq,_⟩:=ZAH l 0 v r hr;have:=h.len;rw[hq,List.length_append]at this;omega
  rw[hr]at hg;replace hg:=ZA hg;simp only;by_cases h1:most<v
  ·rw[if_pos h1];have k0:(most:Int)<v:=by omega
   clear h hr;go_enter Tryz.func154,Tryz.ntmps154;go_wp2_with fail;refine hg.out.mono ?_;rintro e w1 ⟨h0,A1,c1,rfl,hi1⟩;go_wp2_with fail;go_ret3;exact⟨h0,rfl⟩
  ·rw[if_neg h1];have k0:¬ (most:Int)<v:=by omega
   by_cases h2:r.length<v
   ·rw[if_pos h2];have j0:(r.length:Int)<v:=by omega
    clear h hr;go_enter Tryz.func154,Tryz.ntmps154;go_wp2_with fail;refine hg.out.mono ?_;rintro e w1 ⟨h0,A1,c1,rfl,hi1⟩;go_wp2_with fail;go_ret3;exact⟨h0,rfl⟩
   ·rw[if_neg h2];have j0:¬ (r.length:Int)<v:=by omega
    clear h hr;go_enter Tryz.func154,Tryz.ntmps154;go_wp2_with fail;refine hg.out.mono ?_;rintro e w1 ⟨h0,A1,c1,rfl,hi1⟩;obtain⟨x0,q0⟩:=hi1.headk .u64 (k:=v) (by omega) (z:=(v:Int)) rfl;obtain⟨A2,c2,u0,p0⟩:=hi1.fromk .u64 (fr:=v) (by omega) (z:=(v:Int)) rfl;have t0:∀W,Ext w0 W->(convert 25 9 (.slice A1 v c1)).run Tryz.prog W = .ok (.string ⟨(r.take v).toArray⟩) W:=fun W hW=>Zr (q0.bytes.ext hW) v c1 q0.len;have v0:=t0 _ (hw.trans h0).drew;have hlen:(r.drop v).length=r.length - v:=List.length_drop;obtain⟨R,hR⟩:∃R,R=r.length - v:=⟨_,rfl⟩
    rw[<-hR]at u0 p0 hlen;replace hlen:=ZA hlen;replace hR:=ZA hR;clear q0;go_wp2_with fail;refine ZPw (fun K hK=>?_);go_wp2_with fail;refine⟨by kernel_rfl,?_⟩;go_wp2_with fail;go_ret3;exact⟨h0.drew,A2,c2,by rw[hlen.out];rfl,by rw[hlen.out];exact p0⟩
theorem ZBm (e:Ev) (A:Option Addr) (c:Nat) (w:World) (h:e.Ok w A):Calls Tryz.prog 54 #[e.val A c] w fun en w'=>en = .returned (.int .i64 (checkE e.fs:Int))/\Ext w w':=by
 obtain⟨at_,fs⟩:=e;obtain⟨hc,hm,hl⟩:=h;unfold Ev.val;simp only at hc hm hl ⊢;obtain⟨n,hn⟩:∃n,n=fs.length:=⟨_,rfl⟩
 obtain⟨z,hz⟩:∃z,z=checkE fs:=⟨_,rfl⟩
 have h0:16<n->z=3:=fun h=>by rw[hz];unfold checkE;rw[if_pos (by omega)]
 have m0:n<=16->z=checkF (fs.drop 0):=fun h=>by rw[hz];unfold checkE;rw[if_neg (by omega)];rfl
 have t0:=fun s W (hs:s.length<=9223372036854775807)=>ZHL s W hs;rw[<-hz,<-hn];rw[<-hn]at hm;have g0:Ext w (w.alloc (.cells #[.int .i64 at_,.slice A n c] 37)):=(Ext.refl w).alloc _;have j0:Row (w.alloc (.cells #[.int .i64 at_,.slice A n c] 37)) w.heap.size 37 #[.int .i64 at_,.slice A n c]:=Row.new w _ _;replace hn:=ZA hn;replace hl:=ZA hl;replace t0:=ZA t0;replace m0:=ZA m0;clear hz;by_cases a0:16<n
 ·have u0:=h0 a0;subst u0;clear h0 j0;go_enter Tryz.func54,Tryz.ntmps54;go_wp2_with fail;go_ret;exact⟨rfl,g0⟩
 ·clear h0;have v0:=m0.out (by omega);replace v0:=ZA v0;go_enter Tryz.func54,Tryz.ntmps54;go_wp2_with fail;obtain⟨W0,x0⟩:∃W0,W0=w.alloc (.cells #[.int .i64 at_,.slice A n c] 37):=⟨_,rfl⟩
  rw[<-x0]at g0 j0 ⊢;clear x0
  go_loopw [3] (fun s3 wr=>∃i:Nat,s3 = .int .i64 i/\i<=n/\Hid (z=checkF (fs.drop i))/\Hid (Ext W0 wr)) (fun s3 _=>n - (intOf s3).toNat)
  case atStart=>exact⟨0,rfl,by omega,v0,ZA (Ext.refl _)⟩
  case round =>
   obtain⟨i,rfl,hi,hz,hE⟩:=hrel;have y1:=(j0.ext hE.out).cell 1 rfl;by_cases c0:i<n
   ·have b0:i<fs.length:=by rw[<-hn.out];exact c0
    obtain⟨f,hf⟩:∃f,fs[i]? = some f:=⟨_,List.getElem?_eq_getElem b0⟩
    obtain⟨g,o,rfl,k0,k1⟩:=Zu (hc.ext (g0.trans hE.out)) hf;obtain⟨y0,d0⟩:=hl.out f (List.mem_of_getElem? hf);have p0:=hz.out;rw[ZDl hf]at p0;unfold strV at k0 k1;obtain⟨nm,tx⟩:=f;simp only at k0 k1 y0 d0 p0;have q0:=fun W=>t0.out nm W y0;obtain⟨q,hq⟩:∃q,q=nameL nm:=⟨_,rfl⟩
    rw[<-hq]at q0 p0;have e0:(0:Int)<=i:=by omega
    have hi1:(i:Int)<n:=by omega
    replace q0:=ZA q0;replace p0:=ZA p0;clear hf hq;go_wp2_with fail;refine(q0.out _).mono ?_;rintro e w3 ⟨rfl,rfl⟩;cases q with
    | false =>
     obtain rfl:z=100:=by rw[p0.out];rfl
     go_wp2_with fail;go_ret;exact⟨rfl,g0.trans hE.out⟩
    | true =>
     by_cases z0:4096<tx.length
     ·obtain rfl:z=2:=by rw[p0.out,if_neg (by simp),if_pos z0]
      go_wp2_with fail;go_ret;exact⟨rfl,g0.trans hE.out⟩
     ·have u0:=ZA (show z=checkF (fs.drop (i+1))by rw[p0.out,if_neg (by simp),if_neg z0]);go_wp2_with fail;go_roundw
      case rel=>exact⟨i+1,by go_num,by omega,u0,hE⟩
      case measure=>simp[intOf];omega
   ·obtain rfl:z=0:=by
     have h:=hz.out;rw[List.drop_of_length_le (by rw[<-hn.out];omega)]at h;exact h
    go_wp2_with fail;go_ret;exact⟨rfl,g0.trans hE.out⟩
theorem ZAG {α:Type} {xs:List α} {i:Nat} {x:α} (h:xs[i]? = some x):xs.take (i+1)=xs.take i ++ [x]:=by
 obtain⟨hi,rfl⟩:=List.getElem?_eq_some_iff.1 h;exact List.take_succ_eq_append_getElem hi
theorem ZN6 (f g:Fd) (W:World):(binOp .neq 105 (.agg #[.string ⟨f.1.toArray⟩,.string ⟨f.2.toArray⟩]) (.agg #[.string ⟨g.1.toArray⟩,.string ⟨g.2.toArray⟩])).run Tryz.prog W = .ok (.bool (!decide (f=g))) W:=by
 rw[run_neq_struct,run_equalIn_agg _ _ _ _ _ (by kernel_rfl) (by kernel_rfl)];simp only[Program.fieldsOf,Tryz.underlying105];have e1:∀(a b:List UInt8) (W:World),(Op.equalIn 9999 9 (.string ⟨a.toArray⟩) (.string ⟨b.toArray⟩)).run Tryz.prog W = .ok (a==b) W:=fun a b W=>by
  have h:=run_equalIn_string (P:=Tryz.prog) (w:=W) 9998 9 ⟨a.toArray⟩ ⟨b.toArray⟩ Tryz.underlying9;rw[h];congr 1;rw[Bool.eq_iff_iff];simp
 simp[Op.eqFields,part,e1,go_sem];by_cases h1:f.1=g.1 <;> by_cases h2:f.2=g.2
 all_goals simp[h1,h2,Prod.ext_iff]
def sameE (a b:Ev):Bool:=decide (a.at_=b.at_/\a.fs=b.fs)
theorem ZJP (a b:Ev) (A B:Option Addr) (c c2:Nat) (w:World) (ha:a.Ok w A) (hb:b.Ok w B):Calls Tryz.prog 70 #[a.val A c,b.val B c2] w fun en w'=>en = .returned (.bool (sameE a b))/\Ext w w':=by
 obtain⟨at1,fs⟩:=a;obtain⟨at2,gs⟩:=b;obtain⟨hc,hm,_⟩:=ha;obtain⟨hd,c0,_⟩:=hb;unfold Ev.val sameE;simp only at hc hm hd c0 ⊢;obtain⟨n,hn⟩:∃n,n=fs.length:=⟨_,rfl⟩
 obtain⟨m,j0⟩:∃m,m=gs.length:=⟨_,rfl⟩
 obtain⟨z,hz⟩:∃z,z=decide (at1=at2/\fs=gs):=⟨_,rfl⟩
 have g0:at1≠at2->z=false:=fun h=>by rw[hz];exact decide_eq_false fun hh=>h hh.1
 have m0:n≠m->z=false:=fun h=>by rw[hz];exact decide_eq_false fun hh=>h (by rw[hn,j0,hh.2])
 have q0:fs≠gs->z=false:=fun h=>by rw[hz];exact decide_eq_false fun hh=>h hh.2
 have p0:at1=at2->fs=gs->z=true:=fun h1 h2=>by rw[hz];exact decide_eq_true ⟨h1,h2⟩
 rw[<-hz,<-hn,<-j0];rw[<-hn]at hm;rw[<-j0]at c0;have v0:Ext w ((w.alloc (.cells #[.int .i64 at1,.slice A n c] 37)).alloc (.cells #[.int .i64 at2,.slice B m c2] 37)):=((Ext.refl w).alloc _).alloc _;have t0:Row ((w.alloc (.cells #[.int .i64 at1,.slice A n c] 37)).alloc (.cells #[.int .i64 at2,.slice B m c2] 37)) w.heap.size 37 #[.int .i64 at1,.slice A n c]:=(Row.new w _ _).alloc _;have h0:Row ((w.alloc (.cells #[.int .i64 at1,.slice A n c] 37)).alloc (.cells #[.int .i64 at2,.slice B m c2] 37)) (w.heap.size+1) 37 #[.int .i64 at2,.slice B m c2]:=by
  have h:=Row.new (w.alloc (.cells #[.int .i64 at1,.slice A n c] 37)) 37 #[.int .i64 at2,.slice B m c2];simpa using h
 by_cases x0:at1=at2
 case neg =>
  obtain rfl:=g0 x0;have hq:(at1 != at2)=true:=bne_iff_ne.2 x0;clear g0 m0 q0 p0 hz hn j0 t0 h0 hc hd x0;go_enter Tryz.func70,Tryz.ntmps70;go_wp2_with fail;go_ret;exact⟨rfl,v0⟩
 case pos =>
  by_cases d0:n=m
  case neg =>
   obtain rfl:=m0 d0;have hq:((n:Int) != (m:Int))=true:=bne_iff_ne.2 (by omega);clear g0 m0 q0 p0 hz hn j0 t0 h0 hc hd;subst x0;go_enter Tryz.func70,Tryz.ntmps70;go_wp2_with fail;go_ret;exact⟨rfl,v0⟩
  case pos =>
   subst x0;subst d0;replace q0:=ZA q0;replace p0:=ZA (p0 rfl);replace hn:=ZA hn;replace j0:=ZA j0;clear hz g0 m0;go_enter Tryz.func70,Tryz.ntmps70;go_wp2_with fail;obtain⟨W0,a0⟩:∃W0,W0=(w.alloc (.cells #[.int .i64 at1,.slice A n c] 37)).alloc (.cells #[.int .i64 at1,.slice B n c2] 37):=⟨_,rfl⟩
   rw[<-a0]at v0 t0 h0 ⊢;clear a0
   go_loopw [5] (fun s5 wr=>∃i:Nat,s5 = .int .i64 i/\i<=n/\Hid (fs.take i=gs.take i)/\Hid (Ext W0 wr)) (fun s5 _=>n - (intOf s5).toNat)
   case atStart=>exact⟨0,rfl,by omega,ZA rfl,ZA (Ext.refl _)⟩
   case round =>
    obtain⟨i,rfl,hi,e0,hE⟩:=hrel;have y1:wr.cell? ⟨w.heap.size,1,none⟩=some (.slice A n c):=(t0.ext hE.out).cell 1 rfl;have y2:wr.cell? ⟨w.heap.size+1,1,none⟩=some (.slice B n c2):=(h0.ext hE.out).cell 1 rfl;by_cases b0:i<n
    ·obtain⟨f,hf⟩:∃f,fs[i]? = some f:=⟨_,List.getElem?_eq_getElem (by rw[<-hn.out];exact b0)⟩
     obtain⟨g,hg⟩:∃g,gs[i]? = some g:=⟨_,List.getElem?_eq_getElem (by rw[<-j0.out];exact b0)⟩
     obtain⟨b1,o1,rfl,k0,k1⟩:=Zu (hc.ext (v0.trans hE.out)) hf;obtain⟨b2,o2,rfl,k2,k3⟩:=Zu (hd.ext (v0.trans hE.out)) hg;have y0:=ZN6 f g;have f0:(0:Int)<=i:=by omega
     have hi1:(i:Int)<n:=by omega
     unfold strV at k0 k1 k2 k3;by_cases u0:f=g
     ·have z0:=ZA (show fs.take (i+1)=gs.take (i+1)by rw[ZAG hf,ZAG hg,e0.out,u0]);rw[decide_eq_true u0]at y0;obtain⟨f1,f2⟩:=f;obtain⟨g1,g2⟩:=g;simp only at k0 k1 k2 k3 y0;clear hf hg u0;go_wp2_with fail;go_quiet (fail);go_wp2_with fail;go_roundw
      case rel=>exact⟨i+1,by go_num,by omega,z0,ZA (by first | exact hE.out.drew | exact hE.out.drewN _)⟩
      case measure=>simp[intOf];omega
     ·obtain rfl:z=false:=q0.out (fun h=>u0 (by rw[h,hg]at hf;exact(Option.some.inj hf).symm));rw[decide_eq_false u0]at y0;obtain⟨f1,f2⟩:=f;obtain⟨g1,g2⟩:=g;simp only at k0 k1 k2 k3 y0;clear hf hg u0;go_wp2_with fail;go_quiet (fail);go_wp2_with fail;go_ret;exact⟨rfl,by first | exact v0.trans hE.out.drew | exact v0.trans (hE.out.drewN _)⟩
    ·obtain rfl:z=true:=p0.out (by
      have h:=e0.out;rw[List.take_of_length_le (by rw[<-hn.out];omega),List.take_of_length_le (by rw[<-j0.out];omega)]at h;exact h)
     go_wp2_with fail;go_ret;exact⟨rfl,v0.trans hE.out⟩
theorem ZGD:∀ {fs:List Fd},(∀f∈fs,f.1.length<=32/\f.2.length<=4096)->sizeFs fs<=5000*fs.length
 | [],_=>by simp[sizeFs]
 | f::fs,h=>by
  have h1:=ZGD (fs:=fs) fun x hx=>h x (by simp[hx]);have hf:=h f (by simp);have h5:sizeFs (f::fs)=f.1.length+f.2.length+sizeFs fs:=by unfold sizeFs;rw[List.map_cons,List.sum_cons];rfl
  rw[h5,List.length_cons];omega
def Own8 (w:World) (base:Nat) (A:Option Addr) (n c:Nat) (l:List UInt8):Prop:=n=l.length/\Buf w base 5 A n c (l.map B8)
theorem Own8.nil_ {w:World} {base:Nat} {A:Option Addr} {n c:Nat} {l:List UInt8} (h:Own8 w base A n c l):A=none->c=0:=fun hA=>by
 obtain⟨_,_,_,h3⟩:=h;rcases h3 with ⟨_,h3⟩ | ⟨g,cur,hB,_⟩
 ·exact h3
 ·rw[hA]at hB;cases hB
theorem NewB.own {w w0 w':World} {l:List UInt8} {e:Ending} (h:NewB w l e w') (hb:w0.heap.size<=w.heap.size):∃A c,e = .returned (.slice A l.length c)/\Own8 w' w0.heap.size A l.length c l/\Ext w w':=by
 obtain⟨A,c,he,h0,hE⟩:=h;exact⟨A,c,he,⟨rfl,h0.lower hb⟩,hE⟩
theorem ZX {m:Nat} (h:m<18446744073709551616):IntKind.u64.wrap (m:Int)=(m:Int):=by
 simp[IntKind.wrap,IntKind.bits,IntKind.signed];omega
theorem ZEq {fs:List Fd} {i:Nat} {f:Fd} (h:fs[i]? = some f):putFs (fs.take (i+1))=putFs (fs.take i)++txL f.1++txL f.2:=by
 unfold putFs;rw[ZAG h,List.flatMap_append];simp[putF]
theorem ZBg {fs:List Fd} (h:∀f∈fs,f.1.length<=32/\f.2.length<=4096) (i:Nat):(putFs (fs.take i)).length<=5000*fs.length:=by
 have h1:=ZGQ (fs:=fs.take i) fun f hf=>h f (List.mem_of_mem_take hf);have h2:=ZGD (fs:=fs.take i) fun f hf=>h f (List.mem_of_mem_take hf);have h3:=List.length_take_le i fs;have h4:∀ {gs:List Fd},(∀f∈gs,f.1.length<=32/\f.2.length<=4096)->sizeFs gs<=4128*gs.length:=by
  intro gs
  induction gs with
  | nil=>intro _;simp[sizeFs]
  | cons f gs ih =>
   intro h;have h1:=ih fun x hx=>h x (by simp[hx]);have hf:=h f (by simp);have h5:sizeFs (f::gs)=f.1.length+f.2.length+sizeFs gs:=by unfold sizeFs;rw[List.map_cons,List.sum_cons];rfl
   rw[h5,List.length_cons];omega
 have h5:=h4 (gs:=fs.take i) fun f hf=>h f (List.mem_of_mem_take hf);have h6:(fs.take i).length<=fs.length:=by rw[List.length_take];omega
 omega
theorem ZKZ (A:Option Addr) (n c:Nat) (l:List UInt8) (e:Ev) (B:Option Addr) (d:Nat) (w:World) (hn:n=l.length) (hl:Bs w A l) (hz:A=none->c=0) (b2:n<=100000000) (h:e.Ok w B) (hk:checkE e.fs=0) (ha:I64ok' e.at_) :
 Calls Tryz.prog 174 #[.slice A n c,e.val B d] w fun en w'=>NewB w (l++putE e) en w':=by
 obtain⟨s1,f0⟩:=Zd hk;have i0:l++putE e=(l++vb (zig e.at_)++vb e.fs.length)++putFs (e.fs.take e.fs.length):=by unfold putE;rw[List.take_length];simp
 rw[i0];obtain⟨at_,fs⟩:=e;obtain⟨hc,_,_⟩:=h;unfold Ev.val;simp only at hc s1 f0 ha ⊢;have g1:=ZBg f0;obtain⟨m,hm⟩:∃m,m=fs.length:=⟨_,rfl⟩
 rw[<-hm]at s1 g1 ⊢;obtain⟨W,hW⟩:∃W,W=w.alloc (.cells #[.int .i64 at_,.slice B m d] 37):=⟨_,rfl⟩
 have y0:Ext w W:=by rw[hW];exact(Ext.refl w).alloc _
 have hr:Row W w.heap.size 37 #[.int .i64 at_,.slice B m d]:=by rw[hW];exact Row.new w _ _
 obtain⟨b,hb⟩:∃b,b=w.heap.size:=⟨_,rfl⟩
 rw[<-hb]at hr;have q2:=ZAt (ZBB ha.1 ha.2);have m1:=ZAt (n:=m) (by omega);obtain⟨L1,l0⟩:∃L1,L1=l++vb (zig at_):=⟨_,rfl⟩
 obtain⟨L2,n0⟩:∃L2,L2=L1++vb m:=⟨_,rfl⟩
 have i1:L1.length<=100000010:=by rw[l0,List.length_append];omega
 have x2:L2.length<=100000020:=by rw[n0,List.length_append];omega
 rw[<-l0,<-n0];have b1:W.cell? ⟨b,0,none⟩=some (.int .i64 at_)/\W.cell? ⟨b,1,none⟩=some (.slice B m d)/\Ext W W:=⟨hr.cell 0 rfl,hr.cell 1 rfl,Ext.refl W⟩
 have r0:W.drew.cell? ⟨b,0,none⟩=some (.int .i64 at_)/\W.drew.cell? ⟨b,1,none⟩=some (.slice B m d)/\Ext W W.drew:=⟨hr.cell 0 rfl,hr.cell 1 rfl,(Ext.refl W).drew⟩
 have p1:∀x,(x.cell? ⟨b,0,none⟩=some (.int .i64 at_)/\x.cell? ⟨b,1,none⟩=some (.slice B m d)/\Ext W x)->Calls Tryz.prog 88 #[.slice A n c,.int .i64 at_] x fun e y=>∃A1 c1,e = .returned (.slice A1 L1.length c1)/\Own8 y w.heap.size A1 L1.length c1 L1/\(y.cell? ⟨b,0,none⟩=some (.int .i64 at_)/\y.cell? ⟨b,1,none⟩=some (.slice B m d)/\Ext W y):=fun x ⟨h0,h1,hE⟩ =>
  (ZCM A n c at_ l x hn (hl.ext (y0.trans hE)) hz (by omega) ha.1 ha.2).mono fun e y hy=>by
   obtain⟨A1,c1,he,t0,j0⟩:=NewB.own hy (y0.trans hE).size;rw[<-l0]at he t0;exact⟨A1,c1,he,t0,j0.cell h0,j0.cell h1,hE.trans j0⟩
 have j1:∀x A1 c1,Own8 x w.heap.size A1 L1.length c1 L1->(x.cell? ⟨b,0,none⟩=some (.int .i64 at_)/\x.cell? ⟨b,1,none⟩=some (.slice B m d)/\Ext W x)->Calls Tryz.prog 78 #[.slice A1 L1.length c1,.int .u64 (m:Int)] x fun e y=>∃A2 c2,e = .returned (.slice A2 L2.length c2)/\Own8 y w.heap.size A2 L2.length c2 L2/\(y.cell? ⟨b,0,none⟩=some (.int .i64 at_)/\y.cell? ⟨b,1,none⟩=some (.slice B m d)/\Ext W y):=fun x A1 c1 t0 ⟨h0,h1,hE⟩ =>
  (ZA3 A1 L1.length c1 m L1 x rfl t0.2.cells t0.nil_ (by omega) (by omega)).mono fun e y hy=>by
   obtain⟨A2,c2,he,x0,j0⟩:=NewB.own hy (y0.trans hE).size;rw[<-n0]at he x0;exact⟨A2,c2,he,x0,j0.cell h0,j0.cell h1,hE.trans j0⟩
 replace p1:=ZA p1;replace j1:=ZA j1;replace b1:=ZA b1;replace r0:=ZA r0;have e2:=ZX (m:=m) (by omega);replace hW:=ZA hW;replace hm:=ZA hm;replace f0:=ZA f0;replace g1:=ZA g1;replace hb:=ZA hb;clear l0 n0 i0 q2 m1 hl hz hn;go_enter Tryz.func174,Tryz.ntmps174;go_wp2_with fail;rw[<-hW.out,<-hb.out];refine wp_region_held_drew (S:=fun x=>x.cell? ⟨b,0,none⟩=some (.int .i64 at_)/\x.cell? ⟨b,1,none⟩=some (.slice B m d)/\Ext W x) (by kernel_rfl) r0.out (fun u0=>?_);refine wpAnyH_take (i:=0) (v:= .slice A n c) rfl (by kernel_rfl) (by kernel_rfl) (by kernel_rfl) (fun _ _ _ h=>h) (Or.inl ⟨by rfl,?_⟩) (by assumption) ?_
 ·intro w' q0
  (try dsimp only at q0)
  obtain⟨z1,z2,z3⟩:=q0;go_simp
  try with_reducible rfl
  all_goals omega
 (try simp only[Act.put,pz0,pz1,pz2,pz3,pz4,pz5])
 refine wpAnyH_take (i:=1) (v:= .pointer (some ⟨b,0,none⟩)) rfl (by kernel_rfl) (by kernel_rfl) (by kernel_rfl) (fun _ _ _ h=>h) (Or.inl ⟨by rfl,?_⟩) (by assumption) ?_
 ·intro w' q0
  (try dsimp only at q0)
  obtain⟨z1,z2,z3⟩:=q0;go_simp
  try with_reducible rfl
  all_goals omega
 (try simp only[Act.put,pz0,pz1,pz2,pz3,pz4,pz5])
 refine wpAnyH_take (i:=2) (v:= .int .i64 at_) rfl (by kernel_rfl) (by kernel_rfl) (by kernel_rfl) (fun _ _ _ h=>h) (Or.inl ⟨by rfl,?_⟩) (by assumption) ?_
 ·intro w' q0
  (try dsimp only at q0)
  obtain⟨z1,z2,z3⟩:=q0;go_simp
  try with_reducible rfl
  all_goals omega
 (try simp only[Act.put,pz0,pz1,pz2,pz3,pz4,pz5])
 refine wpAnyH_take (i:=4) (v:= .pointer (some ⟨b,1,none⟩)) rfl (by kernel_rfl) (by kernel_rfl) (by kernel_rfl) (fun _ _ _ h=>h) (Or.inl ⟨by rfl,?_⟩) (by assumption) ?_
 ·intro w' q0
  (try dsimp only at q0)
  obtain⟨z1,z2,z3⟩:=q0;go_simp
  try with_reducible rfl
  all_goals omega
 (try simp only[Act.put,pz0,pz1,pz2,pz3,pz4,pz5])
 refine wpAnyH_take (i:=5) (v:= .slice B m d) rfl (by kernel_rfl) (by kernel_rfl) (by kernel_rfl) (fun _ _ _ h=>h) (Or.inl ⟨by rfl,?_⟩) (by assumption) ?_
 ·intro w' q0
  (try dsimp only at q0)
  obtain⟨z1,z2,z3⟩:=q0;go_simp
  try with_reducible rfl
  all_goals omega
 (try simp only[Act.put,pz0,pz1,pz2,pz3,pz4,pz5])
 refine wpAnyH_take (i:=6) (v:= .int .i64 (m:Int)) rfl (by kernel_rfl) (by kernel_rfl) (by kernel_rfl) (fun _ _ _ h=>h) (Or.inl ⟨by rfl,?_⟩) (by assumption) ?_
 ·intro w' q0
  (try dsimp only at q0)
  obtain⟨z1,z2,z3⟩:=q0;go_simp
  try with_reducible rfl
  all_goals omega
 (try simp only[Act.put,pz0,pz1,pz2,pz3,pz4,pz5])
 refine wpAnyH_take (i:=7) (v:= .int .u64 (m:Int)) rfl (by kernel_rfl) (by kernel_rfl) (by kernel_rfl) (fun _ _ _ h=>h) (Or.inl ⟨by rfl,?_⟩) (by assumption) ?_
 ·intro w' q0
  (try dsimp only at q0)
  obtain⟨z1,z2,z3⟩:=q0;go_simp
  try with_reducible rfl
  all_goals omega
 (try simp only[Act.put,pz0,pz1,pz2,pz3,pz4,pz5])
 refine wpAnyH_ready (rs:= [3]) (by kernel_rfl) (by simp) ?_;refine AllReadyH.cons rfl (fun K hK=>?_) AllReadyH.nil
 (first | go_at_call 88 | (go_simp;go_at_call 88));(refine(p1.out _ ‹_›).mono ?_;rintro en w3 ⟨A1,c1,rfl,t0,z0⟩)
 refine hK.out _ _ ?_ (fun g0=>?_)
 ·exact z0
 clear hK K
 (try simp only[Act.put,pz0,pz1,pz2,pz3,pz4,pz5])
 refine wpAnyH_ready (rs:= [8]) (by kernel_rfl) (by simp) ?_;refine AllReadyH.cons rfl (fun K hK=>?_) AllReadyH.nil
 (first | go_at_call 78 | (go_simp;go_at_call 78));(refine(j1.out _ _ _ t0 z0).mono ?_;rintro en w4 ⟨A2,c2,rfl,x0,p0⟩)
 refine hK.out _ _ ?_ (fun m0=>?_)
 ·exact p0
 clear hK K
 (try simp only[Act.put,pz0,pz1,pz2,pz3,pz4,pz5])
 refine wpAnyH_take (i:=9) (v:= .slice A2 L2.length c2) rfl (by kernel_rfl) (by kernel_rfl) (by kernel_rfl) (fun _ _ _ h=>h) (Or.inl ⟨by rfl,?_⟩) (by assumption) ?_
 ·intro w' q0
  (try dsimp only at q0)
  obtain⟨z1,z2,z3⟩:=q0;go_simp
  try with_reducible rfl
  all_goals omega
 (try simp only[Act.put,pz0,pz1,pz2,pz3,pz4,pz5])
 refine wpAnyH_done (by kernel_rfl) ?_ _;clear u0 g0 m0 z0 t0 p1 j1 b1 r0;have v0:Ext W w4:=p0.2.2;have y1:w4.cell? ⟨b,1,none⟩=some (.slice B m d):=p0.2.1;have m2:w.heap.size<=w4.heap.size:=(y0.trans v0).size;replace x0:=ZA x0;replace v0:=ZA v0;clear p0;go_wp2_with fail
 go_loopw [0,19] (fun s0 s19 wr=>∃(i n4 c4:Nat) (A4:Option Addr) (L:List UInt8),s19 = .int .i64 (i:Int)/\s0 = .slice A4 n4 c4/\i<=m/\n4<=100100000/\Hid (L=L2++putFs (fs.take i))/\Hid (Own8 wr w.heap.size A4 n4 c4 L)/\Hid (Ext w4 wr)) (fun _ s19 _=>m - (intOf s19).toNat)
 case atStart=>exact⟨0,L2.length,c2,A2,L2,rfl,rfl,by omega,by omega,ZA (by simp[putFs]),x0,ZA (Ext.refl w4)⟩
 case round =>
  obtain⟨i,n4,c4,A4,L,rfl,rfl,hi,d2,hL,w0,hE⟩:=hrel;by_cases him:i<m
  ·obtain⟨f,hf⟩:∃f,fs[i]? = some f:=⟨_,List.getElem?_eq_getElem (by rw[<-hm.out];exact him)⟩
   obtain⟨g,o,rfl,k0,k1⟩:=Zu (((hc.ext y0).ext v0.out).ext hE.out) hf;have i1:=f0.out f (List.mem_of_getElem? hf);have r1:=ZEq hf;obtain⟨nm,tx⟩:=f;unfold strV at k0 k1;simp only at k0 k1 i1 r1;obtain⟨k2,j2⟩:=i1;obtain⟨g2,q1⟩:∃g2,g2=wr.heap.size:=⟨_,rfl⟩
   obtain⟨Wf,d0⟩:∃Wf,Wf=wr.alloc (.cells #[.string ⟨nm.toArray⟩,.string ⟨tx.toArray⟩] 105):=⟨_,rfl⟩
   have v1:Ext wr Wf:=by rw[d0];exact(Ext.refl wr).alloc _
   have o1:Row Wf g2 105 #[.string ⟨nm.toArray⟩,.string ⟨tx.toArray⟩]:=by rw[d0,q1];exact Row.new wr _ _
   obtain⟨L5,o0⟩:∃L5,L5=L++txL nm:=⟨_,rfl⟩
   obtain⟨L6,x1⟩:∃L6,L6=L5++txL tx:=⟨_,rfl⟩
   have a1:L.length=n4:=w0.out.1.symm;have t2:=ZBj (s:=nm) (by omega);have v2:=ZBj (s:=tx) (by omega);have y2:L5.length<=100200000:=by rw[o0,List.length_append];omega
   have c0:Hid (L6=L2++putFs (fs.take (i+1))):=ZA (by rw[x1,o0,hL.out,r1];simp);have a2:L6.length<=100100000:=by
    rw[c0.out,List.length_append];have:=g1.out (i+1);omega
   have t1:Ext w Wf:=(y0.trans v0.out).trans (hE.out.trans v1);have d1:Wf.drew.cell? ⟨g2,0,none⟩=some (.string ⟨nm.toArray⟩)/\Wf.drew.cell? ⟨g2,1,none⟩=some (.string ⟨tx.toArray⟩)/\Ext Wf Wf.drew:=⟨o1.cell 0 rfl,o1.cell 1 rfl,(Ext.refl Wf).drew⟩
   have e0:Buf Wf w.heap.size 5 A4 n4 c4 (L.map B8):=w0.out.2.ext v1;have l1:∀x,(x.cell? ⟨g2,0,none⟩=some (.string ⟨nm.toArray⟩)/\x.cell? ⟨g2,1,none⟩=some (.string ⟨tx.toArray⟩)/\Ext Wf x)->Calls Tryz.prog 147 #[.slice A4 n4 c4,.string ⟨nm.toArray⟩] x fun e y=>∃A5 c5,e = .returned (.slice A5 L5.length c5)/\Own8 y w.heap.size A5 L5.length c5 L5/\(y.cell? ⟨g2,0,none⟩=some (.string ⟨nm.toArray⟩)/\y.cell? ⟨g2,1,none⟩=some (.string ⟨tx.toArray⟩)/\Ext Wf y):=fun x ⟨h0,h1,hE⟩ =>
    (ZBx A4 n4 c4 L nm x a1.symm (e0.cells.ext hE) w0.out.nil_ (by omega) (by omega)).mono fun e y hy=>by
     obtain⟨A1,c1,he,t0,j0⟩:=NewB.own hy (t1.trans hE).size;rw[<-o0]at he t0;exact⟨A1,c1,he,t0,j0.cell h0,j0.cell h1,hE.trans j0⟩
   have n1:∀x A5 c5,Own8 x w.heap.size A5 L5.length c5 L5->(x.cell? ⟨g2,0,none⟩=some (.string ⟨nm.toArray⟩)/\x.cell? ⟨g2,1,none⟩=some (.string ⟨tx.toArray⟩)/\Ext Wf x)->Calls Tryz.prog 147 #[.slice A5 L5.length c5,.string ⟨tx.toArray⟩] x fun e y=>∃A6 c6,e = .returned (.slice A6 L6.length c6)/\Own8 y w.heap.size A6 L6.length c6 L6/\(y.cell? ⟨g2,0,none⟩=some (.string ⟨nm.toArray⟩)/\y.cell? ⟨g2,1,none⟩=some (.string ⟨tx.toArray⟩)/\Ext Wf y):=fun x A5 c5 t0 ⟨h0,h1,hE⟩ =>
    (ZBx A5 L5.length c5 L5 tx x rfl t0.2.cells t0.nil_ (by omega) (by omega)).mono fun e y hy=>by
     obtain⟨A2,c2,he,x0,j0⟩:=NewB.own hy (t1.trans hE).size;rw[<-x1]at he x0;exact⟨A2,c2,he,x0,j0.cell h0,j0.cell h1,hE.trans j0⟩
   have u2:(0:Int)<=i:=by omega
   have hi1:(i:Int)<m:=by omega
   have u1:=ZA (hE.out.trans v1);replace l1:=ZA l1;replace n1:=ZA n1;replace d1:=ZA d1;replace q1:=ZA q1;replace a1:=ZA a1;replace d0:=ZA d0;clear hf o0 x1 r1 t2 v2 o1 t1 e0;go_wp2_with fail;rw[<-d0.out,<-q1.out];refine wp_region_held_drew (S:=fun x=>x.cell? ⟨g2,0,none⟩=some (.string ⟨nm.toArray⟩)/\x.cell? ⟨g2,1,none⟩=some (.string ⟨tx.toArray⟩)/\Ext Wf x) (by kernel_rfl) d1.out (fun u0=>?_);refine wpAnyH_take (i:=0) (v:= .slice A4 n4 c4) rfl (by kernel_rfl) (by kernel_rfl) (by kernel_rfl) (fun _ _ _ h=>h) (Or.inl ⟨by rfl,?_⟩) (by assumption) ?_
   ·intro w' q0
    (try dsimp only at q0)
    obtain⟨z1,z2,z3⟩:=q0;go_simp
    try with_reducible rfl
    all_goals omega
   (try simp only[Act.put,pz0,pz1,pz2,pz3,pz4,pz5])
   refine wpAnyH_take (i:=1) (v:= .pointer (some ⟨g2,0,none⟩)) rfl (by kernel_rfl) (by kernel_rfl) (by kernel_rfl) (fun _ _ _ h=>h) (Or.inl ⟨by rfl,?_⟩) (by assumption) ?_
   ·intro w' q0
    (try dsimp only at q0)
    obtain⟨z1,z2,z3⟩:=q0;go_simp
    try with_reducible rfl
    all_goals omega
   (try simp only[Act.put,pz0,pz1,pz2,pz3,pz4,pz5])
   refine wpAnyH_take (i:=2) (v:= .string ⟨nm.toArray⟩) rfl (by kernel_rfl) (by kernel_rfl) (by kernel_rfl) (fun _ _ _ h=>h) (Or.inl ⟨by rfl,?_⟩) (by assumption) ?_
   ·intro w' q0
    (try dsimp only at q0)
    obtain⟨z1,z2,z3⟩:=q0;go_simp
    try with_reducible rfl
    all_goals omega
   (try simp only[Act.put,pz0,pz1,pz2,pz3,pz4,pz5])
   refine wpAnyH_take (i:=4) (v:= .pointer (some ⟨g2,1,none⟩)) rfl (by kernel_rfl) (by kernel_rfl) (by kernel_rfl) (fun _ _ _ h=>h) (Or.inl ⟨by rfl,?_⟩) (by assumption) ?_
   ·intro w' q0
    (try dsimp only at q0)
    obtain⟨z1,z2,z3⟩:=q0;go_simp
    try with_reducible rfl
    all_goals omega
   (try simp only[Act.put,pz0,pz1,pz2,pz3,pz4,pz5])
   refine wpAnyH_take (i:=5) (v:= .string ⟨tx.toArray⟩) rfl (by kernel_rfl) (by kernel_rfl) (by kernel_rfl) (fun _ _ _ h=>h) (Or.inl ⟨by rfl,?_⟩) (by assumption) ?_
   ·intro w' q0
    (try dsimp only at q0)
    obtain⟨z1,z2,z3⟩:=q0;go_simp
    try with_reducible rfl
    all_goals omega
   (try simp only[Act.put,pz0,pz1,pz2,pz3,pz4,pz5])
   refine wpAnyH_ready (rs:= [3]) (by kernel_rfl) (by simp) ?_;refine AllReadyH.cons rfl (fun K hK=>?_) AllReadyH.nil
   (first | go_at_call 147 | (go_simp;go_at_call 147));(refine(l1.out _ ‹_›).mono ?_;rintro en w5 ⟨A5,c5,rfl,w1,z0⟩)
   refine hK.out _ _ ?_ (fun g0=>?_)
   ·exact z0
   clear hK K
   (try simp only[Act.put,pz0,pz1,pz2,pz3,pz4,pz5])
   refine wpAnyH_ready (rs:= [6]) (by kernel_rfl) (by simp) ?_;refine AllReadyH.cons rfl (fun K hK=>?_) AllReadyH.nil
   (first | go_at_call 147 | (go_simp;go_at_call 147));(refine(n1.out _ _ _ w1 z0).mono ?_;rintro en w6 ⟨A6,c6,rfl,e1,p0⟩)
   refine hK.out _ _ ?_ (fun m0=>?_)
   ·exact p0
   clear hK K
   (try simp only[Act.put,pz0,pz1,pz2,pz3,pz4,pz5])
   refine wpAnyH_take (i:=7) (v:= .slice A6 L6.length c6) rfl (by kernel_rfl) (by kernel_rfl) (by kernel_rfl) (fun _ _ _ h=>h) (Or.inl ⟨by rfl,?_⟩) (by assumption) ?_
   ·intro w' q0
    (try dsimp only at q0)
    obtain⟨z1,z2,z3⟩:=q0;go_simp
    try with_reducible rfl
    all_goals omega
   (try simp only[Act.put,pz0,pz1,pz2,pz3,pz4,pz5])
   refine wpAnyH_done (by kernel_rfl) ?_ _;have p2:=ZA (u1.out.trans p0.2.2);replace e1:=ZA e1;clear u0 g0 m0 z0 p0 w1;go_wp2_with fail;go_roundw
   case rel=>exact⟨i+1,L6.length,c6,A6,L6,by go_num,rfl,by omega,by omega,c0,e1,p2⟩
   case measure=>simp[intOf];omega
  ·obtain rfl:i=m:=by omega
   obtain⟨f1,h2⟩:=w0.out;have b0:=ZA ((y0.trans v0.out).trans hE.out);have a0:NewB w (L2++putFs (fs.take i)) (.returned (.slice A4 n4 c4)) wr:=⟨A4,c4,by rw[<-hL.out,f1],by rw[<-hL.out,<-f1];exact h2,b0.out⟩
   replace a0:=ZA a0;clear h2 f1;go_wp2_with fail;go_ret;exact a0.out
def joinL (ps:List (List UInt8)):List UInt8:=ps.flatMap frameL
theorem ZCN {p:List UInt8} (h:p.length<=16777216):(frameL p).length<=p.length+20:=by
 have h1:=ZD (n:=p.length) (by omega);have h2:(be4 (cnext 0 (vb p.length++p))).length=4:=rfl;unfold frameL;rw[List.length_append,List.length_append,h2];omega
theorem ZB3:∀ {ps:List (List UInt8)},(∀p∈ps,p.length<=16777216)->(joinL ps).length<=16777236*ps.length
 | [],_=>by simp[joinL]
 | p::ps,h=>by
  have h1:=ZCN (h p (List.mem_cons_self ..));have h2:=ZB3 (ps:=ps) fun q hq=>h q (List.mem_cons_of_mem _ hq);have h3:=h p (List.mem_cons_self ..);show (frameL p++joinL ps).length<=_;rw[List.length_append,List.length_cons];omega
theorem ZER {ps:List (List UInt8)} {i:Nat} {p:List UInt8} (h:ps[i]? = some p):joinL (ps.take (i+1))=joinL (ps.take i)++frameL p:=by
 unfold joinL;rw[List.take_add_one,h,List.flatMap_append];simp
def OkB' (w:World) (l:List UInt8) (e:Ending) (w':World):Prop:=∃A c,e = .returned (.tuple #[.slice A l.length c,.int .i64 0])/\Own8 w' w.heap.size A l.length c l/\Ext w w'
theorem ZLK (B:Option Addr) (k c2:Nat) (ps:List (Option Addr×Nat×List UInt8)) (w:World) (hk:k=ps.length) (hB:Cells w B (ps.map fun p=> .slice p.1 p.2.2.length p.2.1)) (m0:∀p∈ps,In8 w p.1 p.2.2.length p.2.1 p.2.2/\p.2.2.length<=16777216) (l0:k<=50) :
 Calls Tryz.prog 43 #[.slice B k c2] w fun e w'=>OkB' w (joinL (ps.map (·.2.2))) e w':=by
 have z0:=ZA (fun A n c l B m d p W h1 h2 h3 h4=>ZMk A n c l B m d p W h1 h2 h3 h4);obtain⟨P,hP⟩:∃P,P=ps.map (·.2.2):=⟨_,rfl⟩
 rw[<-hP];have v0:∀p∈P,p.length<=16777216:=fun p hp=>by
  rw[hP]at hp;obtain⟨q,hq,rfl⟩:=List.mem_map.1 hp;exact(m0 q hq).2
 have g0:P.length=k:=by rw[hP,List.length_map,hk]
 replace hk:=ZA hk;replace hB:=ZA hB;replace m0:=ZA m0;replace hP:=ZA hP;replace v0:=ZA v0;replace g0:=ZA g0;go_enter Tryz.func43,Tryz.ntmps43;go_wp2_with fail
 go_loopw [4,11] (fun s4 s11 wr=>∃(i n c:Nat) (A:Option Addr),s4 = .slice A n c/\s11 = .int .i64 (i:Int)/\i<=k/\n<=16777236*i/\Hid (Own8 wr w.heap.size A n c (joinL (P.take i)))/\Hid (Ext w wr)) (fun _ s11 _=>k - (intOf s11).toNat)
 case atStart=>exact⟨0,0,0,none,rfl,rfl,by omega,by omega,ZA ⟨rfl,Buf.nil _ _ _⟩,ZA (Ext.refl w)⟩
 case round =>
  obtain⟨i,n,c,A,rfl,rfl,hi,hn,ho,hE⟩:=hrel;by_cases i0:i<k
  ·obtain⟨x,hx⟩:∃x,ps[i]? = some x:=⟨_,List.getElem?_eq_getElem (by rw[<-hk.out];exact i0)⟩
   obtain⟨g,o,hA,c0⟩:=hB.out.at_ (by rw[List.length_map,<-hk.out];omega);subst hA;have d0:=hE.out.cell (c0 i _ (by rw[List.getElem?_map,hx];rfl));have q0:=m0.out x (List.mem_of_getElem? hx);have u0:P[i]? = some x.2.2:=by rw[hP.out,List.getElem?_map,hx];rfl
   have k0:=ZER u0;obtain⟨XA,xc,xl⟩:=x;simp only at d0 q0 k0;have f0:=ZCN q0.2;have x0:=ZB3 (ps:=P.take (i+1)) fun p hp=>v0.out p (List.mem_of_mem_take hp);have e0:(P.take (i+1)).length=i+1:=by rw[List.length_take,g0.out];omega
   rw[e0]at x0;obtain⟨L2,j0⟩:∃L2,L2=joinL (P.take (i+1)):=⟨_,rfl⟩
   rw[<-j0]at k0 x0;have p0:=z0.out A n c (joinL (P.take i)) XA xl.length xc xl wr (by have:=ho.out.2.in8;rwa [ho.out.1]at this ⊢) (q0.1.ext hE.out) (by omega) q0.2;rw[<-k0]at p0;obtain⟨m,hm⟩:∃m,m=xl.length:=⟨_,rfl⟩
   rw[<-hm]at p0 d0;have a0:=hE.out.size;replace p0:=ZA p0;replace hm:=ZA hm;replace hx:=ZA hx;replace q0:=ZA q0;replace u0:=ZA u0;replace k0:=ZA k0;replace j0:=ZA j0;clear c0 f0 e0;go_wp2_with fail;refine p0.out.mono ?_;rintro e w2 ⟨A2,c3,rfl,b0,t0⟩;have h0:Hid (Own8 w2 w.heap.size A2 L2.length c3 (joinL (P.take (i+1)))):=ZA (by rw[<-j0.out];exact⟨rfl,b0.lower a0⟩);obtain⟨n2,y0⟩:∃n2,n2=L2.length:=⟨_,rfl⟩
   rw[<-y0]at h0 x0 ⊢;replace y0:=ZA y0;replace t0:=ZA (hE.out.trans t0);clear b0;go_wp2_with fail;exact⟨⟨i+1,n2,c3,A2,rfl,rfl,by omega,by omega,h0,t0⟩,by simp only[intOf];omega⟩
  ·obtain rfl:i=k:=by omega
   have h0:=ho.out;rw[List.take_of_length_le (by rw[g0.out];exact Nat.le_refl _)]at h0;replace h0:=ZA h0;go_wp2_with fail;go_ret2;have hl:=h0.out.1;subst hl;exact⟨A,c,rfl,h0.out,hE.out⟩
theorem ZJr (A:Option Addr) (n c:Nat) (l:List UInt8) (e:Ev) (B:Option Addr) (d:Nat) (w:World) (hn:n=l.length) (hl:Bs w A l) (hz:A=none->c=0) (x0:n<=100000000) (h:e.Ok w B) (hk:checkE e.fs=0) (ha:I64ok' e.at_) :
 Calls Tryz.prog 133 #[.slice A n c,e.val B d] w fun en w'=>OkB' w (l++putE e) en w':=by
 obtain⟨W1,j0⟩:∃W1,W1=w.alloc (.cells #[.int .i64 e.at_,.slice B e.fs.length d] 37):=⟨_,rfl⟩
 obtain⟨g,hg⟩:∃g,g=w.heap.size:=⟨_,rfl⟩
 have hr:Row W1 g 37 #[.int .i64 e.at_,.slice B e.fs.length d]:=by rw[j0,hg];exact Row.new w _ _
 have g0:Ext w W1:=by rw[j0];exact(Ext.refl w).alloc _
 have t0:=ZA (ZBQ e B d W1 (h.ext g0));rw[hk]at t0;have h0:=ZA (fun W (hE:Ext w W)=>ZKZ A n c l e B d W hn (hl.ext hE) hz x0 (h.ext hE) hk ha);obtain⟨L,hL⟩:∃L,L=l++putE e:=⟨_,rfl⟩
 rw[<-hL]at h0 ⊢;unfold Ev.val at t0 h0 ⊢;have k0:=hr.cell 0 rfl;have k1:=hr.cell 1 rfl;replace hr:=ZA hr;replace g0:=ZA g0;replace j0:=ZA j0;replace hg:=ZA hg;replace hL:=ZA hL;replace hk:=ZA hk;replace h:=ZA h;replace hn:=ZA hn;replace hl:=ZA hl;clear hz;go_enter Tryz.func133,Tryz.ntmps133;go_upto_region 1 with (fail)
 rw[<-j0.out,<-hg.out];go_wp2_with fail;refine t0.out.mono ?_;rintro en w2 ⟨rfl,p0⟩;have r2:=hr.out.ext p0;have q0:=r2.cell 0 rfl;have q1:=r2.cell 1 rfl;replace r2:=ZA r2;replace p0:=ZA (g0.out.trans p0);go_wp2_with fail;refine(h0.out w2 p0.out).mono ?_;rintro en w3 u0;obtain⟨A3,c3,rfl,v0,m0⟩:=u0;have ho:=ZA (show Own8 w3 w.heap.size A3 L.length c3 L from⟨rfl,v0.lower p0.out.size⟩);replace m0:=ZA (p0.out.trans m0);clear v0;go_wp2_with fail;go_ret2;exact⟨A3,c3,rfl,ho.out,m0.out⟩
def timesD:Int->List Dc->List UInt8
 | _,[]=> []
 | a,d::t=>vb (zig (wrap64 (d.2.at_ - a)))++timesD d.2.at_ t
def lastAt:Int->List Dc->Int
 | a,[]=>a
 | _,d::t=>lastAt d.2.at_ t
def lowD:Int->List Dc->Int
 | m,[]=>m
 | m,d::t=>lowD (min m d.2.at_) t
def highD:Int->List Dc->Int
 | m,[]=>m
 | m,d::t=>highD (max m d.2.at_) t
def partD:List Dc->List Int
 | []=> [0,0,0,0,0]
 | d::t=> [lowD d.2.at_ (d::t),highD d.2.at_ (d::t),d.1,lastD d.1 t,((d::t).length:Int)]
def pairsD:Nat->List Dc->List (List UInt8×Po)
 | _,[]=> []
 | i,d::t=>(termsL d.2).map (fun p=>(p.1,((i:Int),p.2)))++pairsD (i+1) t
def rowsD (l:List Dc):List (List UInt8×List Po):=grp (pairsD 0 l)
def enOf:Nat->List (List UInt8×List Po)->List En
 | _,[]=> []
 | o,r::t=>⟨r.1,o,(encPs r.2).length,r.2.length⟩::enOf (o+(encPs r.2).length) t
def postB (rs:List (List UInt8×List Po)):List UInt8:=rs.flatMap fun r=>encPs r.2
def framesD (l:List Dc):List (List UInt8):= [encDs l,timesD 0 l,postB (rowsD l),encEs (enOf 0 (rowsD l)),ofB ((rowsD l).map (·.1)),vall (partD l)]
def segL (l:List Dc):List UInt8:= [76,83,69,71]++joinL (framesD l)
theorem ZCQ:∀(a b:List Dc) (x:Int),timesD x (a++b)=timesD x a++timesD (lastAt x a) b
 | [],b,x=>rfl
 | d::t,b,x=>by
  show _++timesD d.2.at_ (t++b)=(_++timesD d.2.at_ t)++_;rw[ZCQ t b,List.append_assoc];rfl
theorem ZCL:∀(a b:List Dc) (x:Int),lastAt x (a++b)=lastAt (lastAt x a) b
 | [],b,x=>rfl
 | d::t,b,x=>ZCL t b d.2.at_
theorem ZE2:∀(a b:List Dc) (x:Int),lowD x (a++b)=lowD (lowD x a) b
 | [],b,x=>rfl
 | d::t,b,x=>ZE2 t b _
theorem ZD4:∀(a b:List Dc) (x:Int),highD x (a++b)=highD (highD x a) b
 | [],b,x=>rfl
 | d::t,b,x=>ZD4 t b _
theorem ZAd:∀(a b:List Dc) (i:Nat),pairsD i (a++b)=pairsD i a++pairsD (i+a.length) b
 | [],b,i=>rfl
 | d::t,b,i=>by
  show _++pairsD (i+1) (t++b)=(_++pairsD (i+1) t)++_;rw[ZAd t b,List.append_assoc,List.length_cons,show i+1+t.length=i+(t.length+1)by omega]
theorem ZFd:∀(a b:List (List UInt8×List Po)) (o:Nat),enOf o (a++b)=enOf o a++enOf (o+(postB a).length) b
 | [],b,o=>rfl
 | r::t,b,o=>by
  show _::enOf _ (t++b)=_::enOf _ t++_;rw[ZFd t b];unfold postB;rw[List.flatMap_cons,List.length_append,Nat.add_assoc];rfl
theorem ZAm (a b:List (List UInt8×List Po)):postB (a++b)=postB a++postB b:=by unfold postB;rw[List.flatMap_append]
theorem ZC1 (n:Int) : -9223372036854775808<=wrap64 n/\wrap64 n<=9223372036854775807:=by
 unfold wrap64;omega
theorem ZBb:∀(l:List Dc) (a:Int),(timesD a l).length<=10*l.length
 | [],a=>by simp[timesD]
 | d::t,a=>by
  have h1:=ZBb t d.2.at_;have h2:=ZBB (ZC1 (d.2.at_ - a)).1 (ZC1 (d.2.at_ - a)).2;have h3:=ZD h2;unfold timesD;rw[List.length_append,List.length_cons];omega
end
section
open Go.RowKit
theorem Za:Fence.wide.depth=none:=rfl
theorem ZAw (f:FuncId):Fence.wide.fn f=True:=rfl
def NC (B:Nat) (W:World) (k:Nat):Prop:=B<=k/\∃o,W.heap[k]? = some o/\o.isCells=false
theorem NC.not_row {B:Nat} {W:World} {g:Nat} {t:TypeId} {cs:Array Value} (h:Row W g t cs):¬ NC B W g:=fun⟨_,o,ho,hc⟩=>by
 unfold Row at h;rw[h]at ho;injection ho with ho;subst ho;cases hc
def Alike (B:Nat) (W W':World):Prop:=Chg (NC B W) W W'
theorem Alike.refl (B:Nat) (W:World):Alike B W W:=Chg.refl _ _
theorem Alike.row {B:Nat} {W W':World} {g:Nat} {t:TypeId} {cs:Array Value} (h:Alike B W W') (hr:Row W g t cs):Row W' g t cs:=Chg.row h hr (NC.not_row hr)
theorem Alike.ext {B:Nat} {w W W':World} (h:Alike B W W') (hE:Ext w W) (hB:w.heap.size<=B):Ext w W':=hE.chg h fun i hi hn=>by have:=hn.1;omega
theorem Alike.owns {B:Nat} {W W':World} (h:Alike B W W') {base:Nat} {e:TypeId} {size:Nat} {v:Value} {n:Nat} {xs:List Value} (ho:W.ownsRow base e size v n xs):W'.ownsRow base e size v n xs :=
 Chg.owns h ho fun g hg=>by obtain⟨cur,hr,_⟩:=ZC ho hg;exact NC.not_row hr
theorem Alike.buf {B:Nat} {W W':World} (h:Alike B W W') {base:Nat} {e:TypeId} {A:Option Addr} {n c:Nat} {xs:List Value} (hb:Buf W base e A n c xs):Buf W' base e A n c xs :=
 hb.keep fun g hA=>by
  rcases hb.2.2 with ⟨h0,_⟩ | ⟨g',cur,q0,_,hr,_⟩
  ·rw[h0]at hA;cases hA
  ·rw[q0]at hA;cases hA;exact h.block _ hr.lt (NC.not_row hr)
theorem Alike.others {B:Nat} {W:World} {k:Nat} {o:Obj} (hk:W.heap[k]? = some o) (ho:o.isCells=false) (hB:B<=k) (o':Obj):Alike B W (W.putObj k o') :=
 ⟨rfl,rfl,rfl,by simp,fun j _ hn=>World.putObj_heap_other (fun e=>hn ⟨by omega,o,by rw[e];exact hk,ho⟩)⟩
def Iter {α:Type} (P:Program) (gf:Nat) (lb:Array Value) (encs:α->Array Value) (St:World->World->Prop) (Nx:List α->α->World->Prop) (Kp:World->World->Prop) (Fin:List α->World->World->Prop) (w:World):Prop :=
 ∀(l:Nat) (J:List α->World->Prop) (W:World),Ext w W->(∀pre A B,J pre A->St A B->J pre B) ->
  (∀pre x W1,J pre W1->Nx pre x W1->YieldAt Fence.wide 0 P l (encs x) W1 fun e W'=>e = .returned (.bool true)/\J (pre ++ [x]) W'/\Kp W1 W')->J [] W ->
  Calls P gf (#[.func (.yield l) #[] #[]]++lb) W fun e W'=>(∃v,e = .returned v)/\∃xs W2,J xs W2/\Fin xs W2 W'
def roundDone {α:Type} (Kp:World->World->Prop) (I:List α->World->Prop) (xs:List α) (W:World):Exit->Act->World->Prop
 | .normal,_,W'=>KeepsOthers W W'/\Kp W W'/\I xs W'
 | _,_,_=>False
def roundGo {α:Type} (B:Nat) (P:Program) (l:Nat) (body:Code) (Kp:World->World->Prop) (I:List α->World->Prop) (xs:List α) (W:World) (a:Act) (W1:World):Prop :=
 KeepsOthers W W1/\Kp W W1/\∀W2,Alike B W1 W2->body.wpIn (Fence.wide.inRound l) 0 P (roundDone Kp I xs W2) a W2
theorem ZBC {α:Type} {P:Program} {g:Operand} {ps:Array Tmp} {assign body:Code} {Q:Exit->Act->World->Prop} {a:Act} {w:World} {gf:Nat} {lb:Array Value}
 (hg:a.eval g = .func (.func gf) #[] lb) (eg:∀args w,(callFunc gf args).run P w = .ok (.enter gf args) w)
 {encs:α->Array Value} {St:World->World->Prop} {Nx:List α->α->World->Prop} {Kp:World->World->Prop} {Fin:List α->World->World->Prop} (s0:Iter P gf lb encs St Nx Kp Fin w)
 (j1:∀x,(encs x).size=ps.size) (e0:∀A B,St A B->KeepsOthers A B) (j0:∀xs A B,Fin xs A B->KeepsOthers A B)
 (u0:∀A B C,Kp A B->Kp B C->Kp A C) (d0:∀A B,Alike w.heap.size A B->Kp A B)
 (I:List α->World->Prop) (hI:∀pre A B,I pre A->Alike w.heap.size A B->I pre B) (i0:∀pre A B,I pre A->St A B->I pre B) (h0:∀W,Alike w.heap.size w W->I [] W)
 (k0:∀(l:Nat) (pre:List α) (x:α) (W:World),I pre W->Nx pre x W->assign.wpIn (Fence.wide.inRound l) 0 P (Exit.then (roundGo w.heap.size P l body Kp I (pre ++ [x]) W) (fun _ _ _=>False)) { tmps:=(ps.zip (encs x)).foldl (fun t (p,v)=>t.setIfInBounds p v) a.tmps,defers:= [] } W)
 (m0:∀(D:Nat) (xs:List α) (W2 W3 W4:World),w.heap.size<=D->I xs W2->Fin xs W2 W3->Alike w.heap.size W3 W4->W4.heap[D]? = some (.deferred (some []))->Q .normal { a with defers:= { target:= .collected D,args:=#[] }::a.defers } W4) :
 (Code.rangeFunc g ps assign body).wpIn Fence.wide 0 P Q a w:=by
 refine wpIn_rangeFunc ?_;intro fn o0;show ∃_,_;obtain⟨rec,q0⟩:∃rec:LoopState->Option Code->Loop,rec=fun st pe=> { state:=st,pending:=pe,fn,tmps:=a.tmps,params:=ps,assign,body,defers:=w.heap.size }:=⟨_,rfl⟩
 obtain⟨W1,v0⟩:∃W1,(w.alloc (.deferred (some []))).alloc (.loop (rec .ready none))=W1:=⟨_,rfl⟩
 have n0:W1.heap[w.heap.size+1]? = some (.loop (rec .ready none)):=by
  rw[<-v0];have:=World.alloc_heap_new (w.alloc (.deferred (some []))) (.loop (rec .ready none));rwa [World.size_alloc]at this
 have l0:W1.heap[w.heap.size]? = some (.deferred (some [])):=by
  rw[<-v0];exact(Below.heap_alloc _ _ _ (by simp)).trans (World.alloc_heap_new w _)
 have c0:Ext w W1:=by rw[<-v0];exact((Ext.refl w).alloc _).alloc _
 refine⟨w.heap.size+1,[{ target:= .collected w.heap.size,args:=#[] }],W1,{ target:= .fn (.func gf) lb,args:=#[.func (.yield (w.heap.size+1)) #[] #[]] },W1,gf,
  #[.func (.yield (w.heap.size+1)) #[] #[]]++lb,W1,?_,?_,?_,?_,fun h=>(by cases h),?_⟩
 ·rw[<-v0,q0];exact run_enterLoop_outer _ _ _ _ _
 ·simp only[resolve,hg];simp[go_sem]
 ·intro f' _;trivial
 ·simp[invoke,go_sem,eg]
 ·refine callsIn_wide.2 ((s0 (w.heap.size+1)
   (fun pre W=>I pre W/\W.heap[w.heap.size+1]? = some (.loop (rec .ready none))/\W.heap[w.heap.size]? = some (.deferred (some [])))
   W1 c0 (fun pre A B h hs=>⟨i0 pre A B h.1 hs,(e0 A B hs).same _ _ h.2.1 rfl,(e0 A B hs).same _ _ h.2.2 rfl⟩)
   ?_ ⟨h0 W1 (Chg.of_ext c0 _),n0,l0⟩).mono ?_)
  ·rintro pre x W ⟨hi,hl,hk⟩ k1;have g1:w.heap.size+1<W.heap.size:=(Array.getElem?_eq_some_iff.1 hl).1;have hy:=run_yield (P:=P) (args:=encs x) hl (by rw[q0];exact j1 x);rw[q0]at hy;refine⟨fn,_,assign,body,hy,roundIn_of_wpIn o0 ?_⟩;refine wpIn_mono (k0 _ pre x W hi k1) ?_;rintro e a1 W2 hq;cases e with
   | normal =>
    obtain⟨f0,q1,g0⟩:=hq;have p0:=f0.same _ _ hl rfl;have y0:=f0.same _ _ hk rfl;have b0:w.heap.size+1<W2.heap.size:=(Array.getElem?_eq_some_iff.1 p0).1;refine⟨W2.putObj (w.heap.size+1) (.loop { rec .ready none with state:= .busy }),run_beginRound p0 (by rw[q0]),?_⟩;have ha:=Alike.others (B:=w.heap.size) p0 rfl (by omega) (.loop { rec .ready none with state:= .busy });have p1:(W2.putObj (w.heap.size+1) (.loop { rec .ready none with state:= .busy })).heap[w.heap.size+1]? = some (.loop { rec .ready none with state:= .busy }):=World.putObj_heap_same b0;have w0:(W2.putObj (w.heap.size+1) (.loop { rec .ready none with state:= .busy })).heap[w.heap.size]? = some (.deferred (some [])):=(World.putObj_heap_other (by omega)).trans y0;refine wpIn_mono (g0 _ ha) ?_;rintro e a3 W3 hp;cases e with
    | normal =>
     obtain⟨t0,z0,r0⟩:=hp;have a0:=t0.same _ _ p1 rfl;have h1:=t0.same _ _ w0 rfl;have hr:=run_endRound (P:=P) none a0;rw[q0]at hr;have x0:=Alike.others (B:=w.heap.size) a0 rfl (by omega) (.loop (rec .ready none));rw[q0]at x0;refine⟨_,_,hr,rfl,⟨hI _ _ _ r0 x0,?_,?_⟩,u0 _ _ _ (u0 _ _ _ q1 (d0 _ _ ha)) (u0 _ _ _ z0 (d0 _ _ x0))⟩
     ·rw[q0];exact World.putObj_heap_same (Array.getElem?_eq_some_iff.1 a0).1
     ·exact(World.putObj_heap_other (by omega)).trans h1
    | ret=>exact hp.elim
    | exit id=>exact hp.elim
    | goto t=>exact hp.elim
    | panic ch=>exact hp.elim
    | outgrown=>exact hp.elim
   | ret=>exact hq.elim
   | exit id=>exact hq.elim
   | goto t=>exact hq.elim
   | panic ch=>exact hq.elim
   | outgrown=>exact hq.elim
  ·rintro e W2 ⟨⟨v,rfl⟩,xs,W3,⟨hi,hl,hk⟩,hf⟩;have p0:=(j0 _ _ _ hf).same _ _ hl rfl;have y0:=(j0 _ _ _ hf).same _ _ hk rfl;refine⟨none,_,by have:=run_endLoop (P:=P) p0 (by rw[q0];simp);rw[q0]at this;exact this,m0 _ xs W3 W2 _ (Nat.le_refl _) hi hf ?_ ((World.putObj_heap_other (by omega)).trans y0)⟩;rw[q0]at p0;exact Alike.others p0 rfl (by omega) _
section
variable {F:Fence} {n:Nat} {P:Program}
theorem ZBA {ops:Array Oper} {rest:List Oper} {o:Oper} {a:Act} {Q:Exit->Act->World->Prop} {w:World} {t e size bytes:Nat} (E:Elem P t e size bytes)
 {base:Nat} {v:Value} {k:Nat} {xs:List Value} {A:Option Addr} {m m' c:Nat} {news:List Value} (q0:w.ownsRow base e size v k xs) (hr:Cells w A news) (s x:Operand)
 (ho:o.op = .call { callee:= .builtin .append,args:=#[s,x],argTypes:=#[t,t] }) (j0:o.guard=none)
 (hs:a.eval s=v) (hx:a.eval x = .slice A m' c) (hm:m'=m) (hl:news.length=m*size) (h1:∀u∈news,u.oneCell'=true) (g0:k+m<=4294967296) (h0:base<=w.heap.size)
 (h:∀A1 c1 w',w'.ownsRow base e size (.slice A1 (k+m) c1) (k+m) (xs++news)->w.grownBy w' v.ownBlock->((Value.slice A1 (k+m) c1).ownBlock=v.ownBlock\/(Value.slice A1 (k+m) c1).ownBlock=some w.heap.size)->wpListIn F n P ops Q rest (a.put o.dst (.slice A1 (k+m) c1)) w'):wpListIn F n P ops Q (o::rest) a w :=
 wpListIn_plain j0 fun K hK=>by
  subst hm;obtain⟨A1,c1,w',p0,h2,h3,h4⟩:=ZBo (P:=P) E w o.type q0 (c:=c) hr hl h1 g0 h0;unfold Oper.wpIn;refine⟨by simp[Oper.about,ho,resolve,Target.leads,Sem.run_pure],?_⟩;rw[Oper.semAt_plain F _ _ (by rw[ho];intro c k0;cases k0)];unfold execOp;simp only[ho,resolve,invoke,builtin,Sem.run_bind,Sem.run_pure,Result.andThen_ok,List.map_toArray,List.map_cons,List.map_nil,hs,hx,p0];exact hK _ _ (h A1 c1 w' h2 h3 h4)
theorem Z3 {ops:Array Oper} {rest:List Oper} {o:Oper} {a:Act} {Q:Exit->Act->World->Prop} {w:World} {t e bytes:Nat} (E:Elem P t e 1 bytes)
 {base:Nat} {A B:Option Addr} {k c m m' c':Nat} {xs news:List Value} (hb:Buf w base e A k c xs) (hr:Cells w B news) (s x:Operand)
 (ho:o.op = .call { callee:= .builtin .append,args:=#[s,x],argTypes:=#[t,t] }) (j0:o.guard=none)
 (hs:a.eval s = .slice A k c) (hx:a.eval x = .slice B m' c') (hm:m'=m) (hl:news.length=m) (h1:∀u∈news,u.oneCell'=true) (g0:k+m<=4294967296) (h0:base<=w.heap.size)
 (h:∀A1 c1 w',Buf w' base e A1 (k+m) c1 (xs++news)->w.grownBy w' (Value.slice A k c).ownBlock->(∀w0,Ext w0 w->w0.heap.size<=base->Ext w0 w')->(A1=A\/A1=some ⟨w.heap.size,0,none⟩)->wpListIn F n P ops Q rest (a.put o.dst (.slice A1 (k+m) c1)) w'):wpListIn F n P ops Q (o::rest) a w :=
 wpListIn_plain j0 fun K hK=>by
  subst hm;obtain⟨A1,c1,w',q0,h2,h3,h4⟩:=ZFJ (P:=P) E w o.type hb (c':=c') hr hl h1 g0 h0;unfold Oper.wpIn;refine⟨by simp[Oper.about,ho,resolve,Target.leads,Sem.run_pure],?_⟩;rw[Oper.semAt_plain F _ _ (by rw[ho];intro c k0;cases k0)];unfold execOp;simp only[ho,resolve,invoke,builtin,Sem.run_bind,Sem.run_pure,Result.andThen_ok,List.map_toArray,List.map_cons,List.map_nil,hs,hx,q0];refine hK _ _ (h A1 c1 w' h2 h3 (fun w0 hE hw=>hE.grown h3 fun k hk=>?_) h4);have p0:=hb.base_le;cases A with
  | none=>simp[Value.ownBlock]at hk
  | some b =>
   have:=p0 b rfl;simp[Value.ownBlock]at hk;omega
end
theorem Zt {P:Program} {l n f:Nat} {args:Array Value} {w:World} {R:Ending->World->Prop} (h:Calls P f args w R):CallsIn (Fence.wide.inRound l) n P f args w R:=CallsIn.inRound l (callsIn_wide.2 h)
theorem ZDJ {P:Program} {fn:Func} {R:Ending->World->Prop} {a:Act} {w:World} {v:Value} (hd:a.defers = []) (hr:(results fn a.tmps).run P w = .ok v w) (h:R (.returned v) w):bodyPostM Fence.wide 0 P fn R .ret a w:=by
 show LeavesInM _ _ _ _ _ _ a.defers _ _;rw[hd];exact⟨v,hr,h⟩
theorem ZAO {P:Program} {fn:Func} {R:Ending->World->Prop} {a:Act} {w:World} {B D:Nat} (hd:a.defers = [{ target:= .collected D,args:=#[] }]) (hk:w.heap[D]? = some (.deferred (some []))) (hB:B<=D)
 (h:∀W,Alike B w W->∃v,(results fn a.tmps).run P W = .ok v W/\R (.returned v) W):bodyPostM Fence.wide 0 P fn R .ret a w:=by
 show LeavesInM _ _ _ _ _ _ a.defers _ _;rw[hd];exact⟨by simp,.inl ⟨D,_,rfl,run_takeDeferred hk,h _ (Alike.others hk rfl hB _)⟩⟩
theorem ZAF {w w':World} {base:Nat} {e:TypeId} {A:Option Addr} {k c:Nat} {xs:List Value} (hb:Buf w base e A k c xs) (hg:w.grownBy w' (Value.slice A k c).ownBlock):KeepsOthers w w' :=
 KeepsOthers.of_grownBy hg fun j o hj ho=>by
  rcases hb.2.2 with ⟨h0,_⟩ | ⟨g',cur,q0,_,hr,_⟩
  ·subst h0;simp[Value.ownBlock]at hj
  ·subst q0;simp[Value.ownBlock]at hj;subst hj;unfold Row at hr;rw[hr]at ho;injection ho with ho;subst ho;rfl
theorem Ext.others {w w':World} (h:Ext w w'):KeepsOthers w w':=⟨h.size,fun _ _ hk _=>h.block hk⟩
end
section
open Go.RowKit
attribute [local go_sem] Oper.semAt_some Za ZAw
def KpT (B:Nat) (W W':World):Prop:=(∀w0:World,w0.heap.size<=B->Ext w0 W->Ext w0 W')/\∀g t cs,t≠148->t≠150->Row W g t cs->Row W' g t cs
theorem KpT.trans (B:Nat) (A C D:World) (h:KpT B A C) (k:KpT B C D):KpT B A D:=⟨fun w0 h0 he=>k.1 w0 h0 (h.1 w0 h0 he),fun g t cs h1 h2 hr=>k.2 g t cs h1 h2 (h.2 g t cs h1 h2 hr)⟩
theorem KpT.alike {B X:Nat} (hX:B<=X) (A C:World) (h:Alike X A C):KpT B A C:=⟨fun _ hs he=>h.ext he (by omega),fun _ _ _ _ _ hr=>h.row hr⟩
theorem KpT.ext {B:Nat} {A C:World} (h:Ext A C):KpT B A C:=⟨fun _ _ he=>he.trans h,fun _ _ _ _ _ hr=>hr.ext h⟩
def fdV (f:Fd):Value:= .agg #[.string ⟨f.1.toArray⟩,.string ⟨f.2.toArray⟩]
def BsIter (fs:List Fd) (B b0:Nat) (w:World):Prop :=
 Iter Tryz.prog 175 #[.pointer (some ⟨b0,0,none⟩)] (fun x:Nat×Fd=>#[.int .i64 (x.1:Int),fdV x.2]) Ext (fun pre x _=>fs[pre.length]? = some x.2/\x.1=baseT 0 (fs.take pre.length)) (KpT B) (fun xs A C=>xs.length=fs.length/\Ext A C) w
theorem ZLW (at_:Int) (A:Option Addr) (n c:Nat) (w:World) :
 Calls Tryz.prog 134 #[.agg #[.int .i64 at_,.slice A n c]] w fun e w'=>∃b0,e = .returned (.func (.func 175) #[] #[.pointer (some ⟨b0,0,none⟩)])/\Row w' b0 37 #[.int .i64 at_,.slice A n c]/\w.heap.size<=b0/\Ext w w':=by
 go_enter Tryz.func134,Tryz.ntmps134;go_wp2_with fail;go_ret;exact⟨w.heap.size,rfl,Row.new w _ _,Nat.le_refl _,(Ext.refl w).alloc _⟩
theorem ZIw (at_:Int) (fs:List Fd) (A:Option Addr) (n c b0 B:Nat) (w0 w:World) (hn:n=fs.length) (hc:Cells w0 A (fcells fs)) (hB:w0.heap.size<=B) (hw:Ext w0 w) (g1:n<=1000) (a0:∀f∈fs,f.2.length<=1000000)
 (m0:Row w b0 37 #[.int .i64 at_,.slice A n c]):BsIter fs B b0 w:=by
 intro l J W hE y0 hY h0;have s0:=ZA (fun l W h=>ZEv l W h);replace m0:=ZA (m0.ext hE);replace hw:=ZA (hw.trans hE);clear hE;replace hY:=ZA hY;replace y0:=ZA y0;replace h0:=ZA h0;replace hn:=ZA hn;replace hc:=ZA hc;replace a0:=ZA a0;refine(callsIn_wide (n:=0)).1 ?_;refine callsIn_of_wp Tryz.func175 rfl trivial ?_;simp only[Tryz.ntmps175,List.size_toArray,List.length_cons,List.length_nil,Nat.reduceAdd,Nat.reduceSub,Array.replicate_succ,Array.replicate_zero,List.push_toArray,List.append_toArray,List.nil_append,List.cons_append];have k0:=m0.out.cell 0 rfl;have k1:=m0.out.cell 1 rfl;gi_wp2_with fail
 gi_loopw [3,9] (fun s3 s9 wr=>∃(i bs:Nat) (pre:List (Nat×Fd)),s3 = .int .i64 (bs:Int)/\s9 = .int .i64 (i:Int)/\i<=n/\bs<=i*1000100/\Hid (pre.length=i)/\Hid (bs=baseT 0 (fs.take i))/\Hid (J pre wr)/\Hid (Ext w0 wr)) (fun _ s9 _=>n - (intOf s9).toNat)
 case atStart=>exact⟨0,0,[],rfl,rfl,by omega,by omega,ZA rfl,ZA rfl,h0,hw⟩
 case round =>
  obtain⟨i,bs,pre,rfl,rfl,hi,j1,u0,e0,hJ,hE⟩:=hrel;by_cases r0:i<n
  ·obtain⟨f,hf⟩:∃f,fs[i]? = some f:=⟨_,List.getElem?_eq_getElem (by rw[<-hn.out];exact r0)⟩
   obtain⟨g,o,hA,x0,x1⟩:=Zu (hc.out.ext hE.out) hf;subst hA;have o0:=a0.out f (List.mem_of_getElem? hf);obtain⟨W2,q0⟩:∃W2,W2=wr.alloc (.cells #[.string ⟨f.1.toArray⟩,.string ⟨f.2.toArray⟩] 105):=⟨_,rfl⟩
   have g0:Ext wr W2:=by rw[q0];exact(Ext.refl wr).alloc _
   have r2:Row W2 wr.heap.size 105 #[.string ⟨f.1.toArray⟩,.string ⟨f.2.toArray⟩]:=by rw[q0];exact Row.new wr _ _
   obtain⟨gd,t0⟩:∃gd,gd=wr.heap.size:=⟨_,rfl⟩
   rw[<-t0]at r2;have p0:=r2.cell 0 rfl;have p1:=r2.cell 1 rfl;have h1:=hY.out pre (bs,f) W2 (y0.out _ _ _ hJ.out g0) ⟨by rw[u0.out];exact hf,by rw[u0.out];exact e0.out⟩;obtain⟨fn,tmps,assign,body,hy,d0⟩:=h1;simp only[fdV]at hy d0;have i0:=ZA4 f.2;have j0:baseT 0 (fs.take (i+1))=bs+(64+(tokL f.2).length):=by
    rw[List.take_add_one,hf,ZDr,<-e0.out];rfl
   obtain⟨nm,tx⟩:=f;simp only at x0 x1 o0 q0 r2 p0 p1 hy i0 j0;unfold strV at x0 x1;obtain⟨nt,v0⟩:∃nt,nt=(tokL tx).length:=⟨_,rfl⟩
   rw[<-v0]at i0 j0;rw[q0]at hy;replace hf:=ZA hf;replace q0:=ZA q0;replace t0:=ZA t0;replace r2:=ZA r2;replace g0:=ZA (hE.out.trans g0);replace v0:=ZA v0;replace j0:=ZA j0;clear hY;gi_wp2_with fail;rw[<-q0.out,<-t0.out];refine d0.mono ?_;rintro e W3 ⟨rfl,z0,f0⟩;have r3:=f0.2 _ _ _ (by decide) (by decide) r2.out;have q1:=r3.cell 1 rfl;have l0:=ZA (f0.1 w0 hB g0.out);have n0:=ZA (s0.out tx W3 (by omega));replace z0:=ZA z0;gi_wp2_with fail;refine(callsIn_wide.2 n0.out).mono ?_;rintro e w4 hT;obtain⟨A4,c4,rfl,_,c0⟩:=hT;rw[<-v0.out];gi_wp2_with fail;exact⟨⟨i+1,bs+(64+nt),pre ++ [(bs,(nm,tx))],by first | rfl | (congr 1;omega),by go_num,by omega,by omega,ZA (by rw[List.length_append,u0.out];rfl),ZA j0.out.symm,ZA (y0.out _ _ _ z0.out c0),ZA (l0.out.trans c0)⟩,by simp only[intOf];omega⟩
  ·gi_wp2_with fail
   go_end0
   exact⟨⟨_,rfl⟩,pre,_,hJ.out,by rw[u0.out,<-hn.out];omega,Ext.refl _⟩
end
section
open Go.RowKit
section
variable {β:Type}
def Srt (l:List (List UInt8×β)):Prop:=l.Pairwise fun x y=>¬ y.1<x.1
structure Stb (l m:List (List UInt8×β)):Prop where
  perm:m.Perm l
  vals:∀s,valsOf m s=valsOf l s
theorem Stb.refl (l:List (List UInt8×β)):Stb l l:=⟨List.Perm.refl _,fun _=>rfl⟩
variable {l m k A B A1 A2 B1 B2 M1 M2:List (List UInt8×β)}
theorem Stb.trans (h:Stb l m) (h2:Stb m k):Stb l k:=⟨h2.perm.trans h.perm,fun s=>(h2.vals s).trans (h.vals s)⟩
theorem Stb.app (h:Stb A M1) (h2:Stb B M2):Stb (A++B) (M1++M2):=⟨h.perm.append h2.perm,fun s=>by rw[ZW,ZW,h.vals,h2.vals]⟩
theorem Stb.mem (h:Stb l m) {x:List UInt8×β} (hx:x∈m):x∈l:=h.perm.mem_iff.1 hx
theorem Stb.len (h:Stb l m):m.length=l.length:=h.perm.length_eq
theorem ZBG {l:List (List UInt8×β)} {s:List UInt8} (h:∀x∈l,¬ x.1=s):valsOf l s = []:=by
 unfold valsOf;rw[List.filter_eq_nil_iff.2 fun x hx=>by simpa using h x hx];rfl
theorem Stb.swap (h:∀x∈A,∀y∈B,¬ x.1=y.1):Stb (A++B) (B++A):=by
 refine⟨List.perm_append_comm,fun s=>?_⟩;rw[ZW,ZW];by_cases hA:∃x∈A,x.1=s
 ·obtain⟨x,hx,rfl⟩:=hA;rw[ZBG fun y hy e=>h x hx y hy e.symm,List.nil_append,List.append_nil]
 ·rw[ZBG fun x hx e=>hA ⟨x,hx,e⟩,List.nil_append,List.append_nil]
theorem ZA8 {a b c:List UInt8} (h:¬ b<a) (k:¬ c<b):¬ c<a:=fun hh=>h (by
 by_cases e:c=b
 ·rw[<-e];exact hh
 ·exact List.lt_trans (ZDP k e) hh)
theorem ZM5 {a b c:List UInt8} (h:a<b) (k:¬ c<b):a<c:=by
 by_cases e:c=b
 ·rw[e];exact h
 ·exact List.lt_trans h (ZDP k e)
theorem ZM8 {a b c:List UInt8} (h:¬ b<a) (k:b<c):a<c:=by
 by_cases e:b=a
 ·rw[<-e];exact k
 ·exact List.lt_trans (ZDP h e) k
theorem ZOC {a b:List UInt8} (h:a<b):¬ b<a:=fun k=>List.lt_irrefl _ (List.lt_trans h k)
theorem Srt.left (h:Srt (A++B)):Srt A:=(List.pairwise_append.1 h).1
theorem Srt.right (h:Srt (A++B)):Srt B:=(List.pairwise_append.1 h).2.1
theorem ZE4 (hA:Srt (A1++A2)) (hB:Srt (B1++B2)) (h1:∀x∈A1,∀y∈B2,¬ y.1<x.1) (h2:∀x∈B1,∀y∈A2,x.1<y.1) (s1:Stb (A1++B1) M1) (r1:Srt M1) (s2:Stb (A2++B2) M2) (r2:Srt M2) :
 Srt (M1++M2)/\Stb ((A1++A2)++(B1++B2)) (M1++M2):=by
 constructor
 ·refine List.pairwise_append.2 ⟨r1,r2,fun x hx y hy=>?_⟩;have hx:=List.mem_append.1 (s1.mem hx);have hy:=List.mem_append.1 (s2.mem hy);rcases hx with hx | hx
  ·rcases hy with hy | hy
   ·exact(List.pairwise_append.1 hA).2.2 x hx y hy
   ·exact h1 x hx y hy
  ·rcases hy with hy | hy
   ·exact ZOC (h2 x hx y hy)
   ·exact(List.pairwise_append.1 hB).2.2 x hx y hy
 ·have hs:Stb (A2++B1) (B1++A2):=Stb.swap fun x hx y hy e=>by
   have:=h2 y hy x hx;rw[e]at this;exact List.lt_irrefl _ this
  have h3:Stb ((A1++A2)++(B1++B2)) ((A1++B1)++(A2++B2)):=by
   have:=((Stb.refl A1).app hs).app (Stb.refl B2);simpa only[List.append_assoc]using this
  exact h3.trans (s1.app s2)
theorem Srt.take_le (h:Srt l) {i:Nat} {z:List UInt8×β} (hz:l[i]? = some z):∀x∈l.take (i+1),¬ z.1<x.1:=by
 intro x hx;obtain⟨j,hj⟩:=List.getElem?_of_mem hx;rw[List.getElem?_take]at hj;split at hj
 ·rename_i k0;obtain⟨hi,h0⟩:=List.getElem?_eq_some_iff.1 hz;obtain⟨p0,q0⟩:=List.getElem?_eq_some_iff.1 hj;by_cases e:j=i
  ·subst e;rw[<-h0,<-q0];exact List.lt_irrefl _
  ·have:=List.pairwise_iff_getElem.1 h j i p0 hi (by omega);rw[q0,h0]at this;exact this
 ·cases hj
theorem Srt.drop_ge (h:Srt l) {i:Nat} {z:List UInt8×β} (hz:l[i]? = some z):∀x∈l.drop i,¬ x.1<z.1:=by
 intro x hx;obtain⟨j,hj⟩:=List.getElem?_of_mem hx;rw[List.getElem?_drop]at hj;obtain⟨hi,h0⟩:=List.getElem?_eq_some_iff.1 hz;obtain⟨p0,q0⟩:=List.getElem?_eq_some_iff.1 hj;by_cases e:j=0
 ·subst e;rw[<-h0,<-q0];exact List.lt_irrefl _
 ·have:=List.pairwise_iff_getElem.1 h i (i+j) hi p0 (by omega);rw[q0,h0]at this;exact this
structure CutP (A B:List (List UInt8×β)) (i j:Nat):Prop where
  ile:i<=A.length
  jle:j<=B.length
  lo:i=0\/j=B.length\/∃x y,A[i - 1]? = some x/\B[j]? = some y/\¬ y.1<x.1
  hi:i=A.length\/j=0\/∃x y,A[i]? = some x/\B[j - 1]? = some y/\y.1<x.1
theorem CutP.le {i j:Nat} (h:CutP A B i j) (hA:Srt A) (hB:Srt B):(∀x∈A.take i,∀y∈B.drop j,¬ y.1<x.1)/\(∀x∈B.take j,∀y∈A.drop i,x.1<y.1):=by
 constructor
 ·intro x hx y hy;rcases h.lo with e | e | ⟨u,v,hu,hv,h0⟩
  ·rw[e]at hx;cases hx
  ·rw[e,List.drop_length]at hy;cases hy
  ·by_cases e:i=0
   ·rw[e]at hx;cases hx
   ·have h1:=hA.take_le hu x (by rw[show i - 1+1=i by omega];exact hx);have h2:=hB.drop_ge hv y hy;exact ZA8 h1 (ZA8 h0 h2)
 ·intro x hx y hy;rcases h.hi with e | e | ⟨u,v,hu,hv,h0⟩
  ·rw[e,List.drop_length]at hy;cases hy
  ·rw[e]at hx;cases hx
  ·by_cases e:j=0
   ·rw[e]at hx;cases hx
   ·have h1:=hB.take_le hv x (by rw[show j - 1+1=j by omega];exact hx);have h2:=hA.drop_ge hu y hy;exact ZM8 h1 (ZM5 h0 h2)
def Mrg (A B M:List (List UInt8×β)):Prop:=Srt M/\Stb (A++B) M
theorem CutP.mrg {i j:Nat} (h:CutP A B i j) (hA:Srt A) (hB:Srt B) (m1:Mrg (A.take i) (B.take j) M1) (m2:Mrg (A.drop i) (B.drop j) M2):Mrg A B (M1++M2):=by
 have p0:=h.le hA hB;have h0:=hA;have q0:=hB;rw[<-List.take_append_drop i A]at h0;rw[<-List.take_append_drop j B]at q0;have:=ZE4 h0 q0 p0.1 p0.2 m1.2 m1.1 m2.2 m2.1;rw[List.take_append_drop,List.take_append_drop]at this;exact this
theorem Mrg.nil_left (hB:Srt B):Mrg [] B B:=⟨hB,Stb.refl _⟩
theorem Mrg.nil_right (hA:Srt A):Mrg A [] A:=⟨hA,by rw[List.append_nil];exact Stb.refl _⟩
theorem ZMm {i:Nat} {x:List UInt8×β} (hB:Srt B) (p0:∀y∈B.take i,y.1<x.1) (q0:∀y∈B.drop i,¬ y.1<x.1):Mrg [x] B (B.take i++x::B.drop i):=by
 have h0:=hB;rw[<-List.take_append_drop i B]at h0;have hs:Srt ([] ++ [x]:List (List UInt8×β)):=List.pairwise_singleton ..;have:=ZE4 (A1:= []) (A2:= [x]) hs h0 (by simp) (fun y hy z hz=>by rw[List.mem_singleton.1 hz];exact p0 y hy) (M1:=B.take i) (by rw[List.nil_append];exact Stb.refl _) h0.left (M2:=x::B.drop i) (Stb.refl _)
  (List.pairwise_cons.2 ⟨fun y hy=>q0 y hy,h0.right⟩)
 rw[List.take_append_drop]at this;exact this
theorem ZGs {i:Nat} {y:List UInt8×β} (hA:Srt A) (p0:∀x∈A.take i,¬ y.1<x.1) (q0:∀x∈A.drop i,y.1<x.1):Mrg A [y] (A.take i++y::A.drop i):=by
 have h0:=hA;rw[<-List.take_append_drop i A]at h0;have hs:Srt ([y] ++ []:List (List UInt8×β)):=List.pairwise_singleton ..;have:=ZE4 (B1:= [y]) (B2:= []) h0 hs (by simp) (fun x hx z hz=>by rw[List.mem_singleton.1 hx];exact q0 z hz) (M1:=A.take i ++ [y]) (Stb.refl _)
  (List.pairwise_append.2 ⟨h0.left,List.pairwise_singleton ..,fun x hx z hz=>by rw[List.mem_singleton.1 hz];exact p0 x hx⟩) (M2:=A.drop i) (by rw[List.append_nil];exact Stb.refl _) h0.right
 rw[List.take_append_drop]at this;unfold Mrg;simpa only[List.append_assoc,List.singleton_append]using this
def Std (l m:List (List UInt8×β)):Prop:=Srt m/\Stb l m
theorem Std.mrg {l l' A B M:List (List UInt8×β)} (h:Std l A) (h2:Std l' B) (hm:Mrg A B M):Std (l++l') M:=⟨hm.1,(h.2.app h2.2).trans hm.2⟩
end
end
section
open Go.RowKit
abbrev TmV:=List UInt8×(Option Addr×Nat×Nat)
def tcell (x:TmV):List Value:= [.string ⟨x.1.toArray⟩,.slice x.2.1 x.2.2.1 x.2.2.2]
def tcs (D:List TmV):List Value:=D.flatMap tcell
theorem ZDj (D:List TmV):(tcs D).length=D.length*2:=Ze (cellsA:=tcell) (k:=2) (fun _=>rfl) D
theorem ZBh {D:List TmV} {i:Nat} {x:TmV} (h:D[i]? = some x) {j:Nat} (hj:j<2):(tcs D)[i*2+j]? = (tcell x)[j]? :=Zj (cellsA:=tcell) (k:=2) (fun _=>rfl) D i x j h hj
def TR (w:World) (g:Nat) (D:List TmV):Prop:=∃cs:Array Value,Row w g 150 cs/\∀(i:Nat) (v:Value),(tcs D)[i]? = some v->cs[i]? = some v
section
variable {w w1:World} {g:Nat} {D:List TmV}
theorem TR.lt (h:TR w g D):g<w.heap.size:=by obtain⟨cs,hr,_⟩:=h;exact hr.lt
theorem TR.free (h:TR w g D) (i:Nat):w.frozen? ⟨g,i,none⟩=false:=by obtain⟨cs,hr,_⟩:=h;exact hr.free i
theorem TR.at_ (h:TR w g D) {i:Nat} {x:TmV} (hx:D[i]? = some x):w.cell? ⟨g,i*2,none⟩=some (.string ⟨x.1.toArray⟩)/\w.cell? ⟨g,i*2+1,none⟩=some (.slice x.2.1 x.2.2.1 x.2.2.2):=by
 obtain⟨cs,hr,hc⟩:=h;exact⟨hr.cell (i*2) (hc _ _ (by have:=ZBh hx (j:=0) (by omega);rw[Nat.add_zero]at this;rw[this];rfl)),hr.cell (i*2+1) (hc _ _ (by rw[ZBh hx (j:=1) (by omega)];rfl))⟩
theorem TR.ext (h:TR w g D) (hE:Ext w w1):TR w1 g D:=by obtain⟨cs,hr,hc⟩:=h;exact⟨cs,hr.ext hE,hc⟩
theorem TR.drew (h:TR w g D):TR w.drew g D:=h.ext (Ext.refl w).drew
theorem ZNR (D:List TmV) (i:Nat) (y:TmV) (hi:i<D.length) (k:Nat):(tcs (D.set i y))[k]? = if k=i*2 then some (.string ⟨y.1.toArray⟩) else if k=i*2+1 then some (.slice y.2.1 y.2.2.1 y.2.2.2) else (tcs D)[k]? :=by
 have hk:k=k / 2*2+k%2:=by omega
 by_cases q0:k / 2<D.length
 ·have hx:D[k / 2]? = some D[k / 2]:=List.getElem?_eq_getElem q0;by_cases he:k / 2=i
  ·have h1:(D.set i y)[k / 2]? = some y:=by rw[List.getElem?_set,if_pos he.symm,if_pos (by omega)]
   rw[hk,ZBh h1 (Nat.mod_lt _ (by omega))];rcases Nat.mod_two_eq_zero_or_one k with h0 | h0
   ·rw[h0,if_pos (by omega)];rfl
   ·rw[h0,if_neg (by omega),if_pos (by omega)];rfl
  ·have h1:(D.set i y)[k / 2]? = some D[k / 2]:=by rw[List.getElem?_set,if_neg (fun e=>he e.symm),hx]
   rw[hk,ZBh h1 (Nat.mod_lt _ (by omega)),ZBh hx (Nat.mod_lt _ (by omega)),if_neg (by omega),if_neg (by omega)]
 ·rw[if_neg (by omega),if_neg (by omega),List.getElem?_eq_none (by rw[ZDj,List.length_set];omega),List.getElem?_eq_none (by rw[ZDj];omega)]
abbrev setT (w:World) (g i:Nat) (y:TmV):World:=(w.setCell ⟨g,i*2,none⟩ (.string ⟨y.1.toArray⟩)).setCell ⟨g,i*2+1,none⟩ (.slice y.2.1 y.2.2.1 y.2.2.2)
theorem TR.put (h:TR w g D) {i:Nat} (hi:i<D.length) (y:TmV):TR (setT w g i y) g (D.set i y):=by
 obtain⟨cs,hr,hc⟩:=h;refine⟨_,(hr.put (i*2) _).put (i*2+1) _,fun k v hv=>?_⟩;have hx:D[i]? = some D[i]:=List.getElem?_eq_getElem hi;have q0:i*2<cs.size:=by
  have h0:=hc (i*2) _ (by have:=ZBh hx (j:=0) (by omega);rw[Nat.add_zero]at this;exact this);exact(Array.getElem?_eq_some_iff.1 h0).1
 have p0:i*2+1<cs.size:=(Array.getElem?_eq_some_iff.1 (hc (i*2+1) _ (ZBh hx (j:=1) (by omega)))).1;rw[ZNR D i y hi]at hv;rw[Array.getElem?_setIfInBounds,Array.getElem?_setIfInBounds];split at hv
 ·rename_i he;subst he;rw[if_neg (by omega),if_pos rfl,if_pos q0];exact hv
 ·split at hv
  ·rename_i k0 he;subst he;rw[if_pos rfl,if_pos (by rw[Array.size_setIfInBounds];exact p0)];exact hv
  ·rename_i h1 h2;rw[if_neg (by omega),if_neg (by omega)];exact hc k v hv
theorem ZAb (w:World) (g i:Nat) (y:TmV):Chg (fun k=>k=g) w (setT w g i y) :=
 (Chg.of_set (S:=fun k=>k=g) w (a:=⟨g,i*2,none⟩) _ rfl).trans (Chg.of_set (S:=fun k=>k=g) _ (a:=⟨g,i*2+1,none⟩) _ rfl) fun _ _ h=>h
end
def SwK (D D':List TmV) (a b k:Nat):Prop:=D'.length=D.length/\∀i,D'[i]? = if a<=i/\i<a+k then D[i - a+b]? else if b<=i/\i<b+k then D[i - b+a]? else D[i]?
theorem SwK.zero (D:List TmV) (a b:Nat):SwK D D a b 0:=⟨rfl,fun i=>by rw[if_neg (by omega),if_neg (by omega)]⟩
theorem SwK.next {D D':List TmV} {a b k n:Nat} {x y:TmV} (h:SwK D D' a b k) (hk:k<n) (hab:a+n<=b) (hx:D'[a+k]? = some x) (hy:D'[b+k]? = some y):SwK D ((D'.set (a+k) y).set (b+k) x) a b (k+1):=by
 obtain⟨hl,hg⟩:=h;refine⟨by rw[List.length_set,List.length_set,hl],fun i=>?_⟩;have ha:=hg (a+k);rw[if_neg (by omega),if_neg (by omega),hx]at ha;have hb:=hg (b+k);rw[if_neg (by omega),if_neg (by omega),hy]at hb;have h0:=(List.getElem?_eq_some_iff.1 hx).1;have q0:=(List.getElem?_eq_some_iff.1 hy).1;rw[List.getElem?_set,List.getElem?_set,List.length_set];by_cases e1:b+k=i
 ·subst e1;rw[if_pos rfl,if_pos q0,if_neg (by omega),if_pos (by omega),show b+k - b+a=a+k by omega];exact ha
 ·rw[if_neg e1];by_cases e2:a+k=i
  ·subst e2;rw[if_pos rfl,if_pos h0,if_pos (by omega),show a+k - a+b=b+k by omega];exact hb
  ·rw[if_neg e2,hg i];by_cases c1:a<=i/\i<a+k
   ·rw[if_pos c1,if_pos (show a<=i/\i<a+(k+1)by omega)]
   ·rw[if_neg c1,if_neg (show ¬ (a<=i/\i<a+(k+1))by omega)];by_cases c2:b<=i/\i<b+k
    ·rw[if_pos c2,if_pos (show b<=i/\i<b+(k+1)by omega)]
    ·rw[if_neg c2,if_neg (show ¬ (b<=i/\i<b+(k+1))by omega)]
theorem ZFk (g c a b n:Nat) (D:List TmV) (f:Value) (w:World) (h:TR w g D) (hab:a+n<=b) (hb:b+n<=D.length) (hD:D.length<=1073741824) :
 Calls Tryz.prog 226 #[.slice (some ⟨g,0,none⟩) D.length c,.int .i64 (a:Int),.int .i64 (b:Int),.int .i64 (n:Int),f] w fun e w'=>e = .returned (.tuple #[])/\∃D',SwK D D' a b n/\TR w' g D'/\Chg (fun k=>k=g) w w':=by
 obtain⟨dl,h0⟩:∃n,n=D.length:=⟨_,rfl⟩
 rw[<-h0]at hb hD ⊢;replace h:=ZA h;replace h0:=ZA h0;go_enter Tryz.func226,Tryz.ntmps226;go_wp2_with fail
 go_loopw [10] (fun s10 wr=>∃(k:Nat) (E:List TmV),s10 = .int .i64 (k:Int)/\k<=n/\Hid (SwK D E a b k/\TR wr g E/\Chg (fun k=>k=g) w wr)) (fun s10 _=>n - (intOf s10).toNat)
 case atStart=>exact⟨0,D,rfl,by omega,ZA ⟨SwK.zero D a b,h.out,Chg.refl _ _⟩⟩
 case round =>
  obtain⟨k,E,rfl,hk,hI⟩:=hrel;by_cases m0:k<n
  ·have hl:=hI.out.1.1;have q0:=h0.out;obtain⟨x,hx⟩:∃x,E[a+k]? = some x:=⟨_,List.getElem?_eq_getElem (by omega)⟩
   obtain⟨y,hy⟩:∃y,E[b+k]? = some y:=⟨_,List.getElem?_eq_getElem (by omega)⟩
   have p0:=hI.out.2.1.at_ hx;have k0:=hI.out.2.1.at_ hy;have x0:=p0.1;have x1:=p0.2;have y0:=k0.1;have y1:=k0.2;have fr:=hI.out.2.1.free;clear hl q0 p0 k0;replace hx:=ZA hx;replace hy:=ZA hy;go_wp2_with fail;refine ZPw (fun K hK=>?_);go_wp2_with fail;refine⟨by kernel_rfl,?_⟩;go_wp2_with fail;have j0:=hx.out;have g0:=hy.out;have hN:=hI.out.1.next m0 hab j0 g0;have h1:=hI.out.2.1.put (i:=a+k) (List.getElem?_eq_some_iff.1 j0).1 y;have h2:=h1.put (i:=b+k) (by rw[List.length_set];exact(List.getElem?_eq_some_iff.1 g0).1) x;have hc:=(hI.out.2.2.trans (ZAb wr g (a+k) y) fun _ _ h=>h).trans (ZAb _ g (b+k) x) fun _ _ h=>h;go_roundw
   case rel=>exact⟨k+1,_,by go_num,by omega,ZA ⟨hN,h2.drew,hc.trans (Chg.of_ext (Ext.refl _).drew _) fun _ _ h=>h⟩⟩
   case measure=>simp[intOf];omega
  ·go_wp2_with fail
   go_end0
   obtain rfl:k=n:=by omega
   exact⟨rfl,E,hI.out⟩
end
section
open Go.RowKit
theorem ZKl {E E' P X Y Z Q:List TmV} {a b n:Nat} (h:SwK E E' a b n) (hE:E=P++(X++(Y++(Z++Q)))) (hX:X.length=n) (hZ:Z.length=n) (ha:a=P.length) (hb:b=P.length+X.length+Y.length):E'=P++(Z++(Y++(X++Q))):=by
 refine List.ext_getElem? fun i=>?_;rw[h.2 i,hE];simp only[List.getElem?_append];subst ha hb;by_cases h1:i<P.length
 ·rw[if_neg (show ¬ (P.length<=i/\i<P.length+n)by omega),if_neg (show ¬ (P.length+X.length+Y.length<=i/\i<P.length+X.length+Y.length+n)by omega)];simp only[if_pos h1]
 ·by_cases h2:i - P.length<n
  ·rw[if_pos (show P.length<=i/\i<P.length+n by omega)];simp only[if_neg h1,hX,hZ,if_pos h2];rw[if_neg (by omega),if_neg (by omega),if_neg (by omega),if_pos (by omega)];congr 1;omega
  ·rw[if_neg (show ¬ (P.length<=i/\i<P.length+n)by omega)];by_cases h3:i - P.length - n<Y.length
   ·rw[if_neg (show ¬ (P.length+X.length+Y.length<=i/\i<P.length+X.length+Y.length+n)by omega)];simp only[if_neg h1,hX,hZ,if_neg h2,if_pos h3]
   ·by_cases h4:i - P.length - n - Y.length<n
    ·rw[if_pos (show P.length+X.length+Y.length<=i/\i<P.length+X.length+Y.length+n by omega)];simp only[if_neg h1,hX,hZ,if_neg h2,if_neg h3,if_pos h4];rw[if_neg (by omega),if_pos (by omega)];congr 1;omega
    ·rw[if_neg (show ¬ (P.length+X.length+Y.length<=i/\i<P.length+X.length+Y.length+n)by omega)];simp only[if_neg h1,hX,hZ,if_neg h2,if_neg h3,if_neg h4]
structure RotI (T E:List TmV) (m i j:Nat):Prop where
  ex:∃P U V Q:List TmV,E=P++(U++(V++Q))/\P.length+i=m/\U.length=i/\V.length=j/\T=P++(V++(U++Q))
  i0:0<i
  j0:0<j
theorem RotI.len {T E:List TmV} {m i j:Nat} (h:RotI T E m i j):i<=m/\m+j<=E.length/\E.length=T.length:=by
 obtain⟨P,U,V,Q,hE,hP,hU,hV,hT⟩:=h.ex;rw[hE,hT];simp only[List.length_append];omega
theorem RotI.left {T E E':List TmV} {m i j:Nat} (h:RotI T E m i j) (q0:j<i) (hs:SwK E E' (m - i) m j):RotI T E' m (i - j) j:=by
 obtain⟨P,U,V,Q,hE,hP,hU,hV,hT⟩:=h.ex;have h0:=ZKl (P:=P) (X:=U.take j) (Y:=U.drop j) (Z:=V) (Q:=Q) hs (by rw[hE,<-List.append_assoc (U.take j),List.take_append_drop]) (by rw[List.length_take];omega) hV (by omega) (by rw[List.length_take,List.length_drop];omega);refine⟨⟨P++V,U.drop j,U.take j,Q,?_,?_,?_,?_,?_⟩,by omega,h.j0⟩
 ·rw[h0];simp only[List.append_assoc]
 ·rw[List.length_append];omega
 ·rw[List.length_drop];omega
 ·rw[List.length_take];omega
 ·rw[hT,List.append_assoc,<-List.append_assoc (U.take j),List.take_append_drop]
theorem RotI.right {T E E':List TmV} {m i j:Nat} (h:RotI T E m i j) (q0:i<j) (hs:SwK E E' (m - i) (m+j - i) i):RotI T E' m i (j - i):=by
 obtain⟨P,U,V,Q,hE,hP,hU,hV,hT⟩:=h.ex;have h0:=ZKl (P:=P) (X:=U) (Y:=V.take (j - i)) (Z:=V.drop (j - i)) (Q:=Q) hs (by rw[hE,<-List.append_assoc (V.take (j - i)),List.take_append_drop]) hU (by rw[List.length_drop];omega) (by omega) (by rw[List.length_take];omega);refine⟨⟨P,V.drop (j - i),V.take (j - i),U++Q,?_,hP,?_,?_,?_⟩,h.i0,by omega⟩
 ·rw[h0]
 ·rw[List.length_drop];omega
 ·rw[List.length_take];omega
 ·rw[hT,<-List.append_assoc (V.take (j - i)),List.take_append_drop]
theorem RotI.last {T E E':List TmV} {m i:Nat} (h:RotI T E m i i) (hs:SwK E E' (m - i) m i):E'=T:=by
 obtain⟨P,U,V,Q,hE,hP,hU,hV,hT⟩:=h.ex;have h0:=ZKl (P:=P) (X:=U) (Y:= []) (Z:=V) (Q:=Q) hs (by rw[hE];rfl) hU hV (by omega) (by simp;omega);rw[h0,hT];rfl
theorem ZJf (g c a m b:Nat) (D T:List TmV) (f:Value) (w:World) (h:TR w g D) (hR:RotI T D m (m - a) (b - m)) (y0:a<m) (c0:m<b) (hD:D.length<=1073741824) :
 Calls Tryz.prog 218 #[.slice (some ⟨g,0,none⟩) D.length c,.int .i64 (a:Int),.int .i64 (m:Int),.int .i64 (b:Int),f] w fun e w'=>e = .returned (.tuple #[])/\TR w' g T/\Chg (fun k=>k=g) w w':=by
 have hlen:=hR.len;obtain⟨dl,t0⟩:∃n,n=D.length:=⟨_,rfl⟩
 rw[<-t0]at hD hlen ⊢;have g0:∀(a b n:Nat) (E:List TmV) (x:World),TR x g E->E.length=dl->a+n<=b->b+n<=dl->Calls Tryz.prog 226 #[.slice (some ⟨g,0,none⟩) dl c,.int .i64 (a:Int),.int .i64 (b:Int),.int .i64 (n:Int),f] x fun e w'=>e = .returned (.tuple #[])/\∃D',SwK E D' a b n/\TR w' g D'/\Chg (fun k=>k=g) x w':=fun a b n E x hx hE hab hb=>by
  have:=ZFk g c a b n E f x hx hab (by omega) (by omega);rw[hE]at this;exact this
 have hT:T.length=dl:=hlen.2.2.symm;have d0:m<=1073741824:=by omega
 have z0:b<=1073741824:=by omega
 have m0:((b:Int) - (m:Int))=((b - m:Nat):Int):=by omega
 have v0:((m:Int) - (a:Int))=((m - a:Nat):Int):=by omega
 replace h:=ZA h;replace hR:=ZA hR;replace g0:=ZA g0;replace t0:=ZA t0;replace hlen:=ZA hlen;replace hT:=ZA hT;replace m0:=ZA m0;replace v0:=ZA v0;go_enter Tryz.func218,Tryz.ntmps218;go_wp2_with fail;rw[v0.out,m0.out]
 go_loopw [10,11] (fun s10 s11 wr=>∃(i j:Nat) (E:List TmV),s10 = .int .i64 (i:Int)/\s11 = .int .i64 (j:Int)/\i<=1073741824/\j<=1073741824/\Hid (RotI T E m i j/\TR wr g E/\Chg (fun k=>k=g) w wr)) (fun s10 s11 _=>(intOf s10).toNat+(intOf s11).toNat)
 case atStart=>exact⟨m - a,b - m,D,rfl,rfl,by omega,by omega,ZA ⟨hR.out,h.out,Chg.refl _ _⟩⟩
 case round =>
  obtain⟨i,j,E,rfl,rfl,hi,hj,hI⟩:=hrel;have hl:=hI.out.1.len;have a0:=hI.out.1.i0;have b0:=hI.out.1.j0;have q0:E.length=dl:=by have:=hT.out;omega
  have p0:((m:Int) - (i:Int))=((m - i:Nat):Int):=by omega
  have k0:((m:Int)+(j:Int) - (i:Int))=((m+j - i:Nat):Int):=by omega
  by_cases u0:i=j
  ·subst u0;have hs:=ZA (g0.out (m - i) m i E wr hI.out.2.1 q0 (by omega) (by omega));replace p0:=ZA p0;replace k0:=ZA k0;replace q0:=ZA q0;go_wp2_with fail;rw[p0.out];refine hs.out.mono ?_;rintro e w1 ⟨rfl,E',hk,hr,hc⟩;obtain rfl:=hI.out.1.last hk;go_wp2_with fail
   go_end0
   exact⟨rfl,hr,hI.out.2.2.trans hc fun _ _ h=>h⟩
  ·have e0:¬ (i:Int)=(j:Int):=by omega
   by_cases x0:j<i
   ·have hs:=ZA (g0.out (m - i) m j E wr hI.out.2.1 q0 (by omega) (by omega));have h0:((i:Int) - (j:Int))=((i - j:Nat):Int):=by omega
    replace p0:=ZA p0;replace k0:=ZA k0;replace q0:=ZA q0;replace h0:=ZA h0;go_wp2_with fail;rw[p0.out];refine hs.out.mono ?_;rintro e w1 ⟨rfl,E',hk,hr,hc⟩;have hN:=hI.out.1.left x0 hk;replace hk:=ZA hk;go_wp2_with fail;go_roundw
    case rel=>exact⟨i - j,j,E',by rw[h0.out],rfl,by omega,hj,ZA ⟨hN,hr,hI.out.2.2.trans hc fun _ _ h=>h⟩⟩
    case measure=>simp[intOf];omega
   ·have hs:=ZA (g0.out (m - i) (m+j - i) i E wr hI.out.2.1 q0 (by omega) (by omega));have h0:((j:Int) - (i:Int))=((j - i:Nat):Int):=by omega
    replace p0:=ZA p0;replace k0:=ZA k0;replace q0:=ZA q0;replace h0:=ZA h0;go_wp2_with fail;rw[p0.out,k0.out];refine hs.out.mono ?_;rintro e w1 ⟨rfl,E',hk,hr,hc⟩;have hN:=hI.out.1.right (by omega) hk;replace hk:=ZA hk;go_wp2_with fail;go_roundw
    case rel=>exact⟨i,j - i,E',rfl,by rw[h0.out],hi,by omega,ZA ⟨hN,hr,hI.out.2.2.trans hc fun _ _ h=>h⟩⟩
    case measure=>simp[intOf];omega
theorem ZLA:∀(a b:List UInt8),(Lib.compareBytes a b<0↔a<b) /\ -1<=Lib.compareBytes a b/\Lib.compareBytes a b<=1
 | [],[]=>⟨by simp[Lib.compareBytes],by simp[Lib.compareBytes],by simp[Lib.compareBytes]⟩
 | [],_::_=>⟨by simp[Lib.compareBytes],by simp[Lib.compareBytes],by simp[Lib.compareBytes]⟩
 | _::_,[]=>⟨by simp[Lib.compareBytes],by simp[Lib.compareBytes],by simp[Lib.compareBytes]⟩
 | x::xs,y::ys=>by
  have ih:=ZLA xs ys;rw[Lib.compareBytes,List.cons_lt_cons_iff];by_cases h1:x<y
  ·rw[if_pos h1];exact⟨⟨fun _=> .inl h1,fun _=>by decide⟩,by decide,by decide⟩
  ·rw[if_neg h1];by_cases h2:y<x
   ·rw[if_pos h2];refine⟨⟨fun h=>absurd h (by decide),fun h=>?_⟩,by decide,by decide⟩;rcases h with h | ⟨h,_⟩
    ·exact absurd h h1
    ·rw[h]at h2;exact absurd h2 (UInt8.lt_irrefl _)
   ·rw[if_neg h2];have he:x=y:=UInt8.le_antisymm (UInt8.not_lt.1 h2) (UInt8.not_lt.1 h1);refine⟨⟨fun h=> .inr ⟨he,ih.1.1 h⟩,fun h=>?_⟩,ih.2⟩;rcases h with h | ⟨_,h⟩
    ·exact absurd h h1
    ·exact ih.1.2 h
def tagg (x:TmV):Value:= .agg #[.string ⟨x.1.toArray⟩,.slice x.2.1 x.2.2.1 x.2.2.2]
def cmpV:Value:= .func (.func 137) #[] #[]
def CmpP (x y:TmV) (w:World) (e:Ending) (w':World):Prop:=∃z:Int,e = .returned (.int .i64 z)/\(z<0↔x.1<y.1) /\ -1<=z/\z<=1/\Ext w w'
theorem ZCw (x y:TmV) (w:World):Calls Tryz.prog 137 #[tagg x,tagg y] w (CmpP x y w):=by
 have h0:=ZA (fun W=>Tryz.strings_Compare ⟨x.1.toArray⟩ ⟨y.1.toArray⟩ W);unfold tagg;go_enter Tryz.func137,Tryz.ntmps137;go_wp2_with fail;refine(h0.out _).mono ?_;rintro e w1 ⟨rfl,rfl⟩;go_wp2_with fail;go_ret;have h:=ZLA x.1 y.1;exact⟨_,rfl,h.1,h.2.1,h.2.2,((Ext.refl w).alloc _).alloc _⟩
structure InsI (D E P X Q:List TmV) (i:Nat):Prop where
  hi:P.length<=i/\i<=P.length+X.length
  ex:∃S,E=P++(S++(X.drop (i - P.length)++Q))/\Std (X.take (i - P.length)) S
structure InsJ (E P S R:List TmV) (z:TmV) (k:Nat):Prop where
  hk:k<=S.length
  eq:E=P++(S.take k++z::(S.drop k++R))
  gt:∀y∈S.drop k,z.1<y.1
theorem InsJ.len {E P S R:List TmV} {z:TmV} {k:Nat} (h:InsJ E P S R z k):E.length=P.length+S.length+1+R.length:=by
 rw[h.eq];simp only[List.length_append,List.length_cons,List.length_take,List.length_drop];have:=h.hk;omega
theorem InsJ.here {E P S R:List TmV} {z:TmV} {k:Nat} (h:InsJ E P S R z k):E[P.length+k]? = some z:=by
 have:=h.hk;rw[h.eq,List.getElem?_append_right (by omega),List.getElem?_append_right (by rw[List.length_take];omega),List.length_take,show P.length+k - P.length - min k S.length=0 by omega];rfl
theorem InsJ.ahead {E P S R:List TmV} {z:TmV} {k:Nat} (h:InsJ E P S R z (k+1)):∃y,E[P.length+k]? = some y/\S[k]? = some y:=by
 have:=h.hk;obtain⟨y,hy⟩:∃y,S[k]? = some y:=⟨_,List.getElem?_eq_getElem (by omega)⟩
 refine⟨y,?_,hy⟩;rw[h.eq,List.getElem?_append_right (by omega),List.getElem?_append_left (by rw[List.length_take];omega),show P.length+k - P.length=k by omega,List.getElem?_take,if_pos (by omega)];exact hy
theorem ZFK {α:Type} (y z:α) (B:List α):∀A:List α,((A++y::z::B).set (A.length+1) y).set A.length z=A++z::y::B
 | []=>rfl
 | a::A=>by simp[ZFK y z B A]
theorem InsJ.next {E P S R:List TmV} {z y:TmV} {k:Nat} (h:InsJ E P S R z (k+1)) (hy:S[k]? = some y) (h0:z.1<y.1):InsJ ((E.set (P.length+(k+1)) y).set (P.length+k) z) P S R z k:=by
 have hk:=h.hk;have hd:S.drop k=y::S.drop (k+1):=by
  obtain⟨hl,he⟩:=List.getElem?_eq_some_iff.1 hy;rw[List.drop_eq_getElem_cons hl,he]
 have ht:S.take (k+1)=S.take k ++ [y]:=by rw[List.take_succ_eq_append_getElem (by omega)];congr 2;exact(List.getElem?_eq_some_iff.1 hy).2
 refine⟨by omega,?_,?_⟩
 ·have hl:(P++S.take k).length=P.length+k:=by rw[List.length_append,List.length_take];omega
  have:=ZFK y z (S.drop (k+1)++R) (P++S.take k);rw[hl]at this;rw[h.eq,ht,hd,show P++(S.take k ++ [y]++z::(S.drop (k+1)++R))=(P++S.take k)++y::z::(S.drop (k+1)++R)by simp,<-Nat.add_assoc,this];simp
 ·rw[hd];intro x hx;rcases List.mem_cons.1 hx with rfl | hx
  ·exact h0
  ·exact h.gt x hx
theorem InsJ.start {D E P X Q S:List TmV} {i:Nat} {z:TmV} (hE:E=P++(S++(X.drop (i - P.length)++Q))) (hS:Std (X.take (i - P.length)) S) (hz:X[i - P.length]? = some z):InsJ E P S (X.drop (i - P.length+1)++Q) z S.length:=by
 obtain⟨hl,he⟩:=List.getElem?_eq_some_iff.1 hz;refine⟨Nat.le_refl _,?_,by rw[List.drop_length];nofun⟩;rw[hE,List.take_length,List.drop_length,List.nil_append,List.drop_eq_getElem_cons hl,he];rfl
theorem InsJ.done {D E P X Q S:List TmV} {i k:Nat} {z:TmV} (h:InsJ E P S (X.drop (i - P.length+1)++Q) z k) (hS:Std (X.take (i - P.length)) S) (hz:X[i - P.length]? = some z) (p0:P.length<=i) (h0:k=0\/∃y,S[k - 1]? = some y/\¬ z.1<y.1):InsI D E P X Q (i+1):=by
 obtain⟨hl,he⟩:=List.getElem?_eq_some_iff.1 hz;refine⟨⟨by omega,by omega⟩,S.take k++z::S.drop k,?_,?_⟩
 ·rw[h.eq,show i+1 - P.length=i - P.length+1 by omega];simp only[List.append_assoc,List.cons_append]
 ·rw[show i+1 - P.length=i - P.length+1 by omega,List.take_succ_eq_append_getElem hl,he];have h1:Std [z] [z]:=⟨List.pairwise_singleton ..,Stb.refl _⟩
  refine hS.mrg h1 (ZGs hS.1 (fun x hx=>?_) h.gt);rcases h0 with rfl | ⟨y,hy,q0⟩
  ·cases hx
  ·by_cases e:k=0
   ·rw[e]at hx;cases hx
   ·exact ZA8 (hS.1.take_le hy x (by rw[show k - 1+1=k by omega];exact hx)) q0
end
end Go.Proofs.YtkdcnhnaiknaaaaGreat
