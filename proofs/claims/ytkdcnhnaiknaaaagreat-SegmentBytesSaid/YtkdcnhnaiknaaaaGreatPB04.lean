/- Texts of one proof, joined. -/
import Derived.Test.YtkdcnhnaiknaaaaGreatPB03
import Derived.Laws.DeepNot64
import Derived.Test.YtkdcnhnaiknaaaaGreatPB01
import Derived.Lib.AppendStr
import Derived.Test.YtkdcnhnaiknaaaaGreatPB02
import Derived.Laws.StructEq
import Derived.Deep.QuietTactic
import Derived.BigQuiet
import Derived.Deep.RegionHeld3
import Derived.Deep.CutRange
import Derived.Deep.DeepCutAuto
import Derived.RangeFuncNested
import Derived.RangeFuncBound
import Derived.RangeFuncCalls
import Derived.RangeFuncLeaves
import Derived.WalkKit
import Derived.OwnWalkIn
import Derived.TacticsInMore
import Derived.LoopNIn
import Derived.LoopIn
import Derived.Shelf.Abstract
set_option linter.unusedSimpArgs false
set_option linter.unusedVariables false
set_option maxRecDepth 100000
set_option maxHeartbeats 16000000
namespace Go.Proofs.YtkdcnhnaiknaaaaGreat
section
open Go.RowKit
def be4 (s:Nat):List UInt8:= [UInt8.ofNat (s / 16777216%256),UInt8.ofNat (s / 65536%256),UInt8.ofNat (s / 256%256),UInt8.ofNat (s%256)]
def be (l:List UInt8):Nat:=l.foldl (fun s x=>s*256+x.toNat) 0
theorem ZOQ {s:Nat} (h:s<4294967296):be (be4 s)=s:=by
 have h1:∀k,(UInt8.ofNat (k%256)).toNat=k%256:=fun k=>by rw[UInt8.toNat_ofNat'];omega
 unfold be be4;simp only[List.foldl_cons,List.foldl_nil,h1];omega
theorem ZK0 {x:Nat} (h:x<4294967296):cnot (cnot x)=x:=by unfold cnot;omega
theorem ZF2 (a b:List UInt8):cnext (cnext 0 a) b=cnext 0 (a++b):=by
 unfold cnext;rw[ZK0 (ZLf a (by unfold cnot;omega)),List.foldl_append]
def frameL (p:List UInt8):List UInt8:=vb p.length++be4 (cnext 0 (vb p.length++p))++p
def getF (l:List UInt8):Except Nat (List UInt8×List UInt8):=match getV 0 l with
 | .error k=>if k=6 then .error 41 else .error 40
 | .ok (n,r)=>if 16777216<n then .error 40 else if r.length<4+n then .error 41 else
  if cnext 0 (l.take (l.length - r.length)++(r.drop 4).take n)=be (r.take 4) then .ok ((r.drop 4).take n,r.drop (4+n)) else .error 40
theorem ZMR {p:List UInt8} (h:p.length<=16777216) (r:List UInt8):getF (frameL p++r) = .ok (p,r):=by
 have p0:∀s,(be4 s).length=4:=fun _=>rfl;unfold getF frameL;rw[List.append_assoc,List.append_assoc,Zm (by omega)];simp only;rw[if_neg (by omega),if_neg (by rw[List.length_append,List.length_append,p0];omega)];obtain⟨B,hB⟩:∃B,B=be4 (cnext 0 (vb p.length++p)):=⟨_,rfl⟩
 have h0:B.length=4:=by rw[hB];rfl
 have q0:be B=cnext 0 (vb p.length++p):=by rw[hB];exact ZOQ (ZCt _ _)
 rw[<-hB];have e1:(vb p.length++(B++(p++r))).length - (B++(p++r)).length=(vb p.length).length:=by rw[List.length_append];omega
 have e2:(B++(p++r)).drop 4=p++r:=List.drop_left' h0;have e3:(B++(p++r)).take 4=B:=List.take_left' h0;have e4:(B++(p++r)).drop (4+p.length)=r:=by rw[<-List.drop_drop,e2];exact List.drop_left' rfl
 rw[e1,e2,e3,e4,List.take_left' rfl,List.take_left' rfl,q0,if_pos rfl]
theorem ZBO:∀(l:List UInt8) (i n:Nat) (r r':List UInt8),getV i l = .ok (n,r)->∃p,l=p++r/\getV i (p++r') = .ok (n,r')
 | [],i,n,r,r',h=>by unfold getV at h;cases h
 | x::l,i,n,r,r',h=>by
  unfold getV at h;split at h
  ·cases h
  ·rename_i h1;split at h
   ·cases h
   ·rename_i h2;split at h
    ·rename_i h3;injection h with h;injection h with e1 e2;refine⟨[x],by rw[<-e2];rfl,?_⟩;show getV i (x::r')=_;unfold getV;rw[if_neg h1,if_neg h2,if_pos h3,e1]
    ·rename_i h3;split at h
     ·rename_i m r1 hg;injection h with h;injection h with e1 e2;obtain⟨p,hp,hq⟩:=ZBO l (i+1) m r1 r' hg;refine⟨x::p,by rw[hp,<-e2];rfl,?_⟩;show getV i (x::(p++r'))=_;unfold getV;rw[if_neg h1,if_neg h2,if_neg h3,hq];simp only;rw[e1]
     ·cases h
theorem ZI4 {l p r:List UInt8} (h:getF l = .ok (p,r)) (r':List UInt8):∃f,l=f++r/\f ≠ []/\getF (f++r') = .ok (p,r'):=by
 unfold getF at h;split at h
 ·split at h <;> cases h
 ·rename_i n r0 hg;split at h
  ·cases h
  ·rename_i h1;split at h
   ·cases h
   ·rename_i h2;split at h
    ·rename_i h3;injection h with h;injection h with e1 e2;obtain⟨v,hv,hq⟩:=ZBO l 0 n r0 (r0.take (4+n)++r') hg;have k0:v ≠ []:=by
      obtain⟨_,_,q,q0,p0⟩:=ZAH l 0 n r0 hg;rw[hv]at q0;rw[List.append_cancel_right q0];exact p0
     refine⟨v++r0.take (4+n),by rw[hv,<-e2,List.append_assoc,List.take_append_drop],by simp[k0],?_⟩;unfold getF;rw[List.append_assoc,hq];simp only;have h0:(r0.take (4+n)).length=4+n:=by rw[List.length_take];omega
     rw[if_neg h1,if_neg (by rw[List.length_append,h0];omega)];have e3:(v++(r0.take (4+n)++r')).length - (r0.take (4+n)++r').length=v.length:=by rw[List.length_append];omega
     have e4:l.length - r0.length=v.length:=by rw[hv,List.length_append];omega
     have e5:((r0.take (4+n)++r').drop 4).take n=(r0.drop 4).take n:=by
      rw[List.drop_append_of_le_length (by omega),List.take_append_of_le_length (by rw[List.length_drop];omega),List.drop_take,List.take_take];congr 1;omega
     have e6:(r0.take (4+n)++r').take 4=r0.take 4:=by
      rw[List.take_append_of_le_length (by omega),List.take_take];congr 1;omega
     have e7:(r0.take (4+n)++r').drop (4+n)=r':=List.drop_left' h0;rw[e4,hv,List.take_left' rfl]at h3;rw[e3,List.take_left' rfl,e5,e6,e7,if_pos h3,e1]
    ·cases h
theorem ZAT {l p r:List UInt8} (h:getF l = .ok (p,r)):r.length<l.length/\p.length<=16777216/\p.length<=l.length:=by
 obtain⟨f,hf,h0,_⟩:=ZI4 h [];have q0:=List.length_pos_iff.2 h0;refine⟨by rw[hf,List.length_append];omega,?_⟩;unfold getF at h;split at h
 ·split at h <;> cases h
 ·rename_i n r0 hg;obtain⟨_,_,q,hq,_⟩:=ZAH l 0 n r0 hg;split at h
  ·cases h
  ·split at h
   ·cases h
   ·split at h
    ·injection h with h;injection h with e1 e2;rw[<-e1,List.length_take,List.length_drop,hq,List.length_append];omega
    ·cases h
theorem ZGL {l:List UInt8} {k:Nat} (h:getF l = .error k):k=40\/k=41:=by
 unfold getF at h;split at h
 ·split at h <;> (injection h with h;omega)
 ·split at h
  ·injection h with h;omega
  ·split at h
   ·injection h with h;omega
   ·split at h
    ·cases h
    ·injection h with h;omega
theorem ZIJ (k:Nat):B8 (UInt8.ofNat (k%256)) = .int .u8 ((k%256:Nat):Int):=by
 unfold B8;rw[UInt8.toNat_ofNat'];congr 2;omega
theorem ZNA {s:Nat} (h:s<4294967296) : [.int .u8 ((s:Int) / 16777216),.int .u8 ((s:Int) / 65536%256),.int .u8 ((s:Int) / 256%256),.int .u8 ((s:Int)%256)]=(be4 s).map B8:=by
 unfold be4;rw[List.map_cons,List.map_cons,List.map_cons,List.map_cons,List.map_nil,ZIJ,ZIJ,ZIJ,ZIJ];congr 2
 ·omega
theorem ZBK {m:Nat} (h:m<18446744073709551616):IntKind.u64.wrap (m:Int)=(m:Int):=by
 simp[IntKind.wrap,IntKind.bits,IntKind.signed];omega
def PutP (w:World) (l:List UInt8) (e:Ending) (w':World):Prop:=∃A c,e = .returned (.tuple #[.slice A l.length c,.int .i64 0])/\Buf w' w.heap.size 5 A l.length c (l.map B8)/\Ext w w'
theorem ZMk (A:Option Addr) (n c:Nat) (l:List UInt8) (B:Option Addr) (m d:Nat) (p:List UInt8) (w:World) (hl:In8 w A n c l) (hp:In8 w B m d p) (hn:n<=900000000) (hm:m<=16777216) :
 Calls Tryz.prog 87 #[.slice A n c,.slice B m d] w fun e w'=>PutP w (l++frameL p) e w':=by
 have s0:=ZA (ZA3 none 0 0 m [] w rfl (.inl rfl) (fun _=>rfl) (by omega) (by omega));have p0:=hp.len;have t0:=hl.len;have p1:=ZD (n:=m) (by omega);have j1:=ZBK (m:=m) (by omega);have k1:¬ (16777216:Int)<m:=by omega
 obtain⟨V,hV⟩:∃V,V=vb m:=⟨_,rfl⟩
 rw[List.nil_append,<-hV]at s0;rw[<-hV]at p1;have f0:l++frameL p=l++(V++(be4 (cnext 0 (V++p))++p)):=by unfold frameL;rw[<-p0,<-hV,List.append_assoc]
 have r0:=ZCt 0 (V++p);have e0:csum 0 [V,p]=cnext 0 (V++p):=ZF2 V p;obtain⟨s,hs⟩:∃s,s=cnext 0 (V++p):=⟨_,rfl⟩
 rw[<-hs]at f0 r0 e0;rw[f0];obtain⟨R,hR⟩:∃R,R=l++(V++(be4 s++p)):=⟨_,rfl⟩
 rw[<-hR];replace hR:=ZA hR;have c0:=ZNA r0;replace p0:=ZA p0;replace t0:=ZA t0;replace hV:=ZA hV;clear hs f0;go_enter Tryz.func87,Tryz.ntmps87;go_wp2_with fail;refine s0.out.mono ?_;rintro e w1 ⟨A1,c1,rfl,o0,i0⟩;have q0:=o0.in8;obtain⟨w2,v0⟩:∃w2,w2=w1.alloc (.cells #[.slice A1 V.length c1,.slice B m d] 25):=⟨_,rfl⟩
 have x0:Ext w1 w2:=by rw[v0];exact(Ext.refl w1).alloc _
 have w0:Row w2 w1.heap.size 25 #[.slice A1 V.length c1,.slice B m d]:=by rw[v0];exact Row.new w1 _ _
 have z0:=ZK3 (some ⟨w1.heap.size,0,none⟩) 2 2 [(A1,c1,V),(B,d,p)] w2 rfl (.inr ⟨w1.heap.size,0,rfl,fun i v hv=>by
  rw[Nat.zero_add];exact w0.cell i (by rw[p0.out];simpa using hv)⟩) (fun q hq=>by
  rcases List.mem_cons.1 hq with rfl | hq
  ·exact q0.ext x0
  ·rw[List.mem_singleton.1 hq];have:=(hp.ext i0).ext x0;rw[p0.out]at this;exact this) (fun q hq=>by
  rcases List.mem_cons.1 hq with rfl | hq
  ·simp only;omega
  ·rw[List.mem_singleton.1 hq];simp only;have:=p0.out;omega) (by omega)
 rw[show ([(A1,c1,V),(B,d,p)].map fun p:Option Addr×Nat×List UInt8=>p.2.2) = [V,p] from rfl,e0]at z0;replace z0:=ZA z0;replace v0:=ZA v0;replace c0:=ZA c0;replace q0:=ZA q0;clear o0 e0 w0;go_wp2_with fail;rw[<-v0.out];refine z0.out.mono ?_;rintro e w3 ⟨rfl,l0⟩;go_wp2_with fail;obtain⟨g,hg⟩:∃g,g=w3.heap.size:=⟨_,rfl⟩
 obtain⟨w4,u0⟩:∃w4,w4=w3.alloc (.cells #[.int .u8 ((s:Int) / 16777216),.int .u8 ((s:Int) / 65536%256),.int .u8 ((s:Int) / 256%256),.int .u8 ((s:Int)%256)] 5):=⟨_,rfl⟩
 have y0:Ext w3 w4:=by rw[u0];exact(Ext.refl w3).alloc _
 have hb:Buf w4 g 5 (some ⟨g,0,none⟩) 4 4 ((be4 s).map B8):=by
  have h:=ZCT w3 [.int .u8 ((s:Int) / 16777216),.int .u8 ((s:Int) / 65536%256),.int .u8 ((s:Int) / 256%256),.int .u8 ((s:Int)%256)] 5 (by simp);rw[u0,hg,<-c0.out];exact h
 have q1:w4.heap.size=g+1:=by rw[u0,hg];simp
 obtain⟨w5,a0⟩:∃w5,w5=w4.alloc (.cells #[.slice A n c,.slice A1 V.length c1,.slice (some ⟨g,0,none⟩) 4 4,.slice B m d] 25):=⟨_,rfl⟩
 have j0:Ext w4 w5:=by rw[a0];exact(Ext.refl w4).alloc _
 have h1:Row w5 (g+1) 25 #[.slice A n c,.slice A1 V.length c1,.slice (some ⟨g,0,none⟩) 4 4,.slice B m d]:=by rw[a0,<-q1];exact Row.new w4 _ _
 have k0:=((i0.trans x0).trans l0)
 have m0:=ZIx (some ⟨g+1,0,none⟩) 4 4 [(A,c,l),(A1,c1,V),(some ⟨g,0,none⟩,4,be4 s),(B,d,p)] w5 rfl (.inr ⟨g+1,0,rfl,fun i v hv=>by
  rw[Nat.zero_add];refine h1.cell i ?_;have e4:(be4 s).length=4:=rfl;rw[p0.out,t0.out];simpa [e4]using hv⟩) (fun q hq=>by
  have e4:(be4 s).length=4:=rfl;simp only[List.mem_cons,List.not_mem_nil,or_false]at hq;rcases hq with rfl | rfl | rfl | rfl
  ·have:=(hl.ext k0).ext (y0.trans j0);rw[t0.out]at this;exact this
  ·exact q0.out.ext ((x0.trans l0).trans (y0.trans j0))
  ·exact hb.in8.ext j0
  ·have:=(hp.ext k0).ext (y0.trans j0);rw[p0.out]at this;exact this) (by
  have e4:(be4 s).length=4:=rfl;unfold catL;simp only[List.flatMap_cons,List.flatMap_nil,List.length_append,List.length_nil,e4];have:=p0.out;have:=t0.out;omega) (by omega)
 have g0:catL [(A,c,l),(A1,c1,V),(some ⟨g,0,none⟩,4,be4 s),(B,d,p)]=l++(V++(be4 s++p)):=by unfold catL;simp
 rw[g0]at m0;rw[<-hR.out]at m0;have h0:=k0.trans (y0.trans j0);rw[a0,u0,hg]at m0 h0;replace h0:=ZA h0;refine m0.mono ?_;rintro e w6 ⟨A6,c6,rfl,d0,n0⟩;replace d0:=ZA (d0.lower h0.out.size);have b0:=ZA (h0.out.trans n0);clear n0 m0 g0 u0 a0 q1 hg h1 hb;go_wp2_with fail;go_ret2;exact⟨A6,c6,rfl,d0.out,b0.out⟩
theorem ZMu {i acc y:Nat} (hi:i<=9) (ha:acc<128^i) (hy:y<128) (h9:i=9->y<=1):IntKind.u64.wrap ((acc:Int)+IntKind.u64.wrap ((y:Int)*2^(7*i)))=((acc+128^i*y:Nat):Int):=by
 have e:∀y:Int,IntKind.u64.wrap y=y%18446744073709551616:=fun y=>by simp[IntKind.wrap,IntKind.bits,IntKind.signed]
 have h0:acc+128^i*y<18446744073709551616:=by
  rcases Nat.lt_or_ge i 9 with h | h
  ·have h1:=ZGo ha hy;have h2:128^(i+1)<=128^9:=Nat.pow_le_pow_right (by omega) (by omega);omega
  ·obtain rfl:i=9:=by omega
   have:=h9 rfl;omega
 have hp:(128:Nat)^i=2^(7*i):=by rw[show (128:Nat)=2^7 from rfl,<-Nat.pow_mul]
 rw[hp]at h0 ⊢;have:(y:Int)*2^(7*i)=((2^(7*i)*y:Nat):Int):=by simp[Int.mul_comm]
 rw[e,e,this];omega
theorem ZBX (A:Option Addr) (n c:Nat) (l:List UInt8) (w0 w:World) (h:In8 w0 A n c l) (hw:Ext w0 w) (j1:n<=1000000000) :
 Calls Tryz.prog 123 #[.slice A n c] w fun e w'=>Got w0 w (getV 0 l) e w':=by
 have o0:=h.cap;replace h:=ZA h;go_enter Tryz.func123,Tryz.ntmps123;go_wp2_with fail
 go_loopw [5,6] (fun s5 s6 wr=>∃(i acc:Nat),s6 = .int .i64 i/\s5 = .int .u64 acc/\i<=n/\i<=10/\acc<128^i/\Hid (getV 0 l=comb i acc (getV i (l.drop i)))/\Hid (Ext w wr)) (fun _ s6 _=>n - (intOf s6).toNat)
 case atStart=>exact⟨0,0,rfl,rfl,by omega,by omega,by simp,ZA (by rw[ZGt];rfl),ZA (Ext.refl w)⟩
 case round =>
  obtain⟨i,acc,rfl,rfl,hi,r0,k0,hg,hE⟩:=hrel;by_cases e0:i<n/\i<10
  ·obtain⟨e0,k1⟩:=e0;have f0:i<l.length:=by rw[<-h.out.len];omega
   obtain⟨g,o,rfl,hc⟩:=h.out.bytes.at_ (by omega);have v0:=(hw.trans hE.out).cell (hc i f0);have j0:=ZH5 (List.getElem?_eq_getElem f0) (by omega) acc;rw[<-hg.out]at j0;obtain⟨x,hx⟩:∃x,x=l[i].toNat:=⟨_,rfl⟩
   have n0:x<256:=by rw[hx];exact l[i].toNat_lt
   rw[<-hx]at v0 j0;replace hx:=ZA hx;replace j0:=ZA j0;obtain⟨y,hy⟩:∃y,y=x%128:=⟨_,rfl⟩
   have s0:(x:Int)%128=(y:Int):=by omega
   have d0:y<128:=by omega
   replace hy:=ZA hy;obtain⟨A',c',c0,i0⟩:=h.out.from_ (fr:=i+1) (by omega) (z:=(i:Int)+1) (by omega);have g0:=ZA i0;clear hc hg i0;have t0:=fun h9:i=9->y<=1=>ZMu (i:=i) (acc:=acc) (y:=y) (by omega) k0 d0 h9;replace t0:=ZA t0;have a0:=fun(h1:¬((i=9/\1<x)\/(0<i/\x=0))) (h2:128<=x)=>j0.out.trans ((if_neg h1).trans (if_neg (by omega)));have u0:=fun(h1:¬((i=9/\1<x)\/(0<i/\x=0))) (h2:x<128)=>j0.out.trans ((if_neg h1).trans (if_pos h2));have q0:=fun(h1:(i=9/\1<x)\/(0<i/\x=0))=>j0.out.trans (if_pos h1);have y0:x<128->y=x:=fun h=>by have:=hy.out;omega
   have p0:128<=x->y=x - 128:=fun h=>by have:=hy.out;omega
   have hz:((x:Int)==0)=true->x=0:=fun h=>by simp at h;omega
   have b0:((x:Int)==0)=false->x≠0:=fun h=>by simp at h;omega
   replace a0:=ZA a0;replace u0:=ZA u0;replace q0:=ZA q0;replace y0:=ZA y0;replace p0:=ZA p0;replace hz:=ZA hz;replace b0:=ZA b0;by_cases h9:i=9
   ·subst h9;have x0:y<=1->IntKind.u64.wrap ((acc:Int)+IntKind.u64.wrap ((y:Int)*9223372036854775808))=((acc+128^9*y:Nat):Int):=fun q1=>by
     have e:(2:Int)^(7*9)=9223372036854775808:=by simp
     have:=t0.out fun _=>q1;rw[e]at this;exact this
    replace x0:=ZA x0;obtain⟨A9,c9,l0,m0⟩:=h.out.from_ (fr:=10) (by omega) (z:=10) rfl;replace m0:=ZA m0;clear c0 g0;go_wp2_with fail
    ·go_ret3;have h0:(1<(x:Int)\/((x:Int)==0)=true):=by assumption
     exact ZBF (q0.out (by rcases h0 with h0 | h0;exact .inl ⟨by trivial,by omega⟩;exact .inr ⟨by omega,hz.out h0⟩)) hE.out
    ·refine ZB follows (by kernel_rfl) (by kernel_rfl) (fun K hK=>?_);go_wp2_with fail;refine⟨by kernel_rfl,?_⟩;go_wp2_with fail;go_ret3;have g1:x<=1:=by omega
     have h0:((x:Int)<=1/\((x:Int)==0)=false):=by assumption
     have p1:=b0.out h0.2;exact ZE0 (u0.out (by omega) (by omega)) hE.out.drew m0.out (by have h5:=y0.out (by omega);have h6:(128:Nat)^9=9223372036854775808:=rfl;omega)
    ·go_ret3;exact ZBF (q0.out (.inl ⟨by trivial,by omega⟩)) hE.out
   ·go_wp2_with fail
    ·go_ret3;exact ZBF (q0.out (.inr ⟨by omega,hz.out (by assumption)⟩)) hE.out
    ·refine ZB follows (by kernel_rfl) (by kernel_rfl) (fun K hK=>?_);go_wp2_with fail;refine⟨by kernel_rfl,?_⟩;go_wp2_with fail;go_ret3;exact ZE0 (u0.out (by have:=b0.out (by assumption);omega) (by omega)) hE.out.drew g0.out (by rw[t0.out (by omega),y0.out (by omega)])
    ·go_roundw
     case rel=>exact⟨i+1,acc+128^i*y,by go_num,by rw[t0.out (by omega)],by omega,by omega,ZGo k0 d0,ZA (by rw[a0.out (by omega) (by omega),p0.out (by omega)]),hE⟩
     case measure=>simp[intOf];omega
    ·refine ZB follows (by kernel_rfl) (by kernel_rfl) (fun K hK=>?_);go_wp2_with fail;refine⟨by kernel_rfl,?_⟩;go_wp2_with fail;go_ret3;exact ZE0 (u0.out (by omega) (by omega)) hE.out.drew g0.out (by rw[t0.out (by omega),y0.out (by omega)])
    ·go_roundw
     case rel=>exact⟨i+1,acc+128^i*y,by go_num,by rw[t0.out (by omega)],by omega,by omega,ZGo k0 d0,ZA (by rw[a0.out (by omega) (by omega),p0.out (by omega)]),hE⟩
     case measure=>simp[intOf];omega
  ·have z0:=ZIR (l:=l) (i:=i) (by rw[<-h.out.len];omega) acc;rw[<-hg.out]at z0;replace z0:=ZA z0;clear hg;go_wp2_with fail
   all_goals go_ret3
   all_goals exact ZBF z0.out hE.out
theorem ZOd:Elem Tryz.prog 40 3 1 8:=⟨Tryz.underlying40,⟨_,_,rfl,rfl,rfl,rfl,rfl⟩,by omega,by omega⟩
theorem Zl:∀(l:List UInt8) (i k:Nat),getV i l = .error k->0<k
 | [],i,k,h=>by unfold getV at h;cases h;omega
 | x::l,i,k,h=>by
  unfold getV at h;split at h
  ·cases h;omega
  ·split at h
   ·cases h;omega
   ·split at h
    ·cases h
    ·split at h
     ·cases h
     ·rename_i e hg;cases h;exact Zl l (i+1) k hg
def GotI (w0 w:World) (res:Except Nat (Nat×List UInt8)) (e:Ending) (w':World):Prop:=Ext w w'/\match res with
 | .ok (v,r)=>∃A c,e = .returned (.tuple #[.int .i64 (unzig v),.slice A r.length c,.int .i64 0])/\In8 w0 A r.length c r
 | .error k=>e = .returned (.tuple #[.int .i64 0,.slice none 0 0,.int .i64 k])
theorem ZJk (A:Option Addr) (n c:Nat) (l:List UInt8) (w0 w:World) (h:In8 w0 A n c l) (hw:Ext w0 w) (j0:n<=1000000000) :
 Calls Tryz.prog 153 #[.slice A n c] w fun e w'=>GotI w0 w (getV 0 l) e w':=by
 have hg:=ZA1 A n c l w0 w h hw j0;cases hr:getV 0 l with
 | error k =>
  rw[hr]at hg;have hk:=Zl l 0 k hr;have v0:((k:Int) != 0)=true:=by simp;omega
  replace hg:=ZA hg;clear h hr hk;go_enter Tryz.func153,Tryz.ntmps153;go_wp2_with fail;refine hg.out.mono ?_;rintro e w1 ⟨q0,rfl⟩;go_wp2_with fail;go_ret3;exact⟨q0,rfl⟩
 | ok p =>
  obtain⟨v,r⟩:=p;have hv:=Zp hr;rw[hr]at hg;replace hg:=ZA hg;have p0:bits .and .u64 (v:Int) 1=((v%2:Nat):Int):=by
   rw[show (1:Int)=((1:Nat):Int)from rfl,u64_and_nat _ _ hv (by omega),Nat.and_one_is_mod]
  obtain⟨q,hq⟩:∃q,q=v%2:=⟨_,rfl⟩
  obtain⟨d,hd⟩:∃d,d=v / 2:=⟨_,rfl⟩
  have g0:=i64_not d (by omega);have t0:(v:Int) / 2=(d:Int):=by omega
  rw[<-hq]at p0;have hu:unzig v=if q=0 then (d:Int) else -1 - (d:Int):=by unfold unzig;rw[<-hq,<-hd]
  have u0:q<=1:=by omega
  have m0:d<9223372036854775808:=by omega
  replace hu:=ZA hu;clear hq hd h hr;rcases (show q=0\/q=1 by omega)with rfl | rfl
  ·have h0:unzig v=d:=hu.out;replace h0:=ZA h0;clear hu;go_enter Tryz.func153,Tryz.ntmps153;go_wp2_with fail;refine hg.out.mono ?_;rintro e w1 ⟨q0,A1,c1,rfl,k0⟩;go_wp2_with fail;go_ret3;exact⟨q0,A1,c1,by rw[h0.out];rfl,k0⟩
  ·have h0:unzig v = -1 - (d:Int):=hu.out;replace h0:=ZA h0;clear hu;go_enter Tryz.func153,Tryz.ntmps153;go_wp2_with fail;refine hg.out.mono ?_;rintro e w1 ⟨q0,A1,c1,rfl,k0⟩;go_wp2_with fail;go_ret3;exact⟨q0,A1,c1,by rw[h0.out];rfl,k0⟩
theorem ZMd (v:Nat) (w:World) (hv:v<18446744073709551616):Calls Tryz.prog 189 #[.int .u64 v] w fun e w'=>e = .returned (.int .i64 (unzig v))/\w'=w:=by
 go_enter Tryz.func189,Tryz.ntmps189;go_wp2_with fail
 all_goals go_ret
 all_goals exact⟨ZCc (by unfold unzig;simp only[beq_iff_eq,beq_eq_false_iff_ne,ne_eq]at *;split <;> omega),rfl⟩
theorem ZHZ (A:Option Addr) (n c:Nat) (l:List UInt8) (w0 w:World) (h:In8 w0 A n c l) (hw:Ext w0 w) (p0:n<=1000000000) :
 Calls Tryz.prog 170 #[.slice A n c] w fun e w'=>GotI w0 w (getV 0 l) e w':=by
 have hg:=ZBX A n c l w0 w h hw p0;cases hr:getV 0 l with
 | error k =>
  rw[hr]at hg;have hk:=Zl l 0 k hr;have k0:((k:Int) != 0)=true:=by simp;omega
  replace hg:=ZA hg;clear h hr hk;go_enter Tryz.func170,Tryz.ntmps170;go_wp2_with fail;refine hg.out.mono ?_;rintro e w1 ⟨h0,rfl⟩;go_wp2_with fail;go_ret3;exact⟨h0,rfl⟩
 | ok p =>
  obtain⟨v,r⟩:=p;have hv:=Zp hr;rw[hr]at hg;replace hg:=ZA hg;have hb:=ZA (fun w=>ZMd v w hv);clear h hr;go_enter Tryz.func170,Tryz.ntmps170;go_wp2_with fail;refine hg.out.mono ?_;rintro e w1 ⟨h0,A1,c1,rfl,q0⟩;go_wp2_with fail;refine(hb.out _).mono ?_;rintro e w2 ⟨rfl,rfl⟩;go_wp2_with fail;go_ret3;exact⟨h0,A1,c1,rfl,q0⟩
theorem ZDV (l:List UInt8):Lib.strCells ⟨l.toArray⟩=l.map B8:=rfl
theorem ZHM (w:World) (ty:TypeId) {base:Nat} {A:Option Addr} {n c:Nat} {xs:List Value} (hb:Buf w base 5 A n c xs) (s:List UInt8) (z0:n+s.length<=4294967296) (q0:base<=w.heap.size) :
 ∃A1 c1 w',(Builtin.append_ #[25,9] ty #[.slice A n c,.string ⟨s.toArray⟩]).run Tryz.prog w = .ok (.slice A1 (n+s.length) c1) w'/\Buf w' base 5 A1 (n+s.length) c1 (xs++s.map B8)/\w.grownBy w' (Value.slice A n c).ownBlock /\
  (A1=A\/A1=some ⟨w.heap.size,0,none⟩):=by
 obtain⟨i,z,hi,hz,h3,h4,h5⟩:=ZV.hi;have t0:i.zero=some (.int .u8 0):=by
  obtain⟨j,hj,u0⟩:∃j,Tryz.prog.info? 5=some j/\j.zero=some (.int .u8 0):=⟨_,rfl,rfl⟩
  rw[hi]at hj;injection hj with hj;rw[hj];exact u0
 have ht:=Tryz.underlying25;have hu:=Tryz.underlying9;have h0:(⟨s.toArray⟩:ByteArray).size=s.length:=ByteArray.size_mk_toArray s;obtain⟨hx,y0,hA⟩:=hb;rcases hA with ⟨rfl,rfl⟩ | ⟨g,cur,rfl,v0,hg,hs,m0⟩
 ·obtain rfl:n=0:=by omega
  obtain rfl:xs = []:=List.eq_nil_of_length_eq_zero hx;by_cases g0:s = []
  ·subst g0;refine⟨none,0,w,?_,⟨rfl,Nat.le_refl _,.inl ⟨rfl,rfl⟩⟩,World.grownBy.refl w _,.inl rfl⟩;have hf:=Lib.run_firstCells_string (P:=Tryz.prog) (w:=w) 1 ⟨#[]⟩;rw[show (ByteArray.mk #[]).size=0 from rfl]at hf;have e0:(ByteArray.mk #[]).size=0:=rfl;simp[Builtin.append_,run_underlying ht,run_underlying hu,sizeOf,typeInfo,hi,h3,Builtin.lenOf,e0,hf]
  ·have hl:0<s.length:=List.length_pos_iff.2 g0;have hr:=run_append_nil_string (P:=Tryz.prog) w 25 9 ty 5 i (.int .u8 0) ht hu hi t0 ⟨s.toArray⟩ (by omega) (by omega) (by rw[h4,h0];omega);have j0:=grownCap_ge w s.length 0 5;rw[h0]at hr;refine⟨_,_,_,by rw[hr,Nat.zero_add],⟨by simp,by rw[Nat.zero_add];exact j0,.inr ⟨w.heap.size,_,rfl,q0,heap_alloc_new w.drew _,?_,?_⟩⟩,?_,.inr rfl⟩
   ·simp only[Array.size_append,size_zeroCells];simp[Value.cells];omega
   ·simp only[Array.toList_append];rw[Nat.zero_add,List.take_append_of_le_length (by simp),List.take_of_length_le (by simp)];simp;exact fun b _=>rfl
   ·exact(Ext.refl w |>.drew.alloc _) |> fun h=>⟨Below.os h,Below.tape h,Below.output h,Below.size h,fun k hk _=>Below.block h k hk⟩
 ·by_cases p0:n+s.length<=c
  ·have hr:=Lib.run_append_room_string (P:=Tryz.prog) (w:=w) 25 9 ty 5 i ht hu hi h3 g n c cur hg ⟨s.toArray⟩ (by rw[h0];exact p0) (by rw[h0];omega);rw[h0,ZDV]at hr;refine⟨some ⟨g,0,none⟩,c,_,hr,⟨by rw[List.length_append,List.length_map];omega,p0,.inr ⟨g,_,rfl,v0,setRow_heap w g cur _ 5 (0,0) hg,?_,?_⟩⟩,ZCi w g _,.inl rfl⟩
   ·simp;omega
   ·simp only;rw[m0];rw[List.take_append_of_le_length (by rw[List.length_append,List.length_map];omega),List.take_of_length_le (by rw[List.length_append,List.length_map];omega)]
  ·have j0:=grownCap_ge w (n+s.length) c 5;have x0:=nextslicecap_le (need:=n+s.length) (old:=c) (by omega);have k0:∀(j:Nat) (v:Value),xs[j]? = some v->w.cell? (Addr.add ⟨g,0,none⟩ j)=some v:=by
    intro j v hv;rw[Addr.add_lit,Nat.zero_add,cell_of_row w g j cur 5 (0,0) hg];rw[<-m0,List.getElem?_take]at hv;split at hv
    ·simpa using hv
    ·cases hv
   have hr:=Lib.run_append_grow_string (P:=Tryz.prog) (w:=w) 25 9 ty 5 i (.int .u8 0) ht hu hi t0 ⟨g,0,none⟩ n c xs (by rw[h3];omega) k0 ⟨s.toArray⟩ (by rw[h0];omega) (by rw[h0];omega) (by rw[h0,h4];omega);rw[h0,ZDV]at hr;refine⟨some ⟨w.heap.size,0,none⟩,grownCap w (n+s.length) c 5,_,hr,⟨by rw[List.length_append,List.length_map];omega,j0,.inr ⟨w.heap.size,_,rfl,q0,heap_alloc_new w.drew _,?_,?_⟩⟩,?_,.inr rfl⟩
   ·simp only[Array.size_append,List.size_toArray,size_zeroCells,List.length_map];simp[Value.cells];omega
   ·simp only[Array.toList_append];rw[List.take_append_of_le_length (by simp;omega),List.take_of_length_le (by simp;omega)]
   ·exact(Ext.refl w |>.drew.alloc _) |> fun h=>⟨Below.os h,Below.tape h,Below.output h,Below.size h,fun k hk _=>Below.block h k hk⟩
theorem ZBf {ops:Array Oper} {rest:List Oper} {o:Oper} {a:Act} {Q:Exit->Act->World->Prop} {w:World} {base:Nat} {A:Option Addr} {n c:Nat} {xs:List Value} {s:List UInt8} (hb:Buf w base 5 A n c xs) (x y:Operand)
 (ho:o.op = .call { callee:= .builtin .append,args:=#[x,y],argTypes:=#[25,9] }) (k0:o.guard=none) (hx:a.eval x = .slice A n c) (hy:a.eval y = .string ⟨s.toArray⟩) (j0:n+s.length<=4294967296) (h0:base<=w.heap.size)
 (h:∀A1 c1 w',Buf w' base 5 A1 (n+s.length) c1 (xs++s.map B8)->w.grownBy w' (Value.slice A n c).ownBlock->(∀w0,Ext w0 w->w0.heap.size<=base->Ext w0 w')->wpList Tryz.prog ops Q rest (a.put o.dst (.slice A1 (n+s.length) c1)) w'):wpList Tryz.prog ops Q (o::rest) a w :=
 wpList_plain k0 fun K hK=>by
  obtain⟨A1,c1,w',q0,h2,h3,_⟩:=ZHM w o.type hb s j0 h0;unfold Oper.wp execOp;simp only[ho,resolve,invoke,builtin,Sem.run_bind,Sem.run_pure,Result.andThen_ok,List.map_toArray,List.map_cons,List.map_nil,hx,hy,q0];refine hK _ _ (h A1 c1 w' h2 h3 (fun w0 hE hw=>hE.grown h3 fun k hk=>?_));have p0:=hb.base_le;cases A with
  | none=>simp[Value.ownBlock]at hk
  | some b =>
   have:=p0 b rfl;simp[Value.ownBlock]at hk;omega
theorem ZBH {P:Program} (ts:Array TypeId) (ty:TypeId) {x y m:Int} (hm:m=max x y) (W:World):(Builtin.max_ ts ty #[.int .i64 x,.int .i64 y]).run P W = .ok (.int .i64 m) W:=by
 simp only[Builtin.max_,List.foldlM,Builtin.max2,Sem.run_bind,Sem.run_pure,Result.andThen_ok];subst hm;congr 2;split <;> omega
def GotT (w0 w:World) (res:Except Nat (List UInt8×List UInt8)) (e:Ending) (w':World):Prop:=Ext w w'/\match res with
 | .ok (s,r)=>∃A c,e = .returned (.tuple #[.string ⟨s.toArray⟩,.slice A r.length c,.int .i64 0])/\In8 w0 A r.length c r
 | .error k=>e = .returned (.tuple #[.string ⟨#[]⟩,.slice none 0 0,.int .i64 k])
theorem ZBx (A:Option Addr) (n c:Nat) (l s:List UInt8) (w:World) (hn:n=l.length) (hl:Bs w A l) (hz:A=none->c=0) (m0:n<=1000000000) (hs:s.length<=1000000000) :
 Calls Tryz.prog 147 #[.slice A n c,.string ⟨s.toArray⟩] w fun e w'=>NewB w (l++txL s) e w':=by
 have hp:=ZA (ZA3 A n c s.length l w hn hl hz m0 (by omega));have p0:=ZAt (n:=s.length) (by omega);have q0:l++txL s=(l++vb s.length)++s:=by unfold txL;simp
 rw[q0];obtain⟨L,hL⟩:∃L,L=l++vb s.length:=⟨_,rfl⟩
 have v0:L.length<=1000000010:=by rw[hL,List.length_append];omega
 rw[<-hL]at hp ⊢;clear hL q0 hl hz hn p0;go_enter Tryz.func147,Tryz.ntmps147;go_wp2_with fail;refine hp.out.mono ?_;rintro e w1 ⟨A1,c1,rfl,j0,h0⟩;have t0:=h0.size;go_wp2_with (at_builtin;refine ZBf j0 (.tmp 9) (.tmp 10) rfl rfl rfl rfl (by omega) t0 (fun A2 c2 w2 g0 u0 k0=>?_));go_ret;exact⟨A2,c2,ZAn (by rw[List.length_append]),by rw[List.length_append,List.map_append];exact g0,k0 _ h0 (Nat.le_refl _)⟩
theorem ZBr (A:Option Addr) (n c most:Nat) (l:List UInt8) (w0 w:World) (h:In8 w0 A n c l) (hw:Ext w0 w) (g0:n<=1000000000) (hm:most<=1000000000) :
 Calls Tryz.prog 154 #[.slice A n c,.int .i64 most] w fun e w'=>GotT w0 w (getT most l) e w':=by
 have hg:=ZA1 A n c l w0 w h hw g0;have m0:=ZBH (P:=Tryz.prog) #[3,3] 3 (x:=0) (y:=(most:Int)) (m:=(most:Int)) (by omega);unfold getT;cases hr:getV 0 l with
 | error k =>
  rw[hr]at hg;have hk:=Zl l 0 k hr;have y0:((k:Int) != 0)=true:=by simp;omega
  replace hg:=ZA hg;clear h hr hk;go_enter Tryz.func154,Tryz.ntmps154;go_wp2_with fail;refine hg.out.mono ?_;rintro e w1 ⟨h0,rfl⟩;go_wp2_with fail;go_ret3;exact⟨h0,rfl⟩
 | ok p =>
  obtain⟨v,r⟩:=p;have hv:=Zp hr;have z0:r.length<=1000000000:=by
   obtain⟨_,_,q,hq,_⟩:=ZAH l 0 v r hr;have:=h.len;rw[hq,List.length_append]at this;omega
  rw[hr]at hg;replace hg:=ZA hg;simp only;by_cases h1:most<v
  ·rw[if_pos h1];have k0:(most:Int)<v:=by omega
   clear h hr;go_enter Tryz.func154,Tryz.ntmps154;go_wp2_with fail;refine hg.out.mono ?_;rintro e w1 ⟨h0,A1,c1,rfl,hi1⟩;go_wp2_with fail;go_ret3;exact⟨h0,rfl⟩
  ·rw[if_neg h1];have k0:¬ (most:Int)<v:=by omega
   by_cases h2:r.length<v
   ·rw[if_pos h2];have j0:(r.length:Int)<v:=by omega
    clear h hr;go_enter Tryz.func154,Tryz.ntmps154;go_wp2_with fail;refine hg.out.mono ?_;rintro e w1 ⟨h0,A1,c1,rfl,hi1⟩;go_wp2_with fail;go_ret3;exact⟨h0,rfl⟩
   ·rw[if_neg h2];have j0:¬ (r.length:Int)<v:=by omega
    clear h hr;go_enter Tryz.func154,Tryz.ntmps154;go_wp2_with fail;refine hg.out.mono ?_;rintro e w1 ⟨h0,A1,c1,rfl,hi1⟩;obtain⟨x0,q0⟩:=hi1.headk .u64 (k:=v) (by omega) (z:=(v:Int)) rfl;obtain⟨A2,c2,u0,p0⟩:=hi1.fromk .u64 (fr:=v) (by omega) (z:=(v:Int)) rfl;have t0:∀W,Ext w0 W->(convert 25 9 (.slice A1 v c1)).run Tryz.prog W = .ok (.string ⟨(r.take v).toArray⟩) W:=fun W hW=>Zr (q0.bytes.ext hW) v c1 q0.len;have v0:=t0 _ (hw.trans h0).drew;have hlen:(r.drop v).length=r.length - v:=List.length_drop;obtain⟨R,hR⟩:∃R,R=r.length - v:=⟨_,rfl⟩
    rw[<-hR]at u0 p0 hlen;replace hlen:=ZA hlen;replace hR:=ZA hR;clear q0;go_wp2_with fail;refine ZB follows (by kernel_rfl) (by kernel_rfl) (fun K hK=>?_);go_wp2_with fail;refine⟨by kernel_rfl,?_⟩;go_wp2_with fail;go_ret3;exact⟨h0.drew,A2,c2,by rw[hlen.out];rfl,by rw[hlen.out];exact p0⟩
theorem ZA9 (A:Option Addr) (n c most:Nat) (l:List UInt8) (w0 w:World) (h:In8 w0 A n c l) (hw:Ext w0 w) (g0:n<=1000000000) (hm:most<=1000000000) :
 Calls Tryz.prog 171 #[.slice A n c,.int .i64 most] w fun e w'=>GotT w0 w (getT most l) e w':=by
 have hg:=ZBX A n c l w0 w h hw g0;have m0:=ZBH (P:=Tryz.prog) #[3,3] 3 (x:=0) (y:=(most:Int)) (m:=(most:Int)) (by omega);unfold getT;cases hr:getV 0 l with
 | error k =>
  rw[hr]at hg;have hk:=Zl l 0 k hr;have y0:((k:Int) != 0)=true:=by simp;omega
  replace hg:=ZA hg;clear h hr hk;go_enter Tryz.func171,Tryz.ntmps171;go_wp2_with fail;refine hg.out.mono ?_;rintro e w1 ⟨h0,rfl⟩;go_wp2_with fail;go_ret3;exact⟨h0,rfl⟩
 | ok p =>
  obtain⟨v,r⟩:=p;have hv:=Zp hr;have z0:r.length<=1000000000:=by
   obtain⟨_,_,q,hq,_⟩:=ZAH l 0 v r hr;have:=h.len;rw[hq,List.length_append]at this;omega
  rw[hr]at hg;replace hg:=ZA hg;simp only;by_cases h1:most<v
  ·rw[if_pos h1];have k0:(most:Int)<v:=by omega
   clear h hr;go_enter Tryz.func171,Tryz.ntmps171;go_wp2_with fail;refine hg.out.mono ?_;rintro e w1 ⟨h0,A1,c1,rfl,hi1⟩;go_wp2_with fail;go_ret3;exact⟨h0,rfl⟩
  ·rw[if_neg h1];have k0:¬ (most:Int)<v:=by omega
   by_cases h2:r.length<v
   ·rw[if_pos h2];have j0:(r.length:Int)<v:=by omega
    clear h hr;go_enter Tryz.func171,Tryz.ntmps171;go_wp2_with fail;refine hg.out.mono ?_;rintro e w1 ⟨h0,A1,c1,rfl,hi1⟩;go_wp2_with fail;go_ret3;exact⟨h0,rfl⟩
   ·rw[if_neg h2];have j0:¬ (r.length:Int)<v:=by omega
    clear h hr;go_enter Tryz.func171,Tryz.ntmps171;go_wp2_with fail;refine hg.out.mono ?_;rintro e w1 ⟨h0,A1,c1,rfl,hi1⟩;obtain⟨x0,q0⟩:=hi1.headk .u64 (k:=v) (by omega) (z:=(v:Int)) rfl;obtain⟨A2,c2,u0,p0⟩:=hi1.fromk .u64 (fr:=v) (by omega) (z:=(v:Int)) rfl;have t0:∀W,Ext w0 W->(convert 25 9 (.slice A1 v c1)).run Tryz.prog W = .ok (.string ⟨(r.take v).toArray⟩) W:=fun W hW=>Zr (q0.bytes.ext hW) v c1 q0.len;have v0:=t0 _ (hw.trans h0).drew;have hlen:(r.drop v).length=r.length - v:=List.length_drop;obtain⟨R,hR⟩:∃R,R=r.length - v:=⟨_,rfl⟩
    rw[<-hR]at u0 p0 hlen;replace hlen:=ZA hlen;replace hR:=ZA hR;clear q0;go_wp2_with fail;refine ZB follows (by kernel_rfl) (by kernel_rfl) (fun K hK=>?_);go_wp2_with fail;refine⟨by kernel_rfl,?_⟩;go_wp2_with fail;go_ret3;exact⟨h0.drew,A2,c2,by rw[hlen.out];rfl,by rw[hlen.out];exact p0⟩
theorem ZBm (e:Ev) (A:Option Addr) (c:Nat) (w:World) (h:e.Ok w A):Calls Tryz.prog 54 #[e.val A c] w fun en w'=>en = .returned (.int .i64 (checkE e.fs:Int))/\Ext w w':=by
 obtain⟨at_,fs⟩:=e;obtain⟨hc,hm,hl⟩:=h;unfold Ev.val;simp only at hc hm hl ⊢;obtain⟨n,hn⟩:∃n,n=fs.length:=⟨_,rfl⟩
 obtain⟨z,hz⟩:∃z,z=checkE fs:=⟨_,rfl⟩
 have h0:16<n->z=3:=fun h=>by rw[hz];unfold checkE;rw[if_pos (by omega)]
 have m0:n<=16->z=checkF (fs.drop 0):=fun h=>by rw[hz];unfold checkE;rw[if_neg (by omega)];rfl
 have t0:=fun s W (hs:s.length<=9223372036854775807)=>ZHL s W hs;rw[<-hz,<-hn];rw[<-hn]at hm;have g0:Ext w (w.alloc (.cells #[.int .i64 at_,.slice A n c] 37)):=(Ext.refl w).alloc _;have j0:Row (w.alloc (.cells #[.int .i64 at_,.slice A n c] 37)) w.heap.size 37 #[.int .i64 at_,.slice A n c]:=Row.new w _ _;replace hn:=ZA hn;replace hl:=ZA hl;replace t0:=ZA t0;replace m0:=ZA m0;clear hz;by_cases a0:16<n
 ·have u0:=h0 a0;subst u0;clear h0 j0;go_enter Tryz.func54,Tryz.ntmps54;go_wp2_with fail;go_ret;exact⟨rfl,g0⟩
 ·clear h0;have v0:=m0.out (by omega);replace v0:=ZA v0;go_enter Tryz.func54,Tryz.ntmps54;go_wp2_with fail;obtain⟨W0,x0⟩:∃W0,W0=w.alloc (.cells #[.int .i64 at_,.slice A n c] 37):=⟨_,rfl⟩
  rw[<-x0]at g0 j0 ⊢;clear x0
  go_loopw [3] (fun s3 wr=>∃i:Nat,s3 = .int .i64 i/\i<=n/\Hid (z=checkF (fs.drop i))/\Hid (Ext W0 wr)) (fun s3 _=>n - (intOf s3).toNat)
  case atStart=>exact⟨0,rfl,by omega,v0,ZA (Ext.refl _)⟩
  case round =>
   obtain⟨i,rfl,hi,hz,hE⟩:=hrel;have y1:=(j0.ext hE.out).cell 1 rfl;by_cases c0:i<n
   ·have b0:i<fs.length:=by rw[<-hn.out];exact c0
    obtain⟨f,hf⟩:∃f,fs[i]? = some f:=⟨_,List.getElem?_eq_getElem b0⟩
    obtain⟨g,o,rfl,k0,k1⟩:=Zu (hc.ext (g0.trans hE.out)) hf;obtain⟨y0,d0⟩:=hl.out f (List.mem_of_getElem? hf);have p0:=hz.out;rw[ZDl hf]at p0;unfold strV at k0 k1;obtain⟨nm,tx⟩:=f;simp only at k0 k1 y0 d0 p0;have q0:=fun W=>t0.out nm W y0;obtain⟨q,hq⟩:∃q,q=nameL nm:=⟨_,rfl⟩
    rw[<-hq]at q0 p0;have e0:(0:Int)<=i:=by omega
    have hi1:(i:Int)<n:=by omega
    replace q0:=ZA q0;replace p0:=ZA p0;clear hf hq;go_wp2_with fail;refine(q0.out _).mono ?_;rintro e w3 ⟨rfl,rfl⟩;cases q with
    | false =>
     obtain rfl:z=100:=by rw[p0.out];rfl
     go_wp2_with fail;go_ret;exact⟨rfl,g0.trans hE.out⟩
    | true =>
     by_cases z0:4096<tx.length
     ·obtain rfl:z=2:=by rw[p0.out,if_neg (by simp),if_pos z0]
      go_wp2_with fail;go_ret;exact⟨rfl,g0.trans hE.out⟩
     ·have u0:=ZA (show z=checkF (fs.drop (i+1))by rw[p0.out,if_neg (by simp),if_neg z0]);go_wp2_with fail;go_roundw
      case rel=>exact⟨i+1,by go_num,by omega,u0,hE⟩
      case measure=>simp[intOf];omega
   ·obtain rfl:z=0:=by
     have h:=hz.out;rw[List.drop_of_length_le (by rw[<-hn.out];omega)]at h;exact h
    go_wp2_with fail;go_ret;exact⟨rfl,g0.trans hE.out⟩
theorem ZAG {α:Type} {xs:List α} {i:Nat} {x:α} (h:xs[i]? = some x):xs.take (i+1)=xs.take i ++ [x]:=by
 obtain⟨hi,rfl⟩:=List.getElem?_eq_some_iff.1 h;exact List.take_succ_eq_append_getElem hi
theorem ZN6 (f g:Fd) (W:World):(binOp .neq 105 (.agg #[.string ⟨f.1.toArray⟩,.string ⟨f.2.toArray⟩]) (.agg #[.string ⟨g.1.toArray⟩,.string ⟨g.2.toArray⟩])).run Tryz.prog W = .ok (.bool (!decide (f=g))) W:=by
 rw[run_neq_struct,run_equalIn_agg _ _ _ _ _ (by kernel_rfl) (by kernel_rfl)];simp only[Program.fieldsOf,Tryz.underlying105];have e1:∀(a b:List UInt8) (W:World),(Op.equalIn 9999 9 (.string ⟨a.toArray⟩) (.string ⟨b.toArray⟩)).run Tryz.prog W = .ok (a==b) W:=fun a b W=>by
  have h:=run_equalIn_string (P:=Tryz.prog) (w:=W) 9998 9 ⟨a.toArray⟩ ⟨b.toArray⟩ Tryz.underlying9;rw[h];congr 1;rw[Bool.eq_iff_iff];simp
 simp[Op.eqFields,part,e1,go_sem];by_cases h1:f.1=g.1 <;> by_cases h2:f.2=g.2
 all_goals simp[h1,h2,Prod.ext_iff]
def sameE (a b:Ev):Bool:=decide (a.at_=b.at_/\a.fs=b.fs)
theorem ZJP (a b:Ev) (A B:Option Addr) (c c2:Nat) (w:World) (ha:a.Ok w A) (hb:b.Ok w B):Calls Tryz.prog 70 #[a.val A c,b.val B c2] w fun en w'=>en = .returned (.bool (sameE a b))/\Ext w w':=by
 obtain⟨at1,fs⟩:=a;obtain⟨at2,gs⟩:=b;obtain⟨hc,hm,_⟩:=ha;obtain⟨hd,c0,_⟩:=hb;unfold Ev.val sameE;simp only at hc hm hd c0 ⊢;obtain⟨n,hn⟩:∃n,n=fs.length:=⟨_,rfl⟩
 obtain⟨m,j0⟩:∃m,m=gs.length:=⟨_,rfl⟩
 obtain⟨z,hz⟩:∃z,z=decide (at1=at2/\fs=gs):=⟨_,rfl⟩
 have g0:at1≠at2->z=false:=fun h=>by rw[hz];exact decide_eq_false fun hh=>h hh.1
 have m0:n≠m->z=false:=fun h=>by rw[hz];exact decide_eq_false fun hh=>h (by rw[hn,j0,hh.2])
 have q0:fs≠gs->z=false:=fun h=>by rw[hz];exact decide_eq_false fun hh=>h hh.2
 have p0:at1=at2->fs=gs->z=true:=fun h1 h2=>by rw[hz];exact decide_eq_true ⟨h1,h2⟩
 rw[<-hz,<-hn,<-j0];rw[<-hn]at hm;rw[<-j0]at c0;have v0:Ext w ((w.alloc (.cells #[.int .i64 at1,.slice A n c] 37)).alloc (.cells #[.int .i64 at2,.slice B m c2] 37)):=((Ext.refl w).alloc _).alloc _;have t0:Row ((w.alloc (.cells #[.int .i64 at1,.slice A n c] 37)).alloc (.cells #[.int .i64 at2,.slice B m c2] 37)) w.heap.size 37 #[.int .i64 at1,.slice A n c]:=(Row.new w _ _).alloc _;have h0:Row ((w.alloc (.cells #[.int .i64 at1,.slice A n c] 37)).alloc (.cells #[.int .i64 at2,.slice B m c2] 37)) (w.heap.size+1) 37 #[.int .i64 at2,.slice B m c2]:=by
  have h:=Row.new (w.alloc (.cells #[.int .i64 at1,.slice A n c] 37)) 37 #[.int .i64 at2,.slice B m c2];simpa using h
 by_cases x0:at1=at2
 case neg =>
  obtain rfl:=g0 x0;have hq:(at1 != at2)=true:=bne_iff_ne.2 x0;clear g0 m0 q0 p0 hz hn j0 t0 h0 hc hd x0;go_enter Tryz.func70,Tryz.ntmps70;go_wp2_with fail;go_ret;exact⟨rfl,v0⟩
 case pos =>
  by_cases d0:n=m
  case neg =>
   obtain rfl:=m0 d0;have hq:((n:Int) != (m:Int))=true:=bne_iff_ne.2 (by omega);clear g0 m0 q0 p0 hz hn j0 t0 h0 hc hd;subst x0;go_enter Tryz.func70,Tryz.ntmps70;go_wp2_with fail;go_ret;exact⟨rfl,v0⟩
  case pos =>
   subst x0;subst d0;replace q0:=ZA q0;replace p0:=ZA (p0 rfl);replace hn:=ZA hn;replace j0:=ZA j0;clear hz g0 m0;go_enter Tryz.func70,Tryz.ntmps70;go_wp2_with fail;obtain⟨W0,a0⟩:∃W0,W0=(w.alloc (.cells #[.int .i64 at1,.slice A n c] 37)).alloc (.cells #[.int .i64 at1,.slice B n c2] 37):=⟨_,rfl⟩
   rw[<-a0]at v0 t0 h0 ⊢;clear a0
   go_loopw [5] (fun s5 wr=>∃i:Nat,s5 = .int .i64 i/\i<=n/\Hid (fs.take i=gs.take i)/\Hid (Ext W0 wr)) (fun s5 _=>n - (intOf s5).toNat)
   case atStart=>exact⟨0,rfl,by omega,ZA rfl,ZA (Ext.refl _)⟩
   case round =>
    obtain⟨i,rfl,hi,e0,hE⟩:=hrel;have y1:wr.cell? ⟨w.heap.size,1,none⟩=some (.slice A n c):=(t0.ext hE.out).cell 1 rfl;have y2:wr.cell? ⟨w.heap.size+1,1,none⟩=some (.slice B n c2):=(h0.ext hE.out).cell 1 rfl;by_cases b0:i<n
    ·obtain⟨f,hf⟩:∃f,fs[i]? = some f:=⟨_,List.getElem?_eq_getElem (by rw[<-hn.out];exact b0)⟩
     obtain⟨g,hg⟩:∃g,gs[i]? = some g:=⟨_,List.getElem?_eq_getElem (by rw[<-j0.out];exact b0)⟩
     obtain⟨b1,o1,rfl,k0,k1⟩:=Zu (hc.ext (v0.trans hE.out)) hf;obtain⟨b2,o2,rfl,k2,k3⟩:=Zu (hd.ext (v0.trans hE.out)) hg;have y0:=ZN6 f g;have f0:(0:Int)<=i:=by omega
     have hi1:(i:Int)<n:=by omega
     unfold strV at k0 k1 k2 k3;by_cases u0:f=g
     ·have z0:=ZA (show fs.take (i+1)=gs.take (i+1)by rw[ZAG hf,ZAG hg,e0.out,u0]);rw[decide_eq_true u0]at y0;obtain⟨f1,f2⟩:=f;obtain⟨g1,g2⟩:=g;simp only at k0 k1 k2 k3 y0;clear hf hg u0;go_wp2_with fail;go_quiet (fail);go_wp2_with fail;go_roundw
      case rel=>exact⟨i+1,by go_num,by omega,z0,ZA (by first | exact hE.out.drew | exact hE.out.drewN _)⟩
      case measure=>simp[intOf];omega
     ·obtain rfl:z=false:=q0.out (fun h=>u0 (by rw[h,hg]at hf;exact(Option.some.inj hf).symm));rw[decide_eq_false u0]at y0;obtain⟨f1,f2⟩:=f;obtain⟨g1,g2⟩:=g;simp only at k0 k1 k2 k3 y0;clear hf hg u0;go_wp2_with fail;go_quiet (fail);go_wp2_with fail;go_ret;exact⟨rfl,by first | exact v0.trans hE.out.drew | exact v0.trans (hE.out.drewN _)⟩
    ·obtain rfl:z=true:=p0.out (by
      have h:=e0.out;rw[List.take_of_length_le (by rw[<-hn.out];omega),List.take_of_length_le (by rw[<-j0.out];omega)]at h;exact h)
     go_wp2_with fail;go_ret;exact⟨rfl,v0.trans hE.out⟩
theorem ZGD:∀ {fs:List Fd},(∀f∈fs,f.1.length<=32/\f.2.length<=4096)->sizeFs fs<=5000*fs.length
 | [],_=>by simp[sizeFs]
 | f::fs,h=>by
  have h1:=ZGD (fs:=fs) fun x hx=>h x (by simp[hx]);have hf:=h f (by simp);have h5:sizeFs (f::fs)=f.1.length+f.2.length+sizeFs fs:=by unfold sizeFs;rw[List.map_cons,List.sum_cons];rfl
  rw[h5,List.length_cons];omega
def Own8 (w:World) (base:Nat) (A:Option Addr) (n c:Nat) (l:List UInt8):Prop:=n=l.length/\Buf w base 5 A n c (l.map B8)
theorem Own8.nil_ {w:World} {base:Nat} {A:Option Addr} {n c:Nat} {l:List UInt8} (h:Own8 w base A n c l):A=none->c=0:=fun hA=>by
 obtain⟨_,_,_,h3⟩:=h;rcases h3 with ⟨_,h3⟩ | ⟨g,cur,hB,_⟩
 ·exact h3
 ·rw[hA]at hB;cases hB
theorem NewB.own {w w0 w':World} {l:List UInt8} {e:Ending} (h:NewB w l e w') (hb:w0.heap.size<=w.heap.size):∃A c,e = .returned (.slice A l.length c)/\Own8 w' w0.heap.size A l.length c l/\Ext w w':=by
 obtain⟨A,c,he,h0,hE⟩:=h;exact⟨A,c,he,⟨rfl,h0.lower hb⟩,hE⟩
theorem ZX {m:Nat} (h:m<18446744073709551616):IntKind.u64.wrap (m:Int)=(m:Int):=by
 simp[IntKind.wrap,IntKind.bits,IntKind.signed];omega
theorem ZEq {fs:List Fd} {i:Nat} {f:Fd} (h:fs[i]? = some f):putFs (fs.take (i+1))=putFs (fs.take i)++txL f.1++txL f.2:=by
 unfold putFs;rw[ZAG h,List.flatMap_append];simp[putF]
theorem ZBg {fs:List Fd} (h:∀f∈fs,f.1.length<=32/\f.2.length<=4096) (i:Nat):(putFs (fs.take i)).length<=5000*fs.length:=by
 have h1:=ZGQ (fs:=fs.take i) fun f hf=>h f (List.mem_of_mem_take hf);have h2:=ZGD (fs:=fs.take i) fun f hf=>h f (List.mem_of_mem_take hf);have h3:=List.length_take_le i fs;have h4:∀ {gs:List Fd},(∀f∈gs,f.1.length<=32/\f.2.length<=4096)->sizeFs gs<=4128*gs.length:=by
  intro gs
  induction gs with
  | nil=>intro _;simp[sizeFs]
  | cons f gs ih =>
   intro h;have h1:=ih fun x hx=>h x (by simp[hx]);have hf:=h f (by simp);have h5:sizeFs (f::gs)=f.1.length+f.2.length+sizeFs gs:=by unfold sizeFs;rw[List.map_cons,List.sum_cons];rfl
   rw[h5,List.length_cons];omega
 have h5:=h4 (gs:=fs.take i) fun f hf=>h f (List.mem_of_mem_take hf);have h6:(fs.take i).length<=fs.length:=by rw[List.length_take];omega
 omega
theorem ZKZ (A:Option Addr) (n c:Nat) (l:List UInt8) (e:Ev) (B:Option Addr) (d:Nat) (w:World) (hn:n=l.length) (hl:Bs w A l) (hz:A=none->c=0) (b2:n<=100000000) (h:e.Ok w B) (hk:checkE e.fs=0) (ha:I64ok' e.at_) :
 Calls Tryz.prog 174 #[.slice A n c,e.val B d] w fun en w'=>NewB w (l++putE e) en w':=by
 obtain⟨s1,f0⟩:=Zd hk;have i0:l++putE e=(l++vb (zig e.at_)++vb e.fs.length)++putFs (e.fs.take e.fs.length):=by unfold putE;rw[List.take_length];simp
 rw[i0];obtain⟨at_,fs⟩:=e;obtain⟨hc,_,_⟩:=h;unfold Ev.val;simp only at hc s1 f0 ha ⊢;have g1:=ZBg f0;obtain⟨m,hm⟩:∃m,m=fs.length:=⟨_,rfl⟩
 rw[<-hm]at s1 g1 ⊢;obtain⟨W,hW⟩:∃W,W=w.alloc (.cells #[.int .i64 at_,.slice B m d] 37):=⟨_,rfl⟩
 have y0:Ext w W:=by rw[hW];exact(Ext.refl w).alloc _
 have hr:Row W w.heap.size 37 #[.int .i64 at_,.slice B m d]:=by rw[hW];exact Row.new w _ _
 obtain⟨b,hb⟩:∃b,b=w.heap.size:=⟨_,rfl⟩
 rw[<-hb]at hr;have q2:=ZAt (ZBB ha.1 ha.2);have m1:=ZAt (n:=m) (by omega);obtain⟨L1,l0⟩:∃L1,L1=l++vb (zig at_):=⟨_,rfl⟩
 obtain⟨L2,n0⟩:∃L2,L2=L1++vb m:=⟨_,rfl⟩
 have i1:L1.length<=100000010:=by rw[l0,List.length_append];omega
 have x2:L2.length<=100000020:=by rw[n0,List.length_append];omega
 rw[<-l0,<-n0];have b1:W.cell? ⟨b,0,none⟩=some (.int .i64 at_)/\W.cell? ⟨b,1,none⟩=some (.slice B m d)/\Ext W W:=⟨hr.cell 0 rfl,hr.cell 1 rfl,Ext.refl W⟩
 have r0:W.drew.cell? ⟨b,0,none⟩=some (.int .i64 at_)/\W.drew.cell? ⟨b,1,none⟩=some (.slice B m d)/\Ext W W.drew:=⟨hr.cell 0 rfl,hr.cell 1 rfl,(Ext.refl W).drew⟩
 have p1:∀x,(x.cell? ⟨b,0,none⟩=some (.int .i64 at_)/\x.cell? ⟨b,1,none⟩=some (.slice B m d)/\Ext W x)->Calls Tryz.prog 88 #[.slice A n c,.int .i64 at_] x fun e y=>∃A1 c1,e = .returned (.slice A1 L1.length c1)/\Own8 y w.heap.size A1 L1.length c1 L1/\(y.cell? ⟨b,0,none⟩=some (.int .i64 at_)/\y.cell? ⟨b,1,none⟩=some (.slice B m d)/\Ext W y):=fun x ⟨h0,h1,hE⟩ =>
  (ZCM A n c at_ l x hn (hl.ext (y0.trans hE)) hz (by omega) ha.1 ha.2).mono fun e y hy=>by
   obtain⟨A1,c1,he,t0,j0⟩:=NewB.own hy (y0.trans hE).size;rw[<-l0]at he t0;exact⟨A1,c1,he,t0,j0.cell h0,j0.cell h1,hE.trans j0⟩
 have j1:∀x A1 c1,Own8 x w.heap.size A1 L1.length c1 L1->(x.cell? ⟨b,0,none⟩=some (.int .i64 at_)/\x.cell? ⟨b,1,none⟩=some (.slice B m d)/\Ext W x)->Calls Tryz.prog 78 #[.slice A1 L1.length c1,.int .u64 (m:Int)] x fun e y=>∃A2 c2,e = .returned (.slice A2 L2.length c2)/\Own8 y w.heap.size A2 L2.length c2 L2/\(y.cell? ⟨b,0,none⟩=some (.int .i64 at_)/\y.cell? ⟨b,1,none⟩=some (.slice B m d)/\Ext W y):=fun x A1 c1 t0 ⟨h0,h1,hE⟩ =>
  (ZA3 A1 L1.length c1 m L1 x rfl t0.2.cells t0.nil_ (by omega) (by omega)).mono fun e y hy=>by
   obtain⟨A2,c2,he,x0,j0⟩:=NewB.own hy (y0.trans hE).size;rw[<-n0]at he x0;exact⟨A2,c2,he,x0,j0.cell h0,j0.cell h1,hE.trans j0⟩
 replace p1:=ZA p1;replace j1:=ZA j1;replace b1:=ZA b1;replace r0:=ZA r0;have e2:=ZX (m:=m) (by omega);replace hW:=ZA hW;replace hm:=ZA hm;replace f0:=ZA f0;replace g1:=ZA g1;replace hb:=ZA hb;clear l0 n0 i0 q2 m1 hl hz hn;go_enter Tryz.func174,Tryz.ntmps174;go_wp2_with fail;rw[<-hW.out,<-hb.out];refine wp_region_held_drew (S:=fun x=>x.cell? ⟨b,0,none⟩=some (.int .i64 at_)/\x.cell? ⟨b,1,none⟩=some (.slice B m d)/\Ext W x) (by kernel_rfl) r0.out (fun u0=>?_);refine wpAnyH_take (i:=0) (v:= .slice A n c) rfl (by kernel_rfl) (by kernel_rfl) (by kernel_rfl) (fun _ _ _ h=>h) (Or.inl ⟨by rfl,?_⟩) (by assumption) ?_
 ·intro w' q0
  (try dsimp only at q0)
  obtain⟨z1,z2,z3⟩:=q0;go_simp
  try with_reducible rfl
  all_goals omega
 (try simp only[Act.put,List.setIfInBounds_toArray,List.set_cons_zero,List.set_cons_succ,List.getElem_toArray,List.getElem_cons_zero,List.getElem_cons_succ])
 refine wpAnyH_take (i:=1) (v:= .pointer (some ⟨b,0,none⟩)) rfl (by kernel_rfl) (by kernel_rfl) (by kernel_rfl) (fun _ _ _ h=>h) (Or.inl ⟨by rfl,?_⟩) (by assumption) ?_
 ·intro w' q0
  (try dsimp only at q0)
  obtain⟨z1,z2,z3⟩:=q0;go_simp
  try with_reducible rfl
  all_goals omega
 (try simp only[Act.put,List.setIfInBounds_toArray,List.set_cons_zero,List.set_cons_succ,List.getElem_toArray,List.getElem_cons_zero,List.getElem_cons_succ])
 refine wpAnyH_take (i:=2) (v:= .int .i64 at_) rfl (by kernel_rfl) (by kernel_rfl) (by kernel_rfl) (fun _ _ _ h=>h) (Or.inl ⟨by rfl,?_⟩) (by assumption) ?_
 ·intro w' q0
  (try dsimp only at q0)
  obtain⟨z1,z2,z3⟩:=q0;go_simp
  try with_reducible rfl
  all_goals omega
 (try simp only[Act.put,List.setIfInBounds_toArray,List.set_cons_zero,List.set_cons_succ,List.getElem_toArray,List.getElem_cons_zero,List.getElem_cons_succ])
 refine wpAnyH_take (i:=4) (v:= .pointer (some ⟨b,1,none⟩)) rfl (by kernel_rfl) (by kernel_rfl) (by kernel_rfl) (fun _ _ _ h=>h) (Or.inl ⟨by rfl,?_⟩) (by assumption) ?_
 ·intro w' q0
  (try dsimp only at q0)
  obtain⟨z1,z2,z3⟩:=q0;go_simp
  try with_reducible rfl
  all_goals omega
 (try simp only[Act.put,List.setIfInBounds_toArray,List.set_cons_zero,List.set_cons_succ,List.getElem_toArray,List.getElem_cons_zero,List.getElem_cons_succ])
 refine wpAnyH_take (i:=5) (v:= .slice B m d) rfl (by kernel_rfl) (by kernel_rfl) (by kernel_rfl) (fun _ _ _ h=>h) (Or.inl ⟨by rfl,?_⟩) (by assumption) ?_
 ·intro w' q0
  (try dsimp only at q0)
  obtain⟨z1,z2,z3⟩:=q0;go_simp
  try with_reducible rfl
  all_goals omega
 (try simp only[Act.put,List.setIfInBounds_toArray,List.set_cons_zero,List.set_cons_succ,List.getElem_toArray,List.getElem_cons_zero,List.getElem_cons_succ])
 refine wpAnyH_take (i:=6) (v:= .int .i64 (m:Int)) rfl (by kernel_rfl) (by kernel_rfl) (by kernel_rfl) (fun _ _ _ h=>h) (Or.inl ⟨by rfl,?_⟩) (by assumption) ?_
 ·intro w' q0
  (try dsimp only at q0)
  obtain⟨z1,z2,z3⟩:=q0;go_simp
  try with_reducible rfl
  all_goals omega
 (try simp only[Act.put,List.setIfInBounds_toArray,List.set_cons_zero,List.set_cons_succ,List.getElem_toArray,List.getElem_cons_zero,List.getElem_cons_succ])
 refine wpAnyH_take (i:=7) (v:= .int .u64 (m:Int)) rfl (by kernel_rfl) (by kernel_rfl) (by kernel_rfl) (fun _ _ _ h=>h) (Or.inl ⟨by rfl,?_⟩) (by assumption) ?_
 ·intro w' q0
  (try dsimp only at q0)
  obtain⟨z1,z2,z3⟩:=q0;go_simp
  try with_reducible rfl
  all_goals omega
 (try simp only[Act.put,List.setIfInBounds_toArray,List.set_cons_zero,List.set_cons_succ,List.getElem_toArray,List.getElem_cons_zero,List.getElem_cons_succ])
 refine wpAnyH_ready (rs:= [3]) (by kernel_rfl) (by simp) ?_;refine AllReadyH.cons rfl (fun K hK=>?_) AllReadyH.nil
 (first | go_at_call 88 | (go_simp;go_at_call 88));(refine(p1.out _ ‹_›).mono ?_;rintro en w3 ⟨A1,c1,rfl,t0,z0⟩)
 refine hK.out _ _ ?_ (fun g0=>?_)
 ·exact z0
 clear hK K
 (try simp only[Act.put,List.setIfInBounds_toArray,List.set_cons_zero,List.set_cons_succ,List.getElem_toArray,List.getElem_cons_zero,List.getElem_cons_succ])
 refine wpAnyH_ready (rs:= [8]) (by kernel_rfl) (by simp) ?_;refine AllReadyH.cons rfl (fun K hK=>?_) AllReadyH.nil
 (first | go_at_call 78 | (go_simp;go_at_call 78));(refine(j1.out _ _ _ t0 z0).mono ?_;rintro en w4 ⟨A2,c2,rfl,x0,p0⟩)
 refine hK.out _ _ ?_ (fun m0=>?_)
 ·exact p0
 clear hK K
 (try simp only[Act.put,List.setIfInBounds_toArray,List.set_cons_zero,List.set_cons_succ,List.getElem_toArray,List.getElem_cons_zero,List.getElem_cons_succ])
 refine wpAnyH_take (i:=9) (v:= .slice A2 L2.length c2) rfl (by kernel_rfl) (by kernel_rfl) (by kernel_rfl) (fun _ _ _ h=>h) (Or.inl ⟨by rfl,?_⟩) (by assumption) ?_
 ·intro w' q0
  (try dsimp only at q0)
  obtain⟨z1,z2,z3⟩:=q0;go_simp
  try with_reducible rfl
  all_goals omega
 (try simp only[Act.put,List.setIfInBounds_toArray,List.set_cons_zero,List.set_cons_succ,List.getElem_toArray,List.getElem_cons_zero,List.getElem_cons_succ])
 refine wpAnyH_done (by kernel_rfl) ?_ _;clear u0 g0 m0 z0 t0 p1 j1 b1 r0;have v0:Ext W w4:=p0.2.2;have y1:w4.cell? ⟨b,1,none⟩=some (.slice B m d):=p0.2.1;have m2:w.heap.size<=w4.heap.size:=(y0.trans v0).size;replace x0:=ZA x0;replace v0:=ZA v0;clear p0;go_wp2_with fail
 go_loopw [0,19] (fun s0 s19 wr=>∃(i n4 c4:Nat) (A4:Option Addr) (L:List UInt8),s19 = .int .i64 (i:Int)/\s0 = .slice A4 n4 c4/\i<=m/\n4<=100100000/\Hid (L=L2++putFs (fs.take i))/\Hid (Own8 wr w.heap.size A4 n4 c4 L)/\Hid (Ext w4 wr)) (fun _ s19 _=>m - (intOf s19).toNat)
 case atStart=>exact⟨0,L2.length,c2,A2,L2,rfl,rfl,by omega,by omega,ZA (by simp[putFs]),x0,ZA (Ext.refl w4)⟩
 case round =>
  obtain⟨i,n4,c4,A4,L,rfl,rfl,hi,d2,hL,w0,hE⟩:=hrel;by_cases him:i<m
  ·obtain⟨f,hf⟩:∃f,fs[i]? = some f:=⟨_,List.getElem?_eq_getElem (by rw[<-hm.out];exact him)⟩
   obtain⟨g,o,rfl,k0,k1⟩:=Zu (((hc.ext y0).ext v0.out).ext hE.out) hf;have i1:=f0.out f (List.mem_of_getElem? hf);have r1:=ZEq hf;obtain⟨nm,tx⟩:=f;unfold strV at k0 k1;simp only at k0 k1 i1 r1;obtain⟨k2,j2⟩:=i1;obtain⟨g2,q1⟩:∃g2,g2=wr.heap.size:=⟨_,rfl⟩
   obtain⟨Wf,d0⟩:∃Wf,Wf=wr.alloc (.cells #[.string ⟨nm.toArray⟩,.string ⟨tx.toArray⟩] 105):=⟨_,rfl⟩
   have v1:Ext wr Wf:=by rw[d0];exact(Ext.refl wr).alloc _
   have o1:Row Wf g2 105 #[.string ⟨nm.toArray⟩,.string ⟨tx.toArray⟩]:=by rw[d0,q1];exact Row.new wr _ _
   obtain⟨L5,o0⟩:∃L5,L5=L++txL nm:=⟨_,rfl⟩
   obtain⟨L6,x1⟩:∃L6,L6=L5++txL tx:=⟨_,rfl⟩
   have a1:L.length=n4:=w0.out.1.symm;have t2:=ZBj (s:=nm) (by omega);have v2:=ZBj (s:=tx) (by omega);have y2:L5.length<=100200000:=by rw[o0,List.length_append];omega
   have c0:Hid (L6=L2++putFs (fs.take (i+1))):=ZA (by rw[x1,o0,hL.out,r1];simp);have a2:L6.length<=100100000:=by
    rw[c0.out,List.length_append];have:=g1.out (i+1);omega
   have t1:Ext w Wf:=(y0.trans v0.out).trans (hE.out.trans v1);have d1:Wf.drew.cell? ⟨g2,0,none⟩=some (.string ⟨nm.toArray⟩)/\Wf.drew.cell? ⟨g2,1,none⟩=some (.string ⟨tx.toArray⟩)/\Ext Wf Wf.drew:=⟨o1.cell 0 rfl,o1.cell 1 rfl,(Ext.refl Wf).drew⟩
   have e0:Buf Wf w.heap.size 5 A4 n4 c4 (L.map B8):=w0.out.2.ext v1;have l1:∀x,(x.cell? ⟨g2,0,none⟩=some (.string ⟨nm.toArray⟩)/\x.cell? ⟨g2,1,none⟩=some (.string ⟨tx.toArray⟩)/\Ext Wf x)->Calls Tryz.prog 147 #[.slice A4 n4 c4,.string ⟨nm.toArray⟩] x fun e y=>∃A5 c5,e = .returned (.slice A5 L5.length c5)/\Own8 y w.heap.size A5 L5.length c5 L5/\(y.cell? ⟨g2,0,none⟩=some (.string ⟨nm.toArray⟩)/\y.cell? ⟨g2,1,none⟩=some (.string ⟨tx.toArray⟩)/\Ext Wf y):=fun x ⟨h0,h1,hE⟩ =>
    (ZBx A4 n4 c4 L nm x a1.symm (e0.cells.ext hE) w0.out.nil_ (by omega) (by omega)).mono fun e y hy=>by
     obtain⟨A1,c1,he,t0,j0⟩:=NewB.own hy (t1.trans hE).size;rw[<-o0]at he t0;exact⟨A1,c1,he,t0,j0.cell h0,j0.cell h1,hE.trans j0⟩
   have n1:∀x A5 c5,Own8 x w.heap.size A5 L5.length c5 L5->(x.cell? ⟨g2,0,none⟩=some (.string ⟨nm.toArray⟩)/\x.cell? ⟨g2,1,none⟩=some (.string ⟨tx.toArray⟩)/\Ext Wf x)->Calls Tryz.prog 147 #[.slice A5 L5.length c5,.string ⟨tx.toArray⟩] x fun e y=>∃A6 c6,e = .returned (.slice A6 L6.length c6)/\Own8 y w.heap.size A6 L6.length c6 L6/\(y.cell? ⟨g2,0,none⟩=some (.string ⟨nm.toArray⟩)/\y.cell? ⟨g2,1,none⟩=some (.string ⟨tx.toArray⟩)/\Ext Wf y):=fun x A5 c5 t0 ⟨h0,h1,hE⟩ =>
    (ZBx A5 L5.length c5 L5 tx x rfl t0.2.cells t0.nil_ (by omega) (by omega)).mono fun e y hy=>by
     obtain⟨A2,c2,he,x0,j0⟩:=NewB.own hy (t1.trans hE).size;rw[<-x1]at he x0;exact⟨A2,c2,he,x0,j0.cell h0,j0.cell h1,hE.trans j0⟩
   have u2:(0:Int)<=i:=by omega
   have hi1:(i:Int)<m:=by omega
   have u1:=ZA (hE.out.trans v1);replace l1:=ZA l1;replace n1:=ZA n1;replace d1:=ZA d1;replace q1:=ZA q1;replace a1:=ZA a1;replace d0:=ZA d0;clear hf o0 x1 r1 t2 v2 o1 t1 e0;go_wp2_with fail;rw[<-d0.out,<-q1.out];refine wp_region_held_drew (S:=fun x=>x.cell? ⟨g2,0,none⟩=some (.string ⟨nm.toArray⟩)/\x.cell? ⟨g2,1,none⟩=some (.string ⟨tx.toArray⟩)/\Ext Wf x) (by kernel_rfl) d1.out (fun u0=>?_);refine wpAnyH_take (i:=0) (v:= .slice A4 n4 c4) rfl (by kernel_rfl) (by kernel_rfl) (by kernel_rfl) (fun _ _ _ h=>h) (Or.inl ⟨by rfl,?_⟩) (by assumption) ?_
   ·intro w' q0
    (try dsimp only at q0)
    obtain⟨z1,z2,z3⟩:=q0;go_simp
    try with_reducible rfl
    all_goals omega
   (try simp only[Act.put,List.setIfInBounds_toArray,List.set_cons_zero,List.set_cons_succ,List.getElem_toArray,List.getElem_cons_zero,List.getElem_cons_succ])
   refine wpAnyH_take (i:=1) (v:= .pointer (some ⟨g2,0,none⟩)) rfl (by kernel_rfl) (by kernel_rfl) (by kernel_rfl) (fun _ _ _ h=>h) (Or.inl ⟨by rfl,?_⟩) (by assumption) ?_
   ·intro w' q0
    (try dsimp only at q0)
    obtain⟨z1,z2,z3⟩:=q0;go_simp
    try with_reducible rfl
    all_goals omega
   (try simp only[Act.put,List.setIfInBounds_toArray,List.set_cons_zero,List.set_cons_succ,List.getElem_toArray,List.getElem_cons_zero,List.getElem_cons_succ])
   refine wpAnyH_take (i:=2) (v:= .string ⟨nm.toArray⟩) rfl (by kernel_rfl) (by kernel_rfl) (by kernel_rfl) (fun _ _ _ h=>h) (Or.inl ⟨by rfl,?_⟩) (by assumption) ?_
   ·intro w' q0
    (try dsimp only at q0)
    obtain⟨z1,z2,z3⟩:=q0;go_simp
    try with_reducible rfl
    all_goals omega
   (try simp only[Act.put,List.setIfInBounds_toArray,List.set_cons_zero,List.set_cons_succ,List.getElem_toArray,List.getElem_cons_zero,List.getElem_cons_succ])
   refine wpAnyH_take (i:=4) (v:= .pointer (some ⟨g2,1,none⟩)) rfl (by kernel_rfl) (by kernel_rfl) (by kernel_rfl) (fun _ _ _ h=>h) (Or.inl ⟨by rfl,?_⟩) (by assumption) ?_
   ·intro w' q0
    (try dsimp only at q0)
    obtain⟨z1,z2,z3⟩:=q0;go_simp
    try with_reducible rfl
    all_goals omega
   (try simp only[Act.put,List.setIfInBounds_toArray,List.set_cons_zero,List.set_cons_succ,List.getElem_toArray,List.getElem_cons_zero,List.getElem_cons_succ])
   refine wpAnyH_take (i:=5) (v:= .string ⟨tx.toArray⟩) rfl (by kernel_rfl) (by kernel_rfl) (by kernel_rfl) (fun _ _ _ h=>h) (Or.inl ⟨by rfl,?_⟩) (by assumption) ?_
   ·intro w' q0
    (try dsimp only at q0)
    obtain⟨z1,z2,z3⟩:=q0;go_simp
    try with_reducible rfl
    all_goals omega
   (try simp only[Act.put,List.setIfInBounds_toArray,List.set_cons_zero,List.set_cons_succ,List.getElem_toArray,List.getElem_cons_zero,List.getElem_cons_succ])
   refine wpAnyH_ready (rs:= [3]) (by kernel_rfl) (by simp) ?_;refine AllReadyH.cons rfl (fun K hK=>?_) AllReadyH.nil
   (first | go_at_call 147 | (go_simp;go_at_call 147));(refine(l1.out _ ‹_›).mono ?_;rintro en w5 ⟨A5,c5,rfl,w1,z0⟩)
   refine hK.out _ _ ?_ (fun g0=>?_)
   ·exact z0
   clear hK K
   (try simp only[Act.put,List.setIfInBounds_toArray,List.set_cons_zero,List.set_cons_succ,List.getElem_toArray,List.getElem_cons_zero,List.getElem_cons_succ])
   refine wpAnyH_ready (rs:= [6]) (by kernel_rfl) (by simp) ?_;refine AllReadyH.cons rfl (fun K hK=>?_) AllReadyH.nil
   (first | go_at_call 147 | (go_simp;go_at_call 147));(refine(n1.out _ _ _ w1 z0).mono ?_;rintro en w6 ⟨A6,c6,rfl,e1,p0⟩)
   refine hK.out _ _ ?_ (fun m0=>?_)
   ·exact p0
   clear hK K
   (try simp only[Act.put,List.setIfInBounds_toArray,List.set_cons_zero,List.set_cons_succ,List.getElem_toArray,List.getElem_cons_zero,List.getElem_cons_succ])
   refine wpAnyH_take (i:=7) (v:= .slice A6 L6.length c6) rfl (by kernel_rfl) (by kernel_rfl) (by kernel_rfl) (fun _ _ _ h=>h) (Or.inl ⟨by rfl,?_⟩) (by assumption) ?_
   ·intro w' q0
    (try dsimp only at q0)
    obtain⟨z1,z2,z3⟩:=q0;go_simp
    try with_reducible rfl
    all_goals omega
   (try simp only[Act.put,List.setIfInBounds_toArray,List.set_cons_zero,List.set_cons_succ,List.getElem_toArray,List.getElem_cons_zero,List.getElem_cons_succ])
   refine wpAnyH_done (by kernel_rfl) ?_ _;have p2:=ZA (u1.out.trans p0.2.2);replace e1:=ZA e1;clear u0 g0 m0 z0 p0 w1;go_wp2_with fail;go_roundw
   case rel=>exact⟨i+1,L6.length,c6,A6,L6,by go_num,rfl,by omega,by omega,c0,e1,p2⟩
   case measure=>simp[intOf];omega
  ·obtain rfl:i=m:=by omega
   obtain⟨f1,h2⟩:=w0.out;have b0:=ZA ((y0.trans v0.out).trans hE.out);have a0:NewB w (L2++putFs (fs.take i)) (.returned (.slice A4 n4 c4)) wr:=⟨A4,c4,by rw[<-hL.out,f1],by rw[<-hL.out,<-f1];exact h2,b0.out⟩
   replace a0:=ZA a0;clear h2 f1;go_wp2_with fail;go_ret;exact a0.out
def joinL (ps:List (List UInt8)):List UInt8:=ps.flatMap frameL
theorem ZCN {p:List UInt8} (h:p.length<=16777216):(frameL p).length<=p.length+20:=by
 have h1:=ZD (n:=p.length) (by omega);have h2:(be4 (cnext 0 (vb p.length++p))).length=4:=rfl;unfold frameL;rw[List.length_append,List.length_append,h2];omega
theorem ZB3:∀ {ps:List (List UInt8)},(∀p∈ps,p.length<=16777216)->(joinL ps).length<=16777236*ps.length
 | [],_=>by simp[joinL]
 | p::ps,h=>by
  have h1:=ZCN (h p (List.mem_cons_self ..));have h2:=ZB3 (ps:=ps) fun q hq=>h q (List.mem_cons_of_mem _ hq);have h3:=h p (List.mem_cons_self ..);show (frameL p++joinL ps).length<=_;rw[List.length_append,List.length_cons];omega
theorem ZER {ps:List (List UInt8)} {i:Nat} {p:List UInt8} (h:ps[i]? = some p):joinL (ps.take (i+1))=joinL (ps.take i)++frameL p:=by
 unfold joinL;rw[List.take_add_one,h,List.flatMap_append];simp
def OkB' (w:World) (l:List UInt8) (e:Ending) (w':World):Prop:=∃A c,e = .returned (.tuple #[.slice A l.length c,.int .i64 0])/\Own8 w' w.heap.size A l.length c l/\Ext w w'
theorem ZLK (B:Option Addr) (k c2:Nat) (ps:List (Option Addr×Nat×List UInt8)) (w:World) (hk:k=ps.length) (hB:Cells w B (ps.map fun p=> .slice p.1 p.2.2.length p.2.1)) (m0:∀p∈ps,In8 w p.1 p.2.2.length p.2.1 p.2.2/\p.2.2.length<=16777216) (l0:k<=50) :
 Calls Tryz.prog 43 #[.slice B k c2] w fun e w'=>OkB' w (joinL (ps.map (·.2.2))) e w':=by
 have z0:=ZA (fun A n c l B m d p W h1 h2 h3 h4=>ZMk A n c l B m d p W h1 h2 h3 h4);obtain⟨P,hP⟩:∃P,P=ps.map (·.2.2):=⟨_,rfl⟩
 rw[<-hP];have v0:∀p∈P,p.length<=16777216:=fun p hp=>by
  rw[hP]at hp;obtain⟨q,hq,rfl⟩:=List.mem_map.1 hp;exact(m0 q hq).2
 have g0:P.length=k:=by rw[hP,List.length_map,hk]
 replace hk:=ZA hk;replace hB:=ZA hB;replace m0:=ZA m0;replace hP:=ZA hP;replace v0:=ZA v0;replace g0:=ZA g0;go_enter Tryz.func43,Tryz.ntmps43;go_wp2_with fail
 go_loopw [4,11] (fun s4 s11 wr=>∃(i n c:Nat) (A:Option Addr),s4 = .slice A n c/\s11 = .int .i64 (i:Int)/\i<=k/\n<=16777236*i/\Hid (Own8 wr w.heap.size A n c (joinL (P.take i)))/\Hid (Ext w wr)) (fun _ s11 _=>k - (intOf s11).toNat)
 case atStart=>exact⟨0,0,0,none,rfl,rfl,by omega,by omega,ZA ⟨rfl,Buf.nil _ _ _⟩,ZA (Ext.refl w)⟩
 case round =>
  obtain⟨i,n,c,A,rfl,rfl,hi,hn,ho,hE⟩:=hrel;by_cases i0:i<k
  ·obtain⟨x,hx⟩:∃x,ps[i]? = some x:=⟨_,List.getElem?_eq_getElem (by rw[<-hk.out];exact i0)⟩
   obtain⟨g,o,hA,c0⟩:=hB.out.at_ (by rw[List.length_map,<-hk.out];omega);subst hA;have d0:=hE.out.cell (c0 i _ (by rw[List.getElem?_map,hx];rfl));have q0:=m0.out x (List.mem_of_getElem? hx);have u0:P[i]? = some x.2.2:=by rw[hP.out,List.getElem?_map,hx];rfl
   have k0:=ZER u0;obtain⟨XA,xc,xl⟩:=x;simp only at d0 q0 k0;have f0:=ZCN q0.2;have x0:=ZB3 (ps:=P.take (i+1)) fun p hp=>v0.out p (List.mem_of_mem_take hp);have e0:(P.take (i+1)).length=i+1:=by rw[List.length_take,g0.out];omega
   rw[e0]at x0;obtain⟨L2,j0⟩:∃L2,L2=joinL (P.take (i+1)):=⟨_,rfl⟩
   rw[<-j0]at k0 x0;have p0:=z0.out A n c (joinL (P.take i)) XA xl.length xc xl wr (by have:=ho.out.2.in8;rwa [ho.out.1]at this ⊢) (q0.1.ext hE.out) (by omega) q0.2;rw[<-k0]at p0;obtain⟨m,hm⟩:∃m,m=xl.length:=⟨_,rfl⟩
   rw[<-hm]at p0 d0;have a0:=hE.out.size;replace p0:=ZA p0;replace hm:=ZA hm;replace hx:=ZA hx;replace q0:=ZA q0;replace u0:=ZA u0;replace k0:=ZA k0;replace j0:=ZA j0;clear c0 f0 e0;go_wp2_with fail;refine p0.out.mono ?_;rintro e w2 ⟨A2,c3,rfl,b0,t0⟩;have h0:Hid (Own8 w2 w.heap.size A2 L2.length c3 (joinL (P.take (i+1)))):=ZA (by rw[<-j0.out];exact⟨rfl,b0.lower a0⟩);obtain⟨n2,y0⟩:∃n2,n2=L2.length:=⟨_,rfl⟩
   rw[<-y0]at h0 x0 ⊢;replace y0:=ZA y0;replace t0:=ZA (hE.out.trans t0);clear b0;go_wp2_with fail;exact⟨⟨i+1,n2,c3,A2,rfl,rfl,by omega,by omega,h0,t0⟩,by simp only[intOf];omega⟩
  ·obtain rfl:i=k:=by omega
   have h0:=ho.out;rw[List.take_of_length_le (by rw[g0.out];exact Nat.le_refl _)]at h0;replace h0:=ZA h0;go_wp2_with fail;go_ret2;have hl:=h0.out.1;subst hl;exact⟨A,c,rfl,h0.out,hE.out⟩
theorem ZJr (A:Option Addr) (n c:Nat) (l:List UInt8) (e:Ev) (B:Option Addr) (d:Nat) (w:World) (hn:n=l.length) (hl:Bs w A l) (hz:A=none->c=0) (x0:n<=100000000) (h:e.Ok w B) (hk:checkE e.fs=0) (ha:I64ok' e.at_) :
 Calls Tryz.prog 133 #[.slice A n c,e.val B d] w fun en w'=>OkB' w (l++putE e) en w':=by
 obtain⟨W1,j0⟩:∃W1,W1=w.alloc (.cells #[.int .i64 e.at_,.slice B e.fs.length d] 37):=⟨_,rfl⟩
 obtain⟨g,hg⟩:∃g,g=w.heap.size:=⟨_,rfl⟩
 have hr:Row W1 g 37 #[.int .i64 e.at_,.slice B e.fs.length d]:=by rw[j0,hg];exact Row.new w _ _
 have g0:Ext w W1:=by rw[j0];exact(Ext.refl w).alloc _
 have t0:=ZA (ZBQ e B d W1 (h.ext g0));rw[hk]at t0;have h0:=ZA (fun W (hE:Ext w W)=>ZKZ A n c l e B d W hn (hl.ext hE) hz x0 (h.ext hE) hk ha);obtain⟨L,hL⟩:∃L,L=l++putE e:=⟨_,rfl⟩
 rw[<-hL]at h0 ⊢;unfold Ev.val at t0 h0 ⊢;have k0:=hr.cell 0 rfl;have k1:=hr.cell 1 rfl;replace hr:=ZA hr;replace g0:=ZA g0;replace j0:=ZA j0;replace hg:=ZA hg;replace hL:=ZA hL;replace hk:=ZA hk;replace h:=ZA h;replace hn:=ZA hn;replace hl:=ZA hl;clear hz;go_enter Tryz.func133,Tryz.ntmps133;go_upto_region 1 with (fail)
 rw[<-j0.out,<-hg.out];go_wp2_with fail;refine t0.out.mono ?_;rintro en w2 ⟨rfl,p0⟩;have r2:=hr.out.ext p0;have q0:=r2.cell 0 rfl;have q1:=r2.cell 1 rfl;replace r2:=ZA r2;replace p0:=ZA (g0.out.trans p0);go_wp2_with fail;refine(h0.out w2 p0.out).mono ?_;rintro en w3 u0;obtain⟨A3,c3,rfl,v0,m0⟩:=u0;have ho:=ZA (show Own8 w3 w.heap.size A3 L.length c3 L from⟨rfl,v0.lower p0.out.size⟩);replace m0:=ZA (p0.out.trans m0);clear v0;go_wp2_with fail;go_ret2;exact⟨A3,c3,rfl,ho.out,m0.out⟩
def timesD:Int->List Dc->List UInt8
 | _,[]=> []
 | a,d::t=>vb (zig (wrap64 (d.2.at_ - a)))++timesD d.2.at_ t
def lastAt:Int->List Dc->Int
 | a,[]=>a
 | _,d::t=>lastAt d.2.at_ t
def lowD:Int->List Dc->Int
 | m,[]=>m
 | m,d::t=>lowD (min m d.2.at_) t
def highD:Int->List Dc->Int
 | m,[]=>m
 | m,d::t=>highD (max m d.2.at_) t
def partD:List Dc->List Int
 | []=> [0,0,0,0,0]
 | d::t=> [lowD d.2.at_ (d::t),highD d.2.at_ (d::t),d.1,lastD d.1 t,((d::t).length:Int)]
def pairsD:Nat->List Dc->List (List UInt8×Po)
 | _,[]=> []
 | i,d::t=>(termsL d.2).map (fun p=>(p.1,((i:Int),p.2)))++pairsD (i+1) t
def rowsD (l:List Dc):List (List UInt8×List Po):=grp (pairsD 0 l)
def enOf:Nat->List (List UInt8×List Po)->List En
 | _,[]=> []
 | o,r::t=>⟨r.1,o,(encPs r.2).length,r.2.length⟩::enOf (o+(encPs r.2).length) t
def postB (rs:List (List UInt8×List Po)):List UInt8:=rs.flatMap fun r=>encPs r.2
def framesD (l:List Dc):List (List UInt8):= [encDs l,timesD 0 l,postB (rowsD l),encEs (enOf 0 (rowsD l)),ofB ((rowsD l).map (·.1)),vall (partD l)]
def segL (l:List Dc):List UInt8:= [76,83,69,71]++joinL (framesD l)
theorem ZCQ:∀(a b:List Dc) (x:Int),timesD x (a++b)=timesD x a++timesD (lastAt x a) b
 | [],b,x=>rfl
 | d::t,b,x=>by
  show _++timesD d.2.at_ (t++b)=(_++timesD d.2.at_ t)++_;rw[ZCQ t b,List.append_assoc];rfl
theorem ZCL:∀(a b:List Dc) (x:Int),lastAt x (a++b)=lastAt (lastAt x a) b
 | [],b,x=>rfl
 | d::t,b,x=>ZCL t b d.2.at_
theorem ZE2:∀(a b:List Dc) (x:Int),lowD x (a++b)=lowD (lowD x a) b
 | [],b,x=>rfl
 | d::t,b,x=>ZE2 t b _
theorem ZD4:∀(a b:List Dc) (x:Int),highD x (a++b)=highD (highD x a) b
 | [],b,x=>rfl
 | d::t,b,x=>ZD4 t b _
theorem ZAd:∀(a b:List Dc) (i:Nat),pairsD i (a++b)=pairsD i a++pairsD (i+a.length) b
 | [],b,i=>rfl
 | d::t,b,i=>by
  show _++pairsD (i+1) (t++b)=(_++pairsD (i+1) t)++_;rw[ZAd t b,List.append_assoc,List.length_cons,show i+1+t.length=i+(t.length+1)by omega]
theorem ZFd:∀(a b:List (List UInt8×List Po)) (o:Nat),enOf o (a++b)=enOf o a++enOf (o+(postB a).length) b
 | [],b,o=>rfl
 | r::t,b,o=>by
  show _::enOf _ (t++b)=_::enOf _ t++_;rw[ZFd t b];unfold postB;rw[List.flatMap_cons,List.length_append,Nat.add_assoc];rfl
theorem ZAm (a b:List (List UInt8×List Po)):postB (a++b)=postB a++postB b:=by unfold postB;rw[List.flatMap_append]
theorem ZC1 (n:Int) : -9223372036854775808<=wrap64 n/\wrap64 n<=9223372036854775807:=by
 unfold wrap64;omega
theorem ZBb:∀(l:List Dc) (a:Int),(timesD a l).length<=10*l.length
 | [],a=>by simp[timesD]
 | d::t,a=>by
  have h1:=ZBb t d.2.at_;have h2:=ZBB (ZC1 (d.2.at_ - a)).1 (ZC1 (d.2.at_ - a)).2;have h3:=ZD h2;unfold timesD;rw[List.length_append,List.length_cons];omega
end
section
open Go.RowKit
theorem Za:Fence.wide.depth=none:=rfl
theorem ZAw (f:FuncId):Fence.wide.fn f=True:=rfl
def NC (B:Nat) (W:World) (k:Nat):Prop:=B<=k/\∃o,W.heap[k]? = some o/\o.isCells=false
theorem NC.not_row {B:Nat} {W:World} {g:Nat} {t:TypeId} {cs:Array Value} (h:Row W g t cs):¬ NC B W g:=fun⟨_,o,ho,hc⟩=>by
 unfold Row at h;rw[h]at ho;injection ho with ho;subst ho;cases hc
def Alike (B:Nat) (W W':World):Prop:=Chg (NC B W) W W'
theorem Alike.refl (B:Nat) (W:World):Alike B W W:=Chg.refl _ _
theorem Alike.row {B:Nat} {W W':World} {g:Nat} {t:TypeId} {cs:Array Value} (h:Alike B W W') (hr:Row W g t cs):Row W' g t cs:=Chg.row h hr (NC.not_row hr)
theorem Alike.ext {B:Nat} {w W W':World} (h:Alike B W W') (hE:Ext w W) (hB:w.heap.size<=B):Ext w W':=hE.chg h fun i hi hn=>by have:=hn.1;omega
theorem Alike.owns {B:Nat} {W W':World} (h:Alike B W W') {base:Nat} {e:TypeId} {size:Nat} {v:Value} {n:Nat} {xs:List Value} (ho:W.ownsRow base e size v n xs):W'.ownsRow base e size v n xs :=
 Chg.owns h ho fun g hg=>by obtain⟨cur,hr,_⟩:=ZC ho hg;exact NC.not_row hr
theorem Alike.buf {B:Nat} {W W':World} (h:Alike B W W') {base:Nat} {e:TypeId} {A:Option Addr} {n c:Nat} {xs:List Value} (hb:Buf W base e A n c xs):Buf W' base e A n c xs :=
 hb.keep fun g hA=>by
  rcases hb.2.2 with ⟨h0,_⟩ | ⟨g',cur,q0,_,hr,_⟩
  ·rw[h0]at hA;cases hA
  ·rw[q0]at hA;cases hA;exact h.block _ hr.lt (NC.not_row hr)
theorem Alike.others {B:Nat} {W:World} {k:Nat} {o:Obj} (hk:W.heap[k]? = some o) (ho:o.isCells=false) (hB:B<=k) (o':Obj):Alike B W (W.putObj k o') :=
 ⟨rfl,rfl,rfl,by simp,fun j _ hn=>World.putObj_heap_other (fun e=>hn ⟨by omega,o,by rw[e];exact hk,ho⟩)⟩
def Iter {α:Type} (P:Program) (gf:Nat) (lb:Array Value) (encs:α->Array Value) (St:World->World->Prop) (Nx:List α->α->World->Prop) (Kp:World->World->Prop) (Fin:List α->World->World->Prop) (w:World):Prop :=
 ∀(l:Nat) (J:List α->World->Prop) (W:World),Ext w W->(∀pre A B,J pre A->St A B->J pre B) ->
  (∀pre x W1,J pre W1->Nx pre x W1->YieldAt Fence.wide 0 P l (encs x) W1 fun e W'=>e = .returned (.bool true)/\J (pre ++ [x]) W'/\Kp W1 W')->J [] W ->
  Calls P gf (#[.func (.yield l) #[] #[]]++lb) W fun e W'=>(∃v,e = .returned v)/\∃xs W2,J xs W2/\Fin xs W2 W'
def roundDone {α:Type} (Kp:World->World->Prop) (I:List α->World->Prop) (xs:List α) (W:World):Exit->Act->World->Prop
 | .normal,_,W'=>KeepsOthers W W'/\Kp W W'/\I xs W'
 | _,_,_=>False
def roundGo {α:Type} (B:Nat) (P:Program) (l:Nat) (body:Code) (Kp:World->World->Prop) (I:List α->World->Prop) (xs:List α) (W:World) (a:Act) (W1:World):Prop :=
 KeepsOthers W W1/\Kp W W1/\∀W2,Alike B W1 W2->body.wpIn (Fence.wide.inRound l) 0 P (roundDone Kp I xs W2) a W2
theorem ZBC {α:Type} {P:Program} {g:Operand} {ps:Array Tmp} {assign body:Code} {Q:Exit->Act->World->Prop} {a:Act} {w:World} {gf:Nat} {lb:Array Value}
 (hg:a.eval g = .func (.func gf) #[] lb) (eg:∀args w,(callFunc gf args).run P w = .ok (.enter gf args) w)
 {encs:α->Array Value} {St:World->World->Prop} {Nx:List α->α->World->Prop} {Kp:World->World->Prop} {Fin:List α->World->World->Prop} (s0:Iter P gf lb encs St Nx Kp Fin w)
 (j1:∀x,(encs x).size=ps.size) (e0:∀A B,St A B->KeepsOthers A B) (j0:∀xs A B,Fin xs A B->KeepsOthers A B)
 (u0:∀A B C,Kp A B->Kp B C->Kp A C) (d0:∀A B,Alike w.heap.size A B->Kp A B)
 (I:List α->World->Prop) (hI:∀pre A B,I pre A->Alike w.heap.size A B->I pre B) (i0:∀pre A B,I pre A->St A B->I pre B) (h0:∀W,Alike w.heap.size w W->I [] W)
 (k0:∀(l:Nat) (pre:List α) (x:α) (W:World),I pre W->Nx pre x W->assign.wpIn (Fence.wide.inRound l) 0 P (Exit.then (roundGo w.heap.size P l body Kp I (pre ++ [x]) W) (fun _ _ _=>False)) { tmps:=(ps.zip (encs x)).foldl (fun t (p,v)=>t.setIfInBounds p v) a.tmps,defers:= [] } W)
 (m0:∀(D:Nat) (xs:List α) (W2 W3 W4:World),w.heap.size<=D->I xs W2->Fin xs W2 W3->Alike w.heap.size W3 W4->W4.heap[D]? = some (.deferred (some []))->Q .normal { a with defers:= { target:= .collected D,args:=#[] }::a.defers } W4) :
 (Code.rangeFunc g ps assign body).wpIn Fence.wide 0 P Q a w:=by
 refine wpIn_rangeFunc ?_;intro fn o0;show ∃_,_;obtain⟨rec,q0⟩:∃rec:LoopState->Option Code->Loop,rec=fun st pe=> { state:=st,pending:=pe,fn,tmps:=a.tmps,params:=ps,assign,body,defers:=w.heap.size }:=⟨_,rfl⟩
 obtain⟨W1,v0⟩:∃W1,(w.alloc (.deferred (some []))).alloc (.loop (rec .ready none))=W1:=⟨_,rfl⟩
 have n0:W1.heap[w.heap.size+1]? = some (.loop (rec .ready none)):=by
  rw[<-v0];have:=World.alloc_heap_new (w.alloc (.deferred (some []))) (.loop (rec .ready none));rwa [World.size_alloc]at this
 have l0:W1.heap[w.heap.size]? = some (.deferred (some [])):=by
  rw[<-v0];exact(Below.heap_alloc _ _ _ (by simp)).trans (World.alloc_heap_new w _)
 have c0:Ext w W1:=by rw[<-v0];exact((Ext.refl w).alloc _).alloc _
 refine⟨w.heap.size+1,[{ target:= .collected w.heap.size,args:=#[] }],W1,{ target:= .fn (.func gf) lb,args:=#[.func (.yield (w.heap.size+1)) #[] #[]] },W1,gf,
  #[.func (.yield (w.heap.size+1)) #[] #[]]++lb,W1,?_,?_,?_,?_,fun h=>(by cases h),?_⟩
 ·rw[<-v0,q0];exact run_enterLoop_outer _ _ _ _ _
 ·simp only[resolve,hg];simp[go_sem]
 ·intro f' _;trivial
 ·simp[invoke,go_sem,eg]
 ·refine callsIn_wide.2 ((s0 (w.heap.size+1)
   (fun pre W=>I pre W/\W.heap[w.heap.size+1]? = some (.loop (rec .ready none))/\W.heap[w.heap.size]? = some (.deferred (some [])))
   W1 c0 (fun pre A B h hs=>⟨i0 pre A B h.1 hs,(e0 A B hs).same _ _ h.2.1 rfl,(e0 A B hs).same _ _ h.2.2 rfl⟩)
   ?_ ⟨h0 W1 (Chg.of_ext c0 _),n0,l0⟩).mono ?_)
  ·rintro pre x W ⟨hi,hl,hk⟩ k1;have g1:w.heap.size+1<W.heap.size:=(Array.getElem?_eq_some_iff.1 hl).1;have hy:=run_yield (P:=P) (args:=encs x) hl (by rw[q0];exact j1 x);rw[q0]at hy;refine⟨fn,_,assign,body,hy,roundIn_of_wpIn o0 ?_⟩;refine wpIn_mono (k0 _ pre x W hi k1) ?_;rintro e a1 W2 hq;cases e with
   | normal =>
    obtain⟨f0,q1,g0⟩:=hq;have p0:=f0.same _ _ hl rfl;have y0:=f0.same _ _ hk rfl;have b0:w.heap.size+1<W2.heap.size:=(Array.getElem?_eq_some_iff.1 p0).1;refine⟨W2.putObj (w.heap.size+1) (.loop { rec .ready none with state:= .busy }),run_beginRound p0 (by rw[q0]),?_⟩;have ha:=Alike.others (B:=w.heap.size) p0 rfl (by omega) (.loop { rec .ready none with state:= .busy });have p1:(W2.putObj (w.heap.size+1) (.loop { rec .ready none with state:= .busy })).heap[w.heap.size+1]? = some (.loop { rec .ready none with state:= .busy }):=World.putObj_heap_same b0;have w0:(W2.putObj (w.heap.size+1) (.loop { rec .ready none with state:= .busy })).heap[w.heap.size]? = some (.deferred (some [])):=(World.putObj_heap_other (by omega)).trans y0;refine wpIn_mono (g0 _ ha) ?_;rintro e a3 W3 hp;cases e with
    | normal =>
     obtain⟨t0,z0,r0⟩:=hp;have a0:=t0.same _ _ p1 rfl;have h1:=t0.same _ _ w0 rfl;have hr:=run_endRound (P:=P) none a0;rw[q0]at hr;have x0:=Alike.others (B:=w.heap.size) a0 rfl (by omega) (.loop (rec .ready none));rw[q0]at x0;refine⟨_,_,hr,rfl,⟨hI _ _ _ r0 x0,?_,?_⟩,u0 _ _ _ (u0 _ _ _ q1 (d0 _ _ ha)) (u0 _ _ _ z0 (d0 _ _ x0))⟩
     ·rw[q0];exact World.putObj_heap_same (Array.getElem?_eq_some_iff.1 a0).1
     ·exact(World.putObj_heap_other (by omega)).trans h1
    | ret=>exact hp.elim
    | exit id=>exact hp.elim
    | goto t=>exact hp.elim
    | panic ch=>exact hp.elim
    | outgrown=>exact hp.elim
   | ret=>exact hq.elim
   | exit id=>exact hq.elim
   | goto t=>exact hq.elim
   | panic ch=>exact hq.elim
   | outgrown=>exact hq.elim
  ·rintro e W2 ⟨⟨v,rfl⟩,xs,W3,⟨hi,hl,hk⟩,hf⟩;have p0:=(j0 _ _ _ hf).same _ _ hl rfl;have y0:=(j0 _ _ _ hf).same _ _ hk rfl;refine⟨none,_,by have:=run_endLoop (P:=P) p0 (by rw[q0];simp);rw[q0]at this;exact this,m0 _ xs W3 W2 _ (Nat.le_refl _) hi hf ?_ ((World.putObj_heap_other (by omega)).trans y0)⟩;rw[q0]at p0;exact Alike.others p0 rfl (by omega) _
section
variable {F:Fence} {n:Nat} {P:Program}
theorem ZBA {ops:Array Oper} {rest:List Oper} {o:Oper} {a:Act} {Q:Exit->Act->World->Prop} {w:World} {t e size bytes:Nat} (E:Elem P t e size bytes)
 {base:Nat} {v:Value} {k:Nat} {xs:List Value} {A:Option Addr} {m m' c:Nat} {news:List Value} (q0:w.ownsRow base e size v k xs) (hr:Cells w A news) (s x:Operand)
 (ho:o.op = .call { callee:= .builtin .append,args:=#[s,x],argTypes:=#[t,t] }) (j0:o.guard=none)
 (hs:a.eval s=v) (hx:a.eval x = .slice A m' c) (hm:m'=m) (hl:news.length=m*size) (h1:∀u∈news,u.oneCell'=true) (g0:k+m<=4294967296) (h0:base<=w.heap.size)
 (h:∀A1 c1 w',w'.ownsRow base e size (.slice A1 (k+m) c1) (k+m) (xs++news)->w.grownBy w' v.ownBlock->((Value.slice A1 (k+m) c1).ownBlock=v.ownBlock\/(Value.slice A1 (k+m) c1).ownBlock=some w.heap.size)->wpListIn F n P ops Q rest (a.put o.dst (.slice A1 (k+m) c1)) w'):wpListIn F n P ops Q (o::rest) a w :=
 wpListIn_plain j0 fun K hK=>by
  subst hm;obtain⟨A1,c1,w',p0,h2,h3,h4⟩:=ZBo (P:=P) E w o.type q0 (c:=c) hr hl h1 g0 h0;unfold Oper.wpIn;refine⟨by simp[Oper.about,ho,resolve,Target.leads,Sem.run_pure],?_⟩;rw[Oper.semAt_plain F _ _ (by rw[ho];intro c k0;cases k0)];unfold execOp;simp only[ho,resolve,invoke,builtin,Sem.run_bind,Sem.run_pure,Result.andThen_ok,List.map_toArray,List.map_cons,List.map_nil,hs,hx,p0];exact hK _ _ (h A1 c1 w' h2 h3 h4)
theorem Z3 {ops:Array Oper} {rest:List Oper} {o:Oper} {a:Act} {Q:Exit->Act->World->Prop} {w:World} {t e bytes:Nat} (E:Elem P t e 1 bytes)
 {base:Nat} {A B:Option Addr} {k c m m' c':Nat} {xs news:List Value} (hb:Buf w base e A k c xs) (hr:Cells w B news) (s x:Operand)
 (ho:o.op = .call { callee:= .builtin .append,args:=#[s,x],argTypes:=#[t,t] }) (j0:o.guard=none)
 (hs:a.eval s = .slice A k c) (hx:a.eval x = .slice B m' c') (hm:m'=m) (hl:news.length=m) (h1:∀u∈news,u.oneCell'=true) (g0:k+m<=4294967296) (h0:base<=w.heap.size)
 (h:∀A1 c1 w',Buf w' base e A1 (k+m) c1 (xs++news)->w.grownBy w' (Value.slice A k c).ownBlock->(∀w0,Ext w0 w->w0.heap.size<=base->Ext w0 w')->(A1=A\/A1=some ⟨w.heap.size,0,none⟩)->wpListIn F n P ops Q rest (a.put o.dst (.slice A1 (k+m) c1)) w'):wpListIn F n P ops Q (o::rest) a w :=
 wpListIn_plain j0 fun K hK=>by
  subst hm;obtain⟨A1,c1,w',q0,h2,h3,h4⟩:=ZFJ (P:=P) E w o.type hb (c':=c') hr hl h1 g0 h0;unfold Oper.wpIn;refine⟨by simp[Oper.about,ho,resolve,Target.leads,Sem.run_pure],?_⟩;rw[Oper.semAt_plain F _ _ (by rw[ho];intro c k0;cases k0)];unfold execOp;simp only[ho,resolve,invoke,builtin,Sem.run_bind,Sem.run_pure,Result.andThen_ok,List.map_toArray,List.map_cons,List.map_nil,hs,hx,q0];refine hK _ _ (h A1 c1 w' h2 h3 (fun w0 hE hw=>hE.grown h3 fun k hk=>?_) h4);have p0:=hb.base_le;cases A with
  | none=>simp[Value.ownBlock]at hk
  | some b =>
   have:=p0 b rfl;simp[Value.ownBlock]at hk;omega
end
theorem Zt {P:Program} {l n f:Nat} {args:Array Value} {w:World} {R:Ending->World->Prop} (h:Calls P f args w R):CallsIn (Fence.wide.inRound l) n P f args w R:=CallsIn.inRound l (callsIn_wide.2 h)
theorem ZDJ {P:Program} {fn:Func} {R:Ending->World->Prop} {a:Act} {w:World} {v:Value} (hd:a.defers = []) (hr:(results fn a.tmps).run P w = .ok v w) (h:R (.returned v) w):bodyPostM Fence.wide 0 P fn R .ret a w:=by
 show LeavesInM _ _ _ _ _ _ a.defers _ _;rw[hd];exact⟨v,hr,h⟩
theorem ZAO {P:Program} {fn:Func} {R:Ending->World->Prop} {a:Act} {w:World} {B D:Nat} (hd:a.defers = [{ target:= .collected D,args:=#[] }]) (hk:w.heap[D]? = some (.deferred (some []))) (hB:B<=D)
 (h:∀W,Alike B w W->∃v,(results fn a.tmps).run P W = .ok v W/\R (.returned v) W):bodyPostM Fence.wide 0 P fn R .ret a w:=by
 show LeavesInM _ _ _ _ _ _ a.defers _ _;rw[hd];exact⟨by simp,.inl ⟨D,_,rfl,run_takeDeferred hk,h _ (Alike.others hk rfl hB _)⟩⟩
theorem ZAF {w w':World} {base:Nat} {e:TypeId} {A:Option Addr} {k c:Nat} {xs:List Value} (hb:Buf w base e A k c xs) (hg:w.grownBy w' (Value.slice A k c).ownBlock):KeepsOthers w w' :=
 KeepsOthers.of_grownBy hg fun j o hj ho=>by
  rcases hb.2.2 with ⟨h0,_⟩ | ⟨g',cur,q0,_,hr,_⟩
  ·subst h0;simp[Value.ownBlock]at hj
  ·subst q0;simp[Value.ownBlock]at hj;subst hj;unfold Row at hr;rw[hr]at ho;injection ho with ho;subst ho;rfl
theorem Ext.others {w w':World} (h:Ext w w'):KeepsOthers w w':=⟨h.size,fun _ _ hk _=>h.block hk⟩
end
section
open Go.RowKit
def OwnB (w:World) (base:Nat) (l:List UInt8) (e:Ending) (w':World):Prop:=∃A c,e = .returned (.slice A l.length c)/\Own8 w' base A l.length c l/\Ext w w'
theorem Own8.ext {w w1:World} {base:Nat} {A:Option Addr} {n c:Nat} {l:List UInt8} (h:Own8 w base A n c l) (hE:Ext w w1):Own8 w1 base A n c l:=⟨h.1,h.2.ext hE⟩
theorem ZOH {z:Int} {q:Nat} (h:z=(q:Int)) (hq:q<18446744073709551616):IntKind.u64.wrap z=(q:Int):=by rw[h];exact ZX hq
theorem Zo {α:Type} {l:List α} {i:Nat} {x:α} (h:l[i]? = some x):l.drop i=x::l.drop (i+1):=by
 obtain⟨hi,rfl⟩:=List.getElem?_eq_some_iff.1 h;exact List.drop_eq_getElem_cons hi
theorem ZAS {n lo x:Int} {t:List Int} (h:risB n lo (x::t)=true):lo<x/\x<n/\risB n x t=true:=by
 unfold risB at h;rw[Bool.and_eq_true,Bool.and_eq_true]at h;exact⟨of_decide_eq_true h.1.1,of_decide_eq_true h.1.2,h.2⟩
theorem ZK8 (base:Nat) (A B:Option Addr) (n c k c2:Nat) (l:List UInt8) (last N:Int) (xs:List Int) (w:World) (hb:Own8 w base A n c l) (j0:base<=w.heap.size) (hk:k=xs.length) (hx:Cells w B (xs.map IV))
 (hr:risB N last xs=true) (g0 : -1<=last) (q0:last<=1099511627776) (hN:N<=1099511627776) (p1:n+10*k<=1000000000) :
 Calls Tryz.prog 84 #[.slice A n c,.int .i64 last,.slice B k c2] w fun e w'=>OwnB w base (l++stepsL last xs) e w':=by
 have c0:=ZA (fun A n c x l W h1 h2 h3 h4 h5=>ZA3 A n c x l W h1 h2 h3 h4 h5);obtain⟨Z,hZ⟩:∃Z,Z=l++stepsL last xs:=⟨_,rfl⟩
 rw[<-hZ];replace hZ:=ZA hZ;replace hb:=ZA hb;replace hk:=ZA hk;replace hx:=ZA hx;replace hr:=ZA hr;go_enter Tryz.func84,Tryz.ntmps84;go_wp2_with fail
 go_loopw [0,1,11] (fun s0 s1 s11 wr=>∃(i n1 c1:Nat) (A1:Option Addr) (L:List UInt8) (p:Int),s0 = .slice A1 n1 c1/\s1 = .int .i64 p/\s11 = .int .i64 (i:Int)/\i<=k /\ -1<=p/\p<=1099511627776/\n1<=n+10*i/\Hid (Z=L++stepsL p (xs.drop i))/\Hid (risB N p (xs.drop i)=true)/\Hid (Own8 wr base A1 n1 c1 L)/\Hid (Ext w wr)) (fun _ _ s11 _=>k - (intOf s11).toNat)
 case atStart=>exact⟨0,n,c,A,l,last,rfl,rfl,rfl,by omega,g0,q0,by omega,ZA (by rw[hZ.out];rfl),hr,hb,ZA (Ext.refl w)⟩
 case round =>
  obtain⟨i,n1,c1,A1,L,p,rfl,rfl,rfl,hi,j1,g1,k1,e0,q1,h0,hE⟩:=hrel;by_cases h:i<k
  ·obtain⟨x,m0⟩:∃x,xs[i]? = some x:=⟨_,List.getElem?_eq_getElem (by rw[<-hk.out];exact h)⟩
   obtain⟨g,o,hA,y0⟩:=hx.out.at_ (by rw[List.length_map,<-hk.out];omega);subst hA;have w0:=hE.out.cell (y0 i (IV x) (by rw[List.getElem?_map,m0];rfl));unfold IV at w0;have z0:=Zo m0;have p0:=q1.out;have u0:=e0.out;rw[z0]at p0 u0;obtain⟨m1,v1,k0⟩:=ZAS p0;obtain⟨q,hq⟩:∃q:Nat,(q:Int)=x - p - 1:=⟨(x - p - 1).toNat,by omega⟩
   have t1:=ZOH (z:=x - p - 1) hq.symm (by omega);have i0:q<18446744073709551616:=by omega
   have n0:Hid (Z=(L++vb q)++stepsL x (xs.drop (i+1))):=ZA (by
    rw[u0,List.append_assoc];show _++(vb (x - p - 1).toNat++_)=_;rw[<-hq];rfl)
   have a0:=ZD i0;have r0:=ZA (c0.out A1 n1 c1 q L wr h0.out.1 h0.out.2.cells (h0.out.nil_) (by omega) i0);have v0:L.length=n1:=h0.out.1.symm;have o0:=Nat.le_trans j0 hE.out.size;have hlen:(L++vb q).length<=n+10*(i+1):=by rw[List.length_append,v0];omega
   replace y0:=ZA y0;replace m0:=ZA m0;replace z0:=ZA z0;replace v0:=ZA v0;replace k0:=ZA k0;clear p0 u0 a0;replace hq:=ZA hq;go_wp2_with fail;refine r0.out.mono ?_;rintro e w2 l0;obtain⟨A2,c2,rfl,d0,t0⟩:=l0;have f0:Hid (Own8 w2 base A2 (L++vb q).length c2 (L++vb q)):=ZA ⟨rfl,d0.lower o0⟩;obtain⟨n2,b0⟩:∃n2,n2=(L++vb q).length:=⟨_,rfl⟩
   rw[<-b0]at f0 hlen ⊢;replace b0:=ZA b0;replace t0:=ZA (hE.out.trans t0);clear d0;go_wp2_with fail;exact⟨⟨i+1,n2,c2,A2,L++vb q,x,rfl,rfl,rfl,by omega,by omega,by omega,by omega,n0,k0,f0,t0⟩,by simp only[intOf];omega⟩
  ·obtain rfl:i=k:=by omega
   have x0:Z=L:=by rw[e0.out,List.drop_eq_nil_of_le (by rw[<-hk.out];exact Nat.le_refl _),stepsL,List.append_nil]
   replace x0:=ZA x0;go_wp2_with fail;go_ret;have ho:=h0.out;have hl:=ho.1;rw[x0.out];subst hl;exact⟨A1,c1,rfl,ho,hE.out⟩
end
section
open Go.RowKit
theorem Cells.part {w:World} {A:Option Addr} {xs:List Value} (h:Cells w A xs) (hA:∀a,A=some a->a.spot=none) (k m:Nat):Cells w (A.map fun a=>a.add k) ((xs.drop k).take m):=by
 rcases h with h | ⟨g,o,rfl,hc⟩
 ·subst h;exact .inl (by simp)
 ·refine .inr ⟨g,o+k,by rw[Option.map_some,Addr.add_lit],fun j v hv=>?_⟩;rw[List.getElem?_take]at hv;split at hv
  ·rw[List.getElem?_drop]at hv;have:=hc _ v hv
   rwa [Nat.add_assoc]
  ·cases hv
theorem Chg.others {S:Nat->Prop} {w w1:World} (h:Chg S w w1) (hS:∀k,S k->∃t cs,Row w k t cs):KeepsOthers w w1 :=
 ⟨h.size,fun k o hk ho=>(h.block k (Array.getElem?_eq_some_iff.1 hk).1 fun hs=>by
  obtain⟨t,cs,hr⟩:=hS k hs;unfold Row at hr;rw[hr]at hk;injection hk with hk;subst hk;cases ho).trans hk⟩
theorem ZAE {α:Type} {f:α->List Value} {k:Nat} (hf:∀x,(f x).length=k):∀(l:List α) (i:Nat),(l.drop i).flatMap f=(l.flatMap f).drop (i*k)
 | [],i=>by simp
 | x::l,0=>by simp
 | x::l,i+1=>by
  rw[List.drop_succ_cons,List.flatMap_cons,ZAE hf l i,Nat.succ_mul,Nat.add_comm,<-List.drop_drop,List.drop_left' (hf x)]
theorem Z4 {α:Type} {f:α->List Value} {k:Nat} (hf:∀x,(f x).length=k):∀(l:List α) (i:Nat),(l.take i).flatMap f=(l.flatMap f).take (i*k)
 | [],i=>by simp
 | x::l,0=>by simp
 | x::l,i+1=>by
  rw[List.take_succ_cons,List.flatMap_cons,Z4 hf l i,List.flatMap_cons,Nat.succ_mul,Nat.add_comm,show k+i*k=(f x).length+i*k by rw[hf x],List.take_length_add_append]
theorem ZJw {W:World} {b1 b2 k size n c:Nat} {e e2:TypeId} {A:Option Addr} {v:Value} {xs ys:List Value} (hb:Buf W b1 e A n c xs) (ho:W.ownsRow b2 e2 size v k ys) (q0:e2≠e):∀a,A=some a->v.ownBlock≠some a.block:=fun a ha=>by
 rcases hb.2.2 with ⟨h0,_⟩ | ⟨g,cur,hA,_,hr,_⟩
 ·rw[h0]at ha;cases ha
 ·rw[hA]at ha;cases ha;exact ZJ ho hr q0
theorem ZAL {w:World} {base:Nat} {e:TypeId} {size n c:Nat} {A:Option Addr} {xs:List Value} (h:w.ownsRow base e size (.slice A n c) n xs):n<=c/\∀a,A=some a->a.spot=none:=by
 rcases h.2 with ⟨hv,h0⟩ | ⟨g,cap,cur,hv,_,_,q0,_⟩
 ·injection hv with h1 h2 h3;subst h1 h3;exact⟨by omega,nofun⟩
 ·injection hv with h1 h2 h3;subst h1 h3;exact⟨q0,fun a ha=>by cases ha;rfl⟩
def HB (base h1 h2:Nat) (Hd Bd:List UInt8) (W:World):Prop:=∃(A1 A2:Option Addr) (c1 c2:Nat),Row W h1 25 #[.slice A1 Hd.length c1]/\Row W h2 25 #[.slice A2 Bd.length c2]/\Own8 W base A1 Hd.length c1 Hd/\Own8 W base A2 Bd.length c2 Bd/\∀a1 a2,A1=some a1->A2=some a2->a1.block≠a2.block
section
variable {base h1 h2:Nat} {Hd Bd:List UInt8} {W W1:World}
theorem HB.ext (h:HB base h1 h2 Hd Bd W) (hE:Ext W W1):HB base h1 h2 Hd Bd W1:=by
 obtain⟨A1,A2,c1,c2,r1,r2,o1,o2,h0⟩:=h;exact⟨A1,A2,c1,c2,r1.ext hE,r2.ext hE,o1.ext hE,o2.ext hE,h0⟩
theorem HB.alike {B:Nat} (h:HB base h1 h2 Hd Bd W) (hE:Alike B W W1):HB base h1 h2 Hd Bd W1:=by
 obtain⟨A1,A2,c1,c2,r1,r2,o1,o2,h0⟩:=h;exact⟨A1,A2,c1,c2,hE.row r1,hE.row r2,⟨o1.1,hE.buf o1.2⟩,⟨o2.1,hE.buf o2.2⟩,h0⟩
theorem HB.chg {S:Nat->Prop} (h:HB base h1 h2 Hd Bd W) (hE:Chg S W W1) (hS:∀k,S k->∃t cs,Row W k t cs/\t≠25/\t≠5):HB base h1 h2 Hd Bd W1:=by
 obtain⟨A1,A2,c1,c2,r1,r2,o1,o2,q0⟩:=h;have hn:∀ {g:Nat} {cs:Array Value},Row W g 25 cs->¬ S g:=fun hr hs=>by
  obtain⟨t,cs,h0,ht,_⟩:=hS _ hs;exact Row.unlike hr h0 (fun e=>ht e.symm) rfl
 have hb:∀ {A:Option Addr} {n c:Nat} {xs:List Value},Buf W base 5 A n c xs->∀a,A=some a->¬ S a.block:=fun hb a ha hs=>by
  obtain⟨t,cs,h0,_,ht⟩:=hS _ hs;exact hb.unlike h0 (fun e=>ht e.symm) a ha rfl
 exact⟨A1,A2,c1,c2,hE.row r1 (hn r1),hE.row r2 (hn r2),⟨o1.1,o1.2.chg hE (hb o1.2)⟩,⟨o2.1,o2.2.chg hE (hb o2.2)⟩,q0⟩
theorem HB.head {W6:World} {B1:Nat} {Hd':List UInt8} {A:Option Addr} {n c:Nat} (h:HB base h1 h2 Hd Bd W) (q0:h1≠h2) (hE:Ext W W6) (hn:n=Hd'.length) (hb:Buf W6 B1 5 A n c (Hd'.map B8)) (hB:W.heap.size<=B1) (h0:base<=B1) :
 HB base h1 h2 Hd' Bd (W6.setCell ⟨h1,0,none⟩ (.slice A n c)):=by
 subst hn;obtain⟨A1,A2,c1,c2,r1,r2,o1,o2,hd⟩:=h;have r16:=r1.ext hE;refine⟨A,A2,c,c2,r16.put 0 _,(r2.ext hE).away (fun e=>q0 e.symm) _,⟨rfl,(hb.lower h0).setCell (hb.unlike r16 (by decide)) _⟩,⟨o2.1,(o2.2.ext hE).setCell ((o2.2.ext hE).unlike r16 (by decide)) _⟩,fun a1 a2 e1 e2 e=>?_⟩;have h3:=hb.base_le a1 e1;have h4:=o2.2.lt a2 e2;omega
theorem HB.rows {W1:World} {A2:Option Addr} {c2:Nat} (h:HB base h1 h2 Hd Bd W) (h0:Row W h2 25 #[.slice A2 Bd.length c2]) (hg:W.grownBy W1 (Value.slice A2 Bd.length c2).ownBlock) {g:Nat} {t:TypeId} {cs:Array Value} (hr:Row W g t cs) (ht:t≠5):Row W1 g t cs:=by
 obtain⟨A1,A2',c1,c2',r1,r2,o1,o2,hd⟩:=h;have he:A2'=A2/\c2'=c2:=by
  have e:=r2.cell 0 rfl;rw[h0.cell 0 rfl]at e;injection e with e;injection e with e1 _ e2;exact⟨e1.symm,e2.symm⟩
 obtain⟨rfl,rfl⟩:=he;refine hr.grown hg fun e=>?_;cases A2' with
 | none=>simp[Value.ownBlock]at e
 | some a=>exact o2.2.unlike hr (fun e=>ht e.symm) a rfl (by simpa [Value.ownBlock]using e.symm)
theorem HB.body {W1:World} {A2 A3:Option Addr} {c2 n3 c3:Nat} {x:List UInt8} (h:HB base h1 h2 Hd Bd W) (j0:h1≠h2) (g0:Row W h2 25 #[.slice A2 Bd.length c2]) (hg:W.grownBy W1 (Value.slice A2 Bd.length c2).ownBlock) (hn:n3=(Bd++x).length) (hb:Buf W1 base 5 A3 n3 c3 ((Bd++x).map B8))
 (hA:A3=A2\/A3=some ⟨W.heap.size,0,none⟩) :
 HB base h1 h2 Hd (Bd++x) (W1.setCell ⟨h2,0,none⟩ (.slice A3 n3 c3))/\KeepsOthers W (W1.setCell ⟨h2,0,none⟩ (.slice A3 n3 c3))/\(∀g t cs,Row W g t cs->t≠5->g≠h2->Row (W1.setCell ⟨h2,0,none⟩ (.slice A3 n3 c3)) g t cs) /\
  (∀w0,Ext w0 W->w0.heap.size<=base->w0.heap.size<=h2->Ext w0 (W1.setCell ⟨h2,0,none⟩ (.slice A3 n3 c3))):=by
 subst hn;obtain⟨A1,A2',c1,c2',r1,r2,o1,o2,hd⟩:=h;have he:A2'=A2/\c2'=c2:=by
  have e:=r2.cell 0 rfl;rw[g0.cell 0 rfl]at e;injection e with e;injection e with e1 _ e2;exact⟨e1.symm,e2.symm⟩
 obtain⟨rfl,rfl⟩:=he;have h0:∀k,(Value.slice A2' Bd.length c2').ownBlock=some k->∃a,A2'=some a/\a.block=k:=fun k hk=>by
  cases A2' with
  | none=>simp[Value.ownBlock]at hk
  | some a=>exact⟨a,rfl,by simpa [Value.ownBlock]using hk⟩
 have q0:∀g t cs,Row W g t cs->t≠5->Row W1 g t cs:=fun g t cs hr ht=>hr.grown hg fun e=>by
  obtain⟨a,ha,hk⟩:=h0 g e.symm;exact o2.2.unlike hr (fun e=>ht e.symm) a ha hk
 have r1':=q0 _ _ _ r1 (by decide);have r2':=q0 _ _ _ r2 (by decide);have o1':Buf W1 base 5 A1 Hd.length c1 (Hd.map B8):=o1.2.grown hg fun a ha e=>by
  obtain⟨a2,p0,hk⟩:=h0 _ e;exact hd a a2 ha p0 hk.symm
 refine⟨⟨A1,A3,c1,c3,r1'.away j0 _,r2'.put 0 _,⟨rfl,o1'.setCell (o1'.unlike r2' (by decide)) _⟩,⟨rfl,hb.setCell (hb.unlike r2' (by decide)) _⟩,fun a1 a3 e1 e3 e=>?_⟩,(ZAF o2.2 hg).trans (KeepsOthers.setCell _ _ _),fun g t cs hr ht k0=>(q0 g t cs hr ht).away k0 _,fun w0 hE m0 hh=>(hE.grown hg fun k hk=>?_).setCell hh _⟩
 ·rcases hA with rfl | rfl
  ·exact hd a1 a3 e1 e3 e
  ·have:=o1.2.lt a1 e1;injection e3 with e3;subst e3;simp only at e;omega
 ·obtain⟨a2,p0,rfl⟩:=h0 _ hk;have:=o2.2.base_le a2 p0;omega
end
end
section
open Go.RowKit
attribute [local go_sem] Oper.semAt_some Za
def KeepB (b1 b2:Nat) (W W':World):Prop:=(∀o,W.heap[b1]? = some o->W'.heap[b1]? = some o)/\∀o,W.heap[b2]? = some o->W'.heap[b2]? = some o
theorem KeepB.trans (b1 b2:Nat) (A B C:World) (h:KeepB b1 b2 A B) (k:KeepB b1 b2 B C):KeepB b1 b2 A C:=⟨fun o ho=>k.1 o (h.1 o ho),fun o ho=>k.2 o (h.2 o ho)⟩
theorem KeepB.refl (b1 b2:Nat) (A:World):KeepB b1 b2 A A:=⟨fun _ h=>h,fun _ h=>h⟩
theorem KeepB.of {b1 b2:Nat} {W W':World} {t1 t2:TypeId} {c1 c2:Array Value} (h1:Row W b1 t1 c1) (h0:Row W' b1 t1 c1) (h2:Row W b2 t2 c2) (q0:Row W' b2 t2 c2):KeepB b1 b2 W W' :=
 ⟨fun o ho=>by unfold Row at h1 h0;rw[h0] ;rw[h1]at ho;exact ho,fun o ho=>by unfold Row at h2 q0;rw[q0];rw[h2]at ho;exact ho⟩
theorem KeepB.alike {b1 b2 B:Nat} (h1:b1<B) (h2:b2<B) (A C:World) (h:Alike B A C):KeepB b1 b2 A C :=
 ⟨fun _ ho=>(h.block b1 (Array.getElem?_eq_some_iff.1 ho).1 (fun hn=>by have:=hn.1;omega)).trans ho,fun _ ho=>(h.block b2 (Array.getElem?_eq_some_iff.1 ho).1 (fun hn=>by have:=hn.1;omega)).trans ho⟩
theorem ZIq (A:Option Addr) (n c k:Nat) (w:World) (hk:1<=k) (h0:k<=1000000) :
 Calls Tryz.prog 83 #[.slice A n c,.int .i64 (k:Int)] w fun e w'=>∃b1 b2,e = .returned (.func (.func 144) #[] #[.pointer (some ⟨b1,0,none⟩),.pointer (some ⟨b2,0,none⟩)])/\Row w' b1 43 #[.slice A n c]/\Row w' b2 3 #[.int .i64 (k:Int)]/\w.heap.size<=b1/\w.heap.size<=b2/\b1<b2/\Ext w w':=by
 go_enter Tryz.func83,Tryz.ntmps83;go_wp2_with fail;go_ret;have h1:=Row.new w 43 #[.slice A n c];have h2:=Row.new (w.alloc (.cells #[.slice A n c] 43)) 3 #[.int .i64 (k:Int)];rw[World.size_alloc]at h2;exact⟨w.heap.size,w.heap.size+1,rfl,h1.alloc _,h2,Nat.le_refl _,by omega,by omega,((Ext.refl w).alloc _).alloc _⟩
theorem ZG4 {A:Option Addr} {n c i:Nat} {z:Int} (hz:z=(i:Int)) (hi:i<=n):∃A' c',∀W:World,(Instr.sliceAt 43 (.slice A n c) (some (.int .i64 z)) none none).run Tryz.prog W = .ok (.slice A' (n - i) c') W:=by
 subst hz;have ht:=Tryz.underlying43;have he:Tryz.prog.elem 43=107:=by unfold Program.elem;rw[ht]
 have hs:∀W:World,(sizeOf 107).run Tryz.prog W = .ok 2 W:=fun W=>by kernel_rfl
 refine⟨if c=i then A else A.map fun a=>a.add (i*2),c - i,fun W=>?_⟩;rw[run_sliceAt_slice W _ _ _ _ _ (by rw[ht,he]),run_slice_l W _ A n c (by rw[ht,he]) .i64 i (by omega) (by omega),he,hs];simp only[Result.andThen_ok,sliced];rfl
theorem ZG1 {A:Option Addr} {n c i j:Nat} {z z1 z2:Int} (hz:z=(i:Int)) (h0:z1=((i+j:Nat):Int)) (q0:z2=((i+j:Nat):Int)) (hi:i+j<=c) (hj:0<j) (W:World) :
 (Instr.sliceAt 43 (.slice A n c) (some (.int .i64 z)) (some (.int .i64 z1)) (some (.int .i64 z2))).run Tryz.prog W = .ok (.slice (A.map fun a=>a.add (i*2)) j j) W:=by
 subst hz h0 q0;have ht:=Tryz.underlying43;have he:Tryz.prog.elem 43=107:=by unfold Program.elem;rw[ht]
 have hs:(sizeOf 107).run Tryz.prog W = .ok 2 W:=by kernel_rfl
 rw[run_sliceAt_slice W _ _ _ _ _ (by rw[ht,he]),run_slice_lhm W _ A n c (by rw[ht,he]) .i64 .i64 .i64 i ((i+j:Nat):Int) ((i+j:Nat):Int) (by omega) (by omega) (by omega) (by omega),he,hs];simp only[Result.andThen_ok];congr 1;unfold sliced;rw[if_neg (by omega),show ((i+j:Nat):Int).toNat - (i:Int).toNat=j by omega];rfl
def chunkVA (A:Option Addr) (n k i:Nat):Value:= .slice (A.map fun a=>a.add (i*k*2)) (min k (n - i*k)) (min k (n - i*k))
def ChIterA (A:Option Addr) (n k b1 b2:Nat) (w:World):Prop :=
 Iter Tryz.prog 144 #[.pointer (some ⟨b1,0,none⟩),.pointer (some ⟨b2,0,none⟩)] (fun i:Nat=>#[chunkVA A n k i]) Ext (fun pre i _=>i=pre.length/\i*k<n) (KeepB b1 b2) (fun xs W W'=>n<=xs.length*k/\xs=List.range xs.length/\(∀i∈xs,i*k<n)/\Ext W W') w
theorem ZHE (A:Option Addr) (n c k b1 b2:Nat) (w:World) (p0:Row w b1 43 #[.slice A n c]) (k0:Row w b2 3 #[.int .i64 (k:Int)]) (hk:1<=k) (f0:k<=1000000) (hn:n<=1000000000) (hc:n<=c):ChIterA A n k b1 b2 w:=by
 intro l J W hE g0 hY h0;replace p0:=p0.ext hE;replace k0:=k0.ext hE;clear hE;replace p0:=ZA p0;replace k0:=ZA k0;replace hY:=ZA hY;replace g0:=ZA g0;replace h0:=ZA h0;refine(callsIn_wide (n:=0)).1 ?_;refine callsIn_of_wp Tryz.func144 rfl trivial ?_;simp only[Tryz.ntmps144,List.size_toArray,List.length_cons,List.length_nil,Nat.reduceAdd,Nat.reduceSub,Array.replicate_succ,Array.replicate_zero,List.push_toArray,List.append_toArray,List.nil_append,List.cons_append];gi_wp2_with fail
 gi_loopw [4] (fun s4 wr=>∃(i q:Nat) (pre:List Nat),s4 = .int .i64 (q:Int)/\Hid (q=i*k)/\q<=n+k/\Hid (pre.length=i)/\Hid (pre=List.range i)/\Hid (∀j∈pre,j*k<n)/\Hid (J pre wr)/\Hid (Row wr b1 43 #[.slice A n c])/\Hid (Row wr b2 3 #[.int .i64 (k:Int)])) (fun s4 _=>n - (intOf s4).toNat)
 case atStart=>exact⟨0,0,[],rfl,ZA (by simp),by omega,ZA rfl,ZA rfl,ZA nofun,h0,p0,k0⟩
 case round =>
  obtain⟨i,q,pre,rfl,hq,n0,q0,y0,x0,hJ,r1,r2⟩:=hrel;have k1:=r1.out.cell 0 rfl;have k2:=r2.out.cell 0 rfl;by_cases u0:q<n
  ·obtain⟨m,hm⟩:∃m:Nat,(m:Int)=min (k:Int) ((n - q:Nat):Int):=⟨min k (n - q),by omega⟩
   have b0:0<m:=by omega
   have i0:m<=k:=by omega
   have l0:m<=n - q:=by omega
   have d0:m=k\/m=n - q:=by omega
   have c0:=fun(W:World)=>Zf (P:=Tryz.prog) #[3,3] 3 hm W;have r0:=fun(W:World)=>ZG1 (A:=A) (n:=n) (c:=c) (i:=q) (j:=m) (z:=(q:Int)) (z1:=(q:Int)+(m:Int)) (z2:=(q:Int)+(m:Int)) rfl (by omega) (by omega) (by omega) b0 W;obtain⟨A',c',o0⟩:=ZG4 (A:=A) (n:=n) (c:=c) (i:=q) (z:=(q:Int)) rfl (by omega);replace hm:=ZA hm;have z0:=hY.out pre pre.length wr.drew (g0.out _ _ _ hJ.out (Ext.refl wr).drew) ⟨rfl,by rw[q0.out,<-hq.out];exact u0⟩;have j0:chunkVA A n k pre.length = .slice (A.map fun a=>a.add (q*2)) m m:=by
    unfold chunkVA;rw[q0.out,<-hq.out,show min k (n - q)=m by omega]
   rw[j0]at z0;obtain⟨fn,tmps,assign,body,hy,hR⟩:=z0;have m0:Hid (∀j∈pre ++ [pre.length],j*k<n):=ZA fun j hj=>by
    rcases List.mem_append.1 hj with h | h
    ·exact x0.out j h
    ·rw[List.mem_singleton.1 h,q0.out,<-hq.out];exact u0
   have t0:Hid (pre ++ [pre.length]=List.range (i+1)):=ZA (by rw[List.range_succ,q0.out,y0.out]);have e0:Hid (q+k=(i+1)*k):=ZA (by rw[Nat.succ_mul,hq.out]);clear j0 d0 hY g0;gi_wp2_with fail;refine wpIn_wide.2 (ZB follows (by kernel_rfl) (by kernel_rfl) (fun K hK=>?_));go_wp2_with fail;refine⟨by kernel_rfl,?_⟩;gi_wp2_with fail;refine hR.mono ?_;rintro e W3 ⟨rfl,a0,v0⟩;have r13:=ZA (show Row W3 b1 43 #[.slice A n c] from v0.1 _ r1.out);have r23:=ZA (show Row W3 b2 3 #[.int .i64 (k:Int)] from v0.2 _ r2.out);have k23:=r23.out.cell 0 rfl;gi_wp2_with fail;exact⟨⟨i+1,q+k,pre ++ [pre.length],by congr 1,e0,by omega,ZA (by rw[List.length_append,q0.out];rfl),t0,m0,ZA a0,r13,r23⟩,by simp only[intOf];omega⟩
  ·gi_wp2_with fail
   go_end0
   exact⟨⟨_,rfl⟩,pre,_,hJ.out,by rw[q0.out,<-hq.out];omega,by rw[q0.out];exact y0.out,x0.out,Ext.refl _⟩
end
end Go.Proofs.YtkdcnhnaiknaaaaGreat
