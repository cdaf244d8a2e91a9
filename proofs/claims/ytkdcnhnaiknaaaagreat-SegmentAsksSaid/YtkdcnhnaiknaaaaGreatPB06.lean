/- Texts of one proof, joined. -/
import Derived.Test.YtkdcnhnaiknaaaaGreatPB04
import Derived.Test.YtkdcnhnaiknaaaaGreatPB05
import Derived.Test.YtkdcnhnaiknaaaaGreatPB03
import Derived.Test.YtkdcnhnaiknaaaaGreatPB02
import Derived.Deep.QuietTactic
import Derived.BigQuiet
import Derived.RegionTactic
import Derived.ChangeAlike
set_option linter.unusedSimpArgs false
set_option linter.unusedVariables false
set_option maxRecDepth 100000
set_option maxHeartbeats 16000000
namespace Go.Proofs.YtkdcnhnaiknaaaaGreat
section
open Go.RowKit
theorem ZDu:∀(l:List UInt8) (i k:Nat),getV i l = .error k->k=6\/k=20
 | [],i,k,h=>by unfold getV at h;injection h with h;omega
 | x::l,i,k,h=>by
  unfold getV at h;split at h
  ·injection h with h;omega
  ·split at h
   ·injection h with h;omega
   ·split at h
    ·cases h
    ·split at h
     ·cases h
     ·rename_i e hg;injection h with h;subst h;exact ZDu l (i+1) _ hg
theorem ZDo (l:List UInt8) (x:UInt8):be (l ++ [x])=be l*256+x.toNat:=by
 unfold be;rw[List.foldl_append];rfl
def GotFB (w0 w:World) (res:Except Nat (List UInt8×List UInt8)) (e:Ending) (w':World):Prop:=Ext w w'/\match res with
 | .ok (p,r)=>∃P cp A c base,e = .returned (.tuple #[.slice P p.length cp,.slice A r.length c,.int .i64 0])/\Buf w' base 5 P p.length cp (p.map B8)/\In8 w0 A r.length c r
 | .error k=>e = .returned (.tuple #[.slice none 0 0,.slice none 0 0,.int .i64 k])
theorem GotFB.no {w0 w w':World} {res:Except Nat (List UInt8×List UInt8)} {k:Nat} (hE:Ext w w') (h:res = .error k):GotFB w0 w res (.returned (.tuple #[.slice none 0 0,.slice none 0 0,.int .i64 k])) w':=by
 subst h;exact⟨hE,rfl⟩
theorem ZK2 (A:Option Addr) (n c:Nat) (l:List UInt8) (w0 w:World) (h:In8 w0 A n c l) (hw:Ext w0 w) (s1:n<=1000000000) :
 Calls Tryz.prog 152 #[.slice A n c] w fun e w'=>GotFB w0 w (getF l) e w':=by
 have hg:=ZA1 A n c l w0 w h hw s1;have r0:=ZA h.len;obtain⟨Z,hZ⟩:∃Z,Z=getF l:=⟨_,rfl⟩
 rw[<-hZ];unfold getF at hZ;cases hv:getV 0 l with
 | error k =>
  rw[hv]at hg hZ;simp only at hZ;rcases ZDu l 0 k hv with rfl | rfl
  ·rw[if_pos rfl]at hZ;replace hZ:=ZA hZ;replace hg:=ZA hg;clear h hv;go_enter Tryz.func152,Tryz.ntmps152;go_wp2_with fail;refine hg.out.mono ?_;rintro e w1 ⟨q0,rfl⟩;go_wp2_with fail;go_ret3;exact GotFB.no q0 hZ.out
  ·rw[if_neg (by omega)]at hZ;replace hZ:=ZA hZ;replace hg:=ZA hg;clear h hv;go_enter Tryz.func152,Tryz.ntmps152;go_wp2_with fail;refine hg.out.mono ?_;rintro e w1 ⟨q0,rfl⟩;go_wp2_with fail;go_ret3;exact GotFB.no q0 hZ.out
 | ok p =>
  obtain⟨m,r⟩:=p;have q2:=Zp hv;have k2:=Zk hv;obtain⟨hd,n0,n1⟩:=ZBO l 0 m r [] hv;have p0:l.length - r.length=hd.length:=by rw[n0,List.length_append];omega
  rw[hv]at hg hZ;simp only at hZ;unfold Got at hg;simp only at hg;replace hg:=ZA hg;clear hv n1;by_cases e0:16777216<m
  ·rw[if_pos e0]at hZ;replace hZ:=ZA hZ;have i1:(16777216:Int)<m:=by omega
   clear h;go_enter Tryz.func152,Tryz.ntmps152;go_wp2_with fail;refine hg.out.mono ?_;rintro e w1 ⟨q0,A1,c1,rfl,hi1⟩;go_wp2_with fail;go_ret3;exact GotFB.no q0 hZ.out
  ·rw[if_neg e0]at hZ;have i1:¬ (16777216:Int)<m:=by omega
   have b2:IntKind.i64.wrap (m:Int)=(m:Int):=by
    simp[IntKind.wrap,IntKind.bits,IntKind.signed];omega
   by_cases a1:r.length<4+m
   ·rw[if_pos a1]at hZ;replace hZ:=ZA hZ;have g2:(r.length:Int)<4+(m:Int):=by omega
    clear h;go_enter Tryz.func152,Tryz.ntmps152;go_wp2_with fail;refine hg.out.mono ?_;rintro e w1 ⟨q0,A1,c1,rfl,hi1⟩;go_wp2_with fail;go_ret3;exact GotFB.no q0 hZ.out
   ·rw[if_neg a1]at hZ;have g2:¬ (r.length:Int)<4+(m:Int):=by omega
    obtain⟨o1,o0⟩:=h.headk .i64 (k:=l.length - r.length) (by have:=r0.out;omega) (z:=(n:Int) - (r.length:Int)) (by have:=r0.out;omega);rw[p0]at o1 o0;have z2:r.length<=n:=by have:=r0.out;omega
    have j2:r.length<=1000000000:=by omega
    replace hZ:=ZA hZ;replace o0:=ZA o0;replace p0:=ZA p0;replace n0:=ZA n0;clear h k2;go_enter Tryz.func152,Tryz.ntmps152;go_wp2_with fail;refine hg.out.mono ?_;rintro e w1 ⟨q0,A1,c1,rfl,hi1⟩;obtain⟨u2,p1⟩:=hi1.headk .i64 (k:=4) (by omega) (z:=4) rfl;obtain⟨A2,c2,x2,u1⟩:=hi1.subk .i64 .i64 (fr:=4) (k:=m) (by omega) (z0:=4) (z:=4+(m:Int)) rfl rfl;obtain⟨A3,c3,a2,x1⟩:=hi1.fromk .i64 (fr:=4+m) (by omega) (z:=4+(m:Int)) (by omega);replace p1:=ZA p1;replace u1:=ZA u1;replace x1:=ZA x1;replace hi1:=ZA hi1;go_wp2_with fail
    go_loopw [7,9,43] (fun s7 _ s43 wr=>∃(i v:Nat),s43 = .int .i64 (i:Int)/\i<=4/\s7 = .int .u32 (v:Int)/\v<256^i/\Hid (v=be (r.take i))/\wr=w1) (fun _ _ s43 _=>4 - (intOf s43).toNat)
    case atStart=>exact⟨0,0,rfl,by omega,rfl,by decide,ZA (by simp[be]),rfl⟩
    case round =>
     obtain⟨i,v,rfl,hi,rfl,hv,d1,rfl⟩:=hrel;by_cases r1:i<4
     ·obtain⟨x,hx⟩:∃x,r[i]? = some x:=⟨_,List.getElem?_eq_getElem (by omega)⟩
      have s0:be (r.take (i+1))=v*256+x.toNat:=by rw[ZAG hx,ZDo,d1.out]
      have d2:=x.toNat_lt;have y2:(256:Nat)^i<=256^3:=Nat.pow_le_pow_right (by omega) (by omega);have t2:v<16777216:=by omega
      have p2:bits .or .u32 ((v:Int)*256) (x.toNat:Int)=((v*256+x.toNat:Nat):Int):=by
       have h1:=u32_or_nat (v*256) x.toNat (by omega) (by omega);have h2:=Nat.shiftLeft_add_eq_or_of_lt (show x.toNat<2^8 by omega) v;rw[Nat.shiftLeft_eq]at h2;rw[show (2:Nat)^8=256 from rfl]at h2;rw[h2,<-h1];simp
      have h0:v*256+x.toNat<256^(i+1):=by rw[Nat.pow_succ];omega
      obtain⟨g,o,f1,hc⟩:=Cells.at_ (xs:=(r.take 4).map B8) (p1.out.bytes.ext (hw.trans q0)) (by rw[List.length_map,List.length_take];omega);have f0:=hc i (B8 x) (by rw[List.getElem?_map,List.getElem?_take,if_pos r1,hx];rfl);unfold B8 at f0;subst f1;replace s0:=ZA s0;replace h0:=ZA h0;obtain⟨nx,v1⟩:∃nx,nx=v*256+x.toNat:=⟨_,rfl⟩
      rw[<-v1]at p2 s0 h0;replace v1:=ZA v1;clear hx hc;go_wp2_with fail;refine⟨⟨i+1,nx,by go_num,by omega,rfl,h0.out,ZA s0.out.symm,trivial⟩,?_⟩;simp[intOf];omega
     ·obtain rfl:i=4:=by omega
      have g0:((r.drop 4).take m).length=m:=by rw[List.length_take,List.length_drop];omega
      have y0:(l.take hd.length).length=hd.length:=by rw[List.length_take,n0.out,List.length_append];omega
      have l0:(r.drop (4+m)).length=r.length - (4+m):=List.length_drop;have k1:=hw.trans q0;have j0:=u1.out.ext k1;obtain⟨pl,m0⟩:∃pl,pl=(r.drop 4).take m:=⟨_,rfl⟩
      obtain⟨hh,k0⟩:∃hh,hh=l.take hd.length:=⟨_,rfl⟩
      rw[<-m0]at g0 j0;have u0:=o0.out;rw[<-k0]at y0 u0;have l1:=ZA (ZAq A2 m c2 pl wr g0.symm j0.bytes j0.nil_ (by omega));have q1:=hZ.out;rw[p0.out,<-k0,<-m0,<-d1.out]at q1;replace q1:=ZA q1;replace m0:=ZA m0;replace k0:=ZA k0;replace g0:=ZA g0;replace y0:=ZA y0;replace l0:=ZA l0;have v2:v<4294967296:=hv;clear j0;go_wp2_with fail;refine l1.out.mono ?_;rintro e w3 ⟨P,cp,rfl,j1,y1⟩;have x0:=j1.in8;have g1:=ZA j1;obtain⟨w4,b0⟩:∃w4,w4=w3.alloc (.cells #[.slice A hd.length c,.slice P m cp] 25):=⟨_,rfl⟩
      have d0:Ext w3 w4:=by rw[b0];exact(Ext.refl w3).alloc _
      have z1:Row w4 w3.heap.size 25 #[.slice A hd.length c,.slice P m cp]:=by rw[b0];exact Row.new w3 _ _
      have a0:=ZK3 (some ⟨w3.heap.size,0,none⟩) 2 2 [(A,c,hh),(P,cp,pl)] w4 rfl (.inr ⟨w3.heap.size,0,rfl,fun i v hv=>by
       rw[Nat.zero_add];refine z1.cell i ?_;have e1:=y0.out;have e2:=g0.out;simpa [e1,e2]using hv⟩) (fun q hq=>by
       rcases List.mem_cons.1 hq with rfl | hq
       ·have h:=(u0.ext k1).ext (y1.trans d0);simp only;rw[y0.out];exact h
       ·rw[List.mem_singleton.1 hq];have h:=x0.ext d0;simp only;rw[g0.out];exact h) (fun q hq=>by
       rcases List.mem_cons.1 hq with rfl | hq
       ·simp only;rw[y0.out];have:=r0.out;have:=p0.out;omega
       ·rw[List.mem_singleton.1 hq];simp only;rw[g0.out];omega) (by omega)
      rw[show ([(A,c,hh),(P,cp,pl)].map fun p:Option Addr×Nat×List UInt8=>p.2.2) = [hh,pl] from rfl,show csum 0 [hh,pl]=cnext 0 (hh++pl)from ZF2 hh pl]at a0;obtain⟨s,hs⟩:∃s,s=cnext 0 (hh++pl):=⟨_,rfl⟩
      have t0:=q1.out;rw[<-hs]at a0 t0;have c0:=ZA (q0.trans (y1.trans d0));replace a0:=ZA a0;replace b0:=ZA b0;replace x0:=ZA (x0.ext d0);have m1:=ZA (g1.out.ext d0);replace hs:=ZA hs;clear j1 z1 k1 u0;by_cases b1:s=v
      ·subst b1;rw[if_pos rfl]at t0;replace t0:=ZA t0;go_wp2_with fail;rw[<-b0.out];refine a0.out.mono ?_;rintro e w5 ⟨rfl,i0⟩;have v0:=ZA (c0.out.trans i0);have t1:=ZA (m1.out.ext i0);go_wp2_with fail;refine ZPw (fun K hK=>?_);go_wp2_with fail;refine⟨by kernel_rfl,?_⟩;go_wp2_with fail;go_ret3;rw[t0.out];exact⟨v0.out.drew,P,cp,A3,c3,_,by rw[g0.out,l0.out];rfl,by rw[g0.out];exact t1.out.drew,by rw[l0.out];exact x1.out⟩
      ·have m2:¬ (s:Int)=v:=by omega
       rw[if_neg b1]at t0;replace t0:=ZA t0;go_wp2_with fail;rw[<-b0.out];refine a0.out.mono ?_;rintro e w5 ⟨rfl,i0⟩;have v0:=ZA (c0.out.trans i0);go_wp2_with fail;go_ret3;exact GotFB.no v0.out t0.out
end
section
open Go.RowKit
attribute [local go_sem] Oper.semAt_some Za ZAw
def KeepS (B:Nat) (S:Nat->Prop) (W W':World):Prop:=(∀w0:World,w0.heap.size<=B->Ext w0 W->Ext w0 W')/\∀k,S k->∀o,W.heap[k]? = some o->W'.heap[k]? = some o
theorem KeepS.trans (B:Nat) (S:Nat->Prop) (A C D:World) (h:KeepS B S A C) (k:KeepS B S C D):KeepS B S A D:=⟨fun w0 h0 he=>k.1 w0 h0 (h.1 w0 h0 he),fun i hi o ho=>k.2 i hi o (h.2 i hi o ho)⟩
theorem KeepS.refl (B:Nat) (S:Nat->Prop) (A:World):KeepS B S A A:=⟨fun _ _ h=>h,fun _ _ _ h=>h⟩
theorem KeepS.alike {H B:Nat} {S:Nat->Prop} (h0:H<=B) (h1:∀k,S k->k<B) (A C:World) (h:Alike B A C):KeepS H S A C :=
 ⟨fun _ hs he=>h.ext he (by omega),fun k hk _ ho=>(h.block k (Array.getElem?_eq_some_iff.1 ho).1 (fun hn=>by have:=hn.1;have:=h1 k hk;omega)).trans ho⟩
theorem KeepS.ext {B:Nat} {S:Nat->Prop} {A C:World} (h:Ext A C):KeepS B S A C :=
 ⟨fun _ _ he=>he.trans h,fun k _ _ ho=>(Below.block h k (Array.getElem?_eq_some_iff.1 ho).1).trans ho⟩
theorem KeepS.row {B:Nat} {S:Nat->Prop} {A C:World} (h:KeepS B S A C) {k:Nat} (hk:S k) {t:TypeId} {cs:Array Value} (hr:Row A k t cs):Row C k t cs:=h.2 k hk _ hr
abbrev Pay:=Option Addr×Nat×List UInt8×Int
def Pay.val (x:Pay):Value:= .slice x.1 x.2.2.1.length x.2.1
def PayOk (W:World) (x:Pay):Prop:=∃base,Buf W base 5 x.1 x.2.2.1.length x.2.1 (x.2.2.1.map B8)
def pays (l:List Pay):List (List UInt8):=l.map fun x=>x.2.2.1
def NxF (b:List UInt8) (pre:List Pay) (x:Pay) (W:World):Prop:=PayOk W x/\∃r,splitF b=(pays (pre ++ [x])++(splitF r).1,(splitF r).2)
def FinF (b:List UInt8) (ew:Nat) (xs:List Pay) (W W':World):Prop:=(splitF b=(pays xs,0)/\Ext W W')\/∃k W3,k≠0/\splitF b=(pays xs,k)/\Ext W W3/\W'=W3.setCell ⟨ew,0,none⟩ (.int .i64 (k:Int))
def FrIter (b:List UInt8) (B b1 b2 ew:Nat) (w:World):Prop :=
 Iter Tryz.prog 151 #[.pointer (some ⟨b1,0,none⟩),.pointer (some ⟨b2,0,none⟩)] (fun x:Pay=>#[.int .i64 x.2.2.2,x.val]) Ext (NxF b) (KeepS B fun k=>k=b1\/k=b2\/k=ew) (FinF b ew) w
theorem ZG0 (A:Option Addr) (n c:Nat) (b:List UInt8) (B b1 b2 ew:Nat) (w0 w:World) (h:In8 w0 A n c b) (hB:w0.heap.size<=B) (hw:Ext w0 w) (l0:n<=1000000000)
 (u0:Row w b1 25 #[.slice A n c]) (b0:Row w b2 168 #[.pointer (some ⟨ew,0,none⟩)]) (c0:Row w ew 26 #[.int .i64 0]):FrIter b B b1 b2 ew w:=by
 intro l J W hE a0 hY h0;replace u0:=ZA (u0.ext hE);replace b0:=ZA (b0.ext hE);replace c0:=ZA (c0.ext hE);replace hw:=ZA (hw.trans hE);clear hE;replace hY:=ZA hY;replace a0:=ZA a0;replace h0:=ZA h0;have g1:=ZA h.len;replace h:=ZA h;have v0:=ZA (fun A n c r W (h:In8 w0 A n c r) (hw:Ext w0 W) (l0:n<=1000000000)=>ZK2 A n c r w0 W h hw l0);refine(callsIn_wide (n:=0)).1 ?_;refine callsIn_of_wp Tryz.func151 rfl trivial ?_;simp only[Tryz.ntmps151,List.size_toArray,List.length_cons,List.length_nil,Nat.reduceAdd,Nat.reduceSub,Array.replicate_succ,Array.replicate_zero,List.push_toArray,List.append_toArray,List.nil_append,List.cons_append];have k10:=u0.out.cell 0 rfl;gi_wp2_with fail
 gi_loopw [4] (fun s4 wr=>∃(A4:Option Addr) (n4 c4:Nat) (r:List UInt8) (pre:List Pay),s4 = .slice A4 n4 c4/\n4<=n/\Hid (In8 w0 A4 n4 c4 r)/\Hid (splitF b=(pays pre++(splitF r).1,(splitF r).2))/\Hid (J pre wr)/\Hid (Ext w0 wr)/\Hid (Row wr b1 25 #[.slice A n c])/\Hid (Row wr b2 168 #[.pointer (some ⟨ew,0,none⟩)])/\Hid (Row wr ew 26 #[.int .i64 0])) (fun s4 _=>match s4 with | .slice _ k _=>k | _=>0)
 case atStart=>exact⟨A,n,c,b,[],rfl,Nat.le_refl _,h,ZA rfl,h0,hw,u0,b0,c0⟩
 case round =>
  obtain⟨A4,n4,c4,r,pre,rfl,m1,hi,n0,hJ,hE,r1,r2,r3⟩:=hrel;have k1:=r1.out.cell 0 rfl;have k2:=r2.out.cell 0 rfl;have f0:=ZA hi.out.len;by_cases hz:n4=0
  ·have p1:¬ (0:Int)<n4:=by omega
   have h1:r = []:=List.length_eq_zero_iff.1 (by rw[<-f0.out];exact hz);subst h1;clear hY v0;gi_wp2_with fail
   go_end0
   refine⟨⟨_,rfl⟩,pre,_,hJ.out,.inl ⟨?_,Ext.refl _⟩⟩;have:=n0.out;rw[ZEE,List.append_nil]at this;exact this
  ·have p1:(0:Int)<n4:=by omega
   have g0:r ≠ []:=fun e=>by have:=f0.out;rw[e]at this;exact hz this
   have hg:=v0.out A4 n4 c4 r wr hi.out hE.out (by omega);have q0:=n0.out;cases m0:getF r with
   | error k =>
    rw[ZEV g0 m0,List.append_nil]at q0;rw[m0]at hg;have s0:k≠0:=by rcases ZGL m0 with h | h <;> omega
    have j1:¬ (k:Int)=0:=by omega
    replace q0:=ZA q0;replace hg:=ZA hg;clear m0 hY g0;gi_wp2_with fail;refine(callsIn_wide.2 hg.out).mono ?_;rintro e w2 ⟨p0,rfl⟩;have k22:=(r2.out.ext p0).cell 0 rfl;have k32:=(r3.out.ext p0).cell 0 rfl;have k3f:=(r3.out.ext p0).free 0;have i0:=ZA (a0.out _ _ _ hJ.out p0);replace p0:=ZA p0;gi_wp2_with fail;exact bodyPost_ret (results_none rfl _ _ _) rfl ⟨⟨_,rfl⟩,pre,_,hJ.out,.inr ⟨k,_,s0,q0.out,p0.out,rfl⟩⟩
   | ok q =>
    obtain⟨p,r'⟩:=q;rw[ZDO g0 m0]at q0;rw[m0]at hg;have k0:=(ZAT m0).1;have t0:splitF b=(pays (pre ++ [(none,0,p,0)])++(splitF r').1,(splitF r').2):=by
     rw[q0];simp[pays]
    replace q0:=ZA q0;replace t0:=ZA t0;replace hg:=ZA hg;clear m0 g0;gi_wp2_with fail;refine(callsIn_wide.2 hg.out).mono ?_;rintro e w2 ⟨p0,P,cp,A5,c5,base,rfl,x0,y0⟩;have r12:=ZA (r1.out.ext p0);have r22:=ZA (r2.out.ext p0);have r32:=ZA (r3.out.ext p0);have k12:=r12.out.cell 0 rfl;have i0:=ZA (a0.out _ _ _ hJ.out p0);have j0:splitF b=(pays (pre ++ [(P,cp,p,((n:Int) - r'.length))])++(splitF r').1,(splitF r').2):=by
     have:=t0.out;simp only[pays,List.map_append,List.map_cons,List.map_nil]at this ⊢;exact this
    have q1:=hY.out pre (P,cp,p,((n:Int) - r'.length)) w2 i0.out ⟨⟨base,x0⟩,r',j0⟩;obtain⟨fn,tmps,assign,body,hy,hR⟩:=q1;simp only[Pay.val]at hy hR;obtain⟨n5,d0⟩:∃n5,n5=r'.length:=⟨_,rfl⟩
    rw[<-d0]at y0 hy hR j0 k0 ⊢;replace k0:=Nat.lt_of_lt_of_eq k0 f0.out.symm;obtain⟨pl,e0⟩:∃pl,pl=p.length:=⟨_,rfl⟩
    rw[<-e0]at x0 hy ⊢;replace y0:=ZA y0;replace p0:=ZA (hE.out.trans p0);replace j0:=ZA j0;replace x0:=ZA x0;replace d0:=ZA d0;replace e0:=ZA e0;clear hY;gi_wp2_with fail;refine hR.mono ?_;rintro e W3 ⟨rfl,r0,z0⟩;have r13:=ZA (show Row W3 b1 25 #[.slice A n c] from z0.row (.inl rfl) r12.out);have r23:=ZA (show Row W3 b2 168 #[.pointer (some ⟨ew,0,none⟩)] from z0.row (.inr (.inl rfl)) r22.out);have o0:=ZA (z0.1 w0 hB p0.out);have r33:=ZA (z0.row (.inr (.inr rfl)) r32.out);gi_wp2_with fail;exact⟨⟨A5,n5,c5,r',_,rfl,by omega,y0,j0,ZA r0,o0,r13,r23,r33⟩,by omega⟩
end
section
open Go.RowKit
attribute [local go_sem] Oper.semAt_some Za
def KeepB (b1 b2:Nat) (W W':World):Prop:=(∀o,W.heap[b1]? = some o->W'.heap[b1]? = some o)/\∀o,W.heap[b2]? = some o->W'.heap[b2]? = some o
theorem KeepB.trans (b1 b2:Nat) (A B C:World) (h:KeepB b1 b2 A B) (k:KeepB b1 b2 B C):KeepB b1 b2 A C:=⟨fun o ho=>k.1 o (h.1 o ho),fun o ho=>k.2 o (h.2 o ho)⟩
theorem KeepB.refl (b1 b2:Nat) (A:World):KeepB b1 b2 A A:=⟨fun _ h=>h,fun _ h=>h⟩
theorem KeepB.of {b1 b2:Nat} {W W':World} {t1 t2:TypeId} {c1 c2:Array Value} (h1:Row W b1 t1 c1) (h0:Row W' b1 t1 c1) (h2:Row W b2 t2 c2) (q0:Row W' b2 t2 c2):KeepB b1 b2 W W' :=
 ⟨fun o ho=>by unfold Row at h1 h0;rw[h0] ;rw[h1]at ho;exact ho,fun o ho=>by unfold Row at h2 q0;rw[q0];rw[h2]at ho;exact ho⟩
theorem KeepB.alike {b1 b2 B:Nat} (h1:b1<B) (h2:b2<B) (A C:World) (h:Alike B A C):KeepB b1 b2 A C :=
 ⟨fun _ ho=>(h.block b1 (Array.getElem?_eq_some_iff.1 ho).1 (fun hn=>by have:=hn.1;omega)).trans ho,fun _ ho=>(h.block b2 (Array.getElem?_eq_some_iff.1 ho).1 (fun hn=>by have:=hn.1;omega)).trans ho⟩
theorem ZIq (A:Option Addr) (n c k:Nat) (w:World) (hk:1<=k) (h0:k<=1000000) :
 Calls Tryz.prog 83 #[.slice A n c,.int .i64 (k:Int)] w fun e w'=>∃b1 b2,e = .returned (.func (.func 144) #[] #[.pointer (some ⟨b1,0,none⟩),.pointer (some ⟨b2,0,none⟩)])/\Row w' b1 43 #[.slice A n c]/\Row w' b2 3 #[.int .i64 (k:Int)]/\w.heap.size<=b1/\w.heap.size<=b2/\b1<b2/\Ext w w':=by
 go_enter Tryz.func83,Tryz.ntmps83;go_wp2_with fail;go_ret;have h1:=Row.new w 43 #[.slice A n c];have h2:=Row.new (w.alloc (.cells #[.slice A n c] 43)) 3 #[.int .i64 (k:Int)];rw[World.size_alloc]at h2;exact⟨w.heap.size,w.heap.size+1,rfl,h1.alloc _,h2,Nat.le_refl _,by omega,by omega,((Ext.refl w).alloc _).alloc _⟩
theorem ZG4 {A:Option Addr} {n c i:Nat} {z:Int} (hz:z=(i:Int)) (hi:i<=n):∃A' c',∀W:World,(Instr.sliceAt 43 (.slice A n c) (some (.int .i64 z)) none none).run Tryz.prog W = .ok (.slice A' (n - i) c') W:=by
 subst hz;have ht:=Tryz.underlying43;have he:Tryz.prog.elem 43=107:=by unfold Program.elem;rw[ht]
 have hs:∀W:World,(sizeOf 107).run Tryz.prog W = .ok 2 W:=fun W=>by kernel_rfl
 refine⟨if c=i then A else A.map fun a=>a.add (i*2),c - i,fun W=>?_⟩;rw[run_sliceAt_slice W _ _ _ _ _ (by rw[ht,he]),run_slice_l W _ A n c (by rw[ht,he]) .i64 i (by omega) (by omega),he,hs];simp only[Result.andThen_ok,sliced];rfl
theorem ZG1 {A:Option Addr} {n c i j:Nat} {z z1 z2:Int} (hz:z=(i:Int)) (h0:z1=((i+j:Nat):Int)) (q0:z2=((i+j:Nat):Int)) (hi:i+j<=c) (hj:0<j) (W:World) :
 (Instr.sliceAt 43 (.slice A n c) (some (.int .i64 z)) (some (.int .i64 z1)) (some (.int .i64 z2))).run Tryz.prog W = .ok (.slice (A.map fun a=>a.add (i*2)) j j) W:=by
 subst hz h0 q0;have ht:=Tryz.underlying43;have he:Tryz.prog.elem 43=107:=by unfold Program.elem;rw[ht]
 have hs:(sizeOf 107).run Tryz.prog W = .ok 2 W:=by kernel_rfl
 rw[run_sliceAt_slice W _ _ _ _ _ (by rw[ht,he]),run_slice_lhm W _ A n c (by rw[ht,he]) .i64 .i64 .i64 i ((i+j:Nat):Int) ((i+j:Nat):Int) (by omega) (by omega) (by omega) (by omega),he,hs];simp only[Result.andThen_ok];congr 1;unfold sliced;rw[if_neg (by omega),show ((i+j:Nat):Int).toNat - (i:Int).toNat=j by omega];rfl
def chunkVA (A:Option Addr) (n k i:Nat):Value:= .slice (A.map fun a=>a.add (i*k*2)) (min k (n - i*k)) (min k (n - i*k))
def ChIterA (A:Option Addr) (n k b1 b2:Nat) (w:World):Prop :=
 Iter Tryz.prog 144 #[.pointer (some ⟨b1,0,none⟩),.pointer (some ⟨b2,0,none⟩)] (fun i:Nat=>#[chunkVA A n k i]) Ext (fun pre i _=>i=pre.length/\i*k<n) (KeepB b1 b2) (fun xs W W'=>n<=xs.length*k/\xs=List.range xs.length/\(∀i∈xs,i*k<n)/\Ext W W') w
theorem ZHE (A:Option Addr) (n c k b1 b2:Nat) (w:World) (p0:Row w b1 43 #[.slice A n c]) (k0:Row w b2 3 #[.int .i64 (k:Int)]) (hk:1<=k) (f0:k<=1000000) (hn:n<=1000000000) (hc:n<=c):ChIterA A n k b1 b2 w:=by
 intro l J W hE g0 hY h0;replace p0:=p0.ext hE;replace k0:=k0.ext hE;clear hE;replace p0:=ZA p0;replace k0:=ZA k0;replace hY:=ZA hY;replace g0:=ZA g0;replace h0:=ZA h0;refine(callsIn_wide (n:=0)).1 ?_;refine callsIn_of_wp Tryz.func144 rfl trivial ?_;simp only[Tryz.ntmps144,List.size_toArray,List.length_cons,List.length_nil,Nat.reduceAdd,Nat.reduceSub,Array.replicate_succ,Array.replicate_zero,List.push_toArray,List.append_toArray,List.nil_append,List.cons_append];gi_wp2_with fail
 gi_loopw [4] (fun s4 wr=>∃(i q:Nat) (pre:List Nat),s4 = .int .i64 (q:Int)/\Hid (q=i*k)/\q<=n+k/\Hid (pre.length=i)/\Hid (pre=List.range i)/\Hid (∀j∈pre,j*k<n)/\Hid (J pre wr)/\Hid (Row wr b1 43 #[.slice A n c])/\Hid (Row wr b2 3 #[.int .i64 (k:Int)])) (fun s4 _=>n - (intOf s4).toNat)
 case atStart=>exact⟨0,0,[],rfl,ZA (by simp),by omega,ZA rfl,ZA rfl,ZA nofun,h0,p0,k0⟩
 case round =>
  obtain⟨i,q,pre,rfl,hq,n0,q0,y0,x0,hJ,r1,r2⟩:=hrel;have k1:=r1.out.cell 0 rfl;have k2:=r2.out.cell 0 rfl;by_cases u0:q<n
  ·obtain⟨m,hm⟩:∃m:Nat,(m:Int)=min (k:Int) ((n - q:Nat):Int):=⟨min k (n - q),by omega⟩
   have b0:0<m:=by omega
   have i0:m<=k:=by omega
   have l0:m<=n - q:=by omega
   have d0:m=k\/m=n - q:=by omega
   have c0:=fun(W:World)=>Zf (P:=Tryz.prog) #[3,3] 3 hm W;have r0:=fun(W:World)=>ZG1 (A:=A) (n:=n) (c:=c) (i:=q) (j:=m) (z:=(q:Int)) (z1:=(q:Int)+(m:Int)) (z2:=(q:Int)+(m:Int)) rfl (by omega) (by omega) (by omega) b0 W;obtain⟨A',c',o0⟩:=ZG4 (A:=A) (n:=n) (c:=c) (i:=q) (z:=(q:Int)) rfl (by omega);replace hm:=ZA hm;have z0:=hY.out pre pre.length wr.drew (g0.out _ _ _ hJ.out (Ext.refl wr).drew) ⟨rfl,by rw[q0.out,<-hq.out];exact u0⟩;have j0:chunkVA A n k pre.length = .slice (A.map fun a=>a.add (q*2)) m m:=by
    unfold chunkVA;rw[q0.out,<-hq.out,show min k (n - q)=m by omega]
   rw[j0]at z0;obtain⟨fn,tmps,assign,body,hy,hR⟩:=z0;have m0:Hid (∀j∈pre ++ [pre.length],j*k<n):=ZA fun j hj=>by
    rcases List.mem_append.1 hj with h | h
    ·exact x0.out j h
    ·rw[List.mem_singleton.1 h,q0.out,<-hq.out];exact u0
   have t0:Hid (pre ++ [pre.length]=List.range (i+1)):=ZA (by rw[List.range_succ,q0.out,y0.out]);have e0:Hid (q+k=(i+1)*k):=ZA (by rw[Nat.succ_mul,hq.out]);clear j0 d0 hY g0;gi_wp2_with fail;refine wpIn_wide.2 (ZPw (fun K hK=>?_));go_wp2_with fail;refine⟨by kernel_rfl,?_⟩;gi_wp2_with fail;refine hR.mono ?_;rintro e W3 ⟨rfl,a0,v0⟩;have r13:=ZA (show Row W3 b1 43 #[.slice A n c] from v0.1 _ r1.out);have r23:=ZA (show Row W3 b2 3 #[.int .i64 (k:Int)] from v0.2 _ r2.out);have k23:=r23.out.cell 0 rfl;gi_wp2_with fail;exact⟨⟨i+1,q+k,pre ++ [pre.length],by congr 1,e0,by omega,ZA (by rw[List.length_append,q0.out];rfl),t0,m0,ZA a0,r13,r23⟩,by simp only[intOf];omega⟩
  ·gi_wp2_with fail
   go_end0
   exact⟨⟨_,rfl⟩,pre,_,hJ.out,by rw[q0.out,<-hq.out];omega,by rw[q0.out];exact y0.out,x0.out,Ext.refl _⟩
end
section
open Go.RowKit Go.Shelf
attribute [local go_sem] Oper.semAt_some Za ZAw
def psP (ps:List PoC):List Po:=ps.map PoC.po
def OkB (w:World) (l:List UInt8) (e:Ending) (w':World):Prop:=∃A c,e = .returned (.tuple #[.slice A l.length c,.int .i64 0])/\Own8 w' w.heap.size A l.length c l/\Ext w w'
theorem ZCy {l:List Po} (h:okPs l=true):l.length<=65536:=by
 rw[ZCU,Bool.and_eq_true]at h;have:=ZCH h.1 (by omega);rw[List.length_map]at this;omega
theorem PosOk.part {w:World} {A:Option Addr} {ps:List PoC} (h:PosOk w A ps) (hA:∀a,A=some a->a.spot=none) (i m:Nat):PosOk w (A.map fun a=>a.add (i*2)) ((ps.drop i).take m):=by
 refine⟨?_,fun x hx=>h.each x (List.mem_of_mem_drop (List.mem_of_mem_take hx))⟩;unfold pcells;rw[Z4 (f:=PoC.cells) (k:=2) (fun _=>rfl),ZAE (f:=PoC.cells) (k:=2) (fun _=>rfl)];exact h.cells.part hA _ _
def PEnc (base h1 h2 h3 b1 b2:Nat) (V:Value) (Hd Bd:List UInt8) (last:Int) (w W:World):Prop :=
 HB base h1 h2 Hd Bd W/\Row W h3 3 #[.int .i64 last]/\Row W b1 43 #[V]/\Row W b2 3 #[.int .i64 32]/\Ext w W
theorem PEnc.alike {base h1 h2 h3 b1 b2 B:Nat} {V:Value} {Hd Bd:List UInt8} {last:Int} {w W W1:World} (h:PEnc base h1 h2 h3 b1 b2 V Hd Bd last w W) (ha:Alike B W W1) (hB:w.heap.size<=B):PEnc base h1 h2 h3 b1 b2 V Hd Bd last w W1 :=
 ⟨h.1.alike ha,ha.row h.2.1,ha.row h.2.2.1,ha.row h.2.2.2.1,ha.ext h.2.2.2.2 hB⟩
theorem PEnc.ext {base h1 h2 h3 b1 b2:Nat} {V:Value} {Hd Bd:List UInt8} {last:Int} {w W W1:World} (h:PEnc base h1 h2 h3 b1 b2 V Hd Bd last w W) (hE:Ext W W1):PEnc base h1 h2 h3 b1 b2 V Hd Bd last w W1 :=
 ⟨h.1.ext hE,h.2.1.ext hE,h.2.2.1.ext hE,h.2.2.2.1.ext hE,h.2.2.2.2.trans hE⟩
theorem ZCk (ps:List PoC) (A:Option Addr) (m c:Nat) (w:World) (hm:m=ps.length) (h:PosOk w A ps) (hA:∀a,A=some a->a.spot=none) (r7:m<=c) (v2:okPs (psP ps)=true) (p2:(blockPo (-1) (psP ps)).length<=50000000) :
 Calls Tryz.prog 40 #[.slice A m c] w fun e w'=>OkB w (encPs (psP ps)) e w':=by
 have t8:m<=65536:=by have:=ZCy v2;unfold psP at this;rw[List.length_map]at this;omega
 have o4:=ZHo ps A m c w hm h (by omega);rw[show ps.map PoC.po=psP ps from rfl,v2,if_pos rfl]at o4;obtain⟨P,hP⟩:∃P,P=psP ps:=⟨_,rfl⟩
 rw[<-hP]at v2 p2 ⊢;have e1:=ZA (fun A n c x l W h1 h2 h3 h4 h5=>ZA3 A n c x l W h1 h2 h3 h4 h5);have z8:=ZX (m:=m) (by omega);replace o4:=ZA o4;replace hm:=ZA hm;replace h:=ZA h;replace hP:=ZA hP;replace v2:=ZA v2;replace p2:=ZA p2;replace hA:=ZA hA;refine(callsIn_wide (n:=0)).1 ?_;refine callsIn_of_wp_marks Tryz.func40 rfl trivial ?_;simp only[Tryz.ntmps40,List.size_toArray,List.length_cons,List.length_nil,Nat.reduceAdd,Nat.reduceSub,Array.replicate_succ,Array.replicate_zero,List.push_toArray,List.append_toArray,List.nil_append,List.cons_append];gi_wp2_with fail;refine(callsIn_wide.2 o4.out).mono ?_;rintro e w1 ⟨rfl,b6⟩;gi_wp2_with fail;refine(callsIn_wide.2 (e1.out none 0 0 m [] w1 rfl (.inl rfl) (fun _=>rfl) (by omega) (by omega))).mono ?_;rintro e w2 a2;obtain⟨A2,c2,rfl,y3,n3⟩:=a2;rw[List.nil_append]at y3 ⊢;obtain⟨k2,d3⟩:∃k,k=(vb m).length:=⟨_,rfl⟩
 rw[<-d3]at y3 ⊢;replace y3:=ZA y3;replace d3:=ZA d3;replace n3:=ZA (b6.trans n3);gi_wp2_with fail;obtain⟨W3,m2⟩:∃W3,W3=((w2.alloc (Obj.cells #[Value.slice A2 k2 c2] 25)).alloc (Obj.cells #[Value.slice none 0 0] 25)).alloc (Obj.cells #[Value.int IntKind.i64 (-1)] 3):=⟨_,rfl⟩
 rw[<-m2];obtain⟨h1,t2⟩:∃h1,h1=w2.heap.size:=⟨_,rfl⟩
 have q1:Row W3 h1 25 #[.slice A2 k2 c2]:=by rw[m2,t2];exact((Row.new w2 _ _).alloc _).alloc _
 have q2:Row W3 (h1+1) 25 #[.slice none 0 0]:=by
  have:=Row.new (w2.alloc (Obj.cells #[Value.slice A2 k2 c2] 25)) 25 #[.slice none 0 0];rw[World.size_alloc,<-t2]at this;rw[m2];exact this.alloc _
 have q3:Row W3 (h1+2) 3 #[.int .i64 (-1)]:=by
  have:=Row.new ((w2.alloc (Obj.cells #[Value.slice A2 k2 c2] 25)).alloc (Obj.cells #[Value.slice none 0 0] 25)) 3 #[.int .i64 (-1)];rw[World.size_alloc,World.size_alloc,<-t2]at this;rw[m2];exact this
 have y0:Ext w2 W3:=by rw[m2];exact(((Ext.refl w2).alloc _).alloc _).alloc _
 have x4:W3.heap.size=h1+3:=by rw[m2,t2];simp
 have s5:w.heap.size<=h1:=by rw[t2];exact n3.out.size
 have d4:HB w.heap.size h1 (h1+1) (vb m) [] W3:=⟨A2,none,c2,0,by rw[<-d3.out];exact q1,q2,⟨rfl,by rw[<-d3.out];exact(y3.out.lower b6.size).ext y0⟩,⟨rfl,Buf.nil _ _ _⟩,fun _ _ _ e=>by cases e⟩
 replace y0:=ZA (n3.out.trans y0);rw[<-t2];refine(callsIn_wide.2 (ZIq A m c 32 W3 (by omega) (by omega))).mono ?_;rintro e w4 ⟨b1,b2,rfl,rb1,rb2,t7,u7,v7,c4⟩;have a3:PEnc w.heap.size h1 (h1+1) (h1+2) b1 b2 (.slice A m c) (vb m) [] (-1) w w4:=⟨d4.ext c4,q3.ext c4,rb1,rb2,y0.out.trans c4⟩
 have s4:=ZHE A m c 32 b1 b2 w4 rb1 rb2 (by omega) (by omega) (by omega) r7;rw[x4]at t7 u7;have d0:=a3.2.2.2.2.size;replace a3:=ZA a3;replace s4:=ZA s4;replace m2:=ZA m2;replace t2:=ZA t2;clear q1 q2 q3 d4 c4 rb1 rb2 y3 y0 n3 d3 x4;gi_wp2_with fail;unfold ChIterA at s4;refine ZBC (gf:=144) (lb:=#[.pointer (some ⟨b1,0,none⟩),.pointer (some ⟨b2,0,none⟩)]) rfl (enters_of Tryz.func144 (by kernel_rfl) rfl) s4.out (fun _=>rfl) (fun _ _ h=>h.others) (fun _ _ _ h=>h.2.2.2.others) (KeepB.trans b1 b2) ?kb
  (fun pre W=>PEnc w.heap.size h1 (h1+1) (h1+2) b1 b2 (.slice A m c) (vb m++headPo (-1) ((chunkL 32 P).take pre.length)) (blockPo (-1) (P.take (pre.length*32))) (lastPo (-1) (P.take (pre.length*32))) w W) (fun pre A B h ha=>h.alike ha d0) (fun pre A B h hE=>h.ext hE) ?h0 ?hround ?hdone
 case kb =>
  have c5:=(a3.out.2.2.1).lt;have d5:=(a3.out.2.2.2.1).lt;exact KeepB.alike c5 d5
 case h0 =>
  intro W ha;have:=a3.out.alike ha d0;simpa [headPo,blockPo,lastPo]using this
 case hround =>
  rintro l pre i W hI ⟨hi,o7⟩;subst hi;have b3:P.length=m:=by rw[hP.out,hm.out];exact List.length_map ..
  have hR:=ZFP v2.out p2.out (r:=pre.length) (by rw[b3];exact o7);obtain⟨j,hj⟩:∃j,j=min 32 (m - pre.length*32):=⟨_,rfl⟩
  obtain⟨cb,m4⟩:∃cb,cb=(ps.drop (pre.length*32)).take 32:=⟨_,rfl⟩
  have j1:cb.length=j:=by rw[m4,hj,List.length_take,List.length_drop,hm.out]
  obtain⟨A',b4⟩:∃A':Option Addr,A'=A.map fun a=>a.add (pre.length*32*2):=⟨_,rfl⟩
  have a1:PosOk w A' cb:=by rw[b4,m4];exact h.out.part hA.out _ _
  have y4:chunkVA A m 32 pre.length = .slice A' j j:=by unfold chunkVA;rw[b4,hj]
  obtain⟨bP,i4⟩:∃bP,bP=(P.drop (pre.length*32)).take 32:=⟨_,rfl⟩
  have k1:bP=cb.map PoC.po:=by rw[i4,m4,hP.out,psP,<-List.map_drop,<-List.map_take]
  obtain⟨lst,p3⟩:∃lst,lst=lastPo (-1) (P.take (pre.length*32)):=⟨_,rfl⟩
  rw[<-i4,<-p3]at hR;rw[hR.last]at hI;obtain⟨Hd,i0⟩:∃Hd,Hd=vb m++headPo (-1) ((chunkL 32 P).take pre.length):=⟨_,rfl⟩
  obtain⟨Bd,e0⟩:∃Bd,Bd=blockPo (-1) (P.take (pre.length*32)):=⟨_,rfl⟩
  rw[<-i0,<-e0]at hI;have z7:j<=32:=by omega
  replace hI:=ZA hI;replace hR:=ZA hR;rw[y4];clear y4;replace a1:=ZA a1;replace b4:=ZA b4;replace m4:=ZA m4;replace hj:=ZA hj;replace i4:=ZA i4;replace p3:=ZA p3;replace i0:=ZA i0;replace e0:=ZA e0;replace j1:=ZA j1;replace k1:=ZA k1;replace b3:=ZA b3;gi_wp2_with fail;refine⟨KeepsOthers.refl _,KeepB.refl _ _ _,fun W2 z6=>?_⟩;have i6:=ZA (hI.out.alike z6 d0);clear z6 hI;obtain⟨z2,u4,i1,l1,x2⟩:=i6.out;obtain⟨Y,hY⟩:∃Y,Y=blockPo lst bP:=⟨_,rfl⟩
  obtain⟨lz,e3⟩:∃lz,lz=lastPo lst bP:=⟨_,rfl⟩
  have l7:=hR.out.lo;have x7:=hR.out.hi;have m7:Y.length<=50000000:=by have:=hR.out.len;have:=p2.out;rw[hY];omega
  have q7:=ZA (fun base A B n c k c2 l last N xs W h1 h2 h3 h4 h5 h6 h7 h8 h9=>ZK8 base A B n c k c2 l last N xs W h1 h2 h3 h4 h5 h6 h7 h8 h9);replace z2:=ZA z2;replace u4:=ZA u4;replace i1:=ZA i1;replace l1:=ZA l1;replace x2:=ZA x2;replace hY:=ZA hY;replace e3:=ZA e3;clear i6;gi_wp2_with fail
  gi_loopw [9,26] (fun s9 s26 wr=>∃(i n9 c9:Nat) (A9:Option Addr) (X:List UInt8) (la:Int),s9 = .slice A9 n9 c9/\s26 = .int .i64 (i:Int)/\i<=j/\n9<=50000000 /\ -1<=la/\la<65536/\Hid (Y=X++blockPo la (bP.drop i))/\Hid (risB 65536 la ((bP.drop i).map (·.1))=true)/\Hid (lastPo la (bP.drop i)=lz)/\Hid (Own8 wr w.heap.size A9 n9 c9 X)/\Hid (Row wr (h1+2) 3 #[.int .i64 la])/\Hid (Chg (fun k=>k=h1+2) W2 wr)) (fun _ s26 _=>j - (intOf s26).toNat)
  case atStart=>exact⟨0,0,0,none,[],lst,rfl,rfl,by omega,by omega,l7,x7,ZA (by rw[hY.out];rfl),ZA hR.out.ris,ZA (by rw[e3.out];rfl),ZA ⟨rfl,Buf.nil _ _ _⟩,u4,ZA (Chg.refl _ _)⟩
  case round =>
   obtain⟨i,n9,c9,A9,X,la,rfl,rfl,m8,v8,f7,i7,l6,p8,s6,g0,c0,i2⟩:=hrel;have p0:Hid (Ext w wr):=ZA (x2.out.chg i2.out fun k hk e=>by omega);by_cases y7:i<j
   ·obtain⟨x,a4⟩:∃x,cb[i]? = some x:=⟨_,List.getElem?_eq_getElem (by rw[j1.out];exact y7)⟩
    obtain⟨g,o,p7,x0,x1⟩:=Z5 (a1.out.cells.ext p0.out) a4;subst p7;have x6:=a1.out.each x (List.mem_of_getElem? a4);have l4:bP[i]? = some x.po:=by rw[k1.out,List.getElem?_map,a4];rfl
    have q6:=hR.out.pos x.po (List.mem_of_getElem? l4);have o0:=l6.out;have n1:=p8.out;have v1:=s6.out;rw[Zo l4]at o0 n1 v1;rw[List.map_cons]at n1;obtain⟨l5,n5,u3⟩:=ZAS n1;have d6:=fun o=>p0.out.alloc o;have o6:=fun o=>i2.out.trans (Chg.of_ext ((Ext.refl wr).alloc o) _) fun _ _ h=>h;have y6:=fun o=>c0.out.alloc o;have k8:=fun o=>(c0.out.alloc o).cell 0 rfl;replace a4:=ZA a4;replace l4:=ZA l4;replace q6:=ZA q6;replace o0:=ZA o0;replace v1:=ZA v1;replace u3:=ZA u3;replace x6:=ZA x6;clear n1;obtain⟨d,pos,B,cB⟩:=x;have l5:la<d:=l5;have n5:d<65536:=n5;simp only at x0 x1;obtain⟨pl,l3⟩:∃pl,pl=pos.length:=⟨_,rfl⟩
    rw[<-l3]at x1;replace l3:=ZA l3;replace d6:=ZA d6;replace o6:=ZA o6;replace y6:=ZA y6;obtain⟨s7,t3⟩:0<pos.length/\risB 1048576 (-1) pos=true:=by
     have:=q6.out;unfold okPo at this;rw[Bool.and_eq_true]at this;exact⟨of_decide_eq_true this.1,this.2⟩
    obtain⟨q,hq⟩:∃q:Nat,(q:Int)=d - la - 1:=⟨(d - la - 1).toNat,by omega⟩
    obtain⟨X1,e4⟩:∃X1,X1=X++stepsL la [d]:=⟨_,rfl⟩
    obtain⟨X2,j4⟩:∃X2,X2=X1++vb pl:=⟨_,rfl⟩
    obtain⟨X3,c3⟩:∃X3,X3=X2++stepsL (-1) pos:=⟨_,rfl⟩
    have r0:Y=X3++blockPo d (bP.drop (i+1)):=by
     rw[o0.out,c3,j4,e4,l3.out];show X++((vb (d - la - 1).toNat++vb pos.length++stepsL (-1) pos)++_)=_;simp[stepsL,PoC.po]
    have a5:X3.length<=50000000:=by rw[r0,List.length_append]at m7;omega
    have z5:X2.length<=X3.length:=by rw[c3,List.length_append];omega
    have y5:X1.length<=X2.length:=by rw[j4,List.length_append];omega
    have q8:pl<=50000000:=by
     have:=ZDy pos (-1);rw[c3,List.length_append,<-l3.out]at *;omega
    have a8:=ZX (m:=pl) (by omega);replace e4:=ZA e4;replace j4:=ZA j4;replace c3:=ZA c3;replace r0:=ZA r0;replace hq:=ZA hq;replace t3:=ZA t3;gi_wp2_with fail;obtain⟨W5,k4⟩:∃W5,W5=(wr.alloc (Obj.cells #[Value.int IntKind.i64 d,Value.slice B pl cB] 107)).alloc (Obj.cells #[Value.int IntKind.i64 d] 3):=⟨_,rfl⟩
    have f0:Ext wr W5:=by rw[k4];exact((Ext.refl wr).alloc _).alloc _
    have rp:Row W5 wr.heap.size 107 #[Value.int IntKind.i64 d,Value.slice B pl cB]:=by rw[k4];exact(Row.new wr _ _).alloc _
    have n6:Cells W5 (some ⟨wr.heap.size+1,0,none⟩) ([d].map IV):=by
     rw[k4];refine .inr ⟨_,0,rfl,fun u v hv=>?_⟩;have:=heap_alloc_new (wr.alloc (Obj.cells #[Value.int IntKind.i64 d,Value.slice B pl cB] 107)) (Obj.cells #[Value.int IntKind.i64 d] 3);rw[World.size_alloc]at this;rw[Nat.zero_add,cell_of_row _ _ _ _ _ _ this];simpa [IV]using hv
    rw[<-k4];have j0:=g0.out.1;refine(Zt (q7.out w.heap.size A9 _ n9 c9 1 1 X la 65536 [d] W5 (g0.out.ext f0) (by have:=(p0.out.trans f0).size;omega) rfl n6 (by simp[risB,l5,n5]) (by omega) (by omega) (by omega) (by omega))).mono ?_;rintro e w6 x5;obtain⟨A6,c6,rfl,u2,g5⟩:=x5;rw[<-e4.out]at u2 ⊢;obtain⟨gp,r5⟩:∃gp,gp=wr.heap.size:=⟨_,rfl⟩
    rw[<-r5]at rp ⊢;have rp6:=rp.ext g5;have y1:=rp6.cell 1 rfl;have x3:w.heap.size<=W5.heap.size:=(p0.out.trans f0).size;have o3:Hid (Ext wr w6):=ZA (f0.trans g5);have k6:w.heap.size<=w6.heap.size:=(p0.out.trans o3.out).size;obtain⟨n10,k3⟩:∃n10,n10=X1.length:=⟨_,rfl⟩
    rw[<-k3]at u2 y5 ⊢;replace k3:=ZA k3;replace rp6:=ZA rp6;replace u2:=ZA u2;replace r5:=ZA r5;clear k4 f0 rp n6 j0 g5 x3;gi_wp2_with fail;refine(Zt (e1.out A6 n10 c6 pl X1 w6 u2.out.1 u2.out.2.cells u2.out.nil_ (by omega) (by omega))).mono ?_;rintro e w7 a2;obtain⟨A7,c7,rfl,j2,l0⟩:=a2;rw[<-j4.out]at j2 ⊢;have rp7:=rp6.out.ext l0;have z1:=rp7.cell 1 rfl;have z0:=rp7.cell 0 rfl;have i3:Hid (Own8 w7 w.heap.size A7 X2.length c7 X2):=ZA ⟨rfl,j2.lower k6⟩;have y2:Hid (Ext wr w7):=ZA (o3.out.trans l0);have j6:w.heap.size<=w7.heap.size:=(p0.out.trans y2.out).size;obtain⟨n11,j3⟩:∃n11,n11=X2.length:=⟨_,rfl⟩
    rw[<-j3]at i3 z5 ⊢;replace j3:=ZA j3;replace rp7:=ZA rp7;clear j2 l0 y1;gi_wp2_with fail;refine(Zt (q7.out w.heap.size A7 B n11 c7 pl cB X2 (-1) 1048576 pos w7 i3.out j6 l3.out ((x6.out.1.ext p0.out).ext y2.out) t3.out (by omega) (by omega) (by omega) (by omega))).mono ?_;rintro e w8 x5;obtain⟨A8,c8,rfl,m0,z3⟩:=x5;rw[<-c3.out]at m0 ⊢;have rp8:=rp7.out.ext z3;have v0:=rp8.cell 0 rfl;have r3:Hid (Ext wr w8):=ZA (y2.out.trans z3);have r38:=c0.out.ext r3.out;have t0:=r38.cell 0 rfl;have t1:=r38.free 0;obtain⟨n12,m3⟩:∃n12,n12=X3.length:=⟨_,rfl⟩
    rw[<-m3]at m0 a5 ⊢;replace m3:=ZA m3;replace m0:=ZA m0;replace r38:=ZA r38;clear z0 z1 z3 rp8;gi_wp2_with fail;have p6:=r38.out.put 0 (.int .i64 d);have t4:Own8 (w8.setCell ⟨h1+2,0,none⟩ (.int .i64 d)) w.heap.size A8 n12 c8 X3:=⟨m0.out.1,m0.out.2.setCell (m0.out.2.unlike r38.out (by decide)) _⟩
    have i5:Chg (fun k=>k=h1+2) W2 (w8.setCell ⟨h1+2,0,none⟩ (.int .i64 d)):=(i2.out.trans (Chg.of_ext r3.out _) fun _ _ h=>h).trans (Chg.of_set (S:=fun k=>k=h1+2) w8 _ rfl) fun _ _ h=>h;exact⟨⟨i+1,n12,c8,A8,X3,d,rfl,by congr 1,by omega,by omega,by omega,by omega,r0,u3,v1,ZA t4,ZA p6,ZA i5⟩,by simp only[intOf];omega⟩
   ·have n4:bP.length=j:=by rw[k1.out,List.length_map];exact j1.out
    have b5:Y=X:=by rw[l6.out,List.drop_eq_nil_of_le (by rw[n4];omega),blockPo,List.append_nil]
    have b0:la=lz:=by rw[<-s6.out,List.drop_eq_nil_of_le (by rw[n4];omega),lastPo]
    have p4:HB w.heap.size h1 (h1+1) Hd Bd wr:=z2.out.chg i2.out fun k hk=>⟨3,#[.int .i64 lst],by rw[hk];exact u4.out,by decide,by decide⟩
    have a0:=p4;obtain⟨A1,B1,c1,d1,r1,r2,o1,o2,r4⟩:=p4;have f1:=r1.cell 0 rfl;have f3:=c0.out.cell 0 rfl;obtain⟨lN,q5⟩:∃lN:Nat,la=(lN:Int):=⟨la.toNat,by have:=hR.out.ne;rw[b0,e3.out];omega⟩
    have e7:lN<65536:=by omega
    have y8:=ZX (m:=lN) (by omega);have x8:=ZX (m:=n9) (by omega);rw[q5]at f3;have v5:Hd.length<=100000:=by
     have h1:=hR.out.hlen;have h2:=ZD (n:=m) (by omega);rw[i0.out,List.length_append];omega
    obtain⟨nh,j5⟩:∃nh,nh=Hd.length:=⟨_,rfl⟩
    rw[<-j5]at f1 v5 o1;obtain⟨H1,s3⟩:∃H1,H1=Hd++vb lN:=⟨_,rfl⟩
    obtain⟨H2,w3⟩:∃H2,H2=H1++vb n9:=⟨_,rfl⟩
    have b7:=ZD (n:=lN) (by omega);have d7:=ZD (n:=n9) (by omega);have m5:H1.length<=100010:=by rw[s3,List.length_append,<-j5];omega
    have t5:H2.length<=100020:=by rw[w3,List.length_append];omega
    have j0:=g0.out.1;have m6:=p0.out.size;replace j5:=ZA j5;replace s3:=ZA s3;replace w3:=ZA w3;replace q5:=ZA q5;replace b5:=ZA b5;replace b0:=ZA b0;replace a0:=ZA a0;replace r1:=ZA r1;replace r2:=ZA r2;replace o1:=ZA o1;replace o2:=ZA o2;replace r4:=ZA r4;replace j0:=ZA j0;replace n4:=ZA n4;clear b7 d7;gi_wp2_with fail;refine(Zt (e1.out A1 nh c1 lN Hd wr o1.out.1 o1.out.2.cells o1.out.nil_ (by omega) (by omega))).mono ?_;rintro e w7 a2;obtain⟨A7,c7,rfl,j2,l0⟩:=a2;rw[<-s3.out]at j2 ⊢;obtain⟨n7,p5⟩:∃n7,n7=H1.length:=⟨_,rfl⟩
    rw[<-p5]at j2 m5 ⊢;have i3:Hid (Own8 w7 w.heap.size A7 n7 c7 H1):=ZA ⟨p5,j2.lower m6⟩;replace p5:=ZA p5;replace l0:=ZA l0;clear j2;gi_wp2_with fail;refine(Zt (e1.out A7 n7 c7 n9 H1 w7 i3.out.1 i3.out.2.cells i3.out.nil_ (by omega) (by omega))).mono ?_;rintro e w8 a2;obtain⟨A8,c8,rfl,m0,z3⟩:=a2;rw[<-w3.out]at m0 ⊢;obtain⟨n8,k5⟩:∃n8,n8=H2.length:=⟨_,rfl⟩
    rw[<-k5]at m0 t5 ⊢;have q0:Hid (Ext wr w8):=ZA (l0.out.trans z3);have r18:=r1.out.ext q0.out;have s0:=r18.cell 0 rfl;have s1:=r18.free 0;have q4:=ZA (a0.out.head (W6:=w8) (B1:=w7.heap.size) (by omega) q0.out k5 m0 l0.out.size (by have:=l0.out.size;omega));replace r18:=ZA r18;replace k5:=ZA k5;clear m0 z3;have v4:Hid (Own8 (w8.setCell ⟨h1,0,none⟩ (.slice A8 n8 c8)) w.heap.size A9 n9 c9 X):=ZA ⟨g0.out.1,((g0.out.2.ext q0.out)).setCell ((g0.out.2.ext q0.out).unlike r18.out (by decide)) _⟩;have l2:KeepsOthers W2 (w8.setCell ⟨h1,0,none⟩ (.slice A8 n8 c8)):=((i2.out.others fun k hk=>⟨3,#[.int .i64 lst],by rw[hk];exact u4.out⟩).trans q0.out.others).trans (KeepsOthers.setCell _ _ _);have w0:Row (w8.setCell ⟨h1,0,none⟩ (.slice A8 n8 c8)) b1 43 #[.slice A m c]:=(((i2.out.row i1.out (by omega)).ext q0.out)).away (by simp;omega) _;have p1:Row (w8.setCell ⟨h1,0,none⟩ (.slice A8 n8 c8)) b2 3 #[.int .i64 32]:=(((i2.out.row l1.out (by omega)).ext q0.out)).away (by simp;omega) _;have v3:Row (w8.setCell ⟨h1,0,none⟩ (.slice A8 n8 c8)) (h1+2) 3 #[.int .i64 la]:=(c0.out.ext q0.out).away (by simp) _;have n0:Ext w (w8.setCell ⟨h1,0,none⟩ (.slice A8 n8 c8)):=(p0.out.trans q0.out).setCell (by simpa using s5) _;replace l2:=ZA l2;replace w0:=ZA w0;replace p1:=ZA p1;replace v3:=ZA v3;replace n0:=ZA n0;have k7:Bd.length<=50000000:=by have:=hR.out.len;have:=p2.out;rw[e0.out];omega
    have r28:Row (w8.setCell ⟨h1,0,none⟩ (.slice A8 n8 c8)) (h1+1) 25 #[.slice B1 Bd.length d1]:=(r2.out.ext q0.out).away (by simp) _;have s2:=(r2.out.ext q0.out).cell 0 rfl;have f5:Buf (w8.setCell ⟨h1,0,none⟩ (.slice A8 n8 c8)) w.heap.size 5 B1 Bd.length d1 (Bd.map B8):=(o2.out.2.ext q0.out).setCell ((o2.out.2.ext q0.out).unlike r18.out (by decide)) _;have u6:Cells (w8.setCell ⟨h1,0,none⟩ (.slice A8 n8 c8)) A9 (X.map B8):=v4.out.2.cells;have d2:(X.map B8).length=n9:=by rw[List.length_map];exact j0.out.symm
    have g6:=n0.out.size;replace r28:=ZA r28;replace f5:=ZA f5;replace u6:=ZA u6;replace d2:=ZA d2;gi_wp2_with (gi_at_builtin;refine Z3 ZV f5.out u6.out (.tmp 57) (.tmp 58) rfl rfl rfl rfl rfl d2.out (ZF _) (by omega) g6 (fun A10 c10 w10 e2 m1 z4 n2=>?_);have r210:=HB.rows q4.out r28.out m1 r28.out (by decide);have u0:=r210.cell 0 rfl;have u1:=r210.free 0;replace r210:=ZA r210;replace e2:=ZA e2;replace m1:=ZA m1;replace z4:=ZA z4;replace n2:=ZA n2);obtain⟨g1,g2,g3,g4⟩:=HB.body (x:=X) q4.out (by omega) r28.out m1.out (by rw[List.length_append,<-j0.out]) (by rw[List.map_append];exact e2.out) n2.out;refine⟨l2.out.trans g2,KeepB.of i1.out (g3 _ _ _ w0.out (by decide) (by omega)) l1.out (g3 _ _ _ p1.out (by decide) (by omega)),?_,g3 _ _ _ ?_ (by decide) (by omega),g3 _ _ _ w0.out (by decide) (by omega),g3 _ _ _ p1.out (by decide) (by omega),g4 _ n0.out (Nat.le_refl _) (by omega)⟩
    ·rw[List.length_append,List.length_singleton,hR.out.head,hR.out.body,<-e0.out,<-List.append_assoc,<-List.append_assoc,<-i0.out,<-hY.out,b5.out,<-e3.out,<-b0.out,<-j0.out,q5.out,Int.toNat_natCast,<-s3.out,<-w3.out];exact g1
    ·rw[List.length_append,List.length_singleton,hR.out.last2,<-e3.out,<-b0.out];exact v3.out
 case hdone =>
  rintro D xs W2 W3 W5 hD hI ⟨e6,j7,g7,f6⟩ a6 hk;have b3:P.length=m:=by rw[hP.out,hm.out];exact List.length_map ..
  have k0:=ZF5 P xs.length (by rw[b3];exact e6);rw[b3]at k0;have u5:=(hI.ext f6).alike a6 d0;have d4:=u5.1;have f0:=u5.2.2.2.2;obtain⟨A1,B1,c1,d1,r1,r2,o1,o2,r4⟩:=d4;obtain⟨Hd,i0⟩:∃Hd,Hd=vb m++headPo (-1) ((chunkL 32 P).take xs.length):=⟨_,rfl⟩
  obtain⟨Bd,e0⟩:∃Bd,Bd=blockPo (-1) (P.take (xs.length*32)):=⟨_,rfl⟩
  rw[<-i0]at r1 o1 k0;rw[<-e0]at r2 o2 k0;have f1:=r1.cell 0 rfl;have f2:=r2.cell 0 rfl;have g8:Hd.length<=50000000:=by
   have h1:=ZDD v2.out p2.out xs.length;have h2:=ZD (n:=m) (by omega);have h3:(headPo (-1) ((chunkL 32 P).take xs.length)).length<=20*(chunkL 32 P).length:=by
    have:=ZDD v2.out p2.out (chunkL 32 P).length;rw[List.take_length]at this;refine Nat.le_trans ?_ this;have h4:=ZCS ((chunkL 32 P).take xs.length) ((chunkL 32 P).drop xs.length) (-1);rw[List.take_append_drop]at h4;rw[h4,List.length_append];omega
   have h5:=ZZ (k:=32) (by omega) P;rw[i0,List.length_append];omega
  have j8:Bd.length<=50000000:=by have:=ZBt P (xs.length*32);have:=p2.out;rw[e0];omega
  have x3:=f0.size;have t6:=o2.2.cells;have f4:=o1.2;have w5:(Bd.map B8).length=Bd.length:=List.length_map ..;replace k0:=ZA k0;replace i0:=ZA i0;replace e0:=ZA e0;replace r1:=ZA r1;replace r2:=ZA r2;replace t6:=ZA t6;replace f4:=ZA f4;replace w5:=ZA w5;replace f0:=ZA f0;replace hk:=ZA hk;clear hI u5 e6 j7 g7 f6 a6 o1 o2 r4;gi_wp2_with (gi_at_builtin;refine Z3 ZV f4.out t6.out (.tmp 60) (.tmp 61) rfl rfl rfl rfl rfl w5.out (ZF _) (by omega) x3 (fun A6 c6 w6 e5 o5 v6 r6=>?_);replace e5:=ZA e5;replace o5:=ZA o5;replace v6:=ZA v6;replace r6:=ZA r6);have a7:w6.heap[D]? = some (.deferred (some [])):=(ZAF f4.out o5.out).same _ _ hk.out rfl;refine ZAO (B:=w4.heap.size) rfl a7 hD fun W ha=>⟨_,results_tmp2 rfl _ _ _,?_⟩
  refine⟨A6,c6,?_,⟨rfl,?_⟩,ha.ext (v6.out w f0.out (Nat.le_refl _)) d0⟩
  ·rw[k0.out,List.length_append];rfl
  ·rw[k0.out,List.length_append,List.map_append];exact ha.buf e5.out
end
section
open Go.RowKit
def RdSt (w0:World) (p1 p2:Nat) (r:List UInt8) (W:World):Prop:=∃A c,Row W p1 25 #[.slice A r.length c]/\Row W p2 4 #[.bool false]/\In8 w0 A r.length c r/\Ext w0 W
theorem RdSt.chg {w0:World} {p1 p2:Nat} {r:List UInt8} {W W1:World} {S:Nat->Prop} (h:RdSt w0 p1 p2 r W) (hc:Chg S W W1) (h1:¬ S p1) (h2:¬ S p2) (h0:∀k,S k->w0.heap.size<=k):RdSt w0 p1 p2 r W1:=by
 obtain⟨A,c,r1,r2,hi,hE⟩:=h;exact⟨A,c,hc.row r1 h1,hc.row r2 h2,hi,hE.chg hc fun i hi hs=>by have:=h0 i hs;omega⟩
theorem RdSt.ext {w0:World} {p1 p2:Nat} {r:List UInt8} {W W1:World} (h:RdSt w0 p1 p2 r W) (hE:Ext W W1):RdSt w0 p1 p2 r W1:=by
 obtain⟨A,c,r1,r2,hi,h0⟩:=h;exact⟨A,c,r1.ext hE,r2.ext hE,hi,h0.trans hE⟩
def NumR (w0:World) (p1 p2 q:Nat) (r:List UInt8) (W:World) (e:Ending) (W':World):Prop:=e = .returned (.int .i64 (q:Int))/\RdSt w0 p1 p2 r W'/\Chg (fun k=>k=p1) W W'
theorem wrap_i64 {q:Nat} (h:q<9223372036854775808):IntKind.i64.wrap (q:Int)=(q:Int):=by
 simp[IntKind.wrap,IntKind.bits,IntKind.signed];omega
theorem ZJZ (w0 W:World) (p1 p2 q:Nat) (r:List UInt8) (z:Int) (h:RdSt w0 p1 p2 (vb q++r) W) (p0:w0.heap.size<=p1) (hp:p1≠p2) (hz:(q:Int)<=z) (m0:z<=1099511627776) (q0:(vb q++r).length<=1000000000) :
 Calls Tryz.prog 106 #[.int .i64 z,.pointer (some ⟨p1,0,none⟩),.pointer (some ⟨p2,0,none⟩)] W fun e W'=>NumR w0 p1 p2 q r W e W':=by
 obtain⟨A,c,r1,r2,hi,hE⟩:=h;have hg:=ZA1 A (vb q++r).length c (vb q++r) w0 W hi hE q0;rw[Zm (by omega)]at hg;obtain⟨n,hn⟩:∃n,n=(vb q++r).length:=⟨_,rfl⟩
 rw[<-hn]at hg r1 q0;obtain⟨b,hb⟩:∃b:Nat,z=(b:Int):=⟨z.toNat,by omega⟩
 subst hb;have k1:=r1.cell 0 rfl;have j0:=ZX (m:=b) (by omega);have g0:=wrap_i64 (q:=q) (by omega);have k0:¬ (b:Int)<(q:Int):=by omega
 replace hg:=ZA hg;replace r1:=ZA r1;replace r2:=ZA r2;replace hi:=ZA hi;replace hE:=ZA hE;replace hn:=ZA hn;go_enter Tryz.func106,Tryz.ntmps106;go_wp2_with fail;refine hg.out.mono ?_;rintro e w1 ⟨h0,A1,c1,rfl,hi1⟩;have r11:=r1.out.ext h0;have r21:=r2.out.ext h0;have k2:=r21.cell 0 rfl;have k3:=r11.cell 0 rfl;have k4:=r11.free 0;have k5:=r21.free 0;replace r11:=ZA r11;replace r21:=ZA r21;replace h0:=ZA h0;replace hi1:=ZA hi1;go_wp2_with fail;go_ret;refine⟨rfl,⟨A1,c1,r11.out.put 0 _,r21.out.away (by simpa using fun e=>hp e.symm) _,hi1.out,(hE.out.trans h0.out).setCell p0 _⟩,(Chg.of_ext h0.out _).trans (Chg.of_set (S:=fun k=>k=p1) w1 _ rfl) fun _ _ h=>h⟩
theorem ZEW (A B:Option Addr) (n m c c2:Nat) (a b:List UInt8) (w:World) (ha:In8 w A n c a) (hb:In8 w B m c2 b) (hn:n<=1000000000) (hm:m<=1000000000) :
 Calls Tryz.prog 96 #[.slice A n c,.slice B m c2] w fun e w'=>e = .returned (.bool (decide (a=b)))/\Ext w w':=by
 have h0:=ha.len;have q0:=hb.len;have p0:((n:Int) != (m:Int))=true->decide (a=b)=false:=fun h=>decide_eq_false fun e=>by rw[e]at h0;simp at h;omega
 replace p0:=ZA p0;by_cases u0:n=m
 ·subst u0;replace h0:=ZA h0;replace q0:=ZA q0;clear p0;go_enter Tryz.func96,Tryz.ntmps96;go_wp2_with fail
  go_loopw [13] (fun s13 wr=>∃i:Nat,s13 = .int .i64 i/\i<=n/\Hid (a.take i=b.take i)/\Hid (Ext w wr)) (fun s13 _=>n - (intOf s13).toNat)
  case atStart=>exact⟨0,rfl,by omega,rfl,ZA (Ext.refl w)⟩
  case round =>
   obtain⟨i,rfl,hi,hab,hE⟩:=hrel;by_cases v0:i<n
   ·have m0:i<a.length:=by rw[<-h0.out];exact v0
    have t0:i<b.length:=by rw[<-q0.out];exact v0
    obtain⟨g,o,rfl,hc⟩:=ha.bytes.at_ (by omega);obtain⟨g2,o2,rfl,g0⟩:=hb.bytes.at_ (by omega);have k0:=hE.out.cell (hc i m0);have k1:=hE.out.cell (g0 i t0);have hx:a[i]=b[i]->a.take (i+1)=b.take (i+1):=fun h=>by rw[List.take_succ_eq_append_getElem m0,List.take_succ_eq_append_getElem t0,hab.out,h]
    have hy:a[i]≠b[i]->decide (a=b)=false:=fun h=>decide_eq_false fun e=>h (by subst e;rfl);obtain⟨p,hp⟩:∃p,p=a[i]:=⟨_,rfl⟩
    obtain⟨q,hq⟩:∃q,q=b[i]:=⟨_,rfl⟩
    rw[<-hp,<-hq]at hx hy;rw[<-hp]at k0;rw[<-hq]at k1;have z0:(0:Int)<=i:=by omega
    have hi1:(i:Int)<n:=by omega
    replace hx:=ZA hx;replace hy:=ZA hy;clear hp hq hc g0;by_cases j0:p=q
    ·subst j0;have x0:=ZA (hx.out rfl);clear hx hy;go_wp2_with fail;go_quiet (fail);go_wp2_with fail;go_roundw
     case rel=>exact⟨i+1,by go_num,by omega,x0,by first | exact ZA hE.out.drew | exact ZA (hE.out.drewN _)⟩
     case measure=>simp[intOf];omega
    ·have y0:=ZA (hy.out j0);have a0:(((p.toNat:Int)) != (q.toNat:Int))=true:=by simp;exact fun h=>j0 (UInt8.toNat_inj.1 (by omega))
     clear hx hy;go_wp2_with fail;go_quiet (fail);go_wp2_with fail;go_ret;exact⟨Zw y0.out.symm,by first | exact hE.out.drew | exact hE.out.drewN _⟩
   ·obtain rfl:i=n:=by omega
    have hd:decide (a=b)=true:=decide_eq_true (by
     have h:=hab.out;rw[List.take_of_length_le (by rw[<-h0.out];exact Nat.le_refl _),List.take_of_length_le (by rw[<-q0.out];exact Nat.le_refl _)]at h;exact h)
    replace hd:=ZA hd;go_wp2_with fail;go_ret;exact⟨Zw hd.out.symm,hE.out⟩
 ·have hd:=ZA (p0.out (by simp;omega));clear p0 h0 q0 ha hb;go_enter Tryz.func96,Tryz.ntmps96;go_wp2_with fail;go_ret;exact⟨Zw hd.out.symm,Ext.refl w⟩
theorem In8.take {w:World} {A:Option Addr} {n c:Nat} {l:List UInt8} (h:In8 w A n c l) {k:Nat} (hk:k<=n):In8 w A k c (l.take k):=by
 refine⟨by rw[List.length_take,<-h.len];omega,?_,by have:=h.cap;omega,h.nil_,h.at_⟩;rcases h.bytes with hb | ⟨g,o,hA,hb⟩
 ·left;have:l = []:=by simpa using hb
  rw[this];simp
 ·refine .inr ⟨g,o,hA,fun i v hv=>hb i v ?_⟩;rw[List.getElem?_map]at hv ⊢;rw[List.getElem?_take]at hv;split at hv
  ·exact hv
  ·cases hv
def NewPs (w:World) (L:List Po) (e:Ending) (w':World):Prop:=∃(ps:List PoC) (A:Option Addr) (c:Nat),psP ps=L/\e = .returned (.tuple #[.slice A L.length c,.int .i64 0])/\PosOk w' A ps/\(∀a,A=some a->a.spot=none)/\L.length<=c/\Ext w w'
theorem ZKn {L:List Po} (h0:okPs L=true) (q0:(blockPo (-1) L).length<=50000000):(encPs L).length<=60000000:=by
 have h1:=ZCy h0;have h2:=ZDD h0 q0 (chunkL 32 L).length;rw[List.take_length]at h2;have h3:=ZZ (k:=32) (by omega) L;have h4:=ZD (n:=L.length) (by omega);unfold encPs;rw[List.length_append,List.length_append];omega
theorem ZM3:Elem Tryz.prog 43 107 2 32:=⟨Tryz.underlying43,⟨_,_,rfl,rfl,rfl,rfl,rfl⟩,by omega,by omega⟩
structure PoRead (L:List Po) (i:Nat) (p:Po) (la:Int):Prop where
  eq:la=lastPo (-1) (L.take i)
  lo : -1<=la
  hi:la<65536
  lt:la<p.1
  lt2:p.1<65536
  pos:0<p.2.length
  ris:risB 1048576 (-1) p.2=true
  len:p.2.length<=1048576
  rest:blockPo la (L.drop i)=vb (p.1 - la - 1).toNat++(vb p.2.length++(stepsL (-1) p.2++blockPo p.1 (L.drop (i+1))))
  next:lastPo (-1) (L.take (i+1))=p.1
  all:(blockPo la (L.drop i)).length<=(blockPo (-1) L).length
theorem ZNi {L:List Po} (h0:okPs L=true) {i:Nat} {p:Po} (hp:L[i]? = some p):PoRead L i p (lastPo (-1) (L.take i)):=by
 rw[ZCU,Bool.and_eq_true]at h0;have h1:=ZD5 i h0.1;have hb:=ZAj (l:=L.take i) (lo:= -1) (n:=65536) (by rw[List.map_take];exact Zv _ h0.1) (by omega);rw[Zo hp,List.map_cons]at h1;obtain⟨h2,h3,h4⟩:=ZAS h1;have h5:=List.all_eq_true.1 h0.2 p (List.mem_of_getElem? hp);unfold okPo at h5;rw[Bool.and_eq_true]at h5;have h6:=ZCH h5.2 (by omega);refine⟨rfl,hb.1,hb.2,h2,h3,of_decide_eq_true h5.1,h5.2,by omega,?_,?_,?_⟩
 ·rw[Zo hp];show onePo _ p++blockPo p.1 _=_;unfold onePo;simp
 ·rw[List.take_add_one,hp,ZAl];rfl
 ·conv=>rhs;rw[<-List.take_append_drop i L,Zn,List.length_append]
  omega
structure Done (w wr:World) (A:Option Addr) (i c:Nat) (dn:List PoC):Prop where
  len:dn.length=i
  own:wr.ownsRow w.heap.size 107 2 (.slice A i c) i (pcells dn)
  each:∀x∈dn,Buf wr w.heap.size 3 x.A x.pos.length x.c (x.pos.map IV)/\x.pos.length<=1000000000
theorem Done.chg {w wr w1:World} {A:Option Addr} {i c:Nat} {dn:List PoC} {S:Nat->Prop} (h:Done w wr A i c dn) (hc:Chg S wr w1) (hS:∀k,S k->∃t cs,Row wr k t cs/\t≠107/\t≠3):Done w w1 A i c dn:=by
 refine⟨h.len,hc.owns h.own fun g hg hs=>?_,fun x hx=>⟨(h.each x hx).1.chg hc fun a ha hs=>?_,(h.each x hx).2⟩⟩
 ·obtain⟨t,cs,hr,h1,_⟩:=hS _ hs;exact ZJ h.own hr (fun e=>h1 e.symm) hg
 ·obtain⟨t,cs,hr,_,h2⟩:=hS _ hs;exact(h.each x hx).1.unlike hr (fun e=>h2 e.symm) a ha rfl
theorem ZGw:∀ {l:List Int} {lo:Int},risB 1048576 lo l=true -> -1<=lo->(stepsL lo l).length<=10*l.length:=fun h h2=>by have:=ZEs h h2;omega
theorem Zg (w:World) (us:List Value) (T:TypeId):Cells (w.alloc (.cells us.toArray T)) (some ⟨w.heap.size,0,none⟩) us :=
 .inr ⟨w.heap.size,0,rfl,fun i u hu=>by
  rw[Nat.zero_add,cell_of_row _ _ _ _ _ _ (heap_alloc_new w _)];simpa using hu⟩
theorem Done.pos {w wr:World} {A:Option Addr} {i c:Nat} {dn:List PoC} (h:Done w wr A i c dn):PosOk wr A dn:=⟨Cells.of_own h.own,fun x hx=>⟨(h.each x hx).1.cells,(h.each x hx).2⟩⟩
theorem RdSt.rows {w0:World} {p1 p2:Nat} {r:List UInt8} {W W1:World} (h:RdSt w0 p1 p2 r W) (hr:∀g t cs,Row W g t cs->t=25\/t=4->Row W1 g t cs) (hE:Ext w0 W1):RdSt w0 p1 p2 r W1:=by
 obtain⟨A,c,r1,r2,hi,_⟩:=h;exact⟨A,c,hr _ _ _ r1 (.inl rfl),hr _ _ _ r2 (.inr rfl),hi,hE⟩
theorem ZAk {w w1:World} {base n c:Nat} {e t:TypeId} {A:Option Addr} {xs:List Value} (hb:Buf w base e A n c xs) (hg:w.grownBy w1 (Value.slice A n c).ownBlock) {g:Nat} {cs:Array Value} (hr:Row w g t cs) (ht:t≠e):Row w1 g t cs :=
 hr.grown hg fun h=>by
  cases A with
  | none=>simp[Value.ownBlock]at h
  | some a=>exact hb.unlike hr (fun e=>ht e.symm) a rfl (by simpa [Value.ownBlock]using h.symm)
theorem ZGJ (A:Option Addr) (n c:Nat) (bs:List UInt8) (w:World) (L:List Po) (h:In8 w A n c bs) (x1:okPs L=true) (g2:bs=encPs L) (o1:(blockPo (-1) L).length<=50000000) :
 Calls Tryz.prog 59 #[.slice A n c] w fun e w'=>NewPs w L e w':=by
 have h5:=ZKn x1 o1;rw[<-g2,<-h.len]at h5;obtain⟨m,hm⟩:∃m,m=L.length:=⟨_,rfl⟩
 have o5:m<=65536:=by rw[hm];exact ZCy x1
 obtain⟨R,hR⟩:∃R,R=headPo (-1) (chunkL 32 L)++blockPo (-1) L:=⟨_,rfl⟩
 have f0:bs=vb m++R:=by rw[g2,hR,hm];unfold encPs;rw[List.append_assoc]
 have s0:n=(vb m++R).length:=by rw[<-f0];exact h.len
 obtain⟨W0,f1⟩:∃W0,W0=(w.alloc (Obj.cells #[.slice A n c] 25)).alloc (Obj.cells #[.bool false] 4):=⟨_,rfl⟩
 obtain⟨p1,y2⟩:∃p1,p1=w.heap.size:=⟨_,rfl⟩
 have a3:RdSt w p1 (p1+1) (vb m++R) W0:=by
  have r1:Row W0 p1 25 #[.slice A n c]:=by rw[f1,y2];exact(Row.new w _ _).alloc _
  have r2:Row W0 (p1+1) 4 #[.bool false]:=by
   have:=Row.new (w.alloc (Obj.cells #[.slice A n c] 25)) 4 #[.bool false];rw[World.size_alloc,<-y2]at this;rw[f1];exact this
  refine⟨A,c,by rw[<-s0];exact r1,r2,by rw[<-s0,<-f0];exact h,by rw[f1];exact((Ext.refl w).alloc _).alloc _⟩
 have t0:=ZA (fun W q r z h1 h2 h3 h4=>ZJZ w W p1 (p1+1) q r z h1 (by omega) (by omega) h2 h3 h4);replace a3:=ZA a3;replace x1:=ZA x1;replace o1:=ZA o1;replace g2:=ZA g2;replace f0:=ZA f0;replace hR:=ZA hR;replace f1:=ZA f1;replace y2:=ZA y2;replace h:=ZA h;replace s0:=ZA s0;replace hm:=ZA hm;go_enter Tryz.func59,Tryz.ntmps59;go_wp2_with fail;rw[<-f1.out,<-y2.out];refine(t0.out W0 m R 65536 a3.out (by omega) (by omega) (by rw[<-s0.out];omega)).mono ?_;rintro e w1 ⟨rfl,b3,g3⟩;replace b3:=ZA b3;replace g3:=ZA g3;obtain⟨nc,x2⟩:∃nc,nc=(chunkL 32 L).length:=⟨_,rfl⟩
 have v1:((m:Int)+32 - 1) / 32=(nc:Int):=by rw[x2,ZZ (by omega),hm.out];omega
 have g5:nc<=4096:=by omega
 have y3:R.length<=100000000:=by have:=s0.out;rw[List.length_append]at this;omega
 replace x2:=ZA x2;replace y3:=ZA y3;replace v1:=ZA v1;go_wp2_with fail;rw[v1.out]
 go_loopw [24] (fun s24 wr=>∃(k:Nat) (r:List UInt8),s24 = .int .i64 (k:Int)/\k<=nc/\Hid (r.length<=100000000)/\Hid (r=headPo (lastPo (-1) (L.take (k*32))) ((chunkL 32 L).drop k)++blockPo (-1) L)/\Hid (RdSt w p1 (p1+1) r wr)/\Hid (Chg (fun k=>k=p1) W0 wr)) (fun s24 _=>nc - (intOf s24).toNat)
 case atStart=>exact⟨0,R,rfl,by omega,y3,ZA (by rw[hR.out];simp[lastPo]),b3,g3⟩
 case round =>
  obtain⟨k,r,rfl,hk,i4,hr,hS,hC⟩:=hrel;by_cases l5:k<nc
  ·have t1:k*32<L.length:=by
    rcases Nat.lt_or_ge (k*32) L.length with h1 | h1
    ·exact h1
    ·have:=ZAR (k:=32) (by omega) k L h1;rw[<-x2.out]at this;omega
   have h0:=ZFP x1.out o1.out t1;have o3:=Zo (ZAP (k:=32) (by omega) k L t1);obtain⟨bP,o2⟩:∃bP,bP=(L.drop (k*32)).take 32:=⟨_,rfl⟩
   obtain⟨lst,l0⟩:∃lst,lst=lastPo (-1) (L.take (k*32)):=⟨_,rfl⟩
   rw[<-o2,<-l0]at h0;rw[<-o2]at o3;have t4:=hr.out;rw[o3,<-l0]at t4;obtain⟨q1,a1⟩:∃q1:Nat,q1=(lastPo lst bP).toNat:=⟨_,rfl⟩
   obtain⟨q2,a2⟩:∃q2:Nat,q2=(blockPo lst bP).length:=⟨_,rfl⟩
   have z2:(q1:Int)<=65536:=by have:=h0.hi2;omega
   obtain⟨r2,b1⟩:∃r2,r2=headPo (lastPo lst bP) ((chunkL 32 L).drop (k+1))++blockPo (-1) L:=⟨_,rfl⟩
   have u4:r=vb q1++(vb q2++r2):=by
    rw[t4,b1,a1,a2];show (vb _++vb _++headPo _ _)++_=_;simp
   have b2:(q2:Int)<=(n:Int):=by
    have h1:=h0.len;have h2:=s0.out;rw[hR.out]at h2;simp only[List.length_append]at h2;omega
   have m0:(vb q1++(vb q2++r2)).length<=100000000:=by rw[<-u4];exact i4.out
   have x0:(vb q2++r2).length<=100000000:=by rw[List.length_append]at m0;omega
   have j0:r2.length<=100000000:=by rw[List.length_append]at x0;omega
   have l3:=ZA (fun W h=>t0.out W q1 (vb q2++r2) 65536 h z2 (by omega) (by omega));have n3:=ZA (fun W h=>t0.out W q2 r2 (n:Int) h b2 (by omega) (by omega));have z3:Hid (RdSt w p1 (p1+1) (vb q1++(vb q2++r2)) wr):=ZA (by rw[<-u4];exact hS.out);have v4:Hid (r2=headPo (lastPo (-1) (L.take ((k+1)*32))) ((chunkL 32 L).drop (k+1))++blockPo (-1) L):=ZA (by rw[h0.last2];exact b1);clear t4 u4 m0 x0 h0 o3 b1 b2 z2 t1;replace o2:=ZA o2;replace l0:=ZA l0;replace a1:=ZA a1;replace a2:=ZA a2;replace j0:=ZA j0;go_wp2_with fail;refine(l3.out _ z3.out).mono ?_;rintro e w3 ⟨rfl,a0,t3⟩;replace a0:=ZA a0;replace t3:=ZA (hC.out.trans t3 fun _ _ h=>h);go_wp2_with fail;refine(n3.out _ a0.out).mono ?_;rintro e w4 ⟨rfl,j1,o0⟩;replace j1:=ZA j1;replace o0:=ZA (t3.out.trans o0 fun _ _ h=>h);go_wp2_with fail;exact⟨⟨k+1,r2,by congr 1,by omega,j0,v4,j1,o0⟩,by simp only[intOf];omega⟩
  ·have l4:r=blockPo (-1) (L.drop 0):=by
    rw[hr.out,List.drop_eq_nil_of_le (by rw[<-x2.out];omega),headPo,List.nil_append,List.drop_zero]
   have z3:Hid (RdSt w p1 (p1+1) (blockPo (-1) (L.drop 0)) wr):=ZA (by rw[<-l4];exact hS.out);clear l4 hr hS i4;go_wp2_with fail
   go_loopw [8,9,10] (fun s8 s9 s10 wv=>∃(i c8:Nat) (A8:Option Addr) (la:Int) (dn:List PoC),s8 = .slice A8 i c8/\s9 = .int .i64 la/\s10 = .int .i64 (i:Int)/\i<=m/\Hid (la=lastPo (-1) (L.take i))/\Hid (RdSt w p1 (p1+1) (blockPo la (L.drop i)) wv)/\Hid (Done w wv A8 i c8 dn)/\Hid (psP dn=L.take i)) (fun _ _ s10 _=>m - (intOf s10).toNat)
   case atStart=>exact⟨0,0,none,-1,[],rfl,rfl,rfl,by omega,ZA rfl,z3,ZA ⟨rfl,World.ownsRow_nil _ _ _ _,nofun⟩,ZA rfl⟩
   case round =>
    obtain⟨i,c8,A8,la,dn,rfl,rfl,rfl,him,k5,z0,n1,f4⟩:=hrel;obtain⟨wv,rfl⟩:∃wv,wv=wr:=⟨_,rfl⟩
    obtain⟨B0,d0,r10,r20,_,_⟩:=z0.out;have kw:=r20.cell 0 rfl;clear r10 r20;by_cases p5:i<m
    ·obtain⟨p,q3⟩:∃p,L[i]? = some p:=⟨_,List.getElem?_eq_getElem (by rw[<-hm.out];exact p5)⟩
     have h0:=ZNi x1.out q3;rw[<-k5.out]at h0;have a0:=z0.out;rw[h0.rest]at a0;have m0:=h0.all;rw[h0.rest]at m0;obtain⟨d,pos⟩:=p;have a5:la<d:=h0.lt;have b5:d<65536:=h0.lt2;have n5:=h0.lo;have i5:=h0.hi;simp only at a0 m0;obtain⟨q1,a1⟩:∃q1:Nat,q1=(d - la - 1).toNat:=⟨_,rfl⟩
     have e5:la+1+(q1:Int)=d:=by omega
     obtain⟨pl,n0⟩:∃pl,pl=pos.length:=⟨_,rfl⟩
     obtain⟨tl,j3⟩:∃tl,tl=blockPo d (L.drop (i+1)):=⟨_,rfl⟩
     rw[<-a1,<-n0,<-j3]at a0 m0;have v2:(vb q1++(vb pl++(stepsL (-1) pos++tl))).length<=50000000:=Nat.le_trans m0 o1.out;have x0:(vb pl++(stepsL (-1) pos++tl)).length<=50000000:=by rw[List.length_append]at v2;omega
     have j0:(stepsL (-1) pos++tl).length<=50000000:=by rw[List.length_append]at x0;omega
     have m5:pl<=1048576:=by have:=h0.len;rw[n0];exact this
     obtain⟨mn,p4⟩:∃mn:Nat,(mn:Int)=min 1048576 (n:Int):=⟨min 1048576 n,by omega⟩
     have z1:(pl:Int)<=(mn:Int):=by
      have h1:=ZDy pos (-1);have h2:=h0.all;have h3:=s0.out;rw[hR.out,List.length_append,List.length_append]at h3;rw[h0.rest]at h2;simp only[List.length_append]at h2;omega
     have k4:(mn:Int)<=1099511627776:=by omega
     have j5:=fun(W:World)=>Zf (P:=Tryz.prog) #[3,3] 3 p4 W;have l3:=ZA (fun W h=>t0.out W q1 (vb pl++(stepsL (-1) pos++tl)) 65536 h (by omega) (by omega) (by omega));have n3:=ZA (fun W h=>t0.out W pl (stepsL (-1) pos++tl) (mn:Int) h z1 k4 (by omega));replace p4:=ZA p4;replace a0:=ZA a0;replace h0:=ZA h0;replace q3:=ZA q3;replace a1:=ZA a1;replace n0:=ZA n0;replace j3:=ZA j3;replace z1:=ZA z1;clear m0 v2 x0;replace j0:=ZA j0;go_wp2_with fail;refine(l3.out _ a0.out).mono ?_;rintro e w3 ⟨rfl,j1,o0⟩;obtain⟨g11,v0⟩:∃g11,g11=w3.heap.size:=⟨_,rfl⟩
     obtain⟨W4,i1⟩:∃W4,W4=w3.alloc (.cells #[.int .i64 d,.slice none 0 0] 107):=⟨_,rfl⟩
     have x4:Row W4 g11 107 #[.int .i64 d,.slice none 0 0]:=by rw[i1,v0];exact Row.new w3 _ _
     have j2:RdSt w p1 (p1+1) (vb pl++(stepsL (-1) pos++tl)) W4:=by rw[i1];exact j1.ext ((Ext.refl w3).alloc _)
     have v3:Chg (fun k=>k=p1) wv W4:=by rw[i1];exact o0.trans (Chg.of_ext ((Ext.refl w3).alloc _) _) fun _ _ h=>h
     have q5:wv.heap.size<=g11:=by rw[v0];exact o0.size
     replace j1:=ZA j1;replace o0:=ZA o0;replace j2:=ZA j2;replace v3:=ZA v3;replace x4:=ZA x4;replace i1:=ZA i1;replace v0:=ZA v0;go_wp2_with fail;rw[<-i1.out,<-v0.out];refine(n3.out _ j2.out).mono ?_;rintro e w5 ⟨rfl,e3,e2⟩;have t5:Hid (Row w5 g11 107 #[.int .i64 d,.slice none 0 0]):=ZA (e2.row x4.out (by rintro rfl;have:=z0.out;obtain⟨_,_,q,_⟩:=this;have:=q.lt;omega));replace e2:=ZA (v3.out.trans e2 fun _ _ h=>h);replace e3:=ZA e3;obtain⟨sz,q0⟩:∃sz,sz=wv.heap.size:=⟨_,rfl⟩
     rw[<-q0]at q5;replace q0:=ZA q0;go_wp2_with fail
     go_loopw [12,13] (fun s12 s13 w6=>∃(t c3:Nat) (A3:Option Addr) (z:Int),s12 = .int .i64 z/\s13 = .int .i64 ((pl - t:Nat):Int)/\t<=pl /\ -1<=z/\z<1048576/\Hid (risB 1048576 z (pos.drop t)=true)/\Hid (RdSt w p1 (p1+1) (stepsL z (pos.drop t)++tl) w6)/\Hid (Row w6 g11 107 #[.int .i64 d,.slice A3 t c3])/\Hid (Buf w6 sz 3 A3 t c3 ((pos.take t).map IV))/\Hid (Chg (fun k=>k=p1) wv w6)) (fun _ s13 _=>(intOf s13).toNat)
     case atStart=>exact⟨0,0,none,-1,rfl,rfl,by omega,by omega,by omega,ZA h0.out.ris,e3,t5,ZA (Buf.nil _ _ _),e2⟩
     case round =>
      obtain⟨t,c3,A3,z,rfl,rfl,ht,z5,q6,n4,i2,p3,i3,a4⟩:=hrel;obtain⟨B1,d1,r11,r21,_,_⟩:=i2.out;have kw2:=r21.cell 0 rfl;clear r11 r21;by_cases x5:t<pl
      ·obtain⟨x,c2⟩:∃x,pos[t]? = some x:=⟨_,List.getElem?_eq_getElem (by rw[<-n0.out];exact x5)⟩
       have c1:=n4.out;have k0:=i2.out;rw[Zo c2]at c1 k0;obtain⟨s5,h6,e1⟩:=ZAS c1;obtain⟨q,hq⟩:∃q:Nat,q=(x - z - 1).toNat:=⟨_,rfl⟩
       have r5:z+(1+(q:Int))=x:=by omega
       have l2:Hid (RdSt w p1 (p1+1) (vb q++(stepsL x (pos.drop (t+1))++tl)) wr):=ZA (by
        rw[hq,<-List.append_assoc];exact k0)
       have a2:(q:Int)<=1048576:=by omega
       have k1:(vb q++(stepsL x (pos.drop (t+1))++tl)).length<=1000000000:=by
        have h1:=j0.out;rw[List.length_append]at h1;have h3:(stepsL z (pos.drop t)).length=(vb q).length+(stepsL x (pos.drop (t+1))).length:=by
         rw[Zo c2,hq,<-List.length_append];rfl
        have h4:(stepsL z (pos.drop t)).length<=10*(pos.drop t).length:=ZGw n4.out z5;rw[List.length_drop,<-n0.out]at h4;rw[List.length_append,List.length_append];omega
       have s4:=ZA (t0.out wr q (stepsL x (pos.drop (t+1))++tl) 1048576 l2.out a2 (by omega) k1);have y4:(pos.take (t+1)).map IV=(pos.take t).map IV ++ [.int .i64 x]:=by
        rw[List.take_add_one,c2,List.map_append];rfl
       have d4:g11≠p1:=by rintro rfl;obtain⟨_,_,q,_⟩:=z0.out;have:=q.lt;have:=q0.out;omega
       clear c1 k0 k1 l2;replace hq:=ZA hq;replace c2:=ZA c2;replace e1:=ZA e1;replace y4:=ZA y4;go_wp2_with fail;refine s4.out.mono ?_;rintro e w8 ⟨rfl,k0,s1⟩;have k3:=s1.row p3.out d4;have b0:Buf w8 sz 3 A3 t c3 ((pos.take t).map IV):=i3.out.chg s1 (by
        obtain⟨_,_,q,_⟩:=i2.out;intro a ha e;exact i3.out.unlike q (by decide) a ha e)
       have f2:=a4.out.trans s1 fun _ _ h=>h;have y1:=k3.cell 1 rfl;have u5:sz<=w8.heap.size:=by rw[q0.out];exact f2.size
       replace k3:=ZA k3;replace b0:=ZA b0;replace f2:=ZA f2;replace k0:=ZA k0;replace s1:=ZA s1;have u3:Ext w w8:=by obtain⟨_,_,_,_,_,q⟩:=k0.out;exact q
       replace u3:=ZA u3;go_wp2_with (at_builtin;refine ZG ZOd (b0.out.alloc _) (Zg w8 [.int .i64 x] _) (.tmp 67) (.tmp 69) rfl rfl rfl rfl rfl rfl (ZS rfl) (by omega) (by simp;omega) (fun A9 c9 w9 n2 c0 z4 m0=>?_);have r89:=ZAk (b0.out.alloc _) c0 (k3.out.alloc _) (by decide);have u0:=r89.cell 1 rfl;have u1:=r89.free 1;replace r89:=ZA r89;replace n2:=ZA n2;replace c0:=ZA c0;replace z4:=ZA z4;replace m0:=ZA m0);obtain⟨W10,g1⟩:∃W10,W10=w8.alloc (.cells #[.int .i64 x] 3):=⟨_,rfl⟩
       have q4:=c0.out;rw[<-g1]at q4;have r0:Ext w8 W10:=by rw[g1];exact(Ext.refl w8).alloc _
       have w0:Buf W10 sz 3 A3 t c3 ((pos.take t).map IV):=by rw[g1];exact b0.out.alloc _
       have x3:Ext w w9:=z4.out w ((u3.out).alloc _) (by rw[q0.out];obtain⟨_,_,_,_,_,q⟩:=z0.out;exact q.size);have k2:RdSt w p1 (p1+1) (stepsL x (pos.drop (t+1))++tl) w9:=(k0.out.ext r0).rows (fun g T cs hr hT=>ZAk w0 q4 hr (by rcases hT with rfl | rfl <;> decide)) x3;have t2:w.heap.size<=g11:=by obtain⟨_,_,_,_,_,q⟩:=z0.out;have:=q.size;have:=q0.out;omega
       have d3:RdSt w p1 (p1+1) (stepsL x (pos.drop (t+1))++tl) (w9.setCell ⟨g11,1,none⟩ (.slice A9 (t+1) c9)):=by
        refine k2.chg (S:=fun k=>k=g11) (Chg.of_set _ _ rfl) (fun e=>d4 e.symm) (fun e=>?_) (fun k hk=>by rw[hk];exact t2);obtain⟨_,_,q,q2,_,_⟩:=k2;exact Row.unlike q2 r89.out (by decide) e
       have m4:=r89.out.put 1 (.slice A9 (t+1) c9);have f3:Buf (w9.setCell ⟨g11,1,none⟩ (.slice A9 (t+1) c9)) sz 3 A9 (t+1) c9 ((pos.take (t+1)).map IV):=by
        rw[y4.out];exact n2.out.setCell (n2.out.unlike r89.out (by decide)) _
       have m3:Chg (fun k=>k=p1) wv (w9.setCell ⟨g11,1,none⟩ (.slice A9 (t+1) c9)):=by
        refine((f2.out.trans (Chg.of_ext r0 (fun k=>k=p1)) fun _ _ h=>h).trans (Chg.of_grown q4 (S:=fun k=>sz<=k) fun k _ hk=>?_) fun i hi h=>?_).trans (Chg.of_set (S:=fun k=>k=g11) _ _ rfl) fun i hi h=>?_
        ·have:=w0.base_le;cases A3 with
         | none=>simp[Value.ownBlock]at hk
         | some a=>have:=this a rfl;simp[Value.ownBlock]at hk;omega
        ·have:=q0.out;omega
        ·have:=q0.out;omega
       exact⟨⟨t+1,c9,A9,x,by congr 1,by congr 1;omega,by omega,by omega,by omega,e1,ZA d3,ZA m4,ZA f3,ZA m3⟩,by simp only[intOf];omega⟩
      ·obtain rfl:t=pl:=by omega
       have s3:pos.drop t = []:=List.drop_eq_nil_of_le (by rw[n0.out];exact Nat.le_refl _);have k0:=i2.out;rw[s3]at k0;have k0:RdSt w p1 (p1+1) tl wr:=k0;have b0:=i3.out;rw[List.take_of_length_le (by rw[n0.out];exact Nat.le_refl _)]at b0;have y0:=p3.out.cell 0 rfl;have y1:=p3.out.cell 1 rfl;have f5:=p3.out.get;have m2:Done w wr A8 i c8 dn:=n1.out.chg a4.out fun k hk=>by
        obtain⟨_,_,q,_⟩:=z0.out;exact⟨_,_,hk ▸ q,by decide,by decide⟩
       have y5:w.heap.size<=wr.heap.size:=by obtain⟨_,_,_,_,_,q⟩:=k0;exact q.size
       have p0:=m2.own;replace k0:=ZA k0;replace b0:=ZA b0;replace s3:=ZA s3;replace m2:=ZA m2;replace p0:=ZA p0;go_wp2_with (at_builtin;refine Z7 ZM3 p0.out (.tmp 74) (.tmp 76) rfl rfl rfl rfl rfl (ZS rfl) (by omega) y5 (fun A9 c9 w9 j4 c0 m0=>?_);replace j4:=ZA j4;replace c0:=ZA c0;replace m0:=ZA m0);have c4:∀ {n c:Nat} {A:Option Addr} {xs:List Value} {b:Nat},Buf wr b 3 A n c xs->Buf w9 b 3 A n c xs:=fun hb=>hb.grown c0.out fun a ha e=>ZJw hb p0.out (by decide) a ha e;have v5:∀g T cs,Row wr g T cs->T≠107->Row w9 g T cs:=fun g T cs hr hT=>hr.grown c0.out fun e=>ZJ p0.out hr (fun e=>hT e.symm) e.symm;have x3:Ext w w9:=by
        obtain⟨_,_,_,_,_,q⟩:=k0.out;refine q.grown c0.out fun k hk=>?_;obtain⟨_,_,hb⟩:=ZC p0.out hk;exact hb
       have r4:Buf w9 w.heap.size 3 A3 t c3 (pos.map IV):=(c4 b0.out).lower (by rw[q0.out];obtain⟨_,_,_,_,_,q⟩:=z0.out;exact q.size);have l2:RdSt w p1 (p1+1) (blockPo d (L.drop (i+1))) w9:=by
        rw[<-j3.out];exact k0.out.rows (fun g T cs hr hT=>v5 g T cs hr (by rcases hT with rfl | rfl <;> decide)) x3
       have e4:pos.length=t:=n0.out.symm;have r3:Done w w9 A9 (i+1) c9 (dn ++ [⟨d,pos,A3,c3⟩]):=by
        refine⟨by rw[List.length_append,n1.out.len];rfl,?_,fun y hy=>?_⟩
        ·have h:=j4.out;have e:pcells (dn ++ [⟨d,pos,A3,c3⟩])=pcells dn ++ [.int .i64 d,.slice A3 t c3]:=by
          unfold pcells;rw[List.flatMap_append];simp[PoC.cells,e4]
         rw[e];exact h
        ·rcases List.mem_append.1 hy with hy | hy
         ·exact⟨c4 (m2.out.each y hy).1,(m2.out.each y hy).2⟩
         ·rw[List.mem_singleton.1 hy];simp only[e4];exact⟨r4,by omega⟩
       have g4:psP (dn ++ [⟨d,pos,A3,c3⟩])=L.take (i+1):=by
        rw[List.take_add_one,q3.out,<-f4.out];unfold psP;rw[List.map_append];rfl
       exact⟨⟨i+1,c9,A9,d,dn ++ [⟨d,pos,A3,c3⟩],rfl,rfl,rfl,by omega,ZA h0.out.next.symm,ZA l2,ZA r3,ZA g4⟩,by simp only[intOf];omega⟩
    ·obtain rfl:i=m:=by omega
     have g0:=f4.out;rw[List.take_of_length_le (by rw[hm.out];exact Nat.le_refl _)]at g0;have l1:=ZAL n1.out.own;have i0:=ZCk dn A8 i c8 wv n1.out.len.symm n1.out.pos l1.2 l1.1 (by rw[g0];exact x1.out) (by rw[g0];exact o1.out);rw[g0,<-g2.out]at i0;replace i0:=ZA i0;replace g0:=ZA g0;go_wp2_with fail;refine i0.out.mono ?_;rintro e w5 o4;obtain⟨A5,c5,rfl,d2,p2⟩:=o4;have e0:Ext w w5:=by obtain⟨_,_,_,_,_,q⟩:=z0.out;exact q.trans p2
     have j2:=z0.out.ext p2;obtain⟨B5,d5,_,r25,_,_⟩:=j2;have kw5:=r25.cell 0 rfl;clear r25;obtain⟨nb,w2⟩:∃nb,nb=bs.length:=⟨_,rfl⟩
     rw[<-w2]at d2 ⊢;have u2:nb=n:=by rw[w2];exact h.out.len.symm
     have s2:=ZEW A5 A nb n c5 c bs bs w5 d2.2.in8 (h.out.ext e0) (by omega) (by omega);rw[decide_eq_true rfl]at s2;have m1:=n1.out.pos.ext p2;replace s2:=ZA s2;replace w2:=ZA w2;replace m1:=ZA m1;replace e0:=ZA e0;replace p2:=ZA p2;replace d2:=ZA d2;replace l1:=ZA l1;replace u2:=ZA u2;go_wp2_with fail;refine s2.out.mono ?_;rintro e w6 ⟨rfl,b4⟩;go_wp2_with fail;go_ret2;exact⟨dn,A8,c8,g0.out,by rw[hm.out];rfl,m1.out.ext b4,l1.out.2,by rw[<-hm.out];exact l1.out.1,e0.out.trans b4⟩
end
section
open Go.RowKit
attribute [local go_sem] Oper.semAt_some Za ZAw
theorem ZAI {P:Program} {w:World} {g:Nat} {ty:TypeId} {v:Value} {d:TypeDesc} (h:w.cell? ⟨g,0,none⟩=some v) (hu:P.underlying ty=some d) (hd:(match d with | .struct _ | .array _ _=>false | _=>true)=true):(loadVar ty ⟨g,0,none⟩).run P w = .ok v w:=by
 have hi:(isAgg ty).run P w = .ok false w:=by
  unfold isAgg;simp only[Sem.run_bind,run_underlying hu,Result.andThen_ok];cases d <;> first | rfl | (cases hd)
 unfold loadVar;simp only[Sem.run_bind,hi,Result.andThen_ok];simp[h]
theorem Row.same {w:World} {g:Nat} {t:TypeId} {cs:Array Value} (h:Row w g t cs) {i:Nat} {v:Value} (hv:cs[i]? = some v):w.setCell ⟨g,i,none⟩ v=w:=by
 have hp:=h.put i v;have hc:cs.setIfInBounds i v=cs:=by
  apply Array.ext_getElem?;intro j;rw[Array.getElem?_setIfInBounds];split
  ·rename_i e;subst e;rw[hv,if_pos (Array.getElem?_eq_some_iff.1 hv).1]
  ·rfl
 rw[hc]at hp;have hh:(w.setCell ⟨g,i,none⟩ v).heap=w.heap:=by
  apply Array.ext_getElem?;intro k;by_cases e:k=g
  ·subst e;exact hp.trans (Eq.symm h)
  ·exact Below.heap_setCell w ⟨g,i,none⟩ v k e
 obtain⟨heap,os,tape,output⟩:=w;simp only[World.setCell]at hh ⊢;rw[hh]
theorem ZEB {fn:Func} {p q r:Tmp} {tp tq tr:TypeId} {P:Program} (hf:fn.results=#[.cell p tp,.cell q tq,.cell r tr]) (tmps:Array Value) (w:World) {g1 g2 g3:Nat} {v1 v2 v3:Value}
 (h1:tmps.getD p undef = .pointer (some ⟨g1,0,none⟩)) (h2:tmps.getD q undef = .pointer (some ⟨g2,0,none⟩)) (h3:tmps.getD r undef = .pointer (some ⟨g3,0,none⟩))
 (l1:(loadVar tp ⟨g1,0,none⟩).run P w = .ok v1 w) (l2:(loadVar tq ⟨g2,0,none⟩).run P w = .ok v2 w) (l3:(loadVar tr ⟨g3,0,none⟩).run P w = .ok v3 w) :
 (results fn tmps).run P w = .ok (.tuple #[v1,v2,v3]) w:=by
 rw[Array.getD_eq_getD_getElem?]at h1 h2 h3;simp only[results,hf];simp[Sem.run_bind,Result.andThen,h1,h2,h3,asAddr,l1,l2,l3]
theorem ZOb:Elem Tryz.prog 109 25 1 24:=⟨Tryz.underlying109,⟨_,_,rfl,rfl,rfl,rfl,rfl⟩,by omega,by omega⟩
theorem ZJe (A:Option Addr) (n c:Nat) (ew:Nat) (w:World) :
 Calls Tryz.prog 93 #[.slice A n c,.pointer (some ⟨ew,0,none⟩)] w fun e w'=>∃b1 b2,e = .returned (.func (.func 151) #[] #[.pointer (some ⟨b1,0,none⟩),.pointer (some ⟨b2,0,none⟩)])/\Row w' b1 25 #[.slice A n c]/\Row w' b2 168 #[.pointer (some ⟨ew,0,none⟩)]/\w.heap.size<=b1/\w.heap.size<=b2/\b1<b2/\Ext w w':=by
 go_enter Tryz.func93,Tryz.ntmps93;go_wp2_with fail;go_ret;have h1:=Row.new w 25 #[.slice A n c];have h2:=Row.new (w.alloc (.cells #[.slice A n c] 25)) 168 #[.pointer (some ⟨ew,0,none⟩)];rw[World.size_alloc]at h2;exact⟨w.heap.size,w.heap.size+1,rfl,h1.alloc _,h2,Nat.le_refl _,by omega,by omega,((Ext.refl w).alloc _).alloc _⟩
theorem ZKO {w w1:World} {base n c:Nat} {e:TypeId} {A:Option Addr} {xs:List Value} (hb:Buf w base e A n c xs) (hg:w.grownBy w1 (Value.slice A n c).ownBlock) {k:Nat} (hk:k<base) (h0:k<w.heap.size):w1.heap[k]? = w.heap[k]? :=
 hg.block k h0 fun h=>by
  cases A with
  | none=>simp[Value.ownBlock]at h
  | some a =>
   have:=hb.base_le a rfl;simp[Value.ownBlock]at h;omega
theorem PayOk.grown {w w1:World} {x:Pay} {base n c:Nat} {e:TypeId} {A:Option Addr} {xs:List Value} (h:PayOk w x) (hb:Buf w base e A n c xs) (hg:w.grownBy w1 (Value.slice A n c).ownBlock) (he:5≠e):PayOk w1 x:=by
 obtain⟨b,hx⟩:=h;refine⟨b,hx.grown hg fun a ha q0=>?_⟩;rcases hb.2.2 with ⟨h0,_⟩ | ⟨g',cur,p0,_,hr,_⟩
 ·subst h0;simp[Value.ownBlock]at q0
 ·subst p0;simp[Value.ownBlock]at q0;exact hx.unlike hr he a ha q0.symm
theorem PayOk.set {w:World} {x:Pay} (h:PayOk w x) {g:Nat} {t:TypeId} {cs:Array Value} (hr:Row w g t cs) (ht:5≠t) (i:Nat) (u:Value):PayOk (w.setCell ⟨g,i,none⟩ u) x:=by
 obtain⟨b,hx⟩:=h;exact⟨b,hx.setCell (hx.unlike hr ht) u⟩
def SpI (h bs b1 b2:Nat) (V1:Value) (w:World) (pre:List Pay) (W:World):Prop :=
 ∃L c z,Row W h 109 #[.slice L pre.length c]/\Row W (h+1) 3 #[.int .i64 z]/\Row W (h+2) 26 #[.int .i64 0]/\Buf W bs 25 L pre.length c (pre.map Pay.val)/\(∀x∈pre,PayOk W x)/\Row W b1 25 #[V1]/\Row W b2 168 #[.pointer (some ⟨h+2,0,none⟩)]/\Ext w W/\bs<=W.heap.size
theorem PayOk.ext {W W1:World} {x:Pay} (h:PayOk W x) (hE:Ext W W1):PayOk W1 x:=by obtain⟨b,hb⟩:=h;exact⟨b,hb.ext hE⟩
theorem PayOk.alike {B:Nat} {W W1:World} {x:Pay} (h:PayOk W x) (ha:Alike B W W1):PayOk W1 x:=by obtain⟨b,hb⟩:=h;exact⟨b,ha.buf hb⟩
theorem SpI.ext {h bs b1 b2:Nat} {V1:Value} {w W W1:World} {pre:List Pay} (hi:SpI h bs b1 b2 V1 w pre W) (hE:Ext W W1):SpI h bs b1 b2 V1 w pre W1:=by
 obtain⟨L,c,z,r1,r2,r3,hb,hp,q1,q2,he,hs⟩:=hi;exact⟨L,c,z,r1.ext hE,r2.ext hE,r3.ext hE,hb.ext hE,fun x hx=>(hp x hx).ext hE,q1.ext hE,q2.ext hE,he.trans hE,Nat.le_trans hs hE.size⟩
theorem SpI.alike {h bs b1 b2 B:Nat} {V1:Value} {w W W1:World} {pre:List Pay} (hi:SpI h bs b1 b2 V1 w pre W) (ha:Alike B W W1) (hB:w.heap.size<=B):SpI h bs b1 b2 V1 w pre W1:=by
 obtain⟨L,c,z,r1,r2,r3,hb,hp,q1,q2,he,hs⟩:=hi;exact⟨L,c,z,ha.row r1,ha.row r2,ha.row r3,ha.buf hb,fun x hx=>(hp x hx).alike ha,ha.row q1,ha.row q2,ha.ext he hB,Nat.le_trans hs ha.size⟩
def SplitW (w:World) (b:List UInt8) (e:Ending) (w':World):Prop:=∃L c z,∃ps:List Pay,e = .returned (.tuple #[.slice L ps.length c,.int .i64 z,.int .i64 ((splitF b).2:Int)])/\Cells w' L (ps.map Pay.val)/\pays ps=(splitF b).1/\(∀x∈ps,PayOk w' x)/\Ext w w'
theorem ZKH (A:Option Addr) (n c:Nat) (b:List UInt8) (w:World) (h:In8 w A n c b) (w1:n<=1000000000) :
 Calls Tryz.prog 49 #[.slice A n c] w fun e w'=>SplitW w b e w':=by
 replace h:=ZA h;refine(callsIn_wide (n:=0)).1 ?_;refine callsIn_of_wp_marks Tryz.func49 rfl trivial ?_;simp only[Tryz.ntmps49,List.size_toArray,List.length_cons,List.length_nil,Nat.reduceAdd,Nat.reduceSub,Array.replicate_succ,Array.replicate_zero,List.push_toArray,List.append_toArray,List.nil_append,List.cons_append];gi_wp2_with fail;obtain⟨W3,g0⟩:∃W3,W3=((w.alloc (Obj.cells #[Value.slice none 0 0] 109)).alloc (Obj.cells #[Value.int IntKind.i64 0] 3)).alloc (Obj.cells #[Value.int IntKind.i64 0] 26):=⟨_,rfl⟩
 rw[<-g0];obtain⟨h1,k0⟩:∃h1,h1=w.heap.size:=⟨_,rfl⟩
 have q1:Row W3 h1 109 #[.slice none 0 0]:=by rw[g0,k0];exact((Row.new w _ _).alloc _).alloc _
 have q2:Row W3 (h1+1) 3 #[.int .i64 0]:=by
  have:=Row.new (w.alloc (Obj.cells #[Value.slice none 0 0] 109)) 3 #[.int .i64 0];rw[World.size_alloc,<-k0]at this;rw[g0];exact this.alloc _
 have q3:Row W3 (h1+2) 26 #[.int .i64 0]:=by
  have:=Row.new ((w.alloc (Obj.cells #[Value.slice none 0 0] 109)).alloc (Obj.cells #[Value.int IntKind.i64 0] 3)) 26 #[.int .i64 0];rw[World.size_alloc,World.size_alloc,<-k0]at this;rw[g0];exact this
 have x0:Ext w W3:=by rw[g0];exact(((Ext.refl w).alloc _).alloc _).alloc _
 have u0:W3.heap.size=h1+3:=by rw[g0,k0];simp
 rw[<-k0];refine(callsIn_wide.2 (ZJe A n c (h1+2) W3)).mono ?_;rintro e w4 ⟨b1,b2,rfl,rb1,rb2,a1,d1,c1,p0⟩;obtain⟨bs,m2⟩:∃bs,bs=w4.heap.size:=⟨_,rfl⟩
 have l0:SpI h1 bs b1 b2 (.slice A n c) w [] w4:=⟨none,0,0,q1.ext p0,q2.ext p0,q3.ext p0,Buf.nil _ _ _,nofun,rb1,rb2,x0.trans p0,by omega⟩
 have d0:=ZG0 A n c b h1 b1 b2 (h1+2) w w4 h.out (by omega) (x0.trans p0) w1 rb1 rb2 (q3.ext p0);rw[u0]at a1 d1;have q0:w.heap.size<=w4.heap.size:=(x0.trans p0).size;have e1:=rb2.lt;have j2:=(q3.ext p0).lt;have i1:w.heap.size<=bs:=by omega
 replace l0:=ZA l0;replace d0:=ZA d0;replace g0:=ZA g0;replace k0:=ZA k0;clear q1 q2 q3 x0 p0 rb1 rb2 u0;gi_wp2_with fail;unfold FrIter at d0;refine ZBC (gf:=151) (lb:=#[.pointer (some ⟨b1,0,none⟩),.pointer (some ⟨b2,0,none⟩)]) rfl (enters_of Tryz.func151 (by kernel_rfl) rfl) d0.out (fun _=>rfl) (fun _ _ h=>h.others) ?fin (KeepS.trans h1 _) ?kb
  (fun pre W=>SpI h1 bs b1 b2 (.slice A n c) w pre W) (fun pre A B h ha=>h.alike ha q0) (fun pre A B h hE=>h.ext hE) ?h0 ?hround ?hdone
 case fin =>
  rintro xs A B (⟨_,hE⟩ | ⟨k,W3,_,_,hE,rfl⟩)
  ·exact hE.others
  ·exact hE.others.trans (KeepsOthers.setCell _ _ _)
 case kb=>exact KeepS.alike (by omega) (fun k hk=>by omega)
 case h0=>exact fun W ha=>l0.out.alike ha q0
 case hround =>
  rintro l pre ⟨P,cp,p,z⟩ W hI ⟨e0,r,s0⟩;unfold Pay.val;simp only;obtain⟨pl,f0⟩:∃pl,pl=p.length:=⟨_,rfl⟩
  rw[<-f0];replace f0:=ZA f0;replace hI:=ZA hI;replace e0:=ZA e0;replace s0:=ZA s0;gi_wp2_with fail;refine⟨KeepsOthers.refl _,KeepS.refl _ _ _,fun W2 i0=>?_⟩;have y1:=hI.out.alike i0 q0;have n0:=ZA (e0.out.alike i0);clear i0 hI e0;obtain⟨L,cl,z0,r1,r2,r3,hb,hp,g1,g2,he,m1⟩:=y1;have o0:pre.length<=4000000000:=by
   have h1:=ZGW b;rw[s0.out]at h1;simp only[pays,List.length_append,List.length_map,List.length_cons]at h1;have:=h.out.len;omega
  have k1:=r1.cell 0 rfl;have m0:=ZA (hb.alloc (.cells #[.slice P pl cp] 25));have v1:=ZA (Zg W2 [.slice P pl cp] 25);have t1:bs<=(W2.alloc (.cells #[.slice P pl cp] 25)).heap.size:=by rw[World.size_alloc];omega
  obtain⟨m,hm⟩:∃m,m=pre.length:=⟨_,rfl⟩
  rw[<-hm]at o0 k1 m0 r1 hb;replace hm:=ZA hm;replace r1:=ZA r1;replace r2:=ZA r2;replace r3:=ZA r3;replace hb:=ZA hb;replace hp:=ZA hp;replace g1:=ZA g1;replace g2:=ZA g2;replace he:=ZA he;obtain⟨Wa,v0⟩:∃Wa,Wa=W2.alloc (.cells #[.slice P pl cp] 25):=⟨_,rfl⟩
  have y0:Ext W2 Wa:=by rw[v0];exact(Ext.refl W2).alloc _
  have b0:=ZA y0;have ra1:=ZA (r1.out.ext y0);have ra2:=ZA (r2.out.ext y0);rw[<-v0]at m0 v1 t1;replace v0:=ZA v0;clear y0;gi_wp2_with (gi_at_builtin;rw[<-v0.out];refine Z3 ZOb m0.out v1.out (.tmp 11) (.tmp 13) rfl rfl rfl rfl rfl rfl (by simp[Value.oneCell']) (by omega) t1 (fun A6 c6 w6 a0 t0 p1 j1=>?_);have r16:=ZAk m0.out t0 ra1.out (by decide);have r26:=ZAk m0.out t0 ra2.out (by decide);have u1:=r16.cell 0 rfl;have u2:=r16.free 0;have r27:=r26.away (p:=⟨h1,0,none⟩) (by simp) (.slice A6 (m+1) c6);have u3:=r27.cell 0 rfl;have u4:=r27.free 0;replace r16:=ZA r16;replace r26:=ZA r26;replace r27:=ZA r27;replace a0:=ZA a0;replace t0:=ZA t0;replace p1:=ZA p1;replace j1:=ZA j1);have j0:∀k,k<h1+3\/k=b1\/k=b2->k≠h1->k≠h1+1->((w6.setCell ⟨h1,0,none⟩ (.slice A6 (m+1) c6)).setCell ⟨h1+1,0,none⟩ (.int .i64 z)).heap[k]? = W2.heap[k]? :=fun k hk n1 n2=>by
   have s1:k<bs:=by omega
   rw[Below.heap_setCell _ _ _ k n2,Below.heap_setCell _ _ _ k n1,ZKO m0.out t0.out s1 (by omega)];exact Below.block b0.out k (by omega)
  have x1:∀w0:World,w0.heap.size<=h1->Ext w0 W2->Ext w0 ((w6.setCell ⟨h1,0,none⟩ (.slice A6 (m+1) c6)).setCell ⟨h1+1,0,none⟩ (.int .i64 z)):=fun w0 h0 hE=>((p1.out w0 (hE.trans b0.out) (by omega)).setCell (p:=⟨h1,0,none⟩) h0 _).setCell (p:=⟨h1+1,0,none⟩) (by show w0.heap.size<=h1+1;omega) _;have v2:=t0.out.size;have l1:Buf ((w6.setCell ⟨h1,0,none⟩ (.slice A6 (m+1) c6)).setCell ⟨h1+1,0,none⟩ (.int .i64 z)) bs 25 A6 (m+1) c6 (pre.map Pay.val ++ [.slice P pl cp]):=by
   have q:=a0.out.setCell (p:=⟨h1,0,none⟩) (a0.out.unlike r16.out (by decide)) (.slice A6 (m+1) c6);exact q.setCell (p:=⟨h1+1,0,none⟩) (q.unlike r27.out (by decide)) _
  have h2:∀x∈pre ++ [(P,cp,p,z)],PayOk ((w6.setCell ⟨h1,0,none⟩ (.slice A6 (m+1) c6)).setCell ⟨h1+1,0,none⟩ (.int .i64 z)) x:=fun x hx=>by
   have p2:PayOk W2 x:=by
    rcases List.mem_append.1 hx with h | h
    ·exact hp.out x h
    ·rw[List.mem_singleton.1 h];exact n0.out
   exact(((p2.ext b0.out).grown m0.out t0.out (by decide)).set r16.out (by decide) 0 _).set r27.out (by decide) 0 _
  refine⟨((b0.out.others.trans (ZAF m0.out t0.out)).trans (KeepsOthers.setCell _ _ _)).trans (KeepsOthers.setCell _ _ _),⟨x1,fun k hk o ho=>?_⟩,A6,c6,z,?_,?_,?_,?_,h2,?_,?_,x1 w (by have:=k0.out;omega) he.out,?_⟩
  ·rw[j0 k (by omega) (by omega) (by omega)];exact ho
  ·rw[List.length_append,<-hm.out];exact(r16.out.put 0 _).away (by simp) _
  ·exact r27.out.put 0 _
  ·unfold Row;rw[j0 _ (by omega) (by omega) (by omega)];exact r3.out
  ·rw[List.length_append,<-hm.out,List.map_append];unfold Pay.val;simp only[List.map_cons,List.map_nil];rw[<-f0.out];exact l1
  ·unfold Row;rw[j0 _ (by omega) (by omega) (by omega)];exact g1.out
  ·unfold Row;rw[j0 _ (by omega) (by omega) (by omega)];exact g2.out
  ·simp;omega
 case hdone =>
  rintro D xs W2 W3 W4 hD hI hF hA hk;have z1:∃L c z,Row W4 h1 109 #[.slice L xs.length c]/\Row W4 (h1+1) 3 #[.int .i64 z]/\Row W4 (h1+2) 26 #[.int .i64 ((splitF b).2:Int)]/\Buf W4 bs 25 L xs.length c (xs.map Pay.val)/\(∀x∈xs,PayOk W4 x)/\Ext w W4/\pays xs=(splitF b).1:=by
   rcases hF with ⟨hs,hE⟩ | ⟨k,W5,t2,hs,hE,rfl⟩
   ·obtain⟨L,c,z,r1,r2,r3,hb,hp,q1,q2,he,m1⟩:=(hI.ext hE).alike hA q0;rw[hs];exact⟨L,c,z,r1,r2,r3,hb,hp,he,rfl⟩
   ·obtain⟨L,c,z,r1,r2,r3,hb,hp,q1,q2,he,m1⟩:=hI.ext hE;rw[hs];refine⟨L,c,z,hA.row (r1.away (by simp) _),hA.row (r2.away (by simp) _),hA.row (r3.put 0 _),hA.buf (hb.setCell (hb.unlike r3 (by decide)) _),fun x hx=>((hp x hx).set r3 (by decide) 0 _).alike hA,hA.ext (he.setCell (by show w.heap.size<=h1+2;have:=k0.out;omega) _) q0,rfl⟩
  obtain⟨L,cl,z,r1,r2,r3,hb,hp,he,r0⟩:=z1;have k1:=r1.cell 0 rfl;have k2:=r2.cell 0 rfl;have k3:=r3.cell 0 rfl;have f1:=r1.free 0;have f2:=r2.free 0;have f3:=r3.free 0;obtain⟨m,hm⟩:∃m,m=xs.length:=⟨_,rfl⟩
  rw[<-hm]at r1 k1 hb;obtain⟨ec,c0⟩:∃ec,ec=(splitF b).2:=⟨_,rfl⟩
  rw[<-c0]at r3 k3;replace r1:=ZA r1;replace r2:=ZA r2;replace r3:=ZA r3;replace hb:=ZA hb;replace hp:=ZA hp;replace he:=ZA he;replace hm:=ZA hm;replace c0:=ZA c0;replace r0:=ZA r0;replace hk:=ZA hk;clear hI hF hA;gi_wp2_with fail;refine wpIn_wide.2 ?_;go_region;rw[show h1+1+1=h1+2 from rfl,r1.out.same rfl,r2.out.same rfl,r3.out.same rfl];gi_wp2_with fail;have o1:W4.drew.heap[D]? = some (.deferred (some [])):=hk.out;refine ZAO (B:=w4.heap.size) rfl o1 hD fun W ha=>⟨_,ZEB rfl _ _ rfl rfl rfl (ZAI ((ha.row r1.out).cell 0 rfl) Tryz.underlying109 rfl) (ZAI ((ha.row r2.out).cell 0 rfl) Tryz.underlying3 rfl) (ZAI ((ha.row r3.out).cell 0 rfl) Tryz.underlying26 rfl),L,cl,z,xs,?_,?_,r0.out,?_,?_⟩
  ·rw[<-hm.out,<-c0.out];rfl
  ·exact(ha.buf hb.out.drew).cells
  ·exact fun x hx=>((hp.out x hx).ext (Ext.refl W4).drew).alike ha
  ·exact ha.ext he.out.drew q0
end
section
open Go.RowKit
attribute [local go_sem] Oper.semAt_some Za ZAw
theorem ZIQ (a b:List UInt8):(ByteArray.mk a.toArray++ByteArray.mk b.toArray)=⟨(a++b).toArray⟩:=by
 apply ByteArray.ext;rw[ByteArray.data_append];simp
theorem ZLi:Elem Tryz.prog 148 150 2 40:=⟨Tryz.underlying148,⟨_,_,rfl,rfl,rfl,rfl,rfl⟩,by omega,by omega⟩
theorem ZCA (D:List TmV) (x:TmV):tcs (D ++ [x])=tcs D++tcell x:=by
 unfold tcs;rw[List.flatMap_append];simp
def oneT (l:List (List UInt8×Int)):List (List UInt8×List Int):=l.map fun p=>(p.1,[p.2])
theorem ZKC (l:List (List UInt8×Int)) (p:List UInt8×Int):oneT (l ++ [p])=oneT l ++ [(p.1,[p.2])]:=by unfold oneT;rw[List.map_append];rfl
section
variable {w w1 w0:World} {base n:Nat} {e:TypeId} {size:Nat} {v:Value} {xs:List Value}
theorem ZID (ho:w.ownsRow base e size v n xs) (hg:w.grownBy w1 v.ownBlock) {g:Nat} {t:TypeId} {cs:Array Value} (hr:Row w g t cs) (ht:t≠e):Row w1 g t cs :=
 hr.grown hg fun h=>by
  obtain⟨cur,hc,_⟩:=ZC ho h.symm;exact hr.unlike hc ht rfl
theorem ZDG (ho:w.ownsRow base e size v n xs) (hg:w.grownBy w1 v.ownBlock):KeepsOthers w w1 :=
 KeepsOthers.of_grownBy hg fun j o hj h0=>by
  obtain⟨cur,hc,_⟩:=ZC ho hj;unfold Row at hc;rw[hc]at h0;injection h0 with h0;subst h0;rfl
theorem ZDw (ho:w.ownsRow base e size v n xs) (hg:w.grownBy w1 v.ownBlock) (hE:Ext w0 w) (hb:w0.heap.size<=base):Ext w0 w1 :=
 hE.grown hg fun k hk=>by obtain⟨_,_,hl⟩:=ZC ho hk;omega
theorem ZA7 (ho:w.ownsRow base e size v n xs) (hg:w.grownBy w1 v.ownBlock) {b:Nat} {t:TypeId} {A:Option Addr} {m c:Nat} {ys:List Value} (hb:Buf w b t A m c ys) (ht:t≠e):Buf w1 b t A m c ys :=
 hb.grown hg fun a ha h=>by
  obtain⟨cur,hc,_⟩:=ZC ho h;exact hb.unlike hc ht a ha rfl
end
theorem ZDW {l x:List UInt8} (h:x∈tokL l):x.length<=32:=by
 unfold tokL at h;obtain⟨y,_,rfl⟩:=List.mem_map.1 h;exact ZIG y [] (by simp)
theorem ZGU {base:Nat} {f:Fd} {i:Nat} {x:List UInt8} (hx:(tokL f.2)[i]? = some x):(fieldT base f)[i]? = some (f.1++58::x,((base+i:Nat):Int)):=by
 unfold fieldT;rw[List.getElem?_map,List.getElem?_zipIdx,hx];simp
theorem ZAy {k:Nat}:∀(fs:List Fd) (b:Nat),(∀f∈fs,f.2.length<=k)->(rawT b fs).length<=k*fs.length
 | [],b,_=>by simp[rawT]
 | f::fs,b,h=>by
  have h1:=ZAy fs (nextT b f) fun g hg=>h g (List.mem_cons_of_mem _ hg);have h2:=ZA4 f.2;have h3:=h f (List.mem_cons_self ..);unfold rawT;rw[List.length_append,ZAf,List.length_cons,Nat.mul_add];omega
theorem ZCu {k:Nat}:∀(fs:List Fd) (b:Nat),(∀f∈fs,f.2.length<=k)->baseT b fs<=b+(64+k)*fs.length
 | [],b,_=>by simp[baseT]
 | f::fs,b,h=>by
  have h1:=ZCu fs (nextT b f) fun g hg=>h g (List.mem_cons_of_mem _ hg);have h2:=ZA4 f.2;have h3:=h f (List.mem_cons_self ..);unfold baseT;unfold nextT at h1 ⊢;rw[List.length_cons,Nat.mul_add];omega
theorem ZH8 {l:List (List UInt8)} {i:Nat} {x:List UInt8} (hx:l[i]? = some x) {j:Nat} (hj:j<2):(tkV l)[i*2+j]? = [Value.string ⟨x.toArray⟩,.int .i64 (i:Int)][j]? :=by
 unfold tkV;refine Zj (cellsA:=fun p:List UInt8×Nat=> [Value.string ⟨p.1.toArray⟩,.int .i64 (p.2:Int)]) (k:=2) (fun _=>rfl) l.zipIdx i (x,i) j ?_ hj;rw[List.getElem?_zipIdx,hx];simp
theorem ZOp {w w1:World} {base n c:Nat} {A:Option Addr} {l:List (List UInt8)} (h:w.ownsRow base 123 2 (.slice A n c) n (tkV l)) (hk:∀g cs,Row w g 123 cs->Row w1 g 123 cs) {i:Nat} {x:List UInt8} (hx:l[i]? = some x) :
 ∃g o,A=some ⟨g,o,none⟩/\w1.cell? ⟨g,o+i*2,none⟩=some (.string ⟨x.toArray⟩)/\w1.cell? ⟨g,o+i*2+1,none⟩=some (.int .i64 (i:Int)):=by
 have h0:=ZH8 hx (j:=0) (by omega);have h1:=ZH8 hx (j:=1) (by omega);rcases h with ⟨hl,⟨_,h2⟩ | ⟨g,cap,cur,hv,hb,hg,hn,q0,hs,ht⟩⟩
 ·have:=(List.getElem?_eq_some_iff.1 hx).1;have h3:(tkV l).length=l.length*2:=by unfold tkV;rw[Ze (cellsA:=fun p:List UInt8×Nat=> [Value.string ⟨p.1.toArray⟩,.int .i64 (p.2:Int)]) (k:=2) (fun _=>rfl),List.length_zipIdx]
  omega
 ·cases hv;have key:∀(j:Nat) (v:Value),(tkV l)[j]? = some v->w1.cell? ⟨g,j,none⟩=some v:=fun j v hj=>by
   rw[(hk g cur hg).get];rw[<-ht,List.getElem?_take]at hj;split at hj
   ·simpa using hj
   ·cases hj
  exact⟨g,0,rfl,by rw[Nat.zero_add];exact key _ _ h0,by rw[Nat.zero_add];exact key _ _ h1⟩
def TI (base h:Nat) (Z:List (List UInt8×Int)) (w W:World):Prop :=
 ∃L c D,Row W h 148 #[.slice L D.length c]/\W.ownsRow base 150 2 (.slice L D.length c) D.length (tcs D)/\TmsOk W base D (oneT Z)/\Ext w W
theorem TI.ext {base h:Nat} {Z:List (List UInt8×Int)} {w W W1:World} (hi:TI base h Z w W) (hE:Ext W W1):TI base h Z w W1:=by
 obtain⟨L,c,D,r,o,t,e⟩:=hi;exact⟨L,c,D,r.ext hE,hE.owns o,t.ext hE,e.trans hE⟩
theorem TI.alike {base h B:Nat} {Z:List (List UInt8×Int)} {w W W1:World} (hi:TI base h Z w W) (ha:Alike B W W1) (hB:w.heap.size<=B):TI base h Z w W1:=by
 obtain⟨L,c,D,r,o,t,e⟩:=hi;exact⟨L,c,D,ha.row r,ha.owns o,t.keep fun _ _ _ _ hb=>ha.buf hb,ha.ext e hB⟩
def ptsOf (w:World) (x:Option Addr×Nat×Nat):List Int:=match x.1 with
 | none=> []
 | some a=>(List.range x.2.1).map fun i=>match w.cell? ⟨a.block,a.off+i,none⟩with
  | some (.int _ z)=>z
  | _=>0
theorem ZJx {w:World} {base:Nat} {t:TypeId} {A:Option Addr} {n c:Nat} {l:List Int} (h:Buf w base t A n c (l.map IV)):ptsOf w (A,n,c)=l:=by
 have hc:=h.cells;have hl:=h.1;rw[List.length_map]at hl;unfold ptsOf;rcases hc with hc | ⟨g,o,rfl,hc⟩
 ·have:l = []:=List.map_eq_nil_iff.1 hc;subst this;cases A with
  | none=>rfl
  | some a =>
   simp only;simp at hl;rw[<-hl];rfl
 ·simp only;apply List.ext_getElem?;intro i;rw[List.getElem?_map];show Option.map _ ((List.range n)[i]?)=_;by_cases hi:i<n
  ·rw[List.getElem?_range hi];have h0:i<l.length:=by omega
   have:=hc i (IV l[i]) (by rw[List.getElem?_map,List.getElem?_eq_getElem h0];rfl);simp only[Option.map_some,this,IV];rw[List.getElem?_eq_getElem h0]
  ·rw[List.getElem?_eq_none (by rw[List.length_range];omega),List.getElem?_eq_none (by omega)];rfl
end
section
open Go.RowKit
theorem ZBV {e:Ev} {p:List UInt8×List Int} (h:p∈termsL e):checkE e.fs=0/\p.2=valsOf (rawT 0 e.fs) p.1/\p.2 ≠ []:=by
 unfold termsL at h;split at h
 ·rename_i h0;exact⟨h0,((ZA6 _).mem p).1 h⟩
 ·cases h
theorem ZH7:∀(fs:List Fd) (b:Nat) (q:List UInt8×Int),q∈rawT b fs->∃f∈fs,∃w∈tokL f.2,q.1=f.1++58::w
 | [],b,q,h=>by cases h
 | f::fs,b,q,h=>by
  unfold rawT at h;rcases List.mem_append.1 h with h | h
  ·unfold fieldT at h;obtain⟨p,hp,rfl⟩:=List.mem_map.1 h;obtain⟨w,i⟩:=p;have:=List.mem_zipIdx hp;exact⟨f,List.mem_cons_self ..,w,by rw[this.2.2];exact List.getElem_mem _,rfl⟩
  ·obtain⟨g,hg,w,hw,he⟩:=ZH7 fs _ q h;exact⟨g,List.mem_cons_of_mem _ hg,w,hw,he⟩
theorem ZDd {β:Type} {ps:List (List UInt8×β)} {s:List UInt8} (h:valsOf ps s ≠ []):∃p∈ps,p.1=s:=Decidable.byContradiction fun hn=>h (ZBG fun p hp e=>hn ⟨p,hp,e⟩)
theorem ZFf {β:Type} (ps:List (List UInt8×β)) (s:List UInt8):(valsOf ps s).length<=ps.length:=by
 unfold valsOf;rw[List.length_map];exact List.length_filter_le ..
theorem ZCJ {e:Ev} {p:List UInt8×List Int} (h:p∈termsL e):1<=p.1.length/\p.1.length<=65:=by
 obtain⟨h0,h1,h2⟩:=ZBV h;rw[h1]at h2;obtain⟨q,hq,q0⟩:=ZDd h2;obtain⟨f,hf,w,hw,he⟩:=ZH7 _ _ q hq;have p0:=(Zd h0).2 f hf;have k0:=ZDW hw;rw[<-q0,he,List.length_append,List.length_cons];omega
theorem ZGA {e:Ev} {p:List UInt8×List Int} (h:p∈termsL e):p.2.length<=65536:=by
 obtain⟨h0,h1,h2⟩:=ZBV h;have h3:=ZFf (rawT 0 e.fs) p.1;have h4:=ZAy (k:=4096) e.fs 0 fun f hf=>((Zd h0).2 f hf).2;have h5:=(Zd h0).1;rw[h1];omega
theorem ZII {β:Type} (p:List UInt8×β):∀(l:List (List UInt8×List β)),(addG p l).length<=l.length+1
 | []=>by simp[addG]
 | x::xs=>by
  have:=ZII p xs;unfold addG;split
  ·simp only[List.length_cons];omega
  ·split
   ·simp only[List.length_cons];omega
   ·simp only[List.length_cons];omega
theorem ZFs {β:Type}:∀(ps:List (List UInt8×β)) (l:List (List UInt8×List β)),(ps.foldl (fun l p=>addG p l) l).length<=l.length+ps.length
 | [],l=>by simp
 | p::ps,l=>by
  have h1:=ZFs ps (addG p l);have h2:=ZII p l;rw[List.foldl_cons,List.length_cons];omega
theorem ZDH {β:Type} (ps:List (List UInt8×β)):(grp ps).length<=ps.length:=by
 have:=ZFs ps [];unfold grp;simpa using this
theorem ZIy (e:Ev):(termsL e).length<=65536:=by
 unfold termsL;split
 ·rename_i h0;have h3:=ZDH (rawT 0 e.fs);have h4:=ZAy (k:=4096) e.fs 0 fun f hf=>((Zd h0).2 f hf).2;have h5:=(Zd h0).1;omega
 ·simp
end
end Go.Proofs.YtkdcnhnaiknaaaaGreat
