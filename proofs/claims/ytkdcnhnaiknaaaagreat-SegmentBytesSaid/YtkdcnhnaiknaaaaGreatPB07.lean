/- Texts of one proof, joined. -/
import Derived.Test.YtkdcnhnaiknaaaaGreatPB06
import Derived.Test.YtkdcnhnaiknaaaaGreatPB03
import Derived.Test.YtkdcnhnaiknaaaaGreatPB04
import Derived.Test.YtkdcnhnaiknaaaaGreatPB05
import Derived.RegionTactic
import Derived.ChangeAlike
import Derived.StringKeys
import Derived.Test.YtkdcnhnaiknaaaaGreatPB01
import Derived.Test.YtkdcnhnaiknaaaaGreatPB02
import Derived.Deep.QuietTactic
import Derived.BigQuiet
set_option linter.unusedSimpArgs false
set_option linter.unusedVariables false
set_option maxRecDepth 100000
set_option maxHeartbeats 16000000
namespace Go.Proofs.YtkdcnhnaiknaaaaGreat
section
open Go.RowKit
theorem ZEQ:∀ {k:Nat} {l r:List UInt8} {fs:List Fd},getFs k l=some (fs,r)->r.length<=l.length
 | 0,l,r,fs,h=>by unfold getFs at h;cases h;exact Nat.le_refl _
 | k+1,l,r,fs,h=>by
  unfold getFs at h;split at h
  ·cases h
  ·rename_i nm r1 h1;split at h
   ·cases h
   ·rename_i tx r2 h2;split at h
    ·cases h
    ·rename_i fs' r3 h3;cases h;have a1:=(ZCW h1).2.1;have a2:=(ZCW h2).2.1;have a3:=ZEQ h3;omega
theorem Zk {l r:List UInt8} {n:Nat} (h:getV 0 l = .ok (n,r)):r.length<l.length:=by
 obtain⟨_,_,q,hq,h0⟩:=ZAH l 0 n r h;have:=List.length_pos_iff.2 h0;rw[hq,List.length_append];omega
theorem ZF1 {l r:List UInt8} {e:Ev} (h:getE l=some (e,r)):r.length<l.length:=by
 unfold getE at h;split at h
 ·cases h
 ·rename_i u r1 h1;split at h
  ·cases h
  ·rename_i n r2 h2;split at h
   ·cases h
   ·split at h
    ·cases h
    ·rename_i fs r3 h3;split at h
     ·cases h;have a1:=Zk h1;have a2:=Zk h2;have a3:=ZEQ h3;omega
     ·cases h
theorem ZDu:∀(l:List UInt8) (i k:Nat),getV i l = .error k->k=6\/k=20
 | [],i,k,h=>by unfold getV at h;injection h with h;omega
 | x::l,i,k,h=>by
  unfold getV at h;split at h
  ·injection h with h;omega
  ·split at h
   ·injection h with h;omega
   ·split at h
    ·cases h
    ·split at h
     ·cases h
     ·rename_i e hg;injection h with h;subst h;exact ZDu l (i+1) _ hg
def GotF (w0 w:World) (res:Except Nat (List UInt8×List UInt8)) (e:Ending) (w':World):Prop:=Ext w w'/\match res with
 | .ok (p,r)=>∃P cp A c,e = .returned (.tuple #[.slice P p.length cp,.slice A r.length c,.int .i64 0])/\In8 w' P p.length cp p/\In8 w0 A r.length c r
 | .error k=>e = .returned (.tuple #[.slice none 0 0,.slice none 0 0,.int .i64 k])
theorem ZDo (l:List UInt8) (x:UInt8):be (l ++ [x])=be l*256+x.toNat:=by
 unfold be;rw[List.foldl_append];rfl
theorem GotF.no {w0 w w':World} {res:Except Nat (List UInt8×List UInt8)} {k:Nat} (hE:Ext w w') (h:res = .error k):GotF w0 w res (.returned (.tuple #[.slice none 0 0,.slice none 0 0,.int .i64 k])) w':=by
 subst h;exact⟨hE,rfl⟩
def GotFB (w0 w:World) (res:Except Nat (List UInt8×List UInt8)) (e:Ending) (w':World):Prop:=Ext w w'/\match res with
 | .ok (p,r)=>∃P cp A c base,e = .returned (.tuple #[.slice P p.length cp,.slice A r.length c,.int .i64 0])/\Buf w' base 5 P p.length cp (p.map B8)/\In8 w0 A r.length c r
 | .error k=>e = .returned (.tuple #[.slice none 0 0,.slice none 0 0,.int .i64 k])
theorem GotFB.no {w0 w w':World} {res:Except Nat (List UInt8×List UInt8)} {k:Nat} (hE:Ext w w') (h:res = .error k):GotFB w0 w res (.returned (.tuple #[.slice none 0 0,.slice none 0 0,.int .i64 k])) w':=by
 subst h;exact⟨hE,rfl⟩
theorem ZK2 (A:Option Addr) (n c:Nat) (l:List UInt8) (w0 w:World) (h:In8 w0 A n c l) (hw:Ext w0 w) (s1:n<=1000000000) :
 Calls Tryz.prog 152 #[.slice A n c] w fun e w'=>GotFB w0 w (getF l) e w':=by
 have hg:=ZA1 A n c l w0 w h hw s1;have r0:=ZA h.len;obtain⟨Z,hZ⟩:∃Z,Z=getF l:=⟨_,rfl⟩
 rw[<-hZ];unfold getF at hZ;cases hv:getV 0 l with
 | error k =>
  rw[hv]at hg hZ;simp only at hZ;rcases ZDu l 0 k hv with rfl | rfl
  ·rw[if_pos rfl]at hZ;replace hZ:=ZA hZ;replace hg:=ZA hg;clear h hv;go_enter Tryz.func152,Tryz.ntmps152;go_wp2_with fail;refine hg.out.mono ?_;rintro e w1 ⟨q0,rfl⟩;go_wp2_with fail;go_ret3;exact GotFB.no q0 hZ.out
  ·rw[if_neg (by omega)]at hZ;replace hZ:=ZA hZ;replace hg:=ZA hg;clear h hv;go_enter Tryz.func152,Tryz.ntmps152;go_wp2_with fail;refine hg.out.mono ?_;rintro e w1 ⟨q0,rfl⟩;go_wp2_with fail;go_ret3;exact GotFB.no q0 hZ.out
 | ok p =>
  obtain⟨m,r⟩:=p;have q2:=Zp hv;have k2:=Zk hv;obtain⟨hd,n0,n1⟩:=ZBO l 0 m r [] hv;have p0:l.length - r.length=hd.length:=by rw[n0,List.length_append];omega
  rw[hv]at hg hZ;simp only at hZ;unfold Got at hg;simp only at hg;replace hg:=ZA hg;clear hv n1;by_cases e0:16777216<m
  ·rw[if_pos e0]at hZ;replace hZ:=ZA hZ;have i1:(16777216:Int)<m:=by omega
   clear h;go_enter Tryz.func152,Tryz.ntmps152;go_wp2_with fail;refine hg.out.mono ?_;rintro e w1 ⟨q0,A1,c1,rfl,hi1⟩;go_wp2_with fail;go_ret3;exact GotFB.no q0 hZ.out
  ·rw[if_neg e0]at hZ;have i1:¬ (16777216:Int)<m:=by omega
   have b2:IntKind.i64.wrap (m:Int)=(m:Int):=by
    simp[IntKind.wrap,IntKind.bits,IntKind.signed];omega
   by_cases a1:r.length<4+m
   ·rw[if_pos a1]at hZ;replace hZ:=ZA hZ;have g2:(r.length:Int)<4+(m:Int):=by omega
    clear h;go_enter Tryz.func152,Tryz.ntmps152;go_wp2_with fail;refine hg.out.mono ?_;rintro e w1 ⟨q0,A1,c1,rfl,hi1⟩;go_wp2_with fail;go_ret3;exact GotFB.no q0 hZ.out
   ·rw[if_neg a1]at hZ;have g2:¬ (r.length:Int)<4+(m:Int):=by omega
    obtain⟨o1,o0⟩:=h.headk .i64 (k:=l.length - r.length) (by have:=r0.out;omega) (z:=(n:Int) - (r.length:Int)) (by have:=r0.out;omega);rw[p0]at o1 o0;have z2:r.length<=n:=by have:=r0.out;omega
    have j2:r.length<=1000000000:=by omega
    replace hZ:=ZA hZ;replace o0:=ZA o0;replace p0:=ZA p0;replace n0:=ZA n0;clear h k2;go_enter Tryz.func152,Tryz.ntmps152;go_wp2_with fail;refine hg.out.mono ?_;rintro e w1 ⟨q0,A1,c1,rfl,hi1⟩;obtain⟨u2,p1⟩:=hi1.headk .i64 (k:=4) (by omega) (z:=4) rfl;obtain⟨A2,c2,x2,u1⟩:=hi1.subk .i64 .i64 (fr:=4) (k:=m) (by omega) (z0:=4) (z:=4+(m:Int)) rfl rfl;obtain⟨A3,c3,a2,x1⟩:=hi1.fromk .i64 (fr:=4+m) (by omega) (z:=4+(m:Int)) (by omega);replace p1:=ZA p1;replace u1:=ZA u1;replace x1:=ZA x1;replace hi1:=ZA hi1;go_wp2_with fail
    go_loopw [7,9,43] (fun s7 _ s43 wr=>∃(i v:Nat),s43 = .int .i64 (i:Int)/\i<=4/\s7 = .int .u32 (v:Int)/\v<256^i/\Hid (v=be (r.take i))/\wr=w1) (fun _ _ s43 _=>4 - (intOf s43).toNat)
    case atStart=>exact⟨0,0,rfl,by omega,rfl,by decide,ZA (by simp[be]),rfl⟩
    case round =>
     obtain⟨i,v,rfl,hi,rfl,hv,d1,rfl⟩:=hrel;by_cases r1:i<4
     ·obtain⟨x,hx⟩:∃x,r[i]? = some x:=⟨_,List.getElem?_eq_getElem (by omega)⟩
      have s0:be (r.take (i+1))=v*256+x.toNat:=by rw[ZAG hx,ZDo,d1.out]
      have d2:=x.toNat_lt;have y2:(256:Nat)^i<=256^3:=Nat.pow_le_pow_right (by omega) (by omega);have t2:v<16777216:=by omega
      have p2:bits .or .u32 ((v:Int)*256) (x.toNat:Int)=((v*256+x.toNat:Nat):Int):=by
       have h1:=u32_or_nat (v*256) x.toNat (by omega) (by omega);have h2:=Nat.shiftLeft_add_eq_or_of_lt (show x.toNat<2^8 by omega) v;rw[Nat.shiftLeft_eq]at h2;rw[show (2:Nat)^8=256 from rfl]at h2;rw[h2,<-h1];simp
      have h0:v*256+x.toNat<256^(i+1):=by rw[Nat.pow_succ];omega
      obtain⟨g,o,f1,hc⟩:=Cells.at_ (xs:=(r.take 4).map B8) (p1.out.bytes.ext (hw.trans q0)) (by rw[List.length_map,List.length_take];omega);have f0:=hc i (B8 x) (by rw[List.getElem?_map,List.getElem?_take,if_pos r1,hx];rfl);unfold B8 at f0;subst f1;replace s0:=ZA s0;replace h0:=ZA h0;obtain⟨nx,v1⟩:∃nx,nx=v*256+x.toNat:=⟨_,rfl⟩
      rw[<-v1]at p2 s0 h0;replace v1:=ZA v1;clear hx hc;go_wp2_with fail;refine⟨⟨i+1,nx,by go_num,by omega,rfl,h0.out,ZA s0.out.symm,trivial⟩,?_⟩;simp[intOf];omega
     ·obtain rfl:i=4:=by omega
      have g0:((r.drop 4).take m).length=m:=by rw[List.length_take,List.length_drop];omega
      have y0:(l.take hd.length).length=hd.length:=by rw[List.length_take,n0.out,List.length_append];omega
      have l0:(r.drop (4+m)).length=r.length - (4+m):=List.length_drop;have k1:=hw.trans q0;have j0:=u1.out.ext k1;obtain⟨pl,m0⟩:∃pl,pl=(r.drop 4).take m:=⟨_,rfl⟩
      obtain⟨hh,k0⟩:∃hh,hh=l.take hd.length:=⟨_,rfl⟩
      rw[<-m0]at g0 j0;have u0:=o0.out;rw[<-k0]at y0 u0;have l1:=ZA (ZAq A2 m c2 pl wr g0.symm j0.bytes j0.nil_ (by omega));have q1:=hZ.out;rw[p0.out,<-k0,<-m0,<-d1.out]at q1;replace q1:=ZA q1;replace m0:=ZA m0;replace k0:=ZA k0;replace g0:=ZA g0;replace y0:=ZA y0;replace l0:=ZA l0;have v2:v<4294967296:=hv;clear j0;go_wp2_with fail;refine l1.out.mono ?_;rintro e w3 ⟨P,cp,rfl,j1,y1⟩;have x0:=j1.in8;have g1:=ZA j1;obtain⟨w4,b0⟩:∃w4,w4=w3.alloc (.cells #[.slice A hd.length c,.slice P m cp] 25):=⟨_,rfl⟩
      have d0:Ext w3 w4:=by rw[b0];exact(Ext.refl w3).alloc _
      have z1:Row w4 w3.heap.size 25 #[.slice A hd.length c,.slice P m cp]:=by rw[b0];exact Row.new w3 _ _
      have a0:=ZK3 (some ⟨w3.heap.size,0,none⟩) 2 2 [(A,c,hh),(P,cp,pl)] w4 rfl (.inr ⟨w3.heap.size,0,rfl,fun i v hv=>by
       rw[Nat.zero_add];refine z1.cell i ?_;have e1:=y0.out;have e2:=g0.out;simpa [e1,e2]using hv⟩) (fun q hq=>by
       rcases List.mem_cons.1 hq with rfl | hq
       ·have h:=(u0.ext k1).ext (y1.trans d0);simp only;rw[y0.out];exact h
       ·rw[List.mem_singleton.1 hq];have h:=x0.ext d0;simp only;rw[g0.out];exact h) (fun q hq=>by
       rcases List.mem_cons.1 hq with rfl | hq
       ·simp only;rw[y0.out];have:=r0.out;have:=p0.out;omega
       ·rw[List.mem_singleton.1 hq];simp only;rw[g0.out];omega) (by omega)
      rw[show ([(A,c,hh),(P,cp,pl)].map fun p:Option Addr×Nat×List UInt8=>p.2.2) = [hh,pl] from rfl,show csum 0 [hh,pl]=cnext 0 (hh++pl)from ZF2 hh pl]at a0;obtain⟨s,hs⟩:∃s,s=cnext 0 (hh++pl):=⟨_,rfl⟩
      have t0:=q1.out;rw[<-hs]at a0 t0;have c0:=ZA (q0.trans (y1.trans d0));replace a0:=ZA a0;replace b0:=ZA b0;replace x0:=ZA (x0.ext d0);have m1:=ZA (g1.out.ext d0);replace hs:=ZA hs;clear j1 z1 k1 u0;by_cases b1:s=v
      ·subst b1;rw[if_pos rfl]at t0;replace t0:=ZA t0;go_wp2_with fail;rw[<-b0.out];refine a0.out.mono ?_;rintro e w5 ⟨rfl,i0⟩;have v0:=ZA (c0.out.trans i0);have t1:=ZA (m1.out.ext i0);go_wp2_with fail;refine ZB follows (by kernel_rfl) (by kernel_rfl) (fun K hK=>?_);go_wp2_with fail;refine⟨by kernel_rfl,?_⟩;go_wp2_with fail;go_ret3;rw[t0.out];exact⟨v0.out.drew,P,cp,A3,c3,_,by rw[g0.out,l0.out];rfl,by rw[g0.out];exact t1.out.drew,by rw[l0.out];exact x1.out⟩
      ·have m2:¬ (s:Int)=v:=by omega
       rw[if_neg b1]at t0;replace t0:=ZA t0;go_wp2_with fail;rw[<-b0.out];refine a0.out.mono ?_;rintro e w5 ⟨rfl,i0⟩;have v0:=ZA (c0.out.trans i0);go_wp2_with fail;go_ret3;exact GotFB.no v0.out t0.out
end
section
open Go.RowKit
attribute [local go_sem] Oper.semAt_some Za ZAw
def KeepS (B:Nat) (S:Nat->Prop) (W W':World):Prop:=(∀w0:World,w0.heap.size<=B->Ext w0 W->Ext w0 W')/\∀k,S k->∀o,W.heap[k]? = some o->W'.heap[k]? = some o
theorem KeepS.trans (B:Nat) (S:Nat->Prop) (A C D:World) (h:KeepS B S A C) (k:KeepS B S C D):KeepS B S A D:=⟨fun w0 h0 he=>k.1 w0 h0 (h.1 w0 h0 he),fun i hi o ho=>k.2 i hi o (h.2 i hi o ho)⟩
theorem KeepS.refl (B:Nat) (S:Nat->Prop) (A:World):KeepS B S A A:=⟨fun _ _ h=>h,fun _ _ _ h=>h⟩
theorem KeepS.alike {H B:Nat} {S:Nat->Prop} (h0:H<=B) (h1:∀k,S k->k<B) (A C:World) (h:Alike B A C):KeepS H S A C :=
 ⟨fun _ hs he=>h.ext he (by omega),fun k hk _ ho=>(h.block k (Array.getElem?_eq_some_iff.1 ho).1 (fun hn=>by have:=hn.1;have:=h1 k hk;omega)).trans ho⟩
theorem KeepS.ext {B:Nat} {S:Nat->Prop} {A C:World} (h:Ext A C):KeepS B S A C :=
 ⟨fun _ _ he=>he.trans h,fun k _ _ ho=>(Below.block h k (Array.getElem?_eq_some_iff.1 ho).1).trans ho⟩
theorem KeepS.row {B:Nat} {S:Nat->Prop} {A C:World} (h:KeepS B S A C) {k:Nat} (hk:S k) {t:TypeId} {cs:Array Value} (hr:Row A k t cs):Row C k t cs:=h.2 k hk _ hr
abbrev Pay:=Option Addr×Nat×List UInt8×Int
def Pay.val (x:Pay):Value:= .slice x.1 x.2.2.1.length x.2.1
def PayOk (W:World) (x:Pay):Prop:=∃base,Buf W base 5 x.1 x.2.2.1.length x.2.1 (x.2.2.1.map B8)
def pays (l:List Pay):List (List UInt8):=l.map fun x=>x.2.2.1
def NxF (b:List UInt8) (pre:List Pay) (x:Pay) (W:World):Prop:=PayOk W x/\∃r,splitF b=(pays (pre ++ [x])++(splitF r).1,(splitF r).2)
def FinF (b:List UInt8) (ew:Nat) (xs:List Pay) (W W':World):Prop:=(splitF b=(pays xs,0)/\Ext W W')\/∃k W3,k≠0/\splitF b=(pays xs,k)/\Ext W W3/\W'=W3.setCell ⟨ew,0,none⟩ (.int .i64 (k:Int))
def FrIter (b:List UInt8) (B b1 b2 ew:Nat) (w:World):Prop :=
 Iter Tryz.prog 151 #[.pointer (some ⟨b1,0,none⟩),.pointer (some ⟨b2,0,none⟩)] (fun x:Pay=>#[.int .i64 x.2.2.2,x.val]) Ext (NxF b) (KeepS B fun k=>k=b1\/k=b2\/k=ew) (FinF b ew) w
theorem ZG0 (A:Option Addr) (n c:Nat) (b:List UInt8) (B b1 b2 ew:Nat) (w0 w:World) (h:In8 w0 A n c b) (hB:w0.heap.size<=B) (hw:Ext w0 w) (l0:n<=1000000000)
 (u0:Row w b1 25 #[.slice A n c]) (b0:Row w b2 168 #[.pointer (some ⟨ew,0,none⟩)]) (c0:Row w ew 26 #[.int .i64 0]):FrIter b B b1 b2 ew w:=by
 intro l J W hE a0 hY h0;replace u0:=ZA (u0.ext hE);replace b0:=ZA (b0.ext hE);replace c0:=ZA (c0.ext hE);replace hw:=ZA (hw.trans hE);clear hE;replace hY:=ZA hY;replace a0:=ZA a0;replace h0:=ZA h0;have g1:=ZA h.len;replace h:=ZA h;have v0:=ZA (fun A n c r W (h:In8 w0 A n c r) (hw:Ext w0 W) (l0:n<=1000000000)=>ZK2 A n c r w0 W h hw l0);refine(callsIn_wide (n:=0)).1 ?_;refine callsIn_of_wp Tryz.func151 rfl trivial ?_;simp only[Tryz.ntmps151,List.size_toArray,List.length_cons,List.length_nil,Nat.reduceAdd,Nat.reduceSub,Array.replicate_succ,Array.replicate_zero,List.push_toArray,List.append_toArray,List.nil_append,List.cons_append];have k10:=u0.out.cell 0 rfl;gi_wp2_with fail
 gi_loopw [4] (fun s4 wr=>∃(A4:Option Addr) (n4 c4:Nat) (r:List UInt8) (pre:List Pay),s4 = .slice A4 n4 c4/\n4<=n/\Hid (In8 w0 A4 n4 c4 r)/\Hid (splitF b=(pays pre++(splitF r).1,(splitF r).2))/\Hid (J pre wr)/\Hid (Ext w0 wr)/\Hid (Row wr b1 25 #[.slice A n c])/\Hid (Row wr b2 168 #[.pointer (some ⟨ew,0,none⟩)])/\Hid (Row wr ew 26 #[.int .i64 0])) (fun s4 _=>match s4 with | .slice _ k _=>k | _=>0)
 case atStart=>exact⟨A,n,c,b,[],rfl,Nat.le_refl _,h,ZA rfl,h0,hw,u0,b0,c0⟩
 case round =>
  obtain⟨A4,n4,c4,r,pre,rfl,m1,hi,n0,hJ,hE,r1,r2,r3⟩:=hrel;have k1:=r1.out.cell 0 rfl;have k2:=r2.out.cell 0 rfl;have f0:=ZA hi.out.len;by_cases hz:n4=0
  ·have p1:¬ (0:Int)<n4:=by omega
   have h1:r = []:=List.length_eq_zero_iff.1 (by rw[<-f0.out];exact hz);subst h1;clear hY v0;gi_wp2_with fail
   go_end0
   refine⟨⟨_,rfl⟩,pre,_,hJ.out,.inl ⟨?_,Ext.refl _⟩⟩;have:=n0.out;rw[ZEE,List.append_nil]at this;exact this
  ·have p1:(0:Int)<n4:=by omega
   have g0:r ≠ []:=fun e=>by have:=f0.out;rw[e]at this;exact hz this
   have hg:=v0.out A4 n4 c4 r wr hi.out hE.out (by omega);have q0:=n0.out;cases m0:getF r with
   | error k =>
    rw[ZEV g0 m0,List.append_nil]at q0;rw[m0]at hg;have s0:k≠0:=by rcases ZGL m0 with h | h <;> omega
    have j1:¬ (k:Int)=0:=by omega
    replace q0:=ZA q0;replace hg:=ZA hg;clear m0 hY g0;gi_wp2_with fail;refine(callsIn_wide.2 hg.out).mono ?_;rintro e w2 ⟨p0,rfl⟩;have k22:=(r2.out.ext p0).cell 0 rfl;have k32:=(r3.out.ext p0).cell 0 rfl;have k3f:=(r3.out.ext p0).free 0;have i0:=ZA (a0.out _ _ _ hJ.out p0);replace p0:=ZA p0;gi_wp2_with fail;exact bodyPost_ret (results_none rfl _ _ _) rfl ⟨⟨_,rfl⟩,pre,_,hJ.out,.inr ⟨k,_,s0,q0.out,p0.out,rfl⟩⟩
   | ok q =>
    obtain⟨p,r'⟩:=q;rw[ZDO g0 m0]at q0;rw[m0]at hg;have k0:=(ZAT m0).1;have t0:splitF b=(pays (pre ++ [(none,0,p,0)])++(splitF r').1,(splitF r').2):=by
     rw[q0];simp[pays]
    replace q0:=ZA q0;replace t0:=ZA t0;replace hg:=ZA hg;clear m0 g0;gi_wp2_with fail;refine(callsIn_wide.2 hg.out).mono ?_;rintro e w2 ⟨p0,P,cp,A5,c5,base,rfl,x0,y0⟩;have r12:=ZA (r1.out.ext p0);have r22:=ZA (r2.out.ext p0);have r32:=ZA (r3.out.ext p0);have k12:=r12.out.cell 0 rfl;have i0:=ZA (a0.out _ _ _ hJ.out p0);have j0:splitF b=(pays (pre ++ [(P,cp,p,((n:Int) - r'.length))])++(splitF r').1,(splitF r').2):=by
     have:=t0.out;simp only[pays,List.map_append,List.map_cons,List.map_nil]at this ⊢;exact this
    have q1:=hY.out pre (P,cp,p,((n:Int) - r'.length)) w2 i0.out ⟨⟨base,x0⟩,r',j0⟩;obtain⟨fn,tmps,assign,body,hy,hR⟩:=q1;simp only[Pay.val]at hy hR;obtain⟨n5,d0⟩:∃n5,n5=r'.length:=⟨_,rfl⟩
    rw[<-d0]at y0 hy hR j0 k0 ⊢;replace k0:=Nat.lt_of_lt_of_eq k0 f0.out.symm;obtain⟨pl,e0⟩:∃pl,pl=p.length:=⟨_,rfl⟩
    rw[<-e0]at x0 hy ⊢;replace y0:=ZA y0;replace p0:=ZA (hE.out.trans p0);replace j0:=ZA j0;replace x0:=ZA x0;replace d0:=ZA d0;replace e0:=ZA e0;clear hY;gi_wp2_with fail;refine hR.mono ?_;rintro e W3 ⟨rfl,r0,z0⟩;have r13:=ZA (show Row W3 b1 25 #[.slice A n c] from z0.row (.inl rfl) r12.out);have r23:=ZA (show Row W3 b2 168 #[.pointer (some ⟨ew,0,none⟩)] from z0.row (.inr (.inl rfl)) r22.out);have o0:=ZA (z0.1 w0 hB p0.out);have r33:=ZA (z0.row (.inr (.inr rfl)) r32.out);gi_wp2_with fail;exact⟨⟨A5,n5,c5,r',_,rfl,by omega,y0,j0,ZA r0,o0,r13,r23,r33⟩,by omega⟩
end
section
open Go.RowKit
attribute [local go_sem] Oper.semAt_some Za ZAw
theorem ZAI {P:Program} {w:World} {g:Nat} {ty:TypeId} {v:Value} {d:TypeDesc} (h:w.cell? ⟨g,0,none⟩=some v) (hu:P.underlying ty=some d) (hd:(match d with | .struct _ | .array _ _=>false | _=>true)=true):(loadVar ty ⟨g,0,none⟩).run P w = .ok v w:=by
 have hi:(isAgg ty).run P w = .ok false w:=by
  unfold isAgg;simp only[Sem.run_bind,run_underlying hu,Result.andThen_ok];cases d <;> first | rfl | (cases hd)
 unfold loadVar;simp only[Sem.run_bind,hi,Result.andThen_ok];simp[h]
theorem Row.same {w:World} {g:Nat} {t:TypeId} {cs:Array Value} (h:Row w g t cs) {i:Nat} {v:Value} (hv:cs[i]? = some v):w.setCell ⟨g,i,none⟩ v=w:=by
 have hp:=h.put i v;have hc:cs.setIfInBounds i v=cs:=by
  apply Array.ext_getElem?;intro j;rw[Array.getElem?_setIfInBounds];split
  ·rename_i e;subst e;rw[hv,if_pos (Array.getElem?_eq_some_iff.1 hv).1]
  ·rfl
 rw[hc]at hp;have hh:(w.setCell ⟨g,i,none⟩ v).heap=w.heap:=by
  apply Array.ext_getElem?;intro k;by_cases e:k=g
  ·subst e;exact hp.trans (Eq.symm h)
  ·exact Below.heap_setCell w ⟨g,i,none⟩ v k e
 obtain⟨heap,os,tape,output⟩:=w;simp only[World.setCell]at hh ⊢;rw[hh]
theorem ZEB {fn:Func} {p q r:Tmp} {tp tq tr:TypeId} {P:Program} (hf:fn.results=#[.cell p tp,.cell q tq,.cell r tr]) (tmps:Array Value) (w:World) {g1 g2 g3:Nat} {v1 v2 v3:Value}
 (h1:tmps.getD p undef = .pointer (some ⟨g1,0,none⟩)) (h2:tmps.getD q undef = .pointer (some ⟨g2,0,none⟩)) (h3:tmps.getD r undef = .pointer (some ⟨g3,0,none⟩))
 (l1:(loadVar tp ⟨g1,0,none⟩).run P w = .ok v1 w) (l2:(loadVar tq ⟨g2,0,none⟩).run P w = .ok v2 w) (l3:(loadVar tr ⟨g3,0,none⟩).run P w = .ok v3 w) :
 (results fn tmps).run P w = .ok (.tuple #[v1,v2,v3]) w:=by
 rw[Array.getD_eq_getD_getElem?]at h1 h2 h3;simp only[results,hf];simp[Sem.run_bind,Result.andThen,h1,h2,h3,asAddr,l1,l2,l3]
theorem ZOb:Elem Tryz.prog 109 25 1 24:=⟨Tryz.underlying109,⟨_,_,rfl,rfl,rfl,rfl,rfl⟩,by omega,by omega⟩
theorem ZJe (A:Option Addr) (n c:Nat) (ew:Nat) (w:World) :
 Calls Tryz.prog 93 #[.slice A n c,.pointer (some ⟨ew,0,none⟩)] w fun e w'=>∃b1 b2,e = .returned (.func (.func 151) #[] #[.pointer (some ⟨b1,0,none⟩),.pointer (some ⟨b2,0,none⟩)])/\Row w' b1 25 #[.slice A n c]/\Row w' b2 168 #[.pointer (some ⟨ew,0,none⟩)]/\w.heap.size<=b1/\w.heap.size<=b2/\b1<b2/\Ext w w':=by
 go_enter Tryz.func93,Tryz.ntmps93;go_wp2_with fail;go_ret;have h1:=Row.new w 25 #[.slice A n c];have h2:=Row.new (w.alloc (.cells #[.slice A n c] 25)) 168 #[.pointer (some ⟨ew,0,none⟩)];rw[World.size_alloc]at h2;exact⟨w.heap.size,w.heap.size+1,rfl,h1.alloc _,h2,Nat.le_refl _,by omega,by omega,((Ext.refl w).alloc _).alloc _⟩
theorem ZKO {w w1:World} {base n c:Nat} {e:TypeId} {A:Option Addr} {xs:List Value} (hb:Buf w base e A n c xs) (hg:w.grownBy w1 (Value.slice A n c).ownBlock) {k:Nat} (hk:k<base) (h0:k<w.heap.size):w1.heap[k]? = w.heap[k]? :=
 hg.block k h0 fun h=>by
  cases A with
  | none=>simp[Value.ownBlock]at h
  | some a =>
   have:=hb.base_le a rfl;simp[Value.ownBlock]at h;omega
theorem PayOk.grown {w w1:World} {x:Pay} {base n c:Nat} {e:TypeId} {A:Option Addr} {xs:List Value} (h:PayOk w x) (hb:Buf w base e A n c xs) (hg:w.grownBy w1 (Value.slice A n c).ownBlock) (he:5≠e):PayOk w1 x:=by
 obtain⟨b,hx⟩:=h;refine⟨b,hx.grown hg fun a ha q0=>?_⟩;rcases hb.2.2 with ⟨h0,_⟩ | ⟨g',cur,p0,_,hr,_⟩
 ·subst h0;simp[Value.ownBlock]at q0
 ·subst p0;simp[Value.ownBlock]at q0;exact hx.unlike hr he a ha q0.symm
theorem PayOk.set {w:World} {x:Pay} (h:PayOk w x) {g:Nat} {t:TypeId} {cs:Array Value} (hr:Row w g t cs) (ht:5≠t) (i:Nat) (u:Value):PayOk (w.setCell ⟨g,i,none⟩ u) x:=by
 obtain⟨b,hx⟩:=h;exact⟨b,hx.setCell (hx.unlike hr ht) u⟩
def SpI (h bs b1 b2:Nat) (V1:Value) (w:World) (pre:List Pay) (W:World):Prop :=
 ∃L c z,Row W h 109 #[.slice L pre.length c]/\Row W (h+1) 3 #[.int .i64 z]/\Row W (h+2) 26 #[.int .i64 0]/\Buf W bs 25 L pre.length c (pre.map Pay.val)/\(∀x∈pre,PayOk W x)/\Row W b1 25 #[V1]/\Row W b2 168 #[.pointer (some ⟨h+2,0,none⟩)]/\Ext w W/\bs<=W.heap.size
theorem PayOk.ext {W W1:World} {x:Pay} (h:PayOk W x) (hE:Ext W W1):PayOk W1 x:=by obtain⟨b,hb⟩:=h;exact⟨b,hb.ext hE⟩
theorem PayOk.alike {B:Nat} {W W1:World} {x:Pay} (h:PayOk W x) (ha:Alike B W W1):PayOk W1 x:=by obtain⟨b,hb⟩:=h;exact⟨b,ha.buf hb⟩
theorem SpI.ext {h bs b1 b2:Nat} {V1:Value} {w W W1:World} {pre:List Pay} (hi:SpI h bs b1 b2 V1 w pre W) (hE:Ext W W1):SpI h bs b1 b2 V1 w pre W1:=by
 obtain⟨L,c,z,r1,r2,r3,hb,hp,q1,q2,he,hs⟩:=hi;exact⟨L,c,z,r1.ext hE,r2.ext hE,r3.ext hE,hb.ext hE,fun x hx=>(hp x hx).ext hE,q1.ext hE,q2.ext hE,he.trans hE,Nat.le_trans hs hE.size⟩
theorem SpI.alike {h bs b1 b2 B:Nat} {V1:Value} {w W W1:World} {pre:List Pay} (hi:SpI h bs b1 b2 V1 w pre W) (ha:Alike B W W1) (hB:w.heap.size<=B):SpI h bs b1 b2 V1 w pre W1:=by
 obtain⟨L,c,z,r1,r2,r3,hb,hp,q1,q2,he,hs⟩:=hi;exact⟨L,c,z,ha.row r1,ha.row r2,ha.row r3,ha.buf hb,fun x hx=>(hp x hx).alike ha,ha.row q1,ha.row q2,ha.ext he hB,Nat.le_trans hs ha.size⟩
def SplitW (w:World) (b:List UInt8) (e:Ending) (w':World):Prop:=∃L c z,∃ps:List Pay,e = .returned (.tuple #[.slice L ps.length c,.int .i64 z,.int .i64 ((splitF b).2:Int)])/\Cells w' L (ps.map Pay.val)/\pays ps=(splitF b).1/\(∀x∈ps,PayOk w' x)/\Ext w w'
theorem ZKH (A:Option Addr) (n c:Nat) (b:List UInt8) (w:World) (h:In8 w A n c b) (w1:n<=1000000000) :
 Calls Tryz.prog 49 #[.slice A n c] w fun e w'=>SplitW w b e w':=by
 replace h:=ZA h;refine(callsIn_wide (n:=0)).1 ?_;refine callsIn_of_wp_marks Tryz.func49 rfl trivial ?_;simp only[Tryz.ntmps49,List.size_toArray,List.length_cons,List.length_nil,Nat.reduceAdd,Nat.reduceSub,Array.replicate_succ,Array.replicate_zero,List.push_toArray,List.append_toArray,List.nil_append,List.cons_append];gi_wp2_with fail;obtain⟨W3,g0⟩:∃W3,W3=((w.alloc (Obj.cells #[Value.slice none 0 0] 109)).alloc (Obj.cells #[Value.int IntKind.i64 0] 3)).alloc (Obj.cells #[Value.int IntKind.i64 0] 26):=⟨_,rfl⟩
 rw[<-g0];obtain⟨h1,k0⟩:∃h1,h1=w.heap.size:=⟨_,rfl⟩
 have q1:Row W3 h1 109 #[.slice none 0 0]:=by rw[g0,k0];exact((Row.new w _ _).alloc _).alloc _
 have q2:Row W3 (h1+1) 3 #[.int .i64 0]:=by
  have:=Row.new (w.alloc (Obj.cells #[Value.slice none 0 0] 109)) 3 #[.int .i64 0];rw[World.size_alloc,<-k0]at this;rw[g0];exact this.alloc _
 have q3:Row W3 (h1+2) 26 #[.int .i64 0]:=by
  have:=Row.new ((w.alloc (Obj.cells #[Value.slice none 0 0] 109)).alloc (Obj.cells #[Value.int IntKind.i64 0] 3)) 26 #[.int .i64 0];rw[World.size_alloc,World.size_alloc,<-k0]at this;rw[g0];exact this
 have x0:Ext w W3:=by rw[g0];exact(((Ext.refl w).alloc _).alloc _).alloc _
 have u0:W3.heap.size=h1+3:=by rw[g0,k0];simp
 rw[<-k0];refine(callsIn_wide.2 (ZJe A n c (h1+2) W3)).mono ?_;rintro e w4 ⟨b1,b2,rfl,rb1,rb2,a1,d1,c1,p0⟩;obtain⟨bs,m2⟩:∃bs,bs=w4.heap.size:=⟨_,rfl⟩
 have l0:SpI h1 bs b1 b2 (.slice A n c) w [] w4:=⟨none,0,0,q1.ext p0,q2.ext p0,q3.ext p0,Buf.nil _ _ _,nofun,rb1,rb2,x0.trans p0,by omega⟩
 have d0:=ZG0 A n c b h1 b1 b2 (h1+2) w w4 h.out (by omega) (x0.trans p0) w1 rb1 rb2 (q3.ext p0);rw[u0]at a1 d1;have q0:w.heap.size<=w4.heap.size:=(x0.trans p0).size;have e1:=rb2.lt;have j2:=(q3.ext p0).lt;have i1:w.heap.size<=bs:=by omega
 replace l0:=ZA l0;replace d0:=ZA d0;replace g0:=ZA g0;replace k0:=ZA k0;clear q1 q2 q3 x0 p0 rb1 rb2 u0;gi_wp2_with fail;unfold FrIter at d0;refine ZBC (gf:=151) (lb:=#[.pointer (some ⟨b1,0,none⟩),.pointer (some ⟨b2,0,none⟩)]) rfl (enters_of Tryz.func151 (by kernel_rfl) rfl) d0.out (fun _=>rfl) (fun _ _ h=>h.others) ?fin (KeepS.trans h1 _) ?kb
  (fun pre W=>SpI h1 bs b1 b2 (.slice A n c) w pre W) (fun pre A B h ha=>h.alike ha q0) (fun pre A B h hE=>h.ext hE) ?h0 ?hround ?hdone
 case fin =>
  rintro xs A B (⟨_,hE⟩ | ⟨k,W3,_,_,hE,rfl⟩)
  ·exact hE.others
  ·exact hE.others.trans (KeepsOthers.setCell _ _ _)
 case kb=>exact KeepS.alike (by omega) (fun k hk=>by omega)
 case h0=>exact fun W ha=>l0.out.alike ha q0
 case hround =>
  rintro l pre ⟨P,cp,p,z⟩ W hI ⟨e0,r,s0⟩;unfold Pay.val;simp only;obtain⟨pl,f0⟩:∃pl,pl=p.length:=⟨_,rfl⟩
  rw[<-f0];replace f0:=ZA f0;replace hI:=ZA hI;replace e0:=ZA e0;replace s0:=ZA s0;gi_wp2_with fail;refine⟨KeepsOthers.refl _,KeepS.refl _ _ _,fun W2 i0=>?_⟩;have y1:=hI.out.alike i0 q0;have n0:=ZA (e0.out.alike i0);clear i0 hI e0;obtain⟨L,cl,z0,r1,r2,r3,hb,hp,g1,g2,he,m1⟩:=y1;have o0:pre.length<=4000000000:=by
   have h1:=ZGW b;rw[s0.out]at h1;simp only[pays,List.length_append,List.length_map,List.length_cons]at h1;have:=h.out.len;omega
  have k1:=r1.cell 0 rfl;have m0:=ZA (hb.alloc (.cells #[.slice P pl cp] 25));have v1:=ZA (Zg W2 [.slice P pl cp] 25);have t1:bs<=(W2.alloc (.cells #[.slice P pl cp] 25)).heap.size:=by rw[World.size_alloc];omega
  obtain⟨m,hm⟩:∃m,m=pre.length:=⟨_,rfl⟩
  rw[<-hm]at o0 k1 m0 r1 hb;replace hm:=ZA hm;replace r1:=ZA r1;replace r2:=ZA r2;replace r3:=ZA r3;replace hb:=ZA hb;replace hp:=ZA hp;replace g1:=ZA g1;replace g2:=ZA g2;replace he:=ZA he;obtain⟨Wa,v0⟩:∃Wa,Wa=W2.alloc (.cells #[.slice P pl cp] 25):=⟨_,rfl⟩
  have y0:Ext W2 Wa:=by rw[v0];exact(Ext.refl W2).alloc _
  have b0:=ZA y0;have ra1:=ZA (r1.out.ext y0);have ra2:=ZA (r2.out.ext y0);rw[<-v0]at m0 v1 t1;replace v0:=ZA v0;clear y0;gi_wp2_with (gi_at_builtin;rw[<-v0.out];refine Z3 ZOb m0.out v1.out (.tmp 11) (.tmp 13) rfl rfl rfl rfl rfl rfl (by simp[Value.oneCell']) (by omega) t1 (fun A6 c6 w6 a0 t0 p1 j1=>?_);have r16:=ZAk m0.out t0 ra1.out (by decide);have r26:=ZAk m0.out t0 ra2.out (by decide);have u1:=r16.cell 0 rfl;have u2:=r16.free 0;have r27:=r26.away (p:=⟨h1,0,none⟩) (by simp) (.slice A6 (m+1) c6);have u3:=r27.cell 0 rfl;have u4:=r27.free 0;replace r16:=ZA r16;replace r26:=ZA r26;replace r27:=ZA r27;replace a0:=ZA a0;replace t0:=ZA t0;replace p1:=ZA p1;replace j1:=ZA j1);have j0:∀k,k<h1+3\/k=b1\/k=b2->k≠h1->k≠h1+1->((w6.setCell ⟨h1,0,none⟩ (.slice A6 (m+1) c6)).setCell ⟨h1+1,0,none⟩ (.int .i64 z)).heap[k]? = W2.heap[k]? :=fun k hk n1 n2=>by
   have s1:k<bs:=by omega
   rw[Below.heap_setCell _ _ _ k n2,Below.heap_setCell _ _ _ k n1,ZKO m0.out t0.out s1 (by omega)];exact Below.block b0.out k (by omega)
  have x1:∀w0:World,w0.heap.size<=h1->Ext w0 W2->Ext w0 ((w6.setCell ⟨h1,0,none⟩ (.slice A6 (m+1) c6)).setCell ⟨h1+1,0,none⟩ (.int .i64 z)):=fun w0 h0 hE=>((p1.out w0 (hE.trans b0.out) (by omega)).setCell (p:=⟨h1,0,none⟩) h0 _).setCell (p:=⟨h1+1,0,none⟩) (by show w0.heap.size<=h1+1;omega) _;have v2:=t0.out.size;have l1:Buf ((w6.setCell ⟨h1,0,none⟩ (.slice A6 (m+1) c6)).setCell ⟨h1+1,0,none⟩ (.int .i64 z)) bs 25 A6 (m+1) c6 (pre.map Pay.val ++ [.slice P pl cp]):=by
   have q:=a0.out.setCell (p:=⟨h1,0,none⟩) (a0.out.unlike r16.out (by decide)) (.slice A6 (m+1) c6);exact q.setCell (p:=⟨h1+1,0,none⟩) (q.unlike r27.out (by decide)) _
  have h2:∀x∈pre ++ [(P,cp,p,z)],PayOk ((w6.setCell ⟨h1,0,none⟩ (.slice A6 (m+1) c6)).setCell ⟨h1+1,0,none⟩ (.int .i64 z)) x:=fun x hx=>by
   have p2:PayOk W2 x:=by
    rcases List.mem_append.1 hx with h | h
    ·exact hp.out x h
    ·rw[List.mem_singleton.1 h];exact n0.out
   exact(((p2.ext b0.out).grown m0.out t0.out (by decide)).set r16.out (by decide) 0 _).set r27.out (by decide) 0 _
  refine⟨((b0.out.others.trans (ZAF m0.out t0.out)).trans (KeepsOthers.setCell _ _ _)).trans (KeepsOthers.setCell _ _ _),⟨x1,fun k hk o ho=>?_⟩,A6,c6,z,?_,?_,?_,?_,h2,?_,?_,x1 w (by have:=k0.out;omega) he.out,?_⟩
  ·rw[j0 k (by omega) (by omega) (by omega)];exact ho
  ·rw[List.length_append,<-hm.out];exact(r16.out.put 0 _).away (by simp) _
  ·exact r27.out.put 0 _
  ·unfold Row;rw[j0 _ (by omega) (by omega) (by omega)];exact r3.out
  ·rw[List.length_append,<-hm.out,List.map_append];unfold Pay.val;simp only[List.map_cons,List.map_nil];rw[<-f0.out];exact l1
  ·unfold Row;rw[j0 _ (by omega) (by omega) (by omega)];exact g1.out
  ·unfold Row;rw[j0 _ (by omega) (by omega) (by omega)];exact g2.out
  ·simp;omega
 case hdone =>
  rintro D xs W2 W3 W4 hD hI hF hA hk;have z1:∃L c z,Row W4 h1 109 #[.slice L xs.length c]/\Row W4 (h1+1) 3 #[.int .i64 z]/\Row W4 (h1+2) 26 #[.int .i64 ((splitF b).2:Int)]/\Buf W4 bs 25 L xs.length c (xs.map Pay.val)/\(∀x∈xs,PayOk W4 x)/\Ext w W4/\pays xs=(splitF b).1:=by
   rcases hF with ⟨hs,hE⟩ | ⟨k,W5,t2,hs,hE,rfl⟩
   ·obtain⟨L,c,z,r1,r2,r3,hb,hp,q1,q2,he,m1⟩:=(hI.ext hE).alike hA q0;rw[hs];exact⟨L,c,z,r1,r2,r3,hb,hp,he,rfl⟩
   ·obtain⟨L,c,z,r1,r2,r3,hb,hp,q1,q2,he,m1⟩:=hI.ext hE;rw[hs];refine⟨L,c,z,hA.row (r1.away (by simp) _),hA.row (r2.away (by simp) _),hA.row (r3.put 0 _),hA.buf (hb.setCell (hb.unlike r3 (by decide)) _),fun x hx=>((hp x hx).set r3 (by decide) 0 _).alike hA,hA.ext (he.setCell (by show w.heap.size<=h1+2;have:=k0.out;omega) _) q0,rfl⟩
  obtain⟨L,cl,z,r1,r2,r3,hb,hp,he,r0⟩:=z1;have k1:=r1.cell 0 rfl;have k2:=r2.cell 0 rfl;have k3:=r3.cell 0 rfl;have f1:=r1.free 0;have f2:=r2.free 0;have f3:=r3.free 0;obtain⟨m,hm⟩:∃m,m=xs.length:=⟨_,rfl⟩
  rw[<-hm]at r1 k1 hb;obtain⟨ec,c0⟩:∃ec,ec=(splitF b).2:=⟨_,rfl⟩
  rw[<-c0]at r3 k3;replace r1:=ZA r1;replace r2:=ZA r2;replace r3:=ZA r3;replace hb:=ZA hb;replace hp:=ZA hp;replace he:=ZA he;replace hm:=ZA hm;replace c0:=ZA c0;replace r0:=ZA r0;replace hk:=ZA hk;clear hI hF hA;gi_wp2_with fail;refine wpIn_wide.2 ?_;go_region;rw[show h1+1+1=h1+2 from rfl,r1.out.same rfl,r2.out.same rfl,r3.out.same rfl];gi_wp2_with fail;have o1:W4.drew.heap[D]? = some (.deferred (some [])):=hk.out;refine ZAO (B:=w4.heap.size) rfl o1 hD fun W ha=>⟨_,ZEB rfl _ _ rfl rfl rfl (ZAI ((ha.row r1.out).cell 0 rfl) Tryz.underlying109 rfl) (ZAI ((ha.row r2.out).cell 0 rfl) Tryz.underlying3 rfl) (ZAI ((ha.row r3.out).cell 0 rfl) Tryz.underlying26 rfl),L,cl,z,xs,?_,?_,r0.out,?_,?_⟩
  ·rw[<-hm.out,<-c0.out];rfl
  ·exact(ha.buf hb.out.drew).cells
  ·exact fun x hx=>((hp.out x hx).ext (Ext.refl W4).drew).alike ha
  ·exact ha.ext he.out.drew q0
end
section
open Go.RowKit
attribute [local go_sem] Oper.semAt_some Za ZAw
theorem ZIQ (a b:List UInt8):(ByteArray.mk a.toArray++ByteArray.mk b.toArray)=⟨(a++b).toArray⟩:=by
 apply ByteArray.ext;rw[ByteArray.data_append];simp
theorem ZLi:Elem Tryz.prog 148 150 2 40:=⟨Tryz.underlying148,⟨_,_,rfl,rfl,rfl,rfl,rfl⟩,by omega,by omega⟩
theorem ZCA (D:List TmV) (x:TmV):tcs (D ++ [x])=tcs D++tcell x:=by
 unfold tcs;rw[List.flatMap_append];simp
def oneT (l:List (List UInt8×Int)):List (List UInt8×List Int):=l.map fun p=>(p.1,[p.2])
theorem ZKC (l:List (List UInt8×Int)) (p:List UInt8×Int):oneT (l ++ [p])=oneT l ++ [(p.1,[p.2])]:=by unfold oneT;rw[List.map_append];rfl
section
variable {w w1 w0:World} {base n:Nat} {e:TypeId} {size:Nat} {v:Value} {xs:List Value}
theorem ZID (ho:w.ownsRow base e size v n xs) (hg:w.grownBy w1 v.ownBlock) {g:Nat} {t:TypeId} {cs:Array Value} (hr:Row w g t cs) (ht:t≠e):Row w1 g t cs :=
 hr.grown hg fun h=>by
  obtain⟨cur,hc,_⟩:=ZC ho h.symm;exact hr.unlike hc ht rfl
theorem ZDG (ho:w.ownsRow base e size v n xs) (hg:w.grownBy w1 v.ownBlock):KeepsOthers w w1 :=
 KeepsOthers.of_grownBy hg fun j o hj h0=>by
  obtain⟨cur,hc,_⟩:=ZC ho hj;unfold Row at hc;rw[hc]at h0;injection h0 with h0;subst h0;rfl
theorem ZDw (ho:w.ownsRow base e size v n xs) (hg:w.grownBy w1 v.ownBlock) (hE:Ext w0 w) (hb:w0.heap.size<=base):Ext w0 w1 :=
 hE.grown hg fun k hk=>by obtain⟨_,_,hl⟩:=ZC ho hk;omega
theorem ZA7 (ho:w.ownsRow base e size v n xs) (hg:w.grownBy w1 v.ownBlock) {b:Nat} {t:TypeId} {A:Option Addr} {m c:Nat} {ys:List Value} (hb:Buf w b t A m c ys) (ht:t≠e):Buf w1 b t A m c ys :=
 hb.grown hg fun a ha h=>by
  obtain⟨cur,hc,_⟩:=ZC ho h;exact hb.unlike hc ht a ha rfl
end
theorem ZDW {l x:List UInt8} (h:x∈tokL l):x.length<=32:=by
 unfold tokL at h;obtain⟨y,_,rfl⟩:=List.mem_map.1 h;exact ZIG y [] (by simp)
theorem ZGU {base:Nat} {f:Fd} {i:Nat} {x:List UInt8} (hx:(tokL f.2)[i]? = some x):(fieldT base f)[i]? = some (f.1++58::x,((base+i:Nat):Int)):=by
 unfold fieldT;rw[List.getElem?_map,List.getElem?_zipIdx,hx];simp
theorem ZAy {k:Nat}:∀(fs:List Fd) (b:Nat),(∀f∈fs,f.2.length<=k)->(rawT b fs).length<=k*fs.length
 | [],b,_=>by simp[rawT]
 | f::fs,b,h=>by
  have h1:=ZAy fs (nextT b f) fun g hg=>h g (List.mem_cons_of_mem _ hg);have h2:=ZA4 f.2;have h3:=h f (List.mem_cons_self ..);unfold rawT;rw[List.length_append,ZAf,List.length_cons,Nat.mul_add];omega
theorem ZCu {k:Nat}:∀(fs:List Fd) (b:Nat),(∀f∈fs,f.2.length<=k)->baseT b fs<=b+(64+k)*fs.length
 | [],b,_=>by simp[baseT]
 | f::fs,b,h=>by
  have h1:=ZCu fs (nextT b f) fun g hg=>h g (List.mem_cons_of_mem _ hg);have h2:=ZA4 f.2;have h3:=h f (List.mem_cons_self ..);unfold baseT;unfold nextT at h1 ⊢;rw[List.length_cons,Nat.mul_add];omega
theorem ZH8 {l:List (List UInt8)} {i:Nat} {x:List UInt8} (hx:l[i]? = some x) {j:Nat} (hj:j<2):(tkV l)[i*2+j]? = [Value.string ⟨x.toArray⟩,.int .i64 (i:Int)][j]? :=by
 unfold tkV;refine Zj (cellsA:=fun p:List UInt8×Nat=> [Value.string ⟨p.1.toArray⟩,.int .i64 (p.2:Int)]) (k:=2) (fun _=>rfl) l.zipIdx i (x,i) j ?_ hj;rw[List.getElem?_zipIdx,hx];simp
theorem ZOp {w w1:World} {base n c:Nat} {A:Option Addr} {l:List (List UInt8)} (h:w.ownsRow base 123 2 (.slice A n c) n (tkV l)) (hk:∀g cs,Row w g 123 cs->Row w1 g 123 cs) {i:Nat} {x:List UInt8} (hx:l[i]? = some x) :
 ∃g o,A=some ⟨g,o,none⟩/\w1.cell? ⟨g,o+i*2,none⟩=some (.string ⟨x.toArray⟩)/\w1.cell? ⟨g,o+i*2+1,none⟩=some (.int .i64 (i:Int)):=by
 have h0:=ZH8 hx (j:=0) (by omega);have h1:=ZH8 hx (j:=1) (by omega);rcases h with ⟨hl,⟨_,h2⟩ | ⟨g,cap,cur,hv,hb,hg,hn,q0,hs,ht⟩⟩
 ·have:=(List.getElem?_eq_some_iff.1 hx).1;have h3:(tkV l).length=l.length*2:=by unfold tkV;rw[Ze (cellsA:=fun p:List UInt8×Nat=> [Value.string ⟨p.1.toArray⟩,.int .i64 (p.2:Int)]) (k:=2) (fun _=>rfl),List.length_zipIdx]
  omega
 ·cases hv;have key:∀(j:Nat) (v:Value),(tkV l)[j]? = some v->w1.cell? ⟨g,j,none⟩=some v:=fun j v hj=>by
   rw[(hk g cur hg).get];rw[<-ht,List.getElem?_take]at hj;split at hj
   ·simpa using hj
   ·cases hj
  exact⟨g,0,rfl,by rw[Nat.zero_add];exact key _ _ h0,by rw[Nat.zero_add];exact key _ _ h1⟩
def TI (base h:Nat) (Z:List (List UInt8×Int)) (w W:World):Prop :=
 ∃L c D,Row W h 148 #[.slice L D.length c]/\W.ownsRow base 150 2 (.slice L D.length c) D.length (tcs D)/\TmsOk W base D (oneT Z)/\Ext w W
theorem TI.ext {base h:Nat} {Z:List (List UInt8×Int)} {w W W1:World} (hi:TI base h Z w W) (hE:Ext W W1):TI base h Z w W1:=by
 obtain⟨L,c,D,r,o,t,e⟩:=hi;exact⟨L,c,D,r.ext hE,hE.owns o,t.ext hE,e.trans hE⟩
theorem TI.alike {base h B:Nat} {Z:List (List UInt8×Int)} {w W W1:World} (hi:TI base h Z w W) (ha:Alike B W W1) (hB:w.heap.size<=B):TI base h Z w W1:=by
 obtain⟨L,c,D,r,o,t,e⟩:=hi;exact⟨L,c,D,ha.row r,ha.owns o,t.keep fun _ _ _ _ hb=>ha.buf hb,ha.ext e hB⟩
def ptsOf (w:World) (x:Option Addr×Nat×Nat):List Int:=match x.1 with
 | none=> []
 | some a=>(List.range x.2.1).map fun i=>match w.cell? ⟨a.block,a.off+i,none⟩with
  | some (.int _ z)=>z
  | _=>0
theorem ZJx {w:World} {base:Nat} {t:TypeId} {A:Option Addr} {n c:Nat} {l:List Int} (h:Buf w base t A n c (l.map IV)):ptsOf w (A,n,c)=l:=by
 have hc:=h.cells;have hl:=h.1;rw[List.length_map]at hl;unfold ptsOf;rcases hc with hc | ⟨g,o,rfl,hc⟩
 ·have:l = []:=List.map_eq_nil_iff.1 hc;subst this;cases A with
  | none=>rfl
  | some a =>
   simp only;simp at hl;rw[<-hl];rfl
 ·simp only;apply List.ext_getElem?;intro i;rw[List.getElem?_map];show Option.map _ ((List.range n)[i]?)=_;by_cases hi:i<n
  ·rw[List.getElem?_range hi];have h0:i<l.length:=by omega
   have:=hc i (IV l[i]) (by rw[List.getElem?_map,List.getElem?_eq_getElem h0];rfl);simp only[Option.map_some,this,IV];rw[List.getElem?_eq_getElem h0]
  ·rw[List.getElem?_eq_none (by rw[List.length_range];omega),List.getElem?_eq_none (by omega)];rfl
end
section
open Go.RowKit
theorem ZFW (w:World):Calls Tryz.prog 198 #[.slice none 0 0,.int .i64 0,.int .i64 0,cmpV] w fun e w'=>e = .returned (.tuple #[])/\w'=w:=by
 unfold cmpV;go_enter Tryz.func198,Tryz.ntmps198;go_wp2_with fail
 go_loopw [8] (fun s8 wr=>s8 = .int .i64 1/\wr=w) (fun _ _=>0)
 case atStart=>exact⟨rfl,rfl⟩
 case round =>
  obtain⟨rfl,rfl⟩:=hrel;go_wp2_with fail
  go_end0
  exact⟨rfl,rfl⟩
theorem ZI8 (w:World):Calls Tryz.prog 179 #[.slice none 0 0,.int .i64 0,cmpV] w fun e w'=>e = .returned (.tuple #[])/\w'=w:=by
 have h0:=ZA (ZFW w);unfold cmpV at h0 ⊢;go_enter Tryz.func179,Tryz.ntmps179;go_wp2_with fail
 go_loopw [7,8] (fun s7 s8 wr=>s7 = .int .i64 0/\s8 = .int .i64 20/\wr=w) (fun _ _ _=>0)
 case atStart=>exact⟨rfl,rfl,rfl⟩
 case round =>
  obtain⟨rfl,rfl,rfl⟩:=hrel;go_wp2_with fail;refine h0.out.mono ?_;rintro e w1 ⟨rfl,rfl⟩;go_wp2_with fail
  go_loopw [6] (fun s6 wr2=>s6 = .int .i64 20/\wr2=w1) (fun _ _=>0)
  case atStart=>exact⟨rfl,rfl⟩
  case round =>
   obtain⟨rfl,rfl⟩:=hrel;go_wp2_with fail
   go_end0
   exact⟨rfl,rfl⟩
theorem ZEA (w:World):Calls Tryz.prog 136 #[.slice none 0 0,cmpV] w fun e w'=>e = .returned (.tuple #[])/\w'=w:=by
 have h:=ZA (ZI8 w);unfold cmpV at h ⊢;go_enter Tryz.func136,Tryz.ntmps136;go_wp2_with fail;refine h.out.mono ?_;rintro e w1 ⟨rfl,rfl⟩;go_wp2_with fail
 go_end0
 exact⟨rfl,rfl⟩
theorem ZJO (base:Nat) (L:Option Addr) (n c:Nat) (D:List TmV) (w:World) (h:w.ownsRow base 150 2 (.slice L n c) n (tcs D)) (hn:n=D.length) (q0:n<=268435456) :
 Calls Tryz.prog 136 #[.slice L n c,cmpV] w fun e w'=>e = .returned (.tuple #[])/\∃E,Std D E/\(n≠0->∃g,L=some ⟨g,0,none⟩/\base<=g/\TR w' g E)/\Chg (fun k=>(Value.slice L n c).ownBlock=some k) w w':=by
 rcases h with ⟨hl,⟨hv,h0⟩ | ⟨g,cap,cur,hv,hb,hg,k0,p0,hs,ht⟩⟩
 ·cases hv;obtain rfl:D = []:=List.length_eq_zero_iff.1 hn.symm;exact(ZEA w).mono fun e w' ⟨h1,h2⟩=>⟨h1,[],⟨List.Pairwise.nil,Stb.refl _⟩,fun h=>absurd rfl h,by rw[h2];exact Chg.refl _ _⟩
 ·cases hv;subst hn;refine(ZD9 g c D w ⟨cur,hg,fun i v hi=>?_⟩ q0).mono ?_
  ·rw[<-ht,List.getElem?_take]at hi;split at hi
   ·simpa using hi
   ·cases hi
  ·rintro e w' ⟨h1,E,h2,h3,h4⟩;exact⟨h1,E,h2,fun _=>⟨g,rfl,hb,h3⟩,h4.mono fun k _ hk=>by rw[hk];rfl⟩
abbrev TmP:=TmV×(List UInt8×List Int)
def TmP.far (x y:TmP):Prop:=∀a b,x.1.2.1=some a->y.1.2.1=some b->a.block≠b.block
theorem TmP.far_symm {x y:TmP} (h:TmP.far x y):TmP.far y x:=fun a b ha hb e=>h b a hb ha e.symm
def TmP.ok (w:World) (base:Nat) (z:TmP):Prop:=z.1.1=z.2.1/\Buf w base 3 z.1.2.1 z.1.2.2.1 z.1.2.2.2 (z.2.2.map IV)
structure TZ (w:World) (base:Nat) (l:List TmP):Prop where
  each:∀z∈l,TmP.ok w base z
  apart:l.Pairwise TmP.far
theorem TZ.perm {w:World} {base:Nat} {l m:List TmP} (h:TZ w base l) (hp:m.Perm l):TZ w base m :=
 ⟨fun z hz=>h.each z (hp.mem_iff.1 hz),(hp.symm.pairwise_iff (fun {x y} h=>TmP.far_symm h)).1 h.apart⟩
theorem TZ.keep {w w1:World} {base:Nat} {l:List TmP} (h:TZ w base l) (hk:∀A n c xs,Buf w base 3 A n c xs->Buf w1 base 3 A n c xs):TZ w1 base l :=
 ⟨fun z hz=>⟨(h.each z hz).1,hk _ _ _ _ (h.each z hz).2⟩,h.apart⟩
theorem TmsOk.tz {w:World} {base:Nat} {D:List TmV} {Z:List (List UInt8×Int)} (h:TmsOk w base D (oneT Z)) :
 TZ w base (D.map fun x=>(x,(x.1,ptsOf w x.2)))/\(∀x∈D,ptsOf w x.2 = [(ptsOf w x.2).headD 0])/\D.map (fun x=>(x.1,(ptsOf w x.2).headD 0))=Z:=by
 have hl:D.length=Z.length:=by have:=h.len;unfold oneT at this;rwa [List.length_map]at this
 have h0:∀(i:Nat) (x:TmV),D[i]? = some x->∃p,Z[i]? = some p/\x.1=p.1/\Buf w base 3 x.2.1 x.2.2.1 x.2.2.2 ([p.2].map IV)/\ptsOf w x.2 = [p.2]:=fun i x hx=>by
  have hi:=(List.getElem?_eq_some_iff.1 hx).1;obtain⟨p,hp⟩:∃p,Z[i]? = some p:=⟨_,List.getElem?_eq_getElem (by omega)⟩
  have:=h.each i x (p.1,[p.2]) hx (by unfold oneT;rw[List.getElem?_map,hp];rfl);exact⟨p,hp,this.1,this.2,ZJx this.2⟩
 refine⟨⟨fun z hz=>?_,?_⟩,fun x hx=>?_,?_⟩
 ·obtain⟨x,hx,rfl⟩:=List.mem_map.1 hz;obtain⟨i,hi⟩:=List.mem_iff_getElem?.1 hx;obtain⟨p,hp,h1,h2,h3⟩:=h0 i x hi;exact⟨rfl,by simp only[h3];exact h2⟩
 ·rw[List.pairwise_map,List.pairwise_iff_getElem];intro i j hi hj q0 a b ha hb;exact h.apart i j _ _ (List.getElem?_eq_getElem hi) (List.getElem?_eq_getElem hj) (by omega) a b ha hb
 ·obtain⟨i,hi⟩:=List.mem_iff_getElem?.1 hx;obtain⟨p,hp,h1,h2,h3⟩:=h0 i x hi;rw[h3];rfl
 ·apply List.ext_getElem?;intro i;rw[List.getElem?_map];cases hx:D[i]? with
  | none=>rw[List.getElem?_eq_none_iff]at hx;rw[List.getElem?_eq_none (by omega)];rfl
  | some x =>
   obtain⟨p,hp,h1,h2,h3⟩:=h0 i x hx;rw[hp,Option.map_some,h3,h1];rfl
theorem TZ.tms {w:World} {base:Nat} {l:List TmP} (h:TZ w base l):TmsOk w base (l.map Prod.fst) (l.map Prod.snd):=by
 refine⟨by rw[List.length_map,List.length_map],fun i x p hx hp=>?_,fun i j x y hx hy q0 a b ha hb=>?_⟩
 ·rw[List.getElem?_map]at hx hp;obtain⟨z,hz,rfl⟩:=Option.map_eq_some_iff.1 hx;rw[hz]at hp;cases hp;exact h.each z (List.mem_of_getElem? hz)
 ·rw[List.getElem?_map]at hx hy;obtain⟨z,hz,rfl⟩:=Option.map_eq_some_iff.1 hx;obtain⟨u,hu,rfl⟩:=Option.map_eq_some_iff.1 hy;obtain⟨hi,rfl⟩:=List.getElem?_eq_some_iff.1 hz;obtain⟨hj,rfl⟩:=List.getElem?_eq_some_iff.1 hu;rcases Nat.lt_or_gt_of_ne q0 with h0 | h0
  ·exact List.pairwise_iff_getElem.1 h.apart i j hi hj h0 a b ha hb
  ·exact(List.pairwise_iff_getElem.1 h.apart j i hj hi h0 b a hb ha).symm
theorem TZ.join {w w1:World} {base:Nat} {a r:List TmP} {x y:TmP} (h:TZ w base (a++x::y::r)) (x':TmP) (hk:∀z∈a++r,TmP.far z x->TmP.ok w base z->TmP.ok w1 base z) (hx:TmP.ok w1 base x') (hn:x'.1.2.1=x.1.2.1\/∃b,x'.1.2.1=some b/\w.heap.size<=b.block):TZ w1 base (a++x'::r):=by
 have p0:∀z∈a++r,z∈a++x::y::r:=fun z hz=>by
  rcases List.mem_append.1 hz with h | h
  ·exact List.mem_append_left _ h
  ·exact List.mem_append_right _ (List.mem_cons_of_mem _ (List.mem_cons_of_mem _ h))
 have h0:∀z∈a++r,(TmP.far z x->TmP.far z x'):=fun z hz hf p q hp hq=>by
  rcases hn with hn | ⟨b,hb,j0⟩
  ·rw[hn]at hq;exact hf p q hp hq
  ·rw[hb]at hq;cases hq;have:=(h.each z (p0 z hz)).2.lt p hp;omega
 have hp:=List.pairwise_append.1 h.apart;have q0:=List.pairwise_cons.1 hp.2.1;have k0:=List.pairwise_cons.1 q0.2;refine⟨fun z hz=>?_,List.pairwise_append.2 ⟨hp.1,List.pairwise_cons.2 ⟨fun z hz=>?_,k0.2⟩,fun z hz u hu=>?_⟩⟩
 ·rcases List.mem_append.1 hz with hz | hz
  ·exact hk z (List.mem_append_left _ hz) (hp.2.2 z hz x (List.mem_cons_self ..)) (h.each z (List.mem_append_left _ hz))
  ·rcases List.mem_cons.1 hz with rfl | hz
   ·exact hx
   ·exact hk z (List.mem_append_right _ hz) (TmP.far_symm (q0.1 z (List.mem_cons_of_mem _ hz))) (h.each z (p0 z (List.mem_append_right _ hz)))
 ·exact TmP.far_symm (h0 z (List.mem_append_right _ hz) (TmP.far_symm (q0.1 z (List.mem_cons_of_mem _ hz))))
 ·rcases List.mem_cons.1 hu with rfl | hu
  ·exact h0 z (List.mem_append_left _ hz) (hp.2.2 z hz x (List.mem_cons_self ..))
  ·exact hp.2.2 z hz u (List.mem_cons_of_mem _ (List.mem_cons_of_mem _ hu))
theorem ZKz {w:World} {base g n c size:Nat} {e:TypeId} {xs:List Value} (h:w.ownsRow base e size (.slice (some ⟨g,0,none⟩) n c) n xs) (j:Nat) (u:Value) :
 (w.setCell ⟨g,j,none⟩ u).ownsRow base e size (.slice (some ⟨g,0,none⟩) n c) n (xs.set j u):=by
 rcases h with ⟨hl,⟨h2,_⟩ | ⟨g',cap,cur,hv,hb,hg,hn,h0,hs,ht⟩⟩
 ·cases h2
 ·cases hv;refine⟨by rw[List.length_set];exact hl,.inr ⟨g,_,cur.setIfInBounds j u,rfl,hb,Row.put (w:=w) hg j u,hn,h0,by rw[Array.size_setIfInBounds];exact hs,?_⟩⟩;rw[Array.toList_setIfInBounds,List.take_set,ht]
theorem ZMA (D:List TmV) (x:TmV) (y:Option Addr×Nat×Nat):(tcs (D ++ [x])).set (D.length*2+1) (.slice y.1 y.2.1 y.2.2)=tcs (D ++ [(x.1,y)]):=by
 rw[ZCA,ZCA,List.set_append_right _ _ (by rw[ZDj];omega),ZDj,show D.length*2+1 - D.length*2=1 by omega];rfl
theorem ZEO {β:Type} (r:List (List UInt8×List β)) (x:List UInt8×List β) (p:List UInt8×β):joinS (r ++ [x]) p=if x.1=p.1 then r ++ [(x.1,x.2 ++ [p.2])] else r ++ [x] ++ [(p.1,[p.2])]:=by
 unfold joinS;rw[List.getLast?_concat,List.dropLast_concat]
theorem ZM7 {w:World} {base n c:Nat} {A:Option Addr} {D:List TmV} (h:w.ownsRow base 150 2 (.slice A n c) n (tcs D)) {i:Nat} {x:TmV} (hx:D[i]? = some x) :
 ∃g cur,A=some ⟨g,0,none⟩/\base<=g/\Row w g 150 cur/\w.cell? ⟨g,i*2,none⟩=some (.string ⟨x.1.toArray⟩)/\w.cell? ⟨g,i*2+1,none⟩=some (.slice x.2.1 x.2.2.1 x.2.2.2):=by
 have hi:=(List.getElem?_eq_some_iff.1 hx).1;rcases h with ⟨hl,⟨_,h2⟩ | ⟨g,cap,cur,hv,hb,hg,hn,h0,hs,ht⟩⟩
 ·rw[ZDj]at hl;omega
 ·cases hv;have hT:TR w g D:=⟨cur,hg,fun j v hj=>by
   rw[<-ht,List.getElem?_take]at hj;split at hj
   ·simpa using hj
   ·cases hj⟩
  have:=hT.at_ hx;exact⟨g,cur,rfl,hb,hg,this.1,this.2⟩
theorem ZMD {β:Type} {r:List (List UInt8×List β)} {k:Nat} (h:∀z∈r,z.2.length<=k) (p:List UInt8×β):∀z∈joinS r p,z.2.length<=k+1:=by
 intro z hz;rcases List.eq_nil_or_concat r with rfl | ⟨r0,x,hr⟩
 ·unfold joinS at hz;simp only[List.getLast?_nil,List.mem_singleton]at hz;rw[hz];simp
 ·rw[List.concat_eq_append]at hr;subst hr;rw[ZEO]at hz;have hx:=h x (by simp);split at hz
  ·rcases List.mem_append.1 hz with hz | hz
   ·have:=h z (List.mem_append_left _ hz);omega
   ·rw[List.mem_singleton.1 hz,List.length_append];simp;omega
  ·rcases List.mem_append.1 hz with hz | hz
   ·have:=h z hz;omega
   ·rw[List.mem_singleton.1 hz];simp
theorem ZH4 {β:Type}:∀(l:List (List UInt8×β)) (r:List (List UInt8×List β)) (k:Nat),(∀z∈r,z.2.length<=k)->∀z∈l.foldl joinS r,z.2.length<=k+l.length
 | [],r,k,h=>h
 | p::l,r,k,h=>fun z hz=>by
  have:=ZH4 l (joinS r p) (k+1) (ZMD h p) z hz;rw[List.length_cons];omega
theorem ZFN {w w1:World} {base n c b m size:Nat} {e t:TypeId} {A:Option Addr} {xs ys:List Value} {v:Value} (hb:Buf w base e A n c xs) (hg:w.grownBy w1 (Value.slice A n c).ownBlock) (ho:w.ownsRow b t size v m ys) (ht:t≠e):w1.ownsRow b t size v m ys :=
 (Chg.of_grown (S:=fun j=>(Value.slice A n c).ownBlock=some j) hg (fun k _ h=>h)).owns ho fun g hg hS=>by
  obtain⟨cur,hc,_⟩:=ZC ho hg;cases A with
  | none=>simp[Value.ownBlock]at hS
  | some a =>
   simp[Value.ownBlock]at hS;exact hb.unlike hc (fun h=>ht h.symm) a rfl hS
theorem ZOY {w w1:World} {n c b n2 c2:Nat} {t:TypeId} {A B:Option Addr} {ys:List Value} (hg:w.grownBy w1 (Value.slice A n c).ownBlock) (h:Buf w b t B n2 c2 ys) (hf:∀p q,B=some p->A=some q->p.block≠q.block):Buf w1 b t B n2 c2 ys :=
 h.grown hg fun a ha hS=>by
  cases A with
  | none=>simp[Value.ownBlock]at hS
  | some q =>
   simp[Value.ownBlock]at hS;exact hf a q ha rfl hS.symm
end
section
open Go.RowKit Go.Maps
structure IdE where
  s:List UInt8
  ps:List PoC
  A:Option Addr
  c:Nat
def IdE.val (x:IdE):Value:= .slice x.A x.ps.length x.c
def IdE.own (x:IdE) (base:Nat) (W:World):Prop:=W.ownsRow base 107 2 (.slice x.A x.ps.length x.c) x.ps.length (pcells x.ps)
def IdE.far (x y:IdE):Prop:=∀a b,x.A=some a->y.A=some b->a.block≠b.block
def posAt (base:Nat) (W:World) (y:PoC):Prop:=Buf W base 3 y.A y.pos.length y.c (y.pos.map IV)/\y.pos.length<=1000000000
structure IX (base M:Nat) (done:List (List UInt8×Po)) (E:List IdE) (W:World):Prop where
  map:∃L,MapL Tryz.prog 9 W M L/\∀p,p∈L↔∃x∈E,p=(strV x.s,x.val)
  own:∀x∈E,x.own base W/\psP x.ps=valsOf done x.s/\x.ps ≠ []
  pos:∀x∈E,∀y∈x.ps,posAt base W y
  uniq:∀x∈E,∀y∈E,x.s=y.s->x=y
  apart:∀x∈E,∀y∈E,x.s≠y.s->IdE.far x y
  all:∀p∈done,∃x∈E,x.s=p.1
theorem ZFa {a b:List UInt8} (h:strV a=strV b):a=b:=by
 unfold strV at h;injection h with h;injection h with h;simpa using h
theorem IX.new {base:Nat} {w:World}:IX base w.heap.size [] [] (w.alloc (.map #[] 0)) :=
 ⟨⟨[],MapL.made w,fun p=>by simp⟩,nofun,nofun,nofun,nofun,nofun⟩
theorem IX.ext {base M:Nat} {done:List (List UInt8×Po)} {E:List IdE} {W W1:World} (h:IX base M done E W) (hE:Ext W W1):IX base M done E W1:=by
 obtain⟨⟨L,hL,hm⟩,ho,hp,hu,ha,h0⟩:=h;exact⟨⟨L,hL.ext hE,hm⟩,fun x hx=>⟨hE.owns (ho x hx).1,(ho x hx).2⟩,fun x hx y hy=>⟨(hp x hx y hy).1.ext hE,(hp x hx y hy).2⟩,hu,ha,h0⟩
theorem ZLj:Keyed Tryz.prog 9:=string_keyed Tryz.underlying9
theorem ZCC {s:List UInt8} (hs:s.length<=9223372036854775807):keyOf Tryz.prog 9 (strV s)=some (.string s):=by
 have h:=WideMaps.keyOf_string_mk (P:=Tryz.prog) Tryz.underlying9 (s:=⟨s.toArray⟩) (by show s.toArray.size<=9223372036854775807;simpa using hs);simpa [strV]using h
def IdG (E:List IdE) (s:List UInt8) (x:IdE):Prop:=x.s=s/\(x∈E\/(x.A=none/\x.c=0/\x.ps = []/\∀y∈E,y.s≠s))
theorem IX.get {base M:Nat} {done:List (List UInt8×Po)} {E:List IdE} {W:World} (h:IX base M done E W) (s:List UInt8) (hs:s.length<=9223372036854775807) :
 ∃x,IdG E s x/\x.own base W/\psP x.ps=valsOf done s/\∀W1,Ext W W1->(Instr.lookup 91 (.map (some M)) (strV s) false).run Tryz.prog W1 = .ok (.slice x.A x.ps.length x.c) W1:=by
 obtain⟨L,hL,hm⟩:=h.map;have hz:∀W,(zeroValue 43).run Tryz.prog W = .ok (.slice none 0 0) W:=fun W=>by kernel_rfl
 rcases hL.look ZLj Tryz.underlying91 (ZCC hs) (hz W) false with ⟨v,hv,_⟩ | ⟨h0,_⟩
 ·obtain⟨x,hx,he⟩:=(hm _).1 hv;injection he with h1 h2;have p0:=ZFa h1;subst p0;have:=h.own x hx;refine⟨x,⟨rfl,.inl hx⟩,this.1,this.2.1,fun W1 hE=>?_⟩;rcases (hL.ext hE).look ZLj Tryz.underlying91 (ZCC hs) (hz W1) false with ⟨u,hu,hr⟩ | ⟨h0,_⟩
  ·rw[hr,hL.unique hu hv,h2];rfl
  ·exact absurd rfl (h0 _ hv)
 ·have q0:∀y∈E,y.s≠s:=fun y hy e=>h0 (strV y.s,y.val) ((hm _).2 ⟨y,hy,rfl⟩) (by rw[e]);refine⟨⟨s,[],none,0⟩,⟨rfl,.inr ⟨rfl,rfl,rfl,q0⟩⟩,World.ownsRow_nil _ _ _ _,?_,fun W1 hE=>?_⟩
  ·show []=_;exact(ZBG fun p hp e=>by
    obtain⟨y,hy,k0⟩:=h.all p hp;exact q0 y hy (k0.trans e)).symm
  ·rcases (hL.ext hE).look ZLj Tryz.underlying91 (ZCC hs) (hz W1) false with ⟨u,hu,_⟩ | ⟨_,hr⟩
   ·exact absurd rfl (h0 _ hu)
   ·exact hr
theorem ZBn {base M:Nat} {W:World} {L:List (Value×Value)} (h:MapL Tryz.prog 9 W M L) {e size n:Nat} {v:Value} {xs:List Value} (ho:W.ownsRow base e size v n xs):v.ownBlock≠some M:=fun hg=>by
 obtain⟨cur,hc,_⟩:=ZC ho hg;obtain⟨⟨es,cl,h1,_⟩,_⟩:=h;unfold Row at hc;rw[h1]at hc;cases hc
theorem ZBk {M:Nat} {W:World} {L:List (Value×Value)} (h:MapL Tryz.prog 9 W M L) {g t:Nat} {cs:Array Value} (hr:Row W g t cs):g≠M:=fun hg=>by
 obtain⟨⟨es,cl,h1,_⟩,_⟩:=h;unfold Row at hr;rw[hg,h1]at hr;cases hr
theorem MapL.same {k:TypeId} {w:World} {m:Nat} {L L':List (Value×Value)} (h:MapL Tryz.prog k w m L) (h':MapL Tryz.prog k w m L'):L=L':=by
 obtain⟨⟨es,cl,h1,h2,_⟩,_⟩:=h;obtain⟨⟨es',cl',h0,q0,_⟩,_⟩:=h';rw[h1]at h0;cases h0;exact h2.symm.trans q0
theorem ZHy (l:List PoC) (x:PoC):psP (l ++ [x])=psP l ++ [x.po]:=by unfold psP;rw[List.map_append];rfl
theorem ZDT (l:List PoC) (x:PoC):pcells (l ++ [x])=pcells l++x.cells:=by
 unfold pcells;rw[List.flatMap_append];simp
theorem IX.put {base M:Nat} {done:List (List UInt8×Po)} {E:List IdE} {W w8 w9:World} (h:IX base M done E W) {s:List UInt8} {x:IdE} (hx:IdG E s x) (i0:x.own base W) (q1:psP x.ps=valsOf done s)
 {y:PoC} {A1:Option Addr} {c1:Nat} (hg:W.grownBy w8 (Value.slice x.A x.ps.length x.c).ownBlock) (ho:w8.ownsRow base 107 2 (.slice A1 (x.ps.length+1) c1) (x.ps.length+1) (pcells x.ps++y.cells))
 (hA:(Value.slice A1 (x.ps.length+1) c1).ownBlock=(Value.slice x.A x.ps.length x.c).ownBlock\/∃k,(Value.slice A1 (x.ps.length+1) c1).ownBlock=some k/\W.heap.size<=k) (hy:posAt base W y)
 (h9:∀L,MapL Tryz.prog 9 w8 M L->(∀p,p∈L↔∃x∈E,p=(strV x.s,x.val))->∃L',MapL Tryz.prog 9 w9 M L'/\Put L (strV s) (.slice A1 (x.ps.length+1) c1) L'/\w8.grownBy w9 (some M)) :
 IX base M (done ++ [(s,y.po)]) (⟨s,x.ps ++ [y],A1,c1⟩::E.filter fun z=>decide (z.s≠s)) w9:=by
 obtain⟨L,hL,hm⟩:=h.map;have z0:MapL Tryz.prog 9 w8 M L:=hL.grown hg (ZBn hL i0);obtain⟨L',o0,c0,b0⟩:=h9 L z0 hm;have hlen:(x.ps ++ [y]).length=x.ps.length+1:=by rw[List.length_append];rfl
 have q0:∀z,z∈(E.filter fun z=>decide (z.s≠s))↔z∈E/\z.s≠s:=fun z=>by rw[List.mem_filter];simp
 have f0:∀g t cs,Row w8 g t cs->Row w9 g t cs:=fun g t cs hr=>hr.grown b0 fun e=>ZBk z0 hr (by injection e);have j0:∀ {b e size n:Nat} {v:Value} {xs:List Value},w8.ownsRow b e size v n xs->w9.ownsRow b e size v n xs:=fun hh =>
  (Chg.of_grown (S:=fun k=>k=M) b0 (fun k _ e=>by injection e with e;exact e.symm)).owns hh fun g r0 e=>ZBn z0 hh (by rw[r0,e])
 have k0:∀z∈E,z.s≠s->∀a,x.A=some a->∀b,z.A=some b->b.block≠a.block:=fun z hz g0 a ha b hb=>by
  rcases hx.2 with d0 | ⟨hn,_⟩
  ·exact h.apart z hz x d0 (fun e=>g0 (e.trans hx.1)) b a hb ha
  ·rw[hn]at ha;cases ha
 have m0:∀z∈E,z.s≠s->z.own base w9:=fun z hz g0=>by
  refine j0 ?_;refine(Chg.of_grown (S:=fun k=>(Value.slice x.A x.ps.length x.c).ownBlock=some k) hg (fun k _ e=>e)).owns (h.own z hz).1 fun g x0 u0=>?_;cases e0:z.A with
  | none=>rw[e0]at x0;simp[Value.ownBlock]at x0
  | some b =>
   cases t0:x.A with
   | none=>rw[t0]at u0;simp[Value.ownBlock]at u0
   | some a =>
    rw[e0]at x0;rw[t0]at u0;simp[Value.ownBlock]at x0 u0;exact k0 z hz g0 a t0 b e0 (x0.trans u0.symm)
 have p0:∀u,posAt base W u->posAt base w9 u:=fun u hu=>by
  have q:=ZA7 i0 hg hu.1 (by decide);exact⟨q.grown b0 fun a ha e=>by
   injection e with e;rcases q.2.2 with ⟨h0,_⟩ | ⟨g',cur,n0,_,hr,_⟩
   ·rw[h0]at ha;cases ha
   ·rw[n0]at ha;cases ha;exact ZBk z0 hr e.symm,hu.2⟩
 have s0:valsOf (done ++ [(s,y.po)]) s=valsOf done s ++ [y.po]:=by rw[ZW,ZBc,if_pos rfl]
 have w0:∀t,t≠s->valsOf (done ++ [(s,y.po)]) t=valsOf done t:=fun t ht=>by rw[ZW,ZBc,if_neg (fun e=>ht e.symm),List.append_nil]
 refine⟨⟨L',o0,fun p=>?_⟩,fun z hz=>?_,fun z hz u hu=>?_,fun z hz u hu v0=>?_,fun z hz u hu v0=>?_,fun p hp=>?_⟩
 ·rw[c0.mem];constructor
  ·rintro(rfl | ⟨hp,g0⟩)
   ·exact⟨_,List.mem_cons_self ..,by unfold IdE.val;simp only[hlen]⟩
   ·obtain⟨z,hz,rfl⟩:=(hm _).1 hp;exact⟨z,List.mem_cons_of_mem _ ((q0 z).2 ⟨hz,fun e=>g0 (by rw[e])⟩),rfl⟩
  ·rintro⟨z,hz,rfl⟩;rcases List.mem_cons.1 hz with rfl | hz
   ·exact .inl (by unfold IdE.val;simp only[hlen])
   ·obtain⟨y0,a0⟩:=(q0 z).1 hz;exact .inr ⟨(hm _).2 ⟨z,y0,rfl⟩,fun e=>a0 (ZFa e)⟩
 ·rcases List.mem_cons.1 hz with rfl | hz
  ·refine⟨?_,?_,by simp⟩
   ·show w9.ownsRow base _ 2 (.slice A1 (x.ps ++ [y]).length c1) (x.ps ++ [y]).length (pcells (x.ps ++ [y]));rw[hlen,ZDT];exact j0 ho
   ·show psP (x.ps ++ [y])=valsOf _ s;rw[ZHy,q1,s0]
  ·obtain⟨y0,a0⟩:=(q0 z).1 hz;exact⟨m0 z y0 a0,by rw[w0 _ a0];exact(h.own z y0).2.1,(h.own z y0).2.2⟩
 ·rcases List.mem_cons.1 hz with rfl | hz
  ·rcases List.mem_append.1 hu with hu | hu
   ·rcases hx.2 with d0 | ⟨_,_,hn,_⟩
    ·exact p0 u (h.pos x d0 u hu)
    ·rw[hn]at hu;cases hu
   ·rw[List.mem_singleton.1 hu];exact p0 y hy
  ·exact p0 u (h.pos z ((q0 z).1 hz).1 u hu)
 ·rcases List.mem_cons.1 hz with rfl | hz <;> rcases List.mem_cons.1 hu with rfl | hu
  ·rfl
  ·exact absurd v0.symm ((q0 u).1 hu).2
  ·exact absurd v0 ((q0 z).1 hz).2
  ·exact h.uniq z ((q0 z).1 hz).1 u ((q0 u).1 hu).1 v0
 ·have key:∀z∈E,z.s≠s->∀a b,A1=some a->z.A=some b->b.block≠a.block:=fun z hz g0 a b ha hb e=>by
   rcases hA with hA | hA
   ·rw[ha]at hA;cases t0:x.A with
    | none=>rw[t0]at hA;simp[Value.ownBlock]at hA
    | some a' =>
     rw[t0]at hA;simp[Value.ownBlock]at hA;exact k0 z hz g0 a' t0 b hb (e.trans hA)
   ·obtain⟨k,hA,h1⟩:=hA;rw[ha]at hA;simp[Value.ownBlock]at hA;obtain⟨cur,hc,_⟩:=ZC (h.own z hz).1 (g:=b.block) (by rw[hb];rfl);have:=hc.lt;omega
  rcases List.mem_cons.1 hz with rfl | hz <;> rcases List.mem_cons.1 hu with rfl | hu
  ·exact absurd rfl v0
  ·exact fun a b ha hb e=>key u ((q0 u).1 hu).1 ((q0 u).1 hu).2 a b ha hb e.symm
  ·exact fun a b ha hb=>key z ((q0 z).1 hz).1 ((q0 z).1 hz).2 b a hb ha
  ·exact h.apart z ((q0 z).1 hz).1 u ((q0 u).1 hu).1 v0
 ·rcases List.mem_append.1 hp with hp | hp
  ·obtain⟨z,hz,l0⟩:=h.all p hp;by_cases hs:p.1=s
   ·exact⟨_,List.mem_cons_self ..,hs.symm⟩
   ·exact⟨z,List.mem_cons_of_mem _ ((q0 z).2 ⟨hz,by rw[l0];exact hs⟩),l0⟩
  ·rw[List.mem_singleton.1 hp];exact⟨_,List.mem_cons_self ..,rfl⟩
end
section
open Go.RowKit
theorem ZMc (x y:UInt8) (a b:List UInt8):decide (x::a<y::b)=if x=y then decide (a<b) else decide (x.toNat<y.toNat):=by
 by_cases h:x=y
 ·rw[if_pos h];subst h;congr 1;apply propext;rw[List.cons_lt_cons_iff];constructor
  ·rintro(h | ⟨_,h⟩)
   ·exact(UInt8.lt_irrefl _ h).elim
   ·exact h
  ·exact fun h=> .inr ⟨rfl,h⟩
 ·rw[if_neg h];congr 1;apply propext;rw[List.cons_lt_cons_iff];constructor
  ·rintro(h1 | ⟨h1,_⟩)
   ·exact h1
   ·exact(h h1).elim
  ·exact fun h1=> .inl h1
theorem ZKr (s t:List UInt8) (w:World) (hs:s.length<=9223372036854775807) (ht:t.length<=9223372036854775807) :
 Calls Tryz.prog 103 #[.string ⟨s.toArray⟩,.string ⟨t.toArray⟩] w fun e w'=>e = .returned (.bool (decide (s<t)))/\Ext w w':=by
 obtain⟨n,hn⟩:∃n,n=s.length:=⟨_,rfl⟩
 obtain⟨m,hm⟩:∃m,m=t.length:=⟨_,rfl⟩
 have v0:(⟨s.toArray⟩:ByteArray).size=n:=by rw[hn];exact ByteArray.size_mk_toArray s
 have u0:(⟨t.toArray⟩:ByteArray).size=m:=by rw[hm];exact ByteArray.size_mk_toArray t
 rw[<-hn]at hs;rw[<-hm]at ht;obtain⟨b,hb⟩:∃b,b=decide (s<t):=⟨_,rfl⟩
 rw[<-hb];replace hn:=ZA hn;replace hm:=ZA hm;replace hb:=ZA hb;go_enter Tryz.func103,Tryz.ntmps103;go_wp2_with fail
 go_loopw [5] (fun s5 wr=>∃i:Nat,s5 = .int .i64 i/\i<=n/\i<=m/\Hid (b=decide (s.drop i<t.drop i))/\Ext w wr) (fun s5 _=>n - (intOf s5).toNat)
 case atStart=>exact⟨0,rfl,by omega,by omega,hb,Ext.refl w⟩
 case round =>
  obtain⟨i,rfl,hi,hi2,j0,hE⟩:=hrel;by_cases m0:i<n
  ·by_cases him:i<m
   ·have t0:i<s.length:=by rw[<-hn.out];exact m0
    have g0:i<t.length:=by rw[<-hm.out];exact him
    obtain⟨x,hx⟩:∃x,x=s[i]:=⟨_,rfl⟩
    obtain⟨y,hy⟩:∃y,y=t[i]:=⟨_,rfl⟩
    have h0:b=if x=y then decide (s.drop (i+1)<t.drop (i+1)) else decide (x.toNat<y.toNat):=by
     rw[j0.out,List.drop_eq_getElem_cons t0,List.drop_eq_getElem_cons g0,ZMc,hx,hy]
    obtain⟨c,hc⟩:∃c,c=x.toNat:=⟨_,rfl⟩
    obtain⟨e,he⟩:∃e,e=y.toNat:=⟨_,rfl⟩
    have x0:((⟨s.toArray⟩:ByteArray)[i]'(by rw[v0];exact m0)).toNat=c:=by rw[hc,hx];rfl
    have y0:((⟨t.toArray⟩:ByteArray)[i]'(by rw[u0];exact him)).toNat=e:=by rw[he,hy];rfl
    have k0:x=y↔c=e:=by rw[hc,he];exact⟨fun h=>by rw[h],fun h=>UInt8.toNat_inj.1 h⟩
    rw[<-hc,<-he]at h0;replace h0:=ZA h0;replace hx:=ZA hx;replace hy:=ZA hy;replace hc:=ZA hc;replace he:=ZA he;replace k0:=ZA k0;by_cases q0:c=e
    ·have p0:Hid (b=decide (s.drop (i+1)<t.drop (i+1))):=ZA (by rw[h0.out,if_pos (k0.out.2 q0)]);have q1:((c:Int)==e)=true:=by rw[q0];exact beq_self_eq_true _
     have q2:((c:Int) != e)=false:=by rw[q0];simp
     replace q0:=ZA q0;go_wp2_with fail;refine ZB follows (by kernel_rfl) (by kernel_rfl) (fun K hK=>?_);go_wp2_with fail;refine⟨by kernel_rfl,?_⟩;go_wp2_with fail;go_roundw
     case rel=>exact⟨i+1,by go_num,by omega,by omega,p0,hE.drew⟩
     case measure=>simp[intOf];omega
    ·have p0:Hid (b=decide (c<e)):=ZA (by rw[h0.out,if_neg fun h=>q0 (k0.out.1 h)]);have q1:((c:Int)==e)=false:=beq_eq_false_iff_ne.2 (by omega);have q2:((c:Int) != e)=true:=by simp[bne,q1]
     replace q0:=ZA q0;go_wp2_with fail;refine ZB follows (by kernel_rfl) (by kernel_rfl) (fun K hK=>?_);go_wp2_with fail;refine⟨by kernel_rfl,?_⟩;go_wp2_with fail;refine ZB follows (by kernel_rfl) (by kernel_rfl) (fun K hK=>?_);go_wp2_with fail;refine⟨by kernel_rfl,?_⟩;go_wp2_with fail;go_ret;rw[p0.out];exact⟨Zw (by first | rfl | (simp;done) | (simp;omega)),hE.drew.drew⟩
   ·have p0:Hid (b=decide (n<m)):=ZA (by
     rw[j0.out,List.drop_eq_nil_of_le (show t.length<=i by rw[<-hm.out];omega)];rw[decide_eq_false (show ¬ n<m by omega),decide_eq_false (List.not_lt_nil _)])
    have q1:decide (n<m)=false:=decide_eq_false (by omega);go_wp2_with fail;go_ret;rw[p0.out];exact⟨Zw (by first | rfl | (simp;done) | (simp;omega)),hE⟩
  ·have p0:Hid (b=decide (n<m)):=ZA (by
    rw[j0.out,List.drop_eq_nil_of_le (show s.length<=i by rw[<-hn.out];omega)];by_cases h:n<m
    ·rw[decide_eq_true h];apply decide_eq_true;have:i<t.length:=by rw[<-hm.out];omega
     rw[List.drop_eq_getElem_cons this];exact List.nil_lt_cons _ _
    ·rw[decide_eq_false h];apply decide_eq_false;rw[List.drop_eq_nil_of_le (show t.length<=i by rw[<-hm.out];omega)];exact List.not_lt_nil _)
   go_wp2_with fail;go_ret;rw[p0.out];exact⟨Zw (by first | rfl | (simp;done) | (simp;omega)),hE⟩
end
section
open Go.RowKit
theorem ZAo (w:World) (t:TypeId):(w.alloc (.cells #[] t)).ownsRow w.heap.size t 2 (.slice (some ⟨w.heap.size,0,none⟩) 0 0) 0 [] :=
 ⟨rfl,.inr ⟨w.heap.size,0,#[],rfl,Nat.le_refl _,heap_alloc_new w _,Nat.le_refl _,by unfold maxLen;omega,rfl,rfl⟩⟩
section
variable {t e sz:Nat}
theorem ZFo (ht:Tryz.prog.underlying t=some (.slice e)) (hs:∀W:World,(sizeOf e).run Tryz.prog W = .ok sz W) {n c k:Nat} {A:Option Addr} (h:k<=c) (hA:∀a,A=some a->a.spot=none) {z:Int} (hz:z=(k:Int)) (W:World) :
 (Instr.sliceAt t (.slice A n c) none (some (.int .i64 z)) none).run Tryz.prog W = .ok (.slice A k c) W:=by
 subst hz;have he:Tryz.prog.elem t=e:=by unfold Program.elem;rw[ht]
 rw[run_sliceAt_slice W _ _ _ _ _ (by rw[ht,he]),run_slice_h W _ A n c (by rw[ht,he]) .i64 k (by omega) (by omega),he,hs];simp only[Result.andThen_ok];congr 1;unfold sliced;have:(if c=0 then A else A.map fun x=>x.add (0*sz))=A:=by
  cases A with
  | none=>simp
  | some a =>
   obtain⟨b,o,sp⟩:=a;obtain rfl:sp=none:=hA _ rfl;simp[Addr.add_lit]
 rw[this];simp
theorem ZGu (ht:Tryz.prog.underlying t=some (.slice e)) (hs:∀W:World,(sizeOf e).run Tryz.prog W = .ok sz W) {n c k:Nat} {A:Option Addr} (hk:k<=n) (hc:n<=c) (hA:∀a,A=some a->a.spot=none) {z:Int} (hz:z=(k:Int)) :
 ∃A',(∀W:World,(Instr.sliceAt t (.slice A n c) (some (.int .i64 z)) none none).run Tryz.prog W = .ok (.slice A' (n - k) (c - k)) W)/\(∀(w:World) (xs:List Value),xs.length=n*sz->Cells w A xs->Cells w A' (xs.drop (k*sz)))/\∀a,A'=some a->a.spot=none:=by
 subst hz;have he:Tryz.prog.elem t=e:=by unfold Program.elem;rw[ht]
 have h0:∀W:World,(Instr.sliceAt t (.slice A n c) (some (.int .i64 k)) none none).run Tryz.prog W = .ok (sliced A k n c sz) W:=by
  intro W;rw[run_sliceAt_slice W _ _ _ _ _ (by rw[ht,he]),run_slice_l W _ A n c (by rw[ht,he]) .i64 k (by omega) (by omega),he,hs];simp only[Result.andThen_ok];congr 1
 refine⟨_,h0,fun w xs hx p0=>?_,fun a ha=>?_⟩
 ·rcases p0 with hb | ⟨g,o,rfl,hb⟩
  ·left;rw[hb];simp
  ·by_cases q0:c=k
   ·left;obtain rfl:n=k:=by omega
    rw[<-hx];exact List.drop_length
   ·refine .inr ⟨g,o+k*sz,by rw[if_neg q0];simp[Addr.add_lit],fun i v hv=>?_⟩;rw[Nat.add_assoc];refine hb (k*sz+i) v ?_;rw[List.getElem?_drop]at hv;exact hv
 ·cases A with
  | none=>split at ha <;> cases ha
  | some a0 =>
   obtain⟨b,o,sp⟩:=a0;obtain rfl:sp=none:=hA _ rfl;split at ha
   ·cases ha;rfl
   ·rw[Option.map_some,Addr.add_lit]at ha;cases ha;rfl
end
end
section
open Go.RowKit Go.Maps
structure TmC where
  s:List UInt8
  pos:List Int
  A:Option Addr
  c:Nat
def TmC.cells (x:TmC):List Value:= [.string ⟨x.s.toArray⟩,.slice x.A x.pos.length x.c]
def TmC.tm (x:TmC):List UInt8×List Int:=(x.s,x.pos)
def tmcells (l:List TmC):List Value:=l.flatMap TmC.cells
def tmR (l:List TmC):List (List UInt8×List Int):=l.map TmC.tm
theorem ZAW (l:List TmC):(tmcells l).length=l.length*2:=Ze (cellsA:=TmC.cells) (k:=2) (fun _=>rfl) l
theorem ZAx (l:List TmC) (i:Nat):tmcells (l.take i)=(tmcells l).take (i*2):=Z4 (f:=TmC.cells) (k:=2) (fun _=>rfl) l i
theorem Z2 (l:List TmC) (i:Nat):tmcells (l.drop i)=(tmcells l).drop (i*2):=ZAE (f:=TmC.cells) (k:=2) (fun _=>rfl) l i
theorem ZAA (l:List TmC):∀u∈tmcells l,u.oneCell'=true:=fun u hu=>by
 unfold tmcells at hu;obtain⟨x,_,hx⟩:=List.mem_flatMap.1 hu;unfold TmC.cells at hx;simp only[List.mem_cons,List.not_mem_nil,or_false]at hx;rcases hx with rfl | rfl <;> rfl
theorem ZDI {l:List TmC} {i:Nat} {x:TmC} (h:l[i]? = some x) {j:Nat} (hj:j<2):(tmcells l)[i*2+j]? = x.cells[j]? :=Zj (cellsA:=TmC.cells) (k:=2) (fun _=>rfl) l i x j h hj
theorem ZEK {w:World} {A:Option Addr} {l:List TmC} (h:Cells w A (tmcells l)) {i:Nat} {x:TmC} (hx:l[i]? = some x):∃g o,A=some ⟨g,o,none⟩/\∀W,Ext w W->W.cell? ⟨g,o+i*2,none⟩=some (.string ⟨x.s.toArray⟩)/\W.cell? ⟨g,o+i*2+1,none⟩=some (.slice x.A x.pos.length x.c):=by
 obtain⟨g,o,hA,hc⟩:=h.at_ (by rw[ZAW];have:=(List.getElem?_eq_some_iff.1 hx).1;omega);refine⟨g,o,hA,fun W hE=>⟨?_,?_⟩⟩
 ·have:=hE.cell (hc (i*2+0) _ (by rw[ZDI hx (by omega)];rfl));exact this
 ·have:=hE.cell (hc (i*2+1) _ (by rw[ZDI hx (by omega)];rfl));exact this
structure TmsR (w:World) (A:Option Addr) (n c:Nat) (l:List TmC):Prop where
  len:n=l.length
  cells:Cells w A (tmcells l)
  cap:n<=c
  spot:∀a,A=some a->a.spot=none
  each:∀x∈l,Buf w 0 3 x.A x.pos.length x.c (x.pos.map IV)/\x.s.length<=9223372036854775807
  typ:∀a,A=some a->∃cs,Row w a.block 46 cs
theorem TmsR.ext {w w1:World} {A:Option Addr} {n c:Nat} {l:List TmC} (h:TmsR w A n c l) (hE:Ext w w1):TmsR w1 A n c l:=⟨h.len,h.cells.ext hE,h.cap,h.spot,fun x hx=>⟨(h.each x hx).1.ext hE,(h.each x hx).2⟩,fun a ha=>by obtain⟨cs,hr⟩:=h.typ a ha;exact⟨cs,hr.ext hE⟩⟩
theorem TmsR.nil (w:World):TmsR w none 0 0 []:=⟨rfl,.inl rfl,Nat.le_refl _,nofun,nofun,nofun⟩
theorem TmsR.chg {w w1:World} {A:Option Addr} {n c:Nat} {l:List TmC} {S:Nat->Prop} (h:TmsR w A n c l) (hC:Chg S w w1) (hS:∀g,S g->∃t cs,Row w g t cs/\t≠46/\t≠3):TmsR w1 A n c l:=by
 have hA:∀a,A=some a->¬ S a.block:=fun a ha hs=>by
  obtain⟨cs,hr⟩:=h.typ a ha;obtain⟨t,cs2,h0,h1,_⟩:=hS _ hs;exact Row.unlike h0 hr h1 rfl
 refine⟨h.len,hC.cells h.cells hA,h.cap,h.spot,fun x hx=>⟨(h.each x hx).1.chg hC fun a ha hs=>?_,(h.each x hx).2⟩,fun a ha=>?_⟩
 ·obtain⟨t,cs2,h0,_,h2⟩:=hS _ hs;exact(h.each x hx).1.unlike h0 (fun e=>h2 e.symm) a ha rfl
 ·obtain⟨cs,hr⟩:=h.typ a ha;exact⟨cs,hr.keep (hC.block _ hr.lt (hA a ha))⟩
theorem ZB6:Elem Tryz.prog 33 46 2 40:=⟨Tryz.underlying33,⟨_,_,rfl,rfl,rfl,rfl,rfl⟩,by omega,by omega⟩
section
variable {β:Type} (p:List UInt8×β) {R:List (List UInt8×List β)} {k:Nat} {r:List UInt8×List β} (h:R[k]? = some r)
include h
theorem ZJv (hl:r.1<p.1):R.take k++addG p (R.drop k)=R.take (k+1)++addG p (R.drop (k+1)):=by
 obtain⟨hk,rfl⟩:=List.getElem?_eq_some_iff.1 h;rw[List.drop_eq_getElem_cons hk,List.take_succ_eq_append_getElem hk,List.append_assoc]
 conv=>lhs;rw[addG]
 rw[if_pos hl];rfl
theorem ZLb (hl:¬ r.1<p.1) (he:r.1=p.1):addG p (R.drop k)=(r.1,r.2 ++ [p.2])::R.drop (k+1):=by
 obtain⟨hk,rfl⟩:=List.getElem?_eq_some_iff.1 h;rw[List.drop_eq_getElem_cons hk,addG,if_neg hl,if_pos he]
theorem ZLN (hl:¬ r.1<p.1) (he:¬ r.1=p.1):addG p (R.drop k)=(p.1,[p.2])::R.drop k:=by
 obtain⟨hk,rfl⟩:=List.getElem?_eq_some_iff.1 h;rw[List.drop_eq_getElem_cons hk,addG,if_neg hl,if_neg he]
end
theorem ZA0 {w:World} {A:Option Addr} {xs:List Value} (h:Cells w A xs) (k:Nat):Cells w A (xs.take k):=by
 rcases h with h | ⟨g,o,hA,hc⟩
 ·left;rw[h];exact List.take_nil
 ·refine .inr ⟨g,o,hA,fun i v hv=>hc i v ?_⟩;rw[List.getElem?_take]at hv;split at hv
  ·exact hv
  ·cases hv
theorem ZOW (l:List Int):∀u∈l.map IV,u.oneCell'=true:=fun u hu=>by
 obtain⟨x,_,rfl⟩:=List.mem_map.1 hu;rfl
theorem ZBl (a b:List TmC) (x:TmC):tmcells (a++x::b)=(tmcells a++x.cells)++tmcells b:=by
 unfold tmcells;rw[List.flatMap_append,List.flatMap_cons,List.append_assoc]
theorem ZGy (D:List TmC) (i j:Nat) (x:TmC):tmR (D.take i++x::D.drop j)=(tmR D).take i++x.tm::(tmR D).drop j:=by
 unfold tmR;rw[List.map_append,List.map_cons,List.map_take,List.map_drop]
def AddA (w:World) (R:List (List UInt8×List Int)) (e:Ending) (w':World):Prop:=∃(D:List TmC) (A:Option Addr) (n c:Nat),e = .returned (.slice A n c)/\tmR D=R/\TmsR w' A n c D/\Ext w w'
end
section
open Go.RowKit
theorem ZJT (a b:List UInt8) (w:World) (ha:a.length<=1000000000) (hb:b.length<=1000000000) :
 Calls Tryz.prog 146 #[.string ⟨a.toArray⟩,.string ⟨b.toArray⟩] w fun e w'=>e = .returned (.int .i64 (cpl a b:Int))/\Ext w w':=by
 obtain⟨Z,hZ⟩:∃Z,Z=cpl a b:=⟨_,rfl⟩
 rw[<-hZ];obtain⟨n,hn⟩:∃n,n=a.length:=⟨_,rfl⟩
 obtain⟨m,hm⟩:∃m,m=b.length:=⟨_,rfl⟩
 have x0:(⟨a.toArray⟩:ByteArray).size=n:=by rw[hn];exact ByteArray.size_mk_toArray a
 have y0:(⟨b.toArray⟩:ByteArray).size=m:=by rw[hm];exact ByteArray.size_mk_toArray b
 rw[<-hn]at ha;rw[<-hm]at hb;have t0:Z<=n/\Z<=m:=by have:=ZCp a b;omega
 replace hZ:=ZA hZ;replace hn:=ZA hn;replace hm:=ZA hm;go_enter Tryz.func146,Tryz.ntmps146;go_wp2_with fail
 go_loopw [5] (fun s5 wr=>∃i:Nat,s5 = .int .i64 (i:Int)/\i<=n/\i<=m/\Hid (a.take i=b.take i)/\Hid (Ext w wr)) (fun s5 _=>n - (intOf s5).toNat)
 case atStart=>exact⟨0,rfl,by omega,by omega,ZA (by simp),ZA (Ext.refl w)⟩
 case round =>
  obtain⟨i,rfl,g0,him,ht,hE⟩:=hrel;have p0:=ZFe i a b ht.out (by rw[<-hn.out];exact g0) (by rw[<-hm.out];exact him);rw[<-hZ.out]at p0;replace p0:=ZA p0;by_cases h1:i<n
  ·by_cases h2:i<m
   ·obtain⟨x,hx⟩:∃x,a[i]? = some x:=⟨_,List.getElem?_eq_getElem (by rw[<-hn.out];exact h1)⟩
    obtain⟨y,hy⟩:∃y,b[i]? = some y:=⟨_,List.getElem?_eq_getElem (by rw[<-hm.out];exact h2)⟩
    have v0:=fun W=>ZO hx (z:=(i:Int)) rfl W;have u0:=fun W=>ZO hy (z:=(i:Int)) rfl W;have k0:a.drop i=x::a.drop (i+1):=by
     rw[List.drop_eq_getElem_cons (List.getElem?_eq_some_iff.1 hx).1,(List.getElem?_eq_some_iff.1 hx).2]
    have j0:b.drop i=y::b.drop (i+1):=by
     rw[List.drop_eq_getElem_cons (List.getElem?_eq_some_iff.1 hy).1,(List.getElem?_eq_some_iff.1 hy).2]
    by_cases q0:x=y
    ·have q1:((x.toNat:Int)==(y.toNat:Int))=true:=by rw[q0];exact beq_self_eq_true _
     have m0:Hid (a.take (i+1)=b.take (i+1)):=ZA (by rw[List.take_add_one,List.take_add_one,hx,hy,ht.out,q0]);replace hx:=ZA hx;replace hy:=ZA hy;replace k0:=ZA k0;replace j0:=ZA j0;replace q0:=ZA q0;go_wp2_with fail;refine ZB follows (by kernel_rfl) (by kernel_rfl) (fun K hK=>?_);go_wp2_with fail;refine⟨by kernel_rfl,?_⟩;go_wp2_with fail;exact⟨⟨i+1,by congr 1,by omega,by omega,m0,ZA hE.out.drew⟩,by simp only[intOf];omega⟩
    ·have q1:((x.toNat:Int)==(y.toNat:Int))=false:=beq_eq_false_iff_ne.2 fun h=>q0 (UInt8.toNat_inj.1 (by omega));have h0:Z=i:=by rw[p0.out,k0,j0,cpl,if_neg q0];rfl
     replace hx:=ZA hx;replace hy:=ZA hy;replace k0:=ZA k0;replace j0:=ZA j0;replace q0:=ZA q0;replace h0:=ZA h0;go_wp2_with fail;refine ZB follows (by kernel_rfl) (by kernel_rfl) (fun K hK=>?_);go_wp2_with fail;refine⟨by kernel_rfl,?_⟩;go_wp2_with fail;go_ret;exact⟨by rw[h0.out];rfl,hE.out.drew⟩
   ·have h0:Z=i:=by have:=p0.out;omega
    replace h0:=ZA h0;go_wp2_with fail;refine ZB follows (by kernel_rfl) (by kernel_rfl) (fun K hK=>?_);go_wp2_with fail;refine⟨by kernel_rfl,?_⟩;go_wp2_with fail;go_ret;exact⟨by rw[h0.out];rfl,hE.out.drew⟩
  ·have h0:Z=i:=by have:=p0.out;omega
   replace h0:=ZA h0;go_wp2_with fail;refine ZB follows (by kernel_rfl) (by kernel_rfl) (fun K hK=>?_);go_wp2_with fail;refine⟨by kernel_rfl,?_⟩;go_wp2_with fail;go_ret;exact⟨by rw[h0.out];rfl,hE.out.drew⟩
def En.cells (e:En):List Value:= [.string ⟨e.t.toArray⟩,.int .i64 (e.off:Int),.int .i64 (e.len:Int),.int .i64 (e.n:Int)]
def encells (l:List En):List Value:=l.flatMap En.cells
theorem ZDv (l:List En):(encells l).length=l.length*4:=Ze (cellsA:=En.cells) (k:=4) (fun _=>rfl) l
theorem ZAv {l:List En} {i:Nat} {x:En} (h:l[i]? = some x) {j:Nat} (hj:j<4):(encells l)[i*4+j]? = x.cells[j]? :=Zj (cellsA:=En.cells) (k:=4) (fun _=>rfl) l i x j h hj
theorem Z0 {w:World} {A:Option Addr} {l:List En} (h:Cells w A (encells l)) {i:Nat} {x:En} (hx:l[i]? = some x):∃g o,A=some ⟨g,o,none⟩/\w.cell? ⟨g,o+i*4,none⟩=some (.string ⟨x.t.toArray⟩)/\w.cell? ⟨g,o+i*4+1,none⟩=some (.int .i64 (x.off:Int))/\w.cell? ⟨g,o+i*4+2,none⟩=some (.int .i64 (x.len:Int))/\w.cell? ⟨g,o+i*4+3,none⟩=some (.int .i64 (x.n:Int)):=by
 obtain⟨g,o,hA,hc⟩:=h.at_ (by rw[ZDv];have:=(List.getElem?_eq_some_iff.1 hx).1;omega);exact⟨g,o,hA,hc (i*4+0) _ (by rw[ZAv hx (by omega)];rfl),hc (i*4+1) _ (by rw[ZAv hx (by omega)];rfl),hc (i*4+2) _ (by rw[ZAv hx (by omega)];rfl),hc (i*4+3) _ (by rw[ZAv hx (by omega)];rfl)⟩
theorem Z1:∀(a b:List UInt8),Op.bytesLess a b=decide (a<b)
 | [],[]=>by simp[Op.bytesLess]
 | _::_,[]=>by simp[Op.bytesLess]
 | [],_::_=>by simp[Op.bytesLess]
 | x::a,y::b=>by
  rw[Op.bytesLess,Z1 a b,Bool.eq_iff_iff,decide_eq_true_iff,List.cons_lt_cons_iff];simp
theorem ZOc {l:List En} (h:OkEs l) {i:Nat} {x y:En} (hx:l[i]? = some x) (hy:l[i+1]? = some y):x.t<y.t:=by
 obtain⟨h1,rfl⟩:=List.getElem?_eq_some_iff.1 hx;obtain⟨h2,rfl⟩:=List.getElem?_eq_some_iff.1 hy;exact List.pairwise_iff_getElem.1 h.up i (i+1) h1 h2 (by omega)
theorem ZOZ {a:List UInt8} (h:a ≠ []) : []<a:=by
 cases a with
 | nil=>exact absurd rfl h
 | cons x t=>exact List.nil_lt_cons x t
def lastT (l:List En) (i:Nat):List UInt8:=match (l.take i).getLast? with
 | some e=>e.t
 | none=> []
theorem ZBP {l:List En} {i:Nat} {x:En} (h:l[i]? = some x):lastT l (i+1)=x.t:=by
 unfold lastT;rw[List.take_add_one,h];simp
theorem ZL5 {l:List En} (h:OkEs l) {i:Nat} {x:En} (hx:l[i]? = some x):lastT l i<x.t:=by
 cases i with
 | zero=>exact ZOZ (h.each x (List.mem_of_getElem? hx)).2
 | succ i =>
  obtain⟨y,hy⟩:∃y,l[i]? = some y:=⟨_,List.getElem?_eq_getElem (by have:=(List.getElem?_eq_some_iff.1 hx).1;omega)⟩
  rw[ZBP hy];exact ZOc h hy hx
def thr (a b c:Int) (i:Nat):Int:=if i=0 then a else if i=1 then b else c
theorem ZFu {a b c:Int} {i:Nat} (hi:i<3) (W:World):(Instr.index 218 (.agg #[.int .i64 a,.int .i64 b,.int .i64 c]) (.int .i64 (i:Int))).run Tryz.prog W = .ok (.int .i64 (thr a b c i)) W:=by
 rcases (show i=0\/i=1\/i=2 by omega)with rfl | rfl | rfl
 ·show _=_
  kernel_rfl
 ·show _=_
  kernel_rfl
 ·show _=_
  kernel_rfl
theorem ZND {a b c:Int} (i:Nat) (ha:0<=a/\a<=67108864) (hb:0<=b/\b<=67108864) (hc:0<=c/\c<=67108864):0<=thr a b c i/\thr a b c i<=67108864:=by
 unfold thr;split
 ·exact ha
 ·split
  ·exact hb
  ·exact hc
end
section
open Go.RowKit Go.Maps
def IdE.cells (x:IdE):List Value:= [.string ⟨x.s.toArray⟩,.slice x.A x.ps.length x.c]
def IdE.rw' (x:IdE):List UInt8×List Po:=(x.s,psP x.ps)
def idcells (l:List IdE):List Value:=l.flatMap IdE.cells
def idR (l:List IdE):List (List UInt8×List Po):=l.map IdE.rw'
theorem Zy (l:List IdE):(idcells l).length=l.length*2:=Ze (cellsA:=IdE.cells) (k:=2) (fun _=>rfl) l
theorem ZF8 (l:List IdE) (i:Nat):idcells (l.take i)=(idcells l).take (i*2):=Z4 (f:=IdE.cells) (k:=2) (fun _=>rfl) l i
theorem ZGB (l:List IdE) (i:Nat):idcells (l.drop i)=(idcells l).drop (i*2):=ZAE (f:=IdE.cells) (k:=2) (fun _=>rfl) l i
theorem Z9 {l:List IdE} {i:Nat} {x:IdE} (h:l[i]? = some x) {j:Nat} (hj:j<2):(idcells l)[i*2+j]? = x.cells[j]? :=Zj (cellsA:=IdE.cells) (k:=2) (fun _=>rfl) l i x j h hj
theorem ZDN (l:List IdE):∀u∈idcells l,u.oneCell'=true:=fun u hu=>by
 unfold idcells at hu;obtain⟨x,_,hx⟩:=List.mem_flatMap.1 hu;unfold IdE.cells at hx;simp only[List.mem_cons,List.not_mem_nil,or_false]at hx;rcases hx with rfl | rfl <;> rfl
theorem ZHN (a b:List IdE) (x:IdE):idcells (a++x::b)=(idcells a++x.cells)++idcells b:=by
 unfold idcells;rw[List.flatMap_append,List.flatMap_cons,List.append_assoc]
theorem ZBT {w:World} {A:Option Addr} {l:List IdE} (h:Cells w A (idcells l)) {i:Nat} {x:IdE} (hx:l[i]? = some x):∃g o,A=some ⟨g,o,none⟩/\∀W,Ext w W->W.cell? ⟨g,o+i*2,none⟩=some (.string ⟨x.s.toArray⟩)/\W.cell? ⟨g,o+i*2+1,none⟩=some (.slice x.A x.ps.length x.c):=by
 obtain⟨g,o,hA,hc⟩:=h.at_ (by rw[Zy];have:=(List.getElem?_eq_some_iff.1 hx).1;omega);refine⟨g,o,hA,fun W hE=>⟨?_,?_⟩⟩
 ·have:=hE.cell (hc (i*2+0) _ (by rw[Z9 hx (by omega)];rfl));exact this
 ·have:=hE.cell (hc (i*2+1) _ (by rw[Z9 hx (by omega)];rfl));exact this
theorem IdE.far_symm {x y:IdE} (h:IdE.far x y):IdE.far y x:=fun a b ha hb e=>h b a hb ha e.symm
structure RowsO (base:Nat) (W:World) (B:Option Addr) (n c:Nat) (E:List IdE) (done:List (List UInt8×Po)):Prop where
  len:n=E.length
  own:W.ownsRow base 129 2 (.slice B n c) n (idcells E)
  each:∀x∈E,x.own base W
  pos:∀x∈E,∀y∈x.ps,posAt 0 W y
  apart:E.Pairwise IdE.far
  rows:idR E=grp done
theorem RowsO.nil (base:Nat) (W:World):RowsO base W none 0 0 [] []:=⟨rfl,⟨rfl,.inl ⟨rfl,rfl⟩⟩,nofun,nofun,List.Pairwise.nil,rfl⟩
theorem RowsO.ext {base:Nat} {W W1:World} {B:Option Addr} {n c:Nat} {E:List IdE} {done:List (List UInt8×Po)} (h:RowsO base W B n c E done) (hE:Ext W W1):RowsO base W1 B n c E done :=
 ⟨h.len,hE.owns h.own,fun x hx=>hE.owns (h.each x hx),fun x hx y hy=>⟨(h.pos x hx y hy).1.ext hE,(h.pos x hx y hy).2⟩,h.apart,h.rows⟩
structure PlaP (R:List (List UInt8×List Po)) (s:List UInt8) (k:Nat):Prop where
  le:k<=R.length
  low:∀i x,i<k->R[i]? = some x->x.1<s
  high:∀x,R[k]? = some x->¬ x.1<s
theorem PlaP.add {R:List (List UInt8×List Po)} {s:List UInt8} {k:Nat} (h:PlaP R s k) (p:Po):addG (s,p) R=R.take k++addG (s,p) (R.drop k):=by
 have key:∀j,j<=k->addG (s,p) R=R.take j++addG (s,p) (R.drop j):=by
  intro j
  induction j with
  | zero=>intro _;rfl
  | succ j ih =>
   intro hj;rw[ih (by omega)];obtain⟨x,hx⟩:∃x,R[j]? = some x:=⟨_,List.getElem?_eq_getElem (by have:=h.le;omega)⟩
   exact ZJv (s,p) hx (h.low j x (by omega) hx)
 exact key k (Nat.le_refl _)
theorem PlaP.put {R:List (List UInt8×List Po)} {s:List UInt8} {k:Nat} (h:PlaP R s k) (p:Po) {v:List Po} (hx:R[k]? = some (s,v)):addG (s,p) R=R.take k++(s,v ++ [p])::R.drop (k+1):=by
 rw[h.add p,ZLb (s,p) hx (h.high _ hx) rfl]
theorem PlaP.ins {R:List (List UInt8×List Po)} {s:List UInt8} {k:Nat} (h:PlaP R s k) (p:Po) (hn:∀x,R[k]? = some x->¬ x.1=s):addG (s,p) R=R.take k++(s,[p])::R.drop k:=by
 rw[h.add p];cases hx:R[k]? with
 | none =>
  rw[List.drop_of_length_le (by rwa [List.getElem?_eq_none_iff]at hx)];rfl
 | some x=>rw[ZLN (s,p) hx (h.high x hx) (hn x hx)]
theorem ZFi {E:List IdE} {i:Nat} {x:IdE} (h:E[i]? = some x):(idR E)[i]? = some (x.s,psP x.ps):=by unfold idR;rw[List.getElem?_map,h];rfl
theorem ZMB {E:List IdE} {i:Nat} (h:E[i]? = none):(idR E)[i]? = none:=by unfold idR;rw[List.getElem?_map,h];rfl
theorem ZDe (E:List IdE):(idR E).length=E.length:=by unfold idR;rw[List.length_map]
theorem ZNH {base:Nat} {W w1:World} {x z:IdE} (hz:z.own base W) (hf:IdE.far z x) {v:Value} (hv:v = .slice x.A x.ps.length x.c) (hg:W.grownBy w1 v.ownBlock):z.own base w1 :=
 (Chg.of_grown (S:=fun k=>v.ownBlock=some k) hg (fun _ _ e=>e)).owns hz fun g q0 h0=>by
  subst hv;cases k0:z.A with
  | none=>rw[k0]at q0;simp[Value.ownBlock]at q0
  | some b =>
   cases p0:x.A with
   | none=>rw[p0]at h0;simp[Value.ownBlock]at h0
   | some a =>
    rw[k0]at q0;rw[p0]at h0;simp[Value.ownBlock]at q0 h0;exact hf b a k0 p0 (q0.trans h0.symm)
theorem RowsO.put {base:Nat} {W w1:World} {g n c:Nat} {E:List IdE} {done:List (List UInt8×Po)} (h:RowsO base W (some ⟨g,0,none⟩) n c E done) {s:List UInt8} {k:Nat} (hp:PlaP (idR E) s k) {x:IdE} (hx:E[k]? = some x) (hs:x.s=s)
 {y:PoC} {A1:Option Addr} {c1:Nat} (hg:W.grownBy w1 (Value.slice x.A x.ps.length x.c).ownBlock) (ho:w1.ownsRow base 107 2 (.slice A1 (x.ps.length+1) c1) (x.ps.length+1) (pcells x.ps++y.cells))
 (hA:(Value.slice A1 (x.ps.length+1) c1).ownBlock=(Value.slice x.A x.ps.length x.c).ownBlock\/∃k,(Value.slice A1 (x.ps.length+1) c1).ownBlock=some k/\W.heap.size<=k) (hy:posAt 0 W y) :
 RowsO base (w1.setCell ⟨g,k*2+1,none⟩ (.slice A1 (x.ps.length+1) c1)) (some ⟨g,0,none⟩) n c (E.set k ⟨s,x.ps ++ [y],A1,c1⟩) (done ++ [(s,y.po)]):=by
 have hk:=(List.getElem?_eq_some_iff.1 hx).1;have b0:=h.each x (List.mem_of_getElem? hx);have u0:w1.ownsRow base 129 2 (.slice (some ⟨g,0,none⟩) n c) n (idcells E):=(Chg.of_grown (S:=fun k=>(Value.slice x.A x.ps.length x.c).ownBlock=some k) hg (fun _ _ e=>e)).owns h.own fun g' t0 hS=>by
  obtain⟨cur,hc,_⟩:=ZC h.own t0;exact ZJ b0 hc (by decide) hS
 have c0:(Value.slice (some ⟨g,0,none⟩) n c).ownBlock=some g:=rfl;obtain⟨curB,x0,_⟩:=ZC u0 c0;have m0:Chg (fun k=>k=g) w1 (w1.setCell ⟨g,k*2+1,none⟩ (.slice A1 (x.ps.length+1) c1)):=Chg.of_set w1 _ rfl;have k0:∀ {b e size n:Nat} {v:Value} {xs:List Value},e≠129->w1.ownsRow b e size v n xs->(w1.setCell ⟨g,k*2+1,none⟩ (.slice A1 (x.ps.length+1) c1)).ownsRow b e size v n xs:=fun q0 hh=>m0.owns hh fun g' t0 e=>ZJ hh x0 q0 (by rw[t0,e]);have p0:∀i j z u,E[i]? = some z->E[j]? = some u->i≠j->IdE.far z u:=fun i j z u hi hj q0=>by
  obtain⟨hi1,rfl⟩:=List.getElem?_eq_some_iff.1 hi;obtain⟨y0,rfl⟩:=List.getElem?_eq_some_iff.1 hj;rcases Nat.lt_or_gt_of_ne q0 with hl | hl
  ·exact List.pairwise_iff_getElem.1 h.apart i j hi1 y0 hl
  ·exact IdE.far_symm (List.pairwise_iff_getElem.1 h.apart j i y0 hi1 hl)
 have g0:∀z∈E.set k ⟨s,x.ps ++ [y],A1,c1⟩,z=⟨s,x.ps ++ [y],A1,c1⟩\/∃i,E[i]? = some z/\i≠k:=fun z hz=>by
  obtain⟨i,hi⟩:=List.mem_iff_getElem?.1 hz;rw[List.getElem?_set]at hi;split at hi
  ·exact .inl (Option.some.inj hi).symm
  ·rename_i q0;exact .inr ⟨i,hi,fun e=>q0 e.symm⟩
 have j0:∀u,posAt 0 W u->posAt 0 (w1.setCell ⟨g,k*2+1,none⟩ (.slice A1 (x.ps.length+1) c1)) u:=fun u hu=>by
  have q:=ZA7 b0 hg hu.1 (by decide);exact⟨q.chg m0 fun a ha e=>q.unlike x0 (by decide) a ha e,hu.2⟩
 have hlen:(x.ps ++ [y]).length=x.ps.length+1:=by rw[List.length_append];rfl
 refine⟨by rw[List.length_set];exact h.len,?_,fun z hz=>?_,fun z hz u hu=>?_,?_,?_⟩
 ·have h1:=ZKz u0 (k*2+1) (.slice A1 (x.ps.length+1) c1);have h2:(idcells E).set (k*2+1) (.slice A1 (x.ps.length+1) c1)=idcells (E.set k ⟨s,x.ps ++ [y],A1,c1⟩):=by
   apply List.ext_getElem?;intro j;by_cases hj:j<E.length*2
   ·have f0:j=(j / 2)*2+j%2:=by omega
    have a0:j / 2<E.length:=by omega
    rw[f0,List.getElem?_set];by_cases z0:j / 2=k
    ·subst z0;have i0:(E.set (j / 2) ⟨s,x.ps ++ [y],A1,c1⟩)[j / 2]? = some ⟨s,x.ps ++ [y],A1,c1⟩:=by rw[List.getElem?_set,if_pos rfl,if_pos a0]
     rw[Z9 i0 (by omega),Z9 hx (by omega),Zy];rcases (show j%2=0\/j%2=1 by omega)with h0 | h0
     ·rw[h0,if_neg (by omega)];unfold IdE.cells;rw[hs];rfl
     ·rw[h0,if_pos rfl,if_pos (by omega)];unfold IdE.cells;simp only[hlen];rfl
    ·obtain⟨z,hz⟩:∃z,E[j / 2]? = some z:=⟨_,List.getElem?_eq_getElem a0⟩
     have l0:(E.set k ⟨s,x.ps ++ [y],A1,c1⟩)[j / 2]? = some z:=by rw[List.getElem?_set,if_neg (fun e=>z0 e.symm)];exact hz
     rw[if_neg (by omega),Z9 l0 (by omega),Z9 hz (by omega)]
   ·rw[List.getElem?_eq_none (by rw[List.length_set,Zy];omega),List.getElem?_eq_none (by rw[Zy,List.length_set];omega)]
  rw[h2]at h1;exact h1
 ·rcases g0 z hz with rfl | ⟨i,hi,q0⟩
  ·show World.ownsRow _ base _ 2 (.slice A1 (x.ps ++ [y]).length c1) (x.ps ++ [y]).length (pcells (x.ps ++ [y]));rw[hlen,ZDT];exact k0 (by decide) ho
  ·exact k0 (by decide) (ZNH (h.each z (List.mem_of_getElem? hi)) (p0 i k z x hi hx q0) rfl hg)
 ·rcases g0 z hz with rfl | ⟨i,hi,q0⟩
  ·rcases List.mem_append.1 hu with hu | hu
   ·exact j0 u (h.pos x (List.mem_of_getElem? hx) u hu)
   ·rw[List.mem_singleton.1 hu];exact j0 y hy
  ·exact j0 u (h.pos z (List.mem_of_getElem? hi) u hu)
 ·have key:∀i z,E[i]? = some z->i≠k->IdE.far z ⟨s,x.ps ++ [y],A1,c1⟩:=fun i z hi q0 a b ha hb e=>by
   simp only at hb;subst hb;rcases hA with hA | ⟨q,hA,hq⟩
   ·cases v0:x.A with
    | none=>rw[v0]at hA;simp[Value.ownBlock]at hA
    | some a' =>
     rw[v0]at hA;simp[Value.ownBlock]at hA;exact p0 i k z x hi hx q0 a a' ha v0 (e.trans hA)
   ·simp[Value.ownBlock]at hA;obtain⟨cur,hc,_⟩:=ZC (h.each z (List.mem_of_getElem? hi)) (g:=a.block) (by rw[ha];rfl);have:=hc.lt;omega
  rw[List.pairwise_iff_getElem];intro i j hi hj d0;rw[List.length_set]at hi hj;rw[List.getElem_set,List.getElem_set];split
  ·rename_i e0;rw[if_neg (by omega)];exact IdE.far_symm (key j _ (List.getElem?_eq_getElem hj) (by omega))
  ·rename_i e0;split
   ·exact key i _ (List.getElem?_eq_getElem hi) (by omega)
   ·exact List.pairwise_iff_getElem.1 h.apart i j hi hj d0
 ·rw[ZC0,<-h.rows,hp.put y.po (v:=psP x.ps) (by rw[ZFi hx,hs])];unfold idR;rw[List.map_set,List.set_eq_take_append_cons_drop,if_pos (by rw[List.length_map];exact hk)];show _=_;unfold IdE.rw';rw[ZHy]
theorem RowsO.ins {base:Nat} {W w1:World} {B:Option Addr} {n c:Nat} {E:List IdE} {done:List (List UInt8×Po)} (h:RowsO base W B n c E done) {s:List UInt8} {k:Nat} (hp:PlaP (idR E) s k) (hn:∀x,E[k]? = some x->¬ x.s=s)
 {y:PoC} {A1 Ax:Option Addr} {c1 cx:Nat} (hE:Ext W w1) (ho:w1.ownsRow base 129 2 (.slice A1 (n+1) c1) (n+1) ((idcells (E.take k) ++ [.string ⟨s.toArray⟩,.slice Ax 1 cx])++idcells (E.drop k))) (hx:w1.ownsRow base 107 2 (.slice Ax 1 cx) 1 y.cells) (p0:∀a,Ax=some a->W.heap.size<=a.block) (hy:posAt 0 w1 y) :
 RowsO base w1 A1 (n+1) c1 (E.take k++⟨s,[y],Ax,cx⟩::E.drop k) (done ++ [(s,y.po)]):=by
 have hk:k<=E.length:=by have:=hp.le;rw[ZDe]at this;exact this
 have h1:=h.ext hE;have h0:∀z∈E.take k++(⟨s,[y],Ax,cx⟩:IdE)::E.drop k,z=⟨s,[y],Ax,cx⟩\/z∈E:=fun z hz=>by
  rcases List.mem_append.1 hz with hz | hz
  ·exact .inr (List.mem_of_mem_take hz)
  ·rcases List.mem_cons.1 hz with rfl | hz
   ·exact .inl rfl
   ·exact .inr (List.mem_of_mem_drop hz)
 have key:∀z∈E,IdE.far z ⟨s,[y],Ax,cx⟩:=fun z hz a b ha hb e=>by
  have h2:=p0 b hb;obtain⟨cur,hc,_⟩:=ZC (h.each z hz) (g:=a.block) (by rw[ha];rfl);have:=hc.lt;omega
 refine⟨?_,?_,fun z hz=>?_,fun z hz u hu=>?_,?_,?_⟩
 ·rw[List.length_append,List.length_cons,List.length_take,List.length_drop,h.len];omega
 ·rw[ZHN];exact ho
 ·rcases h0 z hz with rfl | hz
  ·show World.ownsRow _ base _ 2 (.slice Ax 1 cx) 1 (pcells [y]);have:pcells [y]=y.cells:=by unfold pcells;simp
   rw[this];exact hx
  ·exact h1.each z hz
 ·rcases h0 z hz with rfl | hz
  ·rw[List.mem_singleton.1 hu];exact hy
  ·exact h1.pos z hz u hu
 ·have q0:=h.apart;rw[<-List.take_append_drop k E]at q0;obtain⟨q1,q2,q3⟩:=List.pairwise_append.1 q0;refine List.pairwise_append.2 ⟨q1,List.pairwise_cons.2 ⟨fun z hz=>IdE.far_symm (key z (List.mem_of_mem_drop hz)),q2⟩,fun z hz u hu=>?_⟩;rcases List.mem_cons.1 hu with rfl | hu
  ·exact key z (List.mem_of_mem_take hz)
  ·exact q3 z hz u hu
 ·rw[ZC0,<-h.rows,hp.ins y.po fun x hx=>by
   cases hE:E[k]? with
   | none=>rw[ZMB hE]at hx;cases hx
   | some z=>rw[ZFi hE]at hx;cases hx;exact hn z hE]
  unfold idR;rw[List.map_append,List.map_cons,List.map_take,List.map_drop];rfl
theorem ZGX (E:List IdE) (B:Option Addr) (n c:Nat) (s:List UInt8) (w:World) (hn:n=E.length) (h:Cells w B (idcells E)) (u0:n<=1000000000) :
 Calls Tryz.prog 72 #[.slice B n c,.string ⟨s.toArray⟩] w fun e w'=>∃k:Nat,e = .returned (.int .i64 (k:Int))/\PlaP (idR E) s k/\Ext w w':=by
 have q0:(idR E).length=n:=by rw[ZDe,hn]
 replace hn:=ZA hn;replace h:=ZA h;replace q0:=ZA q0;go_enter Tryz.func72,Tryz.ntmps72;go_wp2_with fail
 go_loopw [5] (fun s5 wr=>∃k:Nat,s5 = .int .i64 (k:Int)/\k<=n/\Hid (∀i x,i<k->(idR E)[i]? = some x->x.1<s)/\Hid (Ext w wr)) (fun s5 _=>n - (intOf s5).toNat)
 case atStart=>exact⟨0,rfl,by omega,ZA (fun i x hi=>absurd hi (Nat.not_lt_zero _)),ZA (Ext.refl _)⟩
 case round =>
  obtain⟨k,rfl,hk,k0,hE⟩:=hrel;by_cases t0:k<n
  ·obtain⟨x,hx⟩:∃x,E[k]? = some x:=⟨_,List.getElem?_eq_getElem (by rw[<-hn.out];exact t0)⟩
   obtain⟨g,o,hA,m0⟩:=ZBT (h.out.ext hE.out) hx;obtain⟨l0,l1⟩:=m0 wr (Ext.refl _);have h0:=ZFi hx;obtain⟨xs,ps,xA,xc⟩:=x;simp only at l0 l1 h0;subst hA;have v0:decide ((k:Int)<n)=true:=decide_eq_true (by omega);clear m0 hx;by_cases p0:xs<s
   ·have j0:=ZA (show ∀i x,i<k+1->(idR E)[i]? = some x->x.1<s from fun i x hi hx=>by
     rcases Nat.lt_succ_iff_lt_or_eq.1 hi with hi | rfl
     ·exact k0.out i x hi hx
     ·rw[h0]at hx;cases hx;exact p0)
    have hd:Op.bytesLess xs s=true:=by rw[Z1];exact decide_eq_true p0
    replace h0:=ZA h0;go_wp2_with fail;exact⟨⟨k+1,by go_num,by omega,j0,ZA hE.out⟩,by simp only[intOf];omega⟩
   ·have hd:Op.bytesLess xs s=false:=by rw[Z1];exact decide_eq_false p0
    have g0:=ZA (show PlaP (idR E) s k from⟨by rw[q0.out];exact hk,k0.out,fun x hx=>by rw[h0]at hx;cases hx;exact p0⟩);replace h0:=ZA h0;go_wp2_with fail;go_ret;exact⟨k,rfl,g0.out,hE.out⟩
  ·obtain rfl:k=n:=by omega
   have g0:=ZA (show PlaP (idR E) s k from⟨by rw[q0.out];exact hk,k0.out,fun x hx=>by rw[List.getElem?_eq_none (by rw[q0.out];exact Nat.le_refl _)]at hx;cases hx⟩);go_wp2_with fail;go_ret;exact⟨k,rfl,g0.out,hE.out⟩
end
end Go.Proofs.YtkdcnhnaiknaaaaGreat
