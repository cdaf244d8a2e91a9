/- Texts of one proof, joined. -/
import Derived.Test.YtfifdilapbeiiaaGreatPY05
import Derived.RegionTactic
import Derived.ChangeAlike
import Derived.Maps.Keyed
import Derived.Maps.OwnOps
set_option linter.unusedSimpArgs false
set_option linter.unusedVariables false
set_option maxRecDepth 100000
set_option maxHeartbeats 16000000
namespace Go.Proofs.YtfifdilapbeiiaaGreat
open _root_.Go.Proofs.Tryz
variable {cs:Array Value} {z z1 z2:Int} {l s:List UInt8} {xs ys:List Value} {B b1 b2 c cl g g1 g2 g3 i k m n:Nat} {S:Nat → Prop} {A:Option Addr} {P:Program} {E e t t1 t2 tp tq tr ty:TypeId} {V V1 v v1 v2 v3:Value} {W W' W1 w w' w0 w1:World}
section
open Go.RowKit
theorem IB:∀(l:List UInt8) (i k:Nat),getV i l = .error k->k=6\/k=20
 | [],i,k,h=>by unfold getV at h;injection h with h;omega
 | x::l,i,k,h=>by
  unfold getV at h;split at h
  ·injection h with h;omega
  ·split at h
   ·injection h with h;omega
   ·split at h
    ·cases h
    ·split at h
     ·cases h
     ·rename_i e j;injection h with h;subst h;exact IB l (i+1) _ j
def GotF (w0 w:World) (res:Except Nat (List UInt8×List UInt8)) (e:Ending) (w':World):Prop:=Ext w w'/\match res with
 | .ok (p,r)=>∃P cp A c,e = .returned (.tuple #[.slice P p.length cp,.slice A r.length c,.int .i64 0])/\In8 w' P p.length cp p/\In8 w0 A r.length c r
 | .error k=>e = .returned (.tuple #[.slice none 0 0,.slice none 0 0,.int .i64 k])
theorem Qx (l:List UInt8) (x:UInt8):be (l ++ [x])=be l*256+x.toNat:=by
 unfold be;rw[List.foldl_append];rfl
theorem GotF.no {res:Except Nat (List UInt8×List UInt8)} (j:Ext w w') (h:res = .error k):GotF w0 w res (.returned (.tuple #[.slice none 0 0,.slice none 0 0,.int .i64 k])) w':=by
 subst h;exact⟨j,rfl⟩
def GotFB (w0 w:World) (res:Except Nat (List UInt8×List UInt8)) (e:Ending) (w':World):Prop:=Ext w w'/\match res with
 | .ok (p,r)=>∃P cp A c base,e = .returned (.tuple #[.slice P p.length cp,.slice A r.length c,.int .i64 0])/\Buf w' base 5 P p.length cp (p.map B8)/\In8 w0 A r.length c r
 | .error k=>e = .returned (.tuple #[.slice none 0 0,.slice none 0 0,.int .i64 k])
theorem GotFB.no {res:Except Nat (List UInt8×List UInt8)} (j:Ext w w') (h:res = .error k):GotFB w0 w res (.returned (.tuple #[.slice none 0 0,.slice none 0 0,.int .i64 k])) w':=by
 subst h;exact⟨j,rfl⟩
theorem NK (A:Option Addr) (n c:Nat) (l:List UInt8) (w0 w:World) (h:In8 w0 A n c l) (hw:Ext w0 w) (a2:n<=1000000000) :
 Calls prog 145 #[.slice A n c] w fun e w'=>GotFB w0 w (getF l) e w':=by
 have U:=Cl A n c l w0 w h hw a2;have c0:=Aa h.len;obtain⟨Z,j⟩:=Ab (getF l);rw[<-j];unfold getF at j;cases hv:getV 0 l with
 | error k =>
  rw[hv]at U j;simp only at j;rcases IB l 0 k hv with rfl | rfl
  ·rw[if_pos rfl]at j;replace j:=Aa j;replace U:=Aa U;clear h hv
   go_in
   go_wp2_with fail;refine U.out.mono ?_;rintro e w1 ⟨b,rfl⟩;go_wp2_with fail;go_ret3;exact GotFB.no b j.out
  ·rw[if_neg (by omega)]at j;replace j:=Aa j;replace U:=Aa U;clear h hv
   go_in
   go_wp2_with fail;refine U.out.mono ?_;rintro e w1 ⟨b,rfl⟩;go_wp2_with fail;go_ret3;exact GotFB.no b j.out
 | ok p =>
  obtain⟨m,r⟩:=p;have p3:=Ct hv;have f2:=Cs hv;obtain⟨hd,x0,m2⟩:=Eu l 0 m r [] hv;have J:l.length - r.length=hd.length:=by rw[x0,List.length_append];omega
  rw[hv]at U j;simp only at j;unfold Got at U;simp only at U;replace U:=Aa U;clear hv m2;by_cases i0:16777216<m
  ·rw[if_pos i0]at j;replace j:=Aa j;have k2:(16777216:Int)<m:=by omega
   clear h
   go_in
   go_wp2_with fail;refine U.out.mono ?_;rintro e w1 ⟨b,A1,c1,rfl,hi1⟩;go_wp2_with fail;go_ret3;exact GotFB.no b j.out
  ·rw[if_neg i0]at j;have k2:¬ (16777216:Int)<m:=by omega
   have d3:IntKind.i64.wrap (m:Int)=(m:Int):=by
    simp[IntKind.wrap,IntKind.bits,IntKind.signed];omega
   by_cases i1:r.length<4+m
   ·rw[if_pos i1]at j;replace j:=Aa j;have i2:(r.length:Int)<4+(m:Int):=by omega
    clear h
    go_in
    go_wp2_with fail;refine U.out.mono ?_;rintro e w1 ⟨b,A1,c1,rfl,hi1⟩;go_wp2_with fail;go_ret3;exact GotFB.no b j.out
   ·rw[if_neg i1]at j;have i2:¬ (r.length:Int)<4+(m:Int):=by omega
    obtain⟨x2,y0⟩:=h.headk .i64 (k:=l.length - r.length) (by have:=c0.out;omega) (z:=(n:Int) - (r.length:Int)) (by have:=c0.out;omega);rw[J]at x2 y0;have a3:r.length<=n:=by have:=c0.out;omega
    have k3:r.length<=1000000000:=by omega
    replace j:=Aa j;replace y0:=Aa y0;replace J:=Aa J;replace x0:=Aa x0;clear h f2
    go_in
    go_wp2_with fail;refine U.out.mono ?_;rintro e w1 ⟨b,A1,c1,rfl,hi1⟩;obtain⟨x3,l0⟩:=hi1.headk .i64 (k:=4) (by omega) (z:=4) rfl;obtain⟨A2,c2,y3,k1⟩:=hi1.subk .i64 .i64 (fr:=4) (k:=m) (by omega) (z0:=4) (z:=4+(m:Int)) rfl rfl;obtain⟨A3,c3,b3,m1⟩:=hi1.fromk .i64 (fr:=4+m) (by omega) (z:=4+(m:Int)) (by omega);replace l0:=Aa l0;replace k1:=Aa k1;replace m1:=Aa m1;replace hi1:=Aa hi1;go_wp2_with fail
    go_loopw [7,9,43] (fun s7 _ s43 wr=>∃(i v:Nat),s43 = .int .i64 (i:Int)/\i<=4/\s7 = .int .u32 (v:Int)/\v<256^i/\Hid (v=be (r.take i))/\wr=w1) (fun _ _ s43 _=>4 - (intOf s43).toNat)
    case atStart=>exact⟨0,0,rfl,by omega,rfl,by decide,Aa (by simp[be]),rfl⟩
    case round =>
     obtain⟨i,v,rfl,hi,rfl,hv,q2,rfl⟩:=hrel;by_cases y2:i<4
     ·obtain⟨x,hx⟩:∃x,r[i]? = some x:=⟨_,List.getElem?_eq_getElem (by omega)⟩
      have d0:be (r.take (i+1))=v*256+x.toNat:=by rw[Ei hx,Qx,q2.out]
      have e3:=x.toNat_lt;have z3:(256:Nat)^i<=256^3:=Nat.pow_le_pow_right (by omega) (by omega);have m3:v<16777216:=by omega
      have d2:bits .or .u32 ((v:Int)*256) (x.toNat:Int)=((v*256+x.toNat:Nat):Int):=by
       have h1:=u32_or_nat (v*256) x.toNat (by omega) (by omega);have h2:=Nat.shiftLeft_add_eq_or_of_lt (show x.toNat<2^8 by omega) v;rw[Nat.shiftLeft_eq]at h2;rw[show (2:Nat)^8=256 from rfl]at h2;rw[h2,<-h1];simp
      have a:v*256+x.toNat<256^(i+1):=by rw[Nat.pow_succ];omega
      obtain⟨g,o,p2,hc⟩:=Cells.at_ (xs:=(r.take 4).map B8) (l0.out.bytes.ext (hw.trans b)) (by rw[List.length_map,List.length_take];omega);have r0:=hc i (B8 x) (by rw[List.getElem?_map,List.getElem?_take,if_pos y2,hx];rfl);unfold B8 at r0;subst p2;replace d0:=Aa d0;replace a:=Aa a;obtain⟨nx,p1⟩:=Ab (v*256+x.toNat);rw[<-p1]at d2 d0 a;replace p1:=Aa p1;clear hx hc;go_wp2_with fail;refine⟨⟨i+1,nx,by go_num,by omega,rfl,a.out,Aa d0.out.symm,trivial⟩,?_⟩;simp[intOf];omega
     ·obtain rfl:i=4:=by omega
      have H:((r.drop 4).take m).length=m:=by rw[List.length_take,List.length_drop];omega
      have I:(l.take hd.length).length=hd.length:=by rw[List.length_take,x0.out,List.length_append];omega
      have v0:(r.drop (4+m)).length=r.length - (4+m):=List.length_drop;have n0:=hw.trans b;have T:=k1.out.ext n0;obtain⟨pl,G⟩:=Ab ((r.drop 4).take m);obtain⟨hh,O⟩:=Ab (l.take hd.length);rw[<-G]at H T;have g0:=y0.out;rw[<-O]at I g0;have j2:=Aa (Cr A2 m c2 pl wr H.symm T.bytes T.nil_ (by omega));have e0:=j.out;rw[J.out,<-O,<-G,<-q2.out]at e0;replace e0:=Aa e0;replace G:=Aa G;replace O:=Aa O;replace H:=Aa H;replace I:=Aa I;replace v0:=Aa v0;have t3:v<4294967296:=hv;clear T;go_wp2_with fail;refine j2.out.mono ?_;rintro e w3 ⟨P,cp,rfl,o0,x1⟩;have m0:=o0.in8;have y1:=Aa o0;obtain⟨w4,p0⟩:=Ab (w3.alloc (.cells #[.slice A hd.length c,.slice P m cp] 24));have j0:Ext w3 w4:=by rw[p0];exact(Ext.refl w3).alloc _
      have f1:Row w4 w3.heap.size 24 #[.slice A hd.length c,.slice P m cp]:=by rw[p0];exact Row.new w3 _ _
      have h0:=Ng (some ⟨w3.heap.size,0,none⟩) 2 2 [(A,c,hh),(P,cp,pl)] w4 rfl (.inr ⟨w3.heap.size,0,rfl,fun i v hv=>by
       rw[Nat.zero_add];refine f1.cell i ?_;have e1:=I.out;have e2:=H.out;simpa [e1,e2]using hv⟩) (fun q hq=>by
       rcases List.mem_cons.1 hq with rfl | hq
       ·have h:=(g0.ext n0).ext (x1.trans j0);simp only;rw[I.out];exact h
       ·rw[List.mem_singleton.1 hq];have h:=m0.ext j0;simp only;rw[H.out];exact h) (fun q hq=>by
       rcases List.mem_cons.1 hq with rfl | hq
       ·simp only;rw[I.out];have:=c0.out;have:=J.out;omega
       ·rw[List.mem_singleton.1 hq];simp only;rw[H.out];omega) (by omega)
      rw[show ([(A,c,hh),(P,cp,pl)].map fun p:Option Addr×Nat×List UInt8=>p.2.2) = [hh,pl] from rfl,show csum 0 [hh,pl]=cnext 0 (hh++pl)from Io hh pl]at h0;obtain⟨s,hs⟩:=Ab (cnext 0 (hh++pl));have Y:=e0.out;rw[<-hs]at h0 Y;have f0:=Aa (b.trans (x1.trans j0));replace h0:=Aa h0;replace p0:=Aa p0;replace m0:=Aa (m0.ext j0);have a1:=Aa (y1.out.ext j0);replace hs:=Aa hs;clear o0 f1 n0 g0;by_cases o1:s=v
      ·subst o1;rw[if_pos rfl]at Y;replace Y:=Aa Y;go_wp2_with fail;rw[<-p0.out];refine h0.out.mono ?_;rintro e w5 ⟨rfl,t0⟩;have k0:=Aa (f0.out.trans t0);have d1:=Aa (a1.out.ext t0);go_wp2_with fail;refine AE (fun K hK=>?_);go_wp2_with fail;refine⟨by kernel_rfl,?_⟩;go_wp2_with fail;go_ret3;rw[Y.out];exact⟨k0.out.drew,P,cp,A3,c3,_,by rw[H.out,v0.out];rfl,by rw[H.out];exact d1.out.drew,by rw[v0.out];exact m1.out⟩
      ·have j3:¬ (s:Int)=v:=by omega
       rw[if_neg o1]at Y;replace Y:=Aa Y;go_wp2_with fail;rw[<-p0.out];refine h0.out.mono ?_;rintro e w5 ⟨rfl,t0⟩;have k0:=Aa (f0.out.trans t0);go_wp2_with fail;go_ret3;exact GotFB.no k0.out Y.out
end
section
open Go.RowKit
attribute [local go_sem] Oper.semAt_some AP Cp
def KeepS (B:Nat) (S:Nat->Prop) (W W':World):Prop:=(∀w0:World,w0.heap.size<=B->Ext w0 W->Ext w0 W')/\∀k,S k->∀o,W.heap[k]? = some o->W'.heap[k]? = some o
theorem KeepS.trans (B:Nat) (S:Nat->Prop) (A C D:World) (h:KeepS B S A C) (k:KeepS B S C D):KeepS B S A D:=⟨fun w0 j b=>k.1 w0 j (h.1 w0 j b),fun i hi o a=>k.2 i hi o (h.2 i hi o a)⟩
theorem KeepS.refl (B:Nat) (S:Nat->Prop) (A:World):KeepS B S A A:=⟨fun _ _ h=>h,fun _ _ _ h=>h⟩
theorem KeepS.alike {H B:Nat} (a:H<=B) (h1:∀k,S k->k<B) (A C:World) (h:Alike B A C):KeepS H S A C :=
 ⟨fun _ hs b=>h.ext b (by omega),fun k hk _ j=>(h.block k (Array.getElem?_eq_some_iff.1 j).1 (fun hn=>by have:=hn.1;have:=h1 k hk;omega)).trans j⟩
theorem KeepS.ext {A C:World} (h:Ext A C):KeepS B S A C :=
 ⟨fun _ _ b=>b.trans h,fun k _ _ j=>(Below.block h k (Array.getElem?_eq_some_iff.1 j).1).trans j⟩
theorem KeepS.row {A C:World} (h:KeepS B S A C) (hk:S k) (j:Row A k t cs):Row C k t cs:=h.2 k hk _ j
abbrev Pay:=Option Addr×Nat×List UInt8×Int
def Pay.val (x:Pay):Value:= .slice x.1 x.2.2.1.length x.2.1
def PayOk (W:World) (x:Pay):Prop:=∃base,Buf W base 5 x.1 x.2.2.1.length x.2.1 (x.2.2.1.map B8)
def pays (l:List Pay):List (List UInt8):=l.map fun x=>x.2.2.1
def NxF (b:List UInt8) (pre:List Pay) (x:Pay) (W:World):Prop:=PayOk W x/\∃r,splitF b=(pays (pre ++ [x])++(splitF r).1,(splitF r).2)
def FinF (b:List UInt8) (ew:Nat) (xs:List Pay) (W W':World):Prop:=(splitF b=(pays xs,0)/\Ext W W')\/∃k W3,k≠0/\splitF b=(pays xs,k)/\Ext W W3/\W'=W3.setCell ⟨ew,0,none⟩ (.int .i64 (k:Int))
def FrIter (b:List UInt8) (B b1 b2 ew:Nat) (w:World):Prop :=
 Iter prog 144 #[.pointer (some ⟨b1,0,none⟩),.pointer (some ⟨b2,0,none⟩)] (fun x:Pay=>#[.int .i64 x.2.2.2,x.val]) Ext (NxF b) (KeepS B fun k=>k=b1\/k=b2\/k=ew) (FinF b ew) w
theorem Kd (A:Option Addr) (n c:Nat) (b:List UInt8) (B b1 b2 ew:Nat) (w0 w:World) (h:In8 w0 A n c b) (hB:w0.heap.size<=B) (hw:Ext w0 w) (e0:n<=1000000000)
 (Z:Row w b1 24 #[.slice A n c]) (m0:Row w b2 174 #[.pointer (some ⟨ew,0,none⟩)]) (t0:Row w ew 25 #[.int .i64 0]):FrIter b B b1 b2 ew w:=by
 intro l J W hE p0 hY h0;replace Z:=Aa (Z.ext hE);replace m0:=Aa (m0.ext hE);replace t0:=Aa (t0.ext hE);replace hw:=Aa (hw.trans hE);clear hE;replace hY:=Aa hY;replace p0:=Aa p0;replace h0:=Aa h0;have f1:=Aa h.len;replace h:=Aa h;have g0:=Aa (fun A n c r W (h:In8 w0 A n c r) (hw:Ext w0 W) (e0:n<=1000000000)=>NK A n c r w0 W h hw e0);refine(callsIn_wide (n:=0)).1 ?_;refine callsIn_of_wp func144 rfl trivial ?_;simp only[ntmps144,List.size_toArray,List.length_cons,List.length_nil,Nat.reduceAdd,Nat.reduceSub,Array.replicate_succ,Array.replicate_zero,List.push_toArray,List.append_toArray,List.nil_append,List.cons_append];have k10:=Z.out.cell 0 rfl;gi_wp2_with fail
 gi_loopw [4] (fun s4 wr=>∃(A4:Option Addr) (n4 c4:Nat) (r:List UInt8) (pre:List Pay),s4 = .slice A4 n4 c4/\n4<=n/\Hid (In8 w0 A4 n4 c4 r)/\Hid (splitF b=(pays pre++(splitF r).1,(splitF r).2))/\Hid (J pre wr)/\Hid (Ext w0 wr)/\Hid (Row wr b1 24 #[.slice A n c])/\Hid (Row wr b2 174 #[.pointer (some ⟨ew,0,none⟩)])/\Hid (Row wr ew 25 #[.int .i64 0])) (fun s4 _=>match s4 with | .slice _ k _=>k | _=>0)
 case atStart=>exact⟨A,n,c,b,[],rfl,Nat.le_refl _,h,Aa rfl,h0,hw,Z,m0,t0⟩
 case round =>
  obtain⟨A4,n4,c4,r,pre,rfl,i1,hi,f0,hJ,hE,r1,r2,r3⟩:=hrel;have k1:=r1.out.cell 0 rfl;have k2:=r2.out.cell 0 rfl;have y0:=Aa hi.out.len;by_cases hz:n4=0
  ·have x1:¬ (0:Int)<n4:=by omega
   have p1:r = []:=List.length_eq_zero_iff.1 (by rw[<-y0.out];exact hz);subst p1;clear hY g0;gi_wp2_with fail
   go_end0
   refine⟨⟨_,rfl⟩,pre,_,hJ.out,.inl ⟨?_,Ext.refl _⟩⟩;have:=f0.out;rw[Mx,List.append_nil]at this;exact this
  ·have x1:(0:Int)<n4:=by omega
   have O:r ≠ []:=fun e=>by have:=y0.out;rw[e]at this;exact hz this
   have hg:=g0.out A4 n4 c4 r wr hi.out hE.out (by omega);have a:=f0.out;cases H:getF r with
   | error k =>
    rw[Mw O H,List.append_nil]at a;rw[H]at hg;have q1:k≠0:=by rcases NQ H with h | h <;> omega
    have d1:¬ (k:Int)=0:=by omega
    replace a:=Aa a;replace hg:=Aa hg;clear H hY O;gi_wp2_with fail;refine(callsIn_wide.2 hg.out).mono ?_;rintro e w2 ⟨j,rfl⟩;have k22:=(r2.out.ext j).cell 0 rfl;have k32:=(r3.out.ext j).cell 0 rfl;have k3f:=(r3.out.ext j).free 0;have d0:=Aa (p0.out _ _ _ hJ.out j);replace j:=Aa j;gi_wp2_with fail;exact bodyPost_ret (results_none rfl _ _ _) rfl ⟨⟨_,rfl⟩,pre,_,hJ.out,.inr ⟨k,_,q1,a.out,j.out,rfl⟩⟩
   | ok q =>
    obtain⟨p,r'⟩:=q;rw[I9 O H]at a;rw[H]at hg;have U:=(C1 H).1;have T:splitF b=(pays (pre ++ [(none,0,p,0)])++(splitF r').1,(splitF r').2):=by
     rw[a];simp[pays]
    replace a:=Aa a;replace T:=Aa T;replace hg:=Aa hg;clear H O;gi_wp2_with fail;refine(callsIn_wide.2 hg.out).mono ?_;rintro e w2 ⟨j,P,cp,A5,c5,base,rfl,G,I⟩;have r12:=Aa (r1.out.ext j);have r22:=Aa (r2.out.ext j);have r32:=Aa (r3.out.ext j);have k12:=r12.out.cell 0 rfl;have d0:=Aa (p0.out _ _ _ hJ.out j);have Y:splitF b=(pays (pre ++ [(P,cp,p,((n:Int) - r'.length))])++(splitF r').1,(splitF r').2):=by
     have:=T.out;simp only[pays,List.map_append,List.map_cons,List.map_nil]at this ⊢;exact this
    have m1:=hY.out pre (P,cp,p,((n:Int) - r'.length)) w2 d0.out ⟨⟨base,G⟩,r',Y⟩;obtain⟨fn,tmps,assign,body,hy,hR⟩:=m1;simp only[Pay.val]at hy hR;obtain⟨n5,v0⟩:=Ab r'.length;rw[<-v0]at I hy hR Y U ⊢;replace U:=Nat.lt_of_lt_of_eq U y0.out.symm;obtain⟨pl,x0⟩:=Ab p.length;rw[<-x0]at G hy ⊢;replace I:=Aa I;replace j:=Aa (hE.out.trans j);replace Y:=Aa Y;replace G:=Aa G;replace v0:=Aa v0;replace x0:=Aa x0;clear hY;gi_wp2_with fail;refine hR.mono ?_;rintro e W3 ⟨rfl,r0,q0⟩;have r13:=Aa (show Row W3 b1 24 #[.slice A n c] from q0.row (.inl rfl) r12.out);have r23:=Aa (show Row W3 b2 174 #[.pointer (some ⟨ew,0,none⟩)] from q0.row (.inr (.inl rfl)) r22.out);have o0:=Aa (q0.1 w0 hB j.out);have r33:=Aa (q0.row (.inr (.inr rfl)) r32.out);gi_wp2_with fail;exact⟨⟨A5,n5,c5,r',_,rfl,by omega,I,Y,Aa r0,o0,r13,r23,r33⟩,by omega⟩
end
section
open Go.RowKit
attribute [local go_sem] Oper.semAt_some AP
def KeepB (b1 b2:Nat) (W W':World):Prop:=(∀o,W.heap[b1]? = some o->W'.heap[b1]? = some o)/\∀o,W.heap[b2]? = some o->W'.heap[b2]? = some o
theorem KeepB.trans (b1 b2:Nat) (A B C:World) (h:KeepB b1 b2 A B) (k:KeepB b1 b2 B C):KeepB b1 b2 A C:=⟨fun o j=>k.1 o (h.1 o j),fun o j=>k.2 o (h.2 o j)⟩
theorem KeepB.refl (b1 b2:Nat) (A:World):KeepB b1 b2 A A:=⟨fun _ h=>h,fun _ h=>h⟩
theorem KeepB.of {c1 c2:Array Value} (h1:Row W b1 t1 c1) (h:Row W' b1 t1 c1) (h2:Row W b2 t2 c2) (j:Row W' b2 t2 c2):KeepB b1 b2 W W' :=
 ⟨fun o b=>by unfold Row at h1 h;rw[h] ;rw[h1]at b;exact b,fun o b=>by unfold Row at h2 j;rw[j];rw[h2]at b;exact b⟩
theorem KeepB.alike (h1:b1<B) (h2:b2<B) (A C:World) (h:Alike B A C):KeepB b1 b2 A C :=
 ⟨fun _ j=>(h.block b1 (Array.getElem?_eq_some_iff.1 j).1 (fun hn=>by have:=hn.1;omega)).trans j,fun _ j=>(h.block b2 (Array.getElem?_eq_some_iff.1 j).1 (fun hn=>by have:=hn.1;omega)).trans j⟩
theorem Ln (A:Option Addr) (n c k:Nat) (w:World) (hk:1<=k) (h:k<=1000000) :
 Calls prog 83 #[.slice A n c,.int .i64 (k:Int)] w fun e w'=>∃b1 b2,e = .returned (.func (.func 135) #[] #[.pointer (some ⟨b1,0,none⟩),.pointer (some ⟨b2,0,none⟩)])/\Row w' b1 47 #[.slice A n c]/\Row w' b2 3 #[.int .i64 (k:Int)]/\w.heap.size<=b1/\w.heap.size<=b2/\b1<b2/\Ext w w':=by
 go_in
 go_wp2_with fail;go_ret;have h1:=Row.new w 47 #[.slice A n c];have h2:=Row.new (w.alloc (.cells #[.slice A n c] 47)) 3 #[.int .i64 (k:Int)];rw[World.size_alloc]at h2;exact⟨w.heap.size,w.heap.size+1,rfl,h1.alloc _,h2,Nat.le_refl _,by omega,by omega,((Ext.refl w).alloc _).alloc _⟩
theorem KO (j:z=(i:Int)) (hi:i<=n):∃A' c',∀W:World,(Instr.sliceAt 47 (.slice A n c) (some (.int .i64 z)) none none).run prog W = .ok (.slice A' (n - i) c') W:=by
 subst j;have ht:=underlying47;have h:prog.elem 47=89:=by unfold Program.elem;rw[ht]
 have hs:∀W:World,(sizeOf 89).run prog W = .ok 2 W:=fun W=>by kernel_rfl
 refine⟨if c=i then A else A.map fun a=>a.add (i*2),c - i,fun W=>?_⟩;rw[run_sliceAt_slice W _ _ _ _ _ (by rw[ht,h]),run_slice_l W _ A n c (by rw[ht,h]) .i64 i (by omega) (by omega),h,hs];simp only[Result.andThen_ok,sliced];rfl
theorem KP {n c i j:Nat} (Y:z=(i:Int)) (b:z1=((i+j:Nat):Int)) (H:z2=((i+j:Nat):Int)) (hi:i+j<=c) (J:0<j) (W:World) :
 (Instr.sliceAt 47 (.slice A n c) (some (.int .i64 z)) (some (.int .i64 z1)) (some (.int .i64 z2))).run prog W = .ok (.slice (A.map fun a=>a.add (i*2)) j j) W:=by
 subst Y b H;have ht:=underlying47;have h:prog.elem 47=89:=by unfold Program.elem;rw[ht]
 have hs:(sizeOf 89).run prog W = .ok 2 W:=by kernel_rfl
 rw[run_sliceAt_slice W _ _ _ _ _ (by rw[ht,h]),run_slice_lhm W _ A n c (by rw[ht,h]) .i64 .i64 .i64 i ((i+j:Nat):Int) ((i+j:Nat):Int) (by omega) (by omega) (by omega) (by omega),h,hs];simp only[Result.andThen_ok];congr 1;unfold sliced;rw[if_neg (by omega),show ((i+j:Nat):Int).toNat - (i:Int).toNat=j by omega];rfl
def chunkVA (A:Option Addr) (n k i:Nat):Value:= .slice (A.map fun a=>a.add (i*k*2)) (min k (n - i*k)) (min k (n - i*k))
def ChIterA (A:Option Addr) (n k b1 b2:Nat) (w:World):Prop :=
 Iter prog 135 #[.pointer (some ⟨b1,0,none⟩),.pointer (some ⟨b2,0,none⟩)] (fun i:Nat=>#[chunkVA A n k i]) Ext (fun pre i _=>i=pre.length/\i*k<n) (KeepB b1 b2) (fun xs W W'=>n<=xs.length*k/\xs=List.range xs.length/\(∀i∈xs,i*k<n)/\Ext W W') w
theorem JT (A:Option Addr) (n c k b1 b2:Nat) (w:World) (H:Row w b1 47 #[.slice A n c]) (Y:Row w b2 3 #[.int .i64 (k:Int)]) (hk:1<=k) (n0:k<=1000000) (hn:n<=1000000000) (hc:n<=c):ChIterA A n k b1 b2 w:=by
 intro l J W hE U hY h0;replace H:=H.ext hE;replace Y:=Y.ext hE;clear hE;replace H:=Aa H;replace Y:=Aa Y;replace hY:=Aa hY;replace U:=Aa U;replace h0:=Aa h0;refine(callsIn_wide (n:=0)).1 ?_;refine callsIn_of_wp func135 rfl trivial ?_;simp only[ntmps135,List.size_toArray,List.length_cons,List.length_nil,Nat.reduceAdd,Nat.reduceSub,Array.replicate_succ,Array.replicate_zero,List.push_toArray,List.append_toArray,List.nil_append,List.cons_append];gi_wp2_with fail
 gi_loopw [4] (fun s4 wr=>∃(i q:Nat) (pre:List Nat),s4 = .int .i64 (q:Int)/\Hid (q=i*k)/\q<=n+k/\Hid (pre.length=i)/\Hid (pre=List.range i)/\Hid (∀j∈pre,j*k<n)/\Hid (J pre wr)/\Hid (Row wr b1 47 #[.slice A n c])/\Hid (Row wr b2 3 #[.int .i64 (k:Int)])) (fun s4 _=>n - (intOf s4).toNat)
 case atStart=>exact⟨0,0,[],rfl,Aa (by simp),by omega,Aa rfl,Aa rfl,Aa nofun,h0,H,Y⟩
 case round =>
  obtain⟨i,q,pre,rfl,hq,h1,b,q0,G,hJ,r1,r2⟩:=hrel;have k1:=r1.out.cell 0 rfl;have k2:=r2.out.cell 0 rfl;by_cases Z:q<n
  ·obtain⟨m,hm⟩:∃m:Nat,(m:Int)=min (k:Int) ((n - q:Nat):Int):=⟨min k (n - q),by omega⟩
   have y0:0<m:=by omega
   have o0:m<=k:=by omega
   have r0:m<=n - q:=by omega
   have c0:m=k\/m=n - q:=by omega
   have f0:=fun(W:World)=>AQ (P:=prog) #[3,3] 3 hm W;have p1:=fun(W:World)=>KP (A:=A) (n:=n) (c:=c) (i:=q) (j:=m) (z:=(q:Int)) (z1:=(q:Int)+(m:Int)) (z2:=(q:Int)+(m:Int)) rfl (by omega) (by omega) (by omega) y0 W;obtain⟨A',c',q1⟩:=KO (A:=A) (n:=n) (c:=c) (i:=q) (z:=(q:Int)) rfl (by omega);replace hm:=Aa hm;have j0:=hY.out pre pre.length wr.drew (U.out _ _ _ hJ.out (Ext.refl wr).drew) ⟨rfl,by rw[b.out,<-hq.out];exact Z⟩;have O:chunkVA A n k pre.length = .slice (A.map fun a=>a.add (q*2)) m m:=by
    unfold chunkVA;rw[b.out,<-hq.out,show min k (n - q)=m by omega]
   rw[O]at j0;obtain⟨fn,tmps,assign,body,hy,hR⟩:=j0;have I:Hid (∀j∈pre ++ [pre.length],j*k<n):=Aa fun j hj=>by
    rcases List.mem_append.1 hj with h | h
    ·exact G.out j h
    ·rw[List.mem_singleton.1 h,b.out,<-hq.out];exact Z
   have p0:Hid (pre ++ [pre.length]=List.range (i+1)):=Aa (by rw[List.range_succ,b.out,q0.out]);have d0:Hid (q+k=(i+1)*k):=Aa (by rw[Nat.succ_mul,hq.out]);clear O c0 hY U;gi_wp2_with fail;refine wpIn_wide.2 (AE (fun K hK=>?_));go_wp2_with fail;refine⟨by kernel_rfl,?_⟩;gi_wp2_with fail;refine hR.mono ?_;rintro e W3 ⟨rfl,v0,T⟩;have r13:=Aa (show Row W3 b1 47 #[.slice A n c] from T.1 _ r1.out);have r23:=Aa (show Row W3 b2 3 #[.int .i64 (k:Int)] from T.2 _ r2.out);have k23:=r23.out.cell 0 rfl;gi_wp2_with fail;exact⟨⟨i+1,q+k,pre ++ [pre.length],by congr 1,d0,by omega,Aa (by rw[List.length_append,b.out];rfl),p0,I,Aa v0,r13,r23⟩,by simp only[intOf];omega⟩
  ·gi_wp2_with fail
   go_end0
   exact⟨⟨_,rfl⟩,pre,_,hJ.out,by rw[b.out,<-hq.out];omega,by rw[b.out];exact q0.out,G.out,Ext.refl _⟩
end
section
open Go.RowKit Go.Shelf
attribute [local go_sem] Oper.semAt_some AP Cp
def psP (ps:List PoC):List Po:=ps.map PoC.po
def OkB (w:World) (l:List UInt8) (e:Ending) (w':World):Prop:=∃A c,e = .returned (.tuple #[.slice A l.length c,.int .i64 0])/\Own8 w' w.heap.size A l.length c l/\Ext w w'
theorem E6 {l:List Po} (h:okPs l=true):l.length<=65536:=by
 rw[Ed,Bool.and_eq_true]at h;have:=DU h.1 (by omega);rw[List.length_map]at this;omega
theorem PosOk.part {ps:List PoC} (h:PosOk w A ps) (j:∀a,A=some a->a.spot=none) (i m:Nat):PosOk w (A.map fun a=>a.add (i*2)) ((ps.drop i).take m):=by
 refine⟨?_,fun x b=>h.each x (List.mem_of_mem_drop (List.mem_of_mem_take b))⟩;unfold pcells;rw[Bh (f:=PoC.cells) (k:=2) (fun _=>rfl),Bo (f:=PoC.cells) (k:=2) (fun _=>rfl)];exact h.cells.part j _ _
def PEnc (base h1 h2 h3 b1 b2:Nat) (V:Value) (Hd Bd:List UInt8) (last:Int) (w W:World):Prop :=
 HB base h1 h2 Hd Bd W/\Row W h3 3 #[.int .i64 last]/\Row W b1 47 #[V]/\Row W b2 3 #[.int .i64 32]/\Ext w W
theorem PEnc.alike {base h1 h2 b b1 b2 B:Nat} {Hd Bd:List UInt8} {last:Int} (h:PEnc base h1 h2 b b1 b2 V Hd Bd last w W) (j:Alike B W W1) (a:w.heap.size<=B):PEnc base h1 h2 b b1 b2 V Hd Bd last w W1 :=
 ⟨h.1.alike j,j.row h.2.1,j.row h.2.2.1,j.row h.2.2.2.1,j.ext h.2.2.2.2 a⟩
theorem PEnc.ext {base h1 h2 b b1 b2:Nat} {Hd Bd:List UInt8} {last:Int} (h:PEnc base h1 h2 b b1 b2 V Hd Bd last w W) (j:Ext W W1):PEnc base h1 h2 b b1 b2 V Hd Bd last w W1 :=
 ⟨h.1.ext j,h.2.1.ext j,h.2.2.1.ext j,h.2.2.2.1.ext j,h.2.2.2.2.trans j⟩
theorem E7 (ps:List PoC) (A:Option Addr) (m c:Nat) (w:World) (hm:m=ps.length) (h:PosOk w A ps) (hA:∀a,A=some a->a.spot=none) (p9:m<=c) (c0:okPs (psP ps)=true) (p0:(blockPo (-1) (psP ps)).length<=50000000) :
 Calls prog 44 #[.slice A m c] w fun e w'=>OkB w (encPs (psP ps)) e w':=by
 have ka:m<=65536:=by have:=E6 c0;unfold psP at this;rw[List.length_map]at this;omega
 have k5:=Ku ps A m c w hm h (by omega);rw[show ps.map PoC.po=psP ps from rfl,c0,if_pos rfl]at k5;obtain⟨P,hP⟩:=Ab (psP ps);rw[<-hP]at c0 p0 ⊢;have x2:=Aa (fun A n c x l W h1 h2 h3 h4 h5=>Cm A n c x l W h1 h2 h3 h4 h5);have va:=AH (m:=m) (by omega);replace k5:=Aa k5;replace hm:=Aa hm;replace h:=Aa h;replace hP:=Aa hP;replace c0:=Aa c0;replace p0:=Aa p0;replace hA:=Aa hA;refine(callsIn_wide (n:=0)).1 ?_;refine callsIn_of_wp_marks func44 rfl trivial ?_;simp only[ntmps44,List.size_toArray,List.length_cons,List.length_nil,Nat.reduceAdd,Nat.reduceSub,Array.replicate_succ,Array.replicate_zero,List.push_toArray,List.append_toArray,List.nil_append,List.cons_append];gi_wp2_with fail;refine(callsIn_wide.2 k5.out).mono ?_;rintro e w1 ⟨rfl,n6⟩;gi_wp2_with fail;refine(callsIn_wide.2 (x2.out none 0 0 m [] w1 rfl (.inl rfl) (fun _=>rfl) (by omega) (by omega))).mono ?_;rintro e w2 l0;obtain⟨A2,c2,rfl,i2,a3⟩:=l0;rw[List.nil_append]at i2 ⊢;obtain⟨k2,t3⟩:∃k,k=(vb m).length:=⟨_,rfl⟩
 rw[<-t3]at i2 ⊢;replace i2:=Aa i2;replace t3:=Aa t3;replace a3:=Aa (n6.trans a3);gi_wp2_with fail;obtain⟨W3,g0⟩:=Ab (((w2.alloc (Obj.cells #[Value.slice A2 k2 c2] 24)).alloc (Obj.cells #[Value.slice none 0 0] 24)).alloc (Obj.cells #[Value.int IntKind.i64 (-1)] 3));rw[<-g0];obtain⟨h1,m0⟩:=Ab w2.heap.size;have q1:Row W3 h1 24 #[.slice A2 k2 c2]:=by rw[g0,m0];exact((Row.new w2 _ _).alloc _).alloc _
 have q2:Row W3 (h1+1) 24 #[.slice none 0 0]:=by
  have:=Row.new (w2.alloc (Obj.cells #[Value.slice A2 k2 c2] 24)) 24 #[.slice none 0 0];rw[World.size_alloc,<-m0]at this;rw[g0];exact this.alloc _
 have q3:Row W3 (h1+2) 3 #[.int .i64 (-1)]:=by
  have:=Row.new ((w2.alloc (Obj.cells #[Value.slice A2 k2 c2] 24)).alloc (Obj.cells #[Value.slice none 0 0] 24)) 3 #[.int .i64 (-1)];rw[World.size_alloc,World.size_alloc,<-m0]at this;rw[g0];exact this
 have j0:Ext w2 W3:=by rw[g0];exact(((Ext.refl w2).alloc _).alloc _).alloc _
 have c5:W3.heap.size=h1+3:=by rw[g0,m0];simp
 have f7:w.heap.size<=h1:=by rw[m0];exact a3.out.size
 have i4:HB w.heap.size h1 (h1+1) (vb m) [] W3:=⟨A2,none,c2,0,by rw[<-t3.out];exact q1,q2,⟨rfl,by rw[<-t3.out];exact(i2.out.lower n6.size).ext j0⟩,⟨rfl,Buf.nil _ _ _⟩,fun _ _ _ e=>by cases e⟩
 replace j0:=Aa (a3.out.trans j0);rw[<-m0];refine(callsIn_wide.2 (Ln A m c 32 W3 (by omega) (by omega))).mono ?_;rintro e w4 ⟨b1,b2,rfl,rb1,rb2,b8,d8,g9,f4⟩;have k3:PEnc w.heap.size h1 (h1+1) (h1+2) b1 b2 (.slice A m c) (vb m) [] (-1) w w4:=⟨i4.ext f4,q3.ext f4,rb1,rb2,j0.out.trans f4⟩
 have g5:=JT A m c 32 b1 b2 w4 rb1 rb2 (by omega) (by omega) (by omega) p9;rw[c5]at b8 d8;have e0:=k3.2.2.2.2.size;replace k3:=Aa k3;replace g5:=Aa g5;replace g0:=Aa g0;replace m0:=Aa m0;clear q1 q2 q3 i4 f4 rb1 rb2 i2 j0 a3 t3 c5;gi_wp2_with fail;unfold ChIterA at g5;refine C8 (gf:=135) (lb:=#[.pointer (some ⟨b1,0,none⟩),.pointer (some ⟨b2,0,none⟩)]) rfl (enters_of func135 (by kernel_rfl) rfl) g5.out (fun _=>rfl) (fun _ _ h=>h.others) (fun _ _ _ h=>h.2.2.2.others) (KeepB.trans b1 b2) ?kb
  (fun pre W=>PEnc w.heap.size h1 (h1+1) (h1+2) b1 b2 (.slice A m c) (vb m++headPo (-1) ((chunkL 32 P).take pre.length)) (blockPo (-1) (P.take (pre.length*32))) (lastPo (-1) (P.take (pre.length*32))) w W) (fun pre A B h ha=>h.alike ha e0) (fun pre A B h hE=>h.ext hE) ?h0 ?hround ?hdone
 case kb =>
  have z7:=(k3.out.2.2.1).lt;have a7:=(k3.out.2.2.2.1).lt;exact KeepB.alike z7 a7
 case h0 =>
  intro W ha;have:=k3.out.alike ha e0;simpa [headPo,blockPo,lastPo]using this
 case hround =>
  rintro l pre i W hI ⟨hi,q9⟩;subst hi;have j3:P.length=m:=by rw[hP.out,hm.out];exact List.length_map ..
  have hR:=Hb c0.out p0.out (r:=pre.length) (by rw[j3];exact q9);obtain⟨j,hj⟩:=Ab (min 32 (m - pre.length*32));obtain⟨cb,p4⟩:=Ab ((ps.drop (pre.length*32)).take 32);have i1:cb.length=j:=by rw[p4,hj,List.length_take,List.length_drop,hm.out]
  obtain⟨A',e4⟩:=Ab (A.map fun a=>a.add (pre.length*32*2):Option Addr);have m2:PosOk w A' cb:=by rw[e4,p4];exact h.out.part hA.out _ _
  have d5:chunkVA A m 32 pre.length = .slice A' j j:=by unfold chunkVA;rw[e4,hj]
  obtain⟨bP,r4⟩:=Ab ((P.drop (pre.length*32)).take 32);have a1:bP=cb.map PoC.po:=by rw[r4,p4,hP.out,psP,<-List.map_drop,<-List.map_take]
  obtain⟨lst,m4⟩:=Ab (lastPo (-1) (P.take (pre.length*32)));rw[<-r4,<-m4]at hR;rw[hR.last]at hI;obtain⟨Hd,G⟩:=Ab (vb m++headPo (-1) ((chunkL 32 P).take pre.length));obtain⟨Bd,T⟩:=Ab (blockPo (-1) (P.take (pre.length*32)));rw[<-G,<-T]at hI;have m9:j<=32:=by omega
  replace hI:=Aa hI;replace hR:=Aa hR;rw[d5];clear d5;replace m2:=Aa m2;replace e4:=Aa e4;replace p4:=Aa p4;replace hj:=Aa hj;replace r4:=Aa r4;replace m4:=Aa m4;replace G:=Aa G;replace T:=Aa T;replace i1:=Aa i1;replace a1:=Aa a1;replace j3:=Aa j3;gi_wp2_with fail;refine⟨KeepsOthers.refl _,KeepB.refl _ _ _,fun W2 i6=>?_⟩;have g7:=Aa (hI.out.alike i6 e0);clear i6 hI;obtain⟨l3,z4,y2,a2,b3⟩:=g7.out;obtain⟨Y,hY⟩:=Ab (blockPo lst bP);obtain⟨lz,x3⟩:=Ab (lastPo lst bP);have r8:=hR.out.lo;have e8:=hR.out.hi;have a8:Y.length<=50000000:=by have:=hR.out.len;have:=p0.out;rw[hY];omega
  have r7:=Aa (fun base A B n c k c2 l last N xs W h1 h2 h3 h4 h5 h6 h7 h8 h9=>OJ base A B n c k c2 l last N xs W h1 h2 h3 h4 h5 h6 h7 h8 h9);replace l3:=Aa l3;replace z4:=Aa z4;replace y2:=Aa y2;replace a2:=Aa a2;replace b3:=Aa b3;replace hY:=Aa hY;replace x3:=Aa x3;clear g7;gi_wp2_with fail
  gi_loopw [9,26] (fun s9 s26 wr=>∃(i n9 c9:Nat) (A9:Option Addr) (X:List UInt8) (la:Int),s9 = .slice A9 n9 c9/\s26 = .int .i64 (i:Int)/\i<=j/\n9<=50000000 /\ -1<=la/\la<65536/\Hid (Y=X++blockPo la (bP.drop i))/\Hid (risB 65536 la ((bP.drop i).map (·.1))=true)/\Hid (lastPo la (bP.drop i)=lz)/\Hid (Own8 wr w.heap.size A9 n9 c9 X)/\Hid (Row wr (h1+2) 3 #[.int .i64 la])/\Hid (Chg (fun k=>k=h1+2) W2 wr)) (fun _ s26 _=>j - (intOf s26).toNat)
  case atStart=>exact⟨0,0,0,none,[],lst,rfl,rfl,by omega,by omega,r8,e8,Aa (by rw[hY.out];rfl),Aa hR.out.ris,Aa (by rw[x3.out];rfl),Aa ⟨rfl,Buf.nil _ _ _⟩,z4,Aa (Chg.refl _ _)⟩
  case round =>
   obtain⟨i,n9,c9,A9,X,la,rfl,rfl,pa,ja,v9,x9,y7,k9,l7,I,d0,o0⟩:=hrel;have H:Hid (Ext w wr):=Aa (b3.out.chg o0.out fun k hk e=>by omega);by_cases f8:i<j
   ·obtain⟨x,d4⟩:∃x,cb[i]? = some x:=⟨_,List.getElem?_eq_getElem (by rw[i1.out];exact f8)⟩
    obtain⟨g,o,x8,x0,x1⟩:=Bc (m2.out.cells.ext H.out) d4;subst x8;have z6:=m2.out.each x (List.mem_of_getElem? d4);have q5:bP[i]? = some x.po:=by rw[a1.out,List.getElem?_map,d4];rfl
    have t6:=hR.out.pos x.po (List.mem_of_getElem? q5);have p1:=y7.out;have d2:=k9.out;have j2:=l7.out;rw[AY q5]at p1 d2 j2;rw[List.map_cons]at d2;obtain⟨w5,q6,b4⟩:=BW d2;have o6:=fun o=>H.out.alloc o;have e7:=fun o=>o0.out.trans (Chg.of_ext ((Ext.refl wr).alloc o) _) fun _ _ h=>h;have f6:=fun o=>d0.out.alloc o;have b9:=fun o=>(d0.out.alloc o).cell 0 rfl;replace d4:=Aa d4;replace q5:=Aa q5;replace t6:=Aa t6;replace p1:=Aa p1;replace j2:=Aa j2;replace b4:=Aa b4;replace z6:=Aa z6;clear d2;obtain⟨d,pos,B,cB⟩:=x;have w5:la<d:=w5;have q6:d<65536:=q6;simp only at x0 x1;obtain⟨pl,z3⟩:=Ab pos.length;rw[<-z3]at x1;replace z3:=Aa z3;replace o6:=Aa o6;replace e7:=Aa e7;replace f6:=Aa f6;obtain⟨y9,y4⟩:0<pos.length/\risB 1048576 (-1) pos=true:=by
     have:=t6.out;unfold okPo at this;rw[Bool.and_eq_true]at this;exact⟨of_decide_eq_true this.1,this.2⟩
    obtain⟨q,hq⟩:∃q:Nat,(q:Int)=d - la - 1:=⟨(d - la - 1).toNat,by omega⟩
    obtain⟨X1,n4⟩:=Ab (X++stepsL la [d]);obtain⟨X2,r3⟩:=Ab (X1++vb pl);obtain⟨X3,m3⟩:=Ab (X2++stepsL (-1) pos);have k1:Y=X3++blockPo d (bP.drop (i+1)):=by
     rw[p1.out,m3,r3,n4,z3.out];show X++((vb (d - la - 1).toNat++vb pos.length++stepsL (-1) pos)++_)=_;simp[stepsL,PoC.po]
    have v7:X3.length<=50000000:=by rw[k1,List.length_append]at a8;omega
    have t7:X2.length<=X3.length:=by rw[m3,List.length_append];omega
    have m7:X1.length<=X2.length:=by rw[r3,List.length_append];omega
    have z9:pl<=50000000:=by
     have:=FR pos (-1);rw[m3,List.length_append,<-z3.out]at *;omega
    have xa:=AH (m:=pl) (by omega);replace n4:=Aa n4;replace r3:=Aa r3;replace m3:=Aa m3;replace k1:=Aa k1;replace hq:=Aa hq;replace y4:=Aa y4;gi_wp2_with fail;obtain⟨W5,o3⟩:=Ab ((wr.alloc (Obj.cells #[Value.int IntKind.i64 d,Value.slice B pl cB] 89)).alloc (Obj.cells #[Value.int IntKind.i64 d] 3));have Z:Ext wr W5:=by rw[o3];exact((Ext.refl wr).alloc _).alloc _
    have rp:Row W5 wr.heap.size 89 #[Value.int IntKind.i64 d,Value.slice B pl cB]:=by rw[o3];exact(Row.new wr _ _).alloc _
    have b7:Cells W5 (some ⟨wr.heap.size+1,0,none⟩) ([d].map IV):=by
     rw[o3];refine .inr ⟨_,0,rfl,fun u v hv=>?_⟩;have:=heap_alloc_new (wr.alloc (Obj.cells #[Value.int IntKind.i64 d,Value.slice B pl cB] 89)) (Obj.cells #[Value.int IntKind.i64 d] 3);rw[World.size_alloc]at this;rw[Nat.zero_add,cell_of_row _ _ _ _ _ _ this];simpa [IV]using hv
    rw[<-o3];have O:=I.out.1;refine(Bb (r7.out w.heap.size A9 _ n9 c9 1 1 X la 65536 [d] W5 (I.out.ext Z) (by have:=(H.out.trans Z).size;omega) rfl b7 (by simp[risB,w5,q6]) (by omega) (by omega) (by omega) (by omega))).mono ?_;rintro e w6 l5;obtain⟨A6,c6,rfl,f0,f5⟩:=l5;rw[<-n4.out]at f0 ⊢;obtain⟨gp,k6⟩:=Ab wr.heap.size;rw[<-k6]at rp ⊢;have rp6:=rp.ext f5;have y1:=rp6.cell 1 rfl;have c4:w.heap.size<=W5.heap.size:=(H.out.trans Z).size;have y5:Hid (Ext wr w6):=Aa (Z.trans f5);have q8:w.heap.size<=w6.heap.size:=(H.out.trans y5.out).size;obtain⟨n10,t4⟩:=Ab X1.length;rw[<-t4]at f0 m7 ⊢;replace t4:=Aa t4;replace rp6:=Aa rp6;replace f0:=Aa f0;replace k6:=Aa k6;clear o3 Z rp b7 O f5 c4;gi_wp2_with fail;refine(Bb (x2.out A6 n10 c6 pl X1 w6 f0.out.1 f0.out.2.cells f0.out.nil_ (by omega) (by omega))).mono ?_;rintro e w7 l0;obtain⟨A7,c7,rfl,k0,q0⟩:=l0;rw[<-r3.out]at k0 ⊢;have rp7:=rp6.out.ext q0;have z1:=rp7.cell 1 rfl;have z0:=rp7.cell 0 rfl;have y3:Hid (Own8 w7 w.heap.size A7 X2.length c7 X2):=Aa ⟨rfl,k0.lower q8⟩;have d3:Hid (Ext wr w7):=Aa (y5.out.trans q0);have p8:w.heap.size<=w7.heap.size:=(H.out.trans d3.out).size;obtain⟨n11,v4⟩:=Ab X2.length;rw[<-v4]at y3 t7 ⊢;replace v4:=Aa v4;replace rp7:=Aa rp7;clear k0 q0 y1;gi_wp2_with fail;refine(Bb (r7.out w.heap.size A7 B n11 c7 pl cB X2 (-1) 1048576 pos w7 y3.out p8 z3.out ((z6.out.1.ext H.out).ext d3.out) y4.out (by omega) (by omega) (by omega) (by omega))).mono ?_;rintro e w8 l5;obtain⟨A8,c8,rfl,J,p3⟩:=l5;rw[<-m3.out]at J ⊢;have rp8:=rp7.out.ext p3;have v0:=rp8.cell 0 rfl;have z5:Hid (Ext wr w8):=Aa (d3.out.trans p3);have r38:=d0.out.ext z5.out;have t0:=r38.cell 0 rfl;have t1:=r38.free 0;obtain⟨n12,x4⟩:=Ab X3.length;rw[<-x4]at J v7 ⊢;replace x4:=Aa x4;replace J:=Aa J;replace r38:=Aa r38;clear z0 z1 p3 rp8;gi_wp2_with fail;have o7:=r38.out.put 0 (.int .i64 d);have g6:Own8 (w8.setCell ⟨h1+2,0,none⟩ (.int .i64 d)) w.heap.size A8 n12 c8 X3:=⟨J.out.1,J.out.2.setCell (J.out.2.unlike r38.out (by decide)) _⟩
    have d7:Chg (fun k=>k=h1+2) W2 (w8.setCell ⟨h1+2,0,none⟩ (.int .i64 d)):=(o0.out.trans (Chg.of_ext z5.out _) fun _ _ h=>h).trans (Chg.of_set (S:=fun k=>k=h1+2) w8 _ rfl) fun _ _ h=>h;exact⟨⟨i+1,n12,c8,A8,X3,d,rfl,by congr 1,by omega,by omega,by omega,by omega,k1,b4,j2,Aa g6,Aa o7,Aa d7⟩,by simp only[intOf];omega⟩
   ·have p5:bP.length=j:=by rw[a1.out,List.length_map];exact i1.out
    have n5:Y=X:=by rw[y7.out,List.drop_eq_nil_of_le (by rw[p5];omega),blockPo,List.append_nil]
    have y0:la=lz:=by rw[<-l7.out,List.drop_eq_nil_of_le (by rw[p5];omega),lastPo]
    have b5:HB w.heap.size h1 (h1+1) Hd Bd wr:=l3.out.chg o0.out fun k hk=>⟨3,#[.int .i64 lst],by rw[hk];exact z4.out,by decide,by decide⟩
    have i0:=b5;obtain⟨A1,B1,c1,d1,r1,r2,o1,o2,j5⟩:=b5;have f1:=r1.cell 0 rfl;have f3:=d0.out.cell 0 rfl;obtain⟨lN,m5⟩:∃lN:Nat,la=(lN:Int):=⟨la.toNat,by have:=hR.out.ne;rw[y0,x3.out];omega⟩
    have t9:lN<65536:=by omega
    have ta:=AH (m:=lN) (by omega);have ma:=AH (m:=n9) (by omega);rw[m5]at f3;have j7:Hd.length<=100000:=by
     have h1:=hR.out.hlen;have h2:=Ag (n:=m) (by omega);rw[G.out,List.length_append];omega
    obtain⟨nh,x5⟩:=Ab Hd.length;rw[<-x5]at f1 j7 o1;obtain⟨H1,e3⟩:=Ab (Hd++vb lN);obtain⟨H2,i3⟩:=Ab (H1++vb n9);have l8:=Ag (n:=lN) (by omega);have o8:=Ag (n:=n9) (by omega);have p7:H1.length<=100010:=by rw[e3,List.length_append,<-x5];omega
    have k7:H2.length<=100020:=by rw[i3,List.length_append];omega
    have O:=I.out.1;have j8:=H.out.size;replace x5:=Aa x5;replace e3:=Aa e3;replace i3:=Aa i3;replace m5:=Aa m5;replace n5:=Aa n5;replace y0:=Aa y0;replace i0:=Aa i0;replace r1:=Aa r1;replace r2:=Aa r2;replace o1:=Aa o1;replace o2:=Aa o2;replace j5:=Aa j5;replace O:=Aa O;replace p5:=Aa p5;clear l8 o8;gi_wp2_with fail;refine(Bb (x2.out A1 nh c1 lN Hd wr o1.out.1 o1.out.2.cells o1.out.nil_ (by omega) (by omega))).mono ?_;rintro e w7 l0;obtain⟨A7,c7,rfl,k0,q0⟩:=l0;rw[<-e3.out]at k0 ⊢;obtain⟨n7,t5⟩:=Ab H1.length;rw[<-t5]at k0 p7 ⊢;have y3:Hid (Own8 w7 w.heap.size A7 n7 c7 H1):=Aa ⟨t5,k0.lower j8⟩;replace t5:=Aa t5;replace q0:=Aa q0;clear k0;gi_wp2_with fail;refine(Bb (x2.out A7 n7 c7 n9 H1 w7 y3.out.1 y3.out.2.cells y3.out.nil_ (by omega) (by omega))).mono ?_;rintro e w8 l0;obtain⟨A8,c8,rfl,J,p3⟩:=l0;rw[<-i3.out]at J ⊢;obtain⟨n8,v5⟩:=Ab H2.length;rw[<-v5]at J k7 ⊢;have b:Hid (Ext wr w8):=Aa (q0.out.trans p3);have r18:=r1.out.ext b.out;have s0:=r18.cell 0 rfl;have s1:=r18.free 0;have a5:=Aa (i0.out.head (W6:=w8) (B1:=w7.heap.size) (by omega) b.out v5 J q0.out.size (by have:=q0.out.size;omega));replace r18:=Aa r18;replace v5:=Aa v5;clear J p3;have m6:Hid (Own8 (w8.setCell ⟨h1,0,none⟩ (.slice A8 n8 c8)) w.heap.size A9 n9 c9 X):=Aa ⟨I.out.1,((I.out.2.ext b.out)).setCell ((I.out.2.ext b.out).unlike r18.out (by decide)) _⟩;have k4:KeepsOthers W2 (w8.setCell ⟨h1,0,none⟩ (.slice A8 n8 c8)):=((o0.out.others fun k hk=>⟨3,#[.int .i64 lst],by rw[hk];exact z4.out⟩).trans b.out.others).trans (KeepsOthers.setCell _ _ _);have j1:Row (w8.setCell ⟨h1,0,none⟩ (.slice A8 n8 c8)) b1 47 #[.slice A m c]:=(((o0.out.row y2.out (by omega)).ext b.out)).away (by simp;omega) _;have m1:Row (w8.setCell ⟨h1,0,none⟩ (.slice A8 n8 c8)) b2 3 #[.int .i64 32]:=(((o0.out.row a2.out (by omega)).ext b.out)).away (by simp;omega) _;have a4:Row (w8.setCell ⟨h1,0,none⟩ (.slice A8 n8 c8)) (h1+2) 3 #[.int .i64 la]:=(d0.out.ext b.out).away (by simp) _;have r0:Ext w (w8.setCell ⟨h1,0,none⟩ (.slice A8 n8 c8)):=(H.out.trans b.out).setCell (by simpa using f7) _;replace k4:=Aa k4;replace j1:=Aa j1;replace m1:=Aa m1;replace a4:=Aa a4;replace r0:=Aa r0;have j9:Bd.length<=50000000:=by have:=hR.out.len;have:=p0.out;rw[T.out];omega
    have r28:Row (w8.setCell ⟨h1,0,none⟩ (.slice A8 n8 c8)) (h1+1) 24 #[.slice B1 Bd.length d1]:=(r2.out.ext b.out).away (by simp) _;have s2:=(r2.out.ext b.out).cell 0 rfl;have r5:Buf (w8.setCell ⟨h1,0,none⟩ (.slice A8 n8 c8)) w.heap.size 5 B1 Bd.length d1 (Bd.map B8):=(o2.out.2.ext b.out).setCell ((o2.out.2.ext b.out).unlike r18.out (by decide)) _;have y6:Cells (w8.setCell ⟨h1,0,none⟩ (.slice A8 n8 c8)) A9 (X.map B8):=m6.out.2.cells;have w3:(X.map B8).length=n9:=by rw[List.length_map];exact O.out.symm
    have k8:=r0.out.size;replace r28:=Aa r28;replace r5:=Aa r5;replace y6:=Aa y6;replace w3:=Aa w3;gi_wp2_with (gi_at_builtin;refine Bu Aw r5.out y6.out (.tmp 57) (.tmp 58) rfl rfl rfl rfl rfl w3.out (Ai _) (by omega) k8 (fun A10 c10 w10 q4 p2 e5 j4=>?_);have r210:=HB.rows a5.out r28.out p2 r28.out (by decide);have u0:=r210.cell 0 rfl;have u1:=r210.free 0;replace r210:=Aa r210;replace q4:=Aa q4;replace p2:=Aa p2;replace e5:=Aa e5;replace j4:=Aa j4);obtain⟨g1,g2,g3,g4⟩:=HB.body (x:=X) a5.out (by omega) r28.out p2.out (by rw[List.length_append,<-O.out]) (by rw[List.map_append];exact q4.out) j4.out;refine⟨k4.out.trans g2,KeepB.of y2.out (g3 _ _ _ j1.out (by decide) (by omega)) a2.out (g3 _ _ _ m1.out (by decide) (by omega)),?_,g3 _ _ _ ?_ (by decide) (by omega),g3 _ _ _ j1.out (by decide) (by omega),g3 _ _ _ m1.out (by decide) (by omega),g4 _ r0.out (Nat.le_refl _) (by omega)⟩
    ·rw[List.length_append,List.length_singleton,hR.out.head,hR.out.body,<-T.out,<-List.append_assoc,<-List.append_assoc,<-G.out,<-hY.out,n5.out,<-x3.out,<-y0.out,<-O.out,m5.out,Int.toNat_natCast,<-e3.out,<-i3.out];exact g1
    ·rw[List.length_append,List.length_singleton,hR.out.last2,<-x3.out,<-y0.out];exact a4.out
 case hdone =>
  rintro D xs W2 W3 W5 hD hI ⟨r6,y8,z8,q7⟩ l6 hk;have j3:P.length=m:=by rw[hP.out,hm.out];exact List.length_map ..
  have U:=Iu P xs.length (by rw[j3];exact r6);rw[j3]at U;have i5:=(hI.ext q7).alike l6 e0;have i4:=i5.1;have Z:=i5.2.2.2.2;obtain⟨A1,B1,c1,d1,r1,r2,o1,o2,j5⟩:=i4;obtain⟨Hd,G⟩:=Ab (vb m++headPo (-1) ((chunkL 32 P).take xs.length));obtain⟨Bd,T⟩:=Ab (blockPo (-1) (P.take (xs.length*32)));rw[<-G]at r1 o1 U;rw[<-T]at r2 o2 U;have f1:=r1.cell 0 rfl;have f2:=r2.cell 0 rfl;have qa:Hd.length<=50000000:=by
   have h1:=E8 c0.out p0.out xs.length;have h2:=Ag (n:=m) (by omega);have h3:(headPo (-1) ((chunkL 32 P).take xs.length)).length<=20*(chunkL 32 P).length:=by
    have:=E8 c0.out p0.out (chunkL 32 P).length;rw[List.take_length]at this;refine Nat.le_trans ?_ this;have h4:=Ew ((chunkL 32 P).take xs.length) ((chunkL 32 P).drop xs.length) (-1);rw[List.take_append_drop]at h4;rw[h4,List.length_append];omega
   have h5:=AO (k:=32) (by omega) P;rw[G,List.length_append];omega
  have l9:Bd.length<=50000000:=by have:=DO P (xs.length*32);have:=p0.out;rw[T];omega
  have c4:=Z.size;have v6:=o2.2.cells;have o4:=o1.2;have j6:(Bd.map B8).length=Bd.length:=List.length_map ..;replace U:=Aa U;replace G:=Aa G;replace T:=Aa T;replace r1:=Aa r1;replace r2:=Aa r2;replace v6:=Aa v6;replace o4:=Aa o4;replace j6:=Aa j6;replace Z:=Aa Z;replace hk:=Aa hk;clear hI i5 r6 y8 z8 q7 l6 o1 o2 j5;gi_wp2_with (gi_at_builtin;refine Bu Aw o4.out v6.out (.tmp 60) (.tmp 61) rfl rfl rfl rfl rfl j6.out (Ai _) (by omega) c4 (fun A6 c6 w6 o5 p6 x6 i7=>?_);replace o5:=Aa o5;replace p6:=Aa p6;replace x6:=Aa x6;replace i7:=Aa i7);have i8:w6.heap[D]? = some (.deferred (some [])):=(BL o4.out p6.out).same _ _ hk.out rfl;refine BR (B:=w4.heap.size) rfl i8 hD fun W ha=>⟨_,results_tmp2 rfl _ _ _,?_⟩
  refine⟨A6,c6,?_,⟨rfl,?_⟩,ha.ext (x6.out w Z.out (Nat.le_refl _)) e0⟩
  ·rw[U.out,List.length_append];rfl
  ·rw[U.out,List.length_append,List.map_append];exact ha.buf o5.out
end
section
open Go.RowKit
theorem wrap_i64 {q:Nat} (h:q<9223372036854775808):IntKind.i64.wrap (q:Int)=(q:Int):=by
 simp[IntKind.wrap,IntKind.bits,IntKind.signed];omega
theorem GJ (A B:Option Addr) (n m c c2:Nat) (a b:List UInt8) (w:World) (ha:In8 w A n c a) (hb:In8 w B m c2 b) (hn:n<=1000000000) (hm:m<=1000000000) :
 Calls prog 96 #[.slice A n c,.slice B m c2] w fun e w'=>e = .returned (.bool (decide (a=b)))/\Ext w w':=by
 have j:=ha.len;have H:=hb.len;have Y:((n:Int) != (m:Int))=true->decide (a=b)=false:=fun h=>decide_eq_false fun e=>by rw[e]at j;simp at h;omega
 replace Y:=Aa Y;by_cases p0:n=m
 ·subst p0;replace j:=Aa j;replace H:=Aa H;clear Y
  go_in
  go_wp2_with fail
  go_loopw [13] (fun s13 wr=>∃i:Nat,s13 = .int .i64 i/\i<=n/\Hid (a.take i=b.take i)/\Hid (Ext w wr)) (fun s13 _=>n - (intOf s13).toNat)
  case atStart=>exact⟨0,rfl,by omega,rfl,Aa (Ext.refl w)⟩
  case round =>
   obtain⟨i,rfl,hi,hab,J⟩:=hrel;by_cases h0:i<n
   ·have G:i<a.length:=by rw[<-j.out];exact h0
    have I:i<b.length:=by rw[<-H.out];exact h0
    obtain⟨g,o,rfl,hc⟩:=ha.bytes.at_ (by omega);obtain⟨g2,o2,rfl,Z⟩:=hb.bytes.at_ (by omega);have k0:=J.out.cell (hc i G);have k1:=J.out.cell (Z i I);have O:a[i]=b[i]->a.take (i+1)=b.take (i+1):=fun h=>by rw[List.take_succ_eq_append_getElem G,List.take_succ_eq_append_getElem I,hab.out,h]
    have T:a[i]≠b[i]->decide (a=b)=false:=fun h=>decide_eq_false fun e=>h (by subst e;rfl);obtain⟨p,hp⟩:=Ab (a[i]);obtain⟨q,hq⟩:=Ab (b[i]);rw[<-hp,<-hq]at O T;rw[<-hp]at k0;rw[<-hq]at k1;have x0:(0:Int)<=i:=by omega
    have hi1:(i:Int)<n:=by omega
    replace O:=Aa O;replace T:=Aa T;clear hp hq hc Z;by_cases U:p=q
    ·subst U;have m0:=Aa (O.out rfl);clear O T;go_wp2_with fail;go_quiet (fail);go_wp2_with fail;go_roundw
     case rel=>exact⟨i+1,by go_num,by omega,m0,by first | exact Aa J.out.drew | exact Aa (J.out.drewN _)⟩
     case measure=>simp[intOf];omega
    ·have t0:=Aa (T.out U);have y0:(((p.toNat:Int)) != (q.toNat:Int))=true:=by simp;exact fun h=>U (UInt8.toNat_inj.1 (by omega))
     clear O T;go_wp2_with fail;go_quiet (fail);go_wp2_with fail;go_ret;exact⟨Bf t0.out.symm,by first | exact J.out.drew | exact J.out.drewN _⟩
   ·obtain rfl:i=n:=by omega
    have hd:decide (a=b)=true:=decide_eq_true (by
     have h:=hab.out;rw[List.take_of_length_le (by rw[<-j.out];exact Nat.le_refl _),List.take_of_length_le (by rw[<-H.out];exact Nat.le_refl _)]at h;exact h)
    replace hd:=Aa hd;go_wp2_with fail;go_ret;exact⟨Bf hd.out.symm,J.out⟩
 ·have hd:=Aa (Y.out (by simp;omega));clear Y j H ha hb
  go_in
  go_wp2_with fail;go_ret;exact⟨Bf hd.out.symm,Ext.refl w⟩
theorem In8.take (h:In8 w A n c l) (hk:k<=n):In8 w A k c (l.take k):=by
 refine⟨by rw[List.length_take,<-h.len];omega,?_,by have:=h.cap;omega,h.nil_,h.at_⟩;rcases h.bytes with hb | ⟨g,o,b,hb⟩
 ·left;have:l = []:=by simpa using hb
  rw[this];simp
 ·refine .inr ⟨g,o,b,fun i v j=>hb i v ?_⟩;rw[List.getElem?_map]at j ⊢;rw[List.getElem?_take]at j;split at j
  ·exact j
  ·cases j
theorem Pb:Elem prog 47 89 2 32:=⟨underlying47,⟨_,_,rfl,rfl,rfl,rfl,rfl⟩,by omega,by omega⟩
theorem AN (w:World) (us:List Value) (T:TypeId):Cells (w.alloc (.cells us.toArray T)) (some ⟨w.heap.size,0,none⟩) us :=
 .inr ⟨w.heap.size,0,rfl,fun i u h=>by
  rw[Nat.zero_add,cell_of_row _ _ _ _ _ _ (heap_alloc_new w _)];simpa using h⟩
theorem Cu {base n c:Nat} (hb:Buf w base e A n c xs) (b:w.grownBy w1 (Value.slice A n c).ownBlock) (j:Row w g t cs) (ht:t≠e):Row w1 g t cs :=
 j.grown b fun h=>by
  cases A with
  | none=>simp[Value.ownBlock]at h
  | some a=>exact hb.unlike j (fun e=>ht e.symm) a rfl (by simpa [Value.ownBlock]using h.symm)
end
section
open Go.RowKit
attribute [local go_sem] Oper.semAt_some AP Cp
theorem BX {d:TypeDesc} (h:w.cell? ⟨g,0,none⟩=some v) (j:P.underlying ty=some d) (hd:(match d with | .struct _ | .array _ _=>false | _=>true)=true):(loadVar ty ⟨g,0,none⟩).run P w = .ok v w:=by
 have hi:(isAgg ty).run P w = .ok false w:=by
  unfold isAgg;simp only[Sem.run_bind,run_underlying j,Result.andThen_ok];cases d <;> first | rfl | (cases hd)
 unfold loadVar;simp only[Sem.run_bind,hi,Result.andThen_ok];simp[h]
theorem Row.same (h:Row w g t cs) (H:cs[i]? = some v):w.setCell ⟨g,i,none⟩ v=w:=by
 have a:=h.put i v;have Y:cs.setIfInBounds i v=cs:=by
  apply Array.ext_getElem?;intro j;rw[Array.getElem?_setIfInBounds];split
  ·rename_i e;subst e;rw[H,if_pos (Array.getElem?_eq_some_iff.1 H).1]
  ·rfl
 rw[Y]at a;have b:(w.setCell ⟨g,i,none⟩ v).heap=w.heap:=by
  apply Array.ext_getElem?;intro k;by_cases e:k=g
  ·subst e;exact a.trans (Eq.symm h)
  ·exact Below.heap_setCell w ⟨g,i,none⟩ v k e
 obtain⟨heap,os,tape,output⟩:=w;simp only[World.setCell]at b ⊢;rw[b]
theorem Hg {fn:Func} {p q r:Tmp} (j:fn.results=#[.cell p tp,.cell q tq,.cell r tr]) (tmps:Array Value) (w:World)
 (h1:tmps.getD p undef = .pointer (some ⟨g1,0,none⟩)) (h2:tmps.getD q undef = .pointer (some ⟨g2,0,none⟩)) (h:tmps.getD r undef = .pointer (some ⟨g3,0,none⟩))
 (l1:(loadVar tp ⟨g1,0,none⟩).run P w = .ok v1 w) (l2:(loadVar tq ⟨g2,0,none⟩).run P w = .ok v2 w) (l3:(loadVar tr ⟨g3,0,none⟩).run P w = .ok v3 w) :
 (results fn tmps).run P w = .ok (.tuple #[v1,v2,v3]) w:=by
 rw[Array.getD_eq_getD_getElem?]at h1 h2 h;simp only[results,j];simp[Sem.run_bind,Result.andThen,h1,h2,h,asAddr,l1,l2,l3]
theorem Rw:Elem prog 22 24 1 24:=⟨underlying22,⟨_,_,rfl,rfl,rfl,rfl,rfl⟩,by omega,by omega⟩
theorem LG (A:Option Addr) (n c:Nat) (ew:Nat) (w:World) :
 Calls prog 93 #[.slice A n c,.pointer (some ⟨ew,0,none⟩)] w fun e w'=>∃b1 b2,e = .returned (.func (.func 144) #[] #[.pointer (some ⟨b1,0,none⟩),.pointer (some ⟨b2,0,none⟩)])/\Row w' b1 24 #[.slice A n c]/\Row w' b2 174 #[.pointer (some ⟨ew,0,none⟩)]/\w.heap.size<=b1/\w.heap.size<=b2/\b1<b2/\Ext w w':=by
 go_in
 go_wp2_with fail;go_ret;have h1:=Row.new w 24 #[.slice A n c];have h2:=Row.new (w.alloc (.cells #[.slice A n c] 24)) 174 #[.pointer (some ⟨ew,0,none⟩)];rw[World.size_alloc]at h2;exact⟨w.heap.size,w.heap.size+1,rfl,h1.alloc _,h2,Nat.le_refl _,by omega,by omega,((Ext.refl w).alloc _).alloc _⟩
theorem NU {base n c:Nat} (hb:Buf w base e A n c xs) (b:w.grownBy w1 (Value.slice A n c).ownBlock) (hk:k<base) (j:k<w.heap.size):w1.heap[k]? = w.heap[k]? :=
 b.block k j fun h=>by
  cases A with
  | none=>simp[Value.ownBlock]at h
  | some a =>
   have:=hb.base_le a rfl;simp[Value.ownBlock]at h;omega
theorem PayOk.grown {x:Pay} {base n c:Nat} (h:PayOk w x) (hb:Buf w base e A n c xs) (T:w.grownBy w1 (Value.slice A n c).ownBlock) (O:5≠e):PayOk w1 x:=by
 obtain⟨b,Y⟩:=h;refine⟨b,Y.grown T fun a U j=>?_⟩;rcases hb.2.2 with ⟨J,_⟩ | ⟨g',cur,H,_,Z,_⟩
 ·subst J;simp[Value.ownBlock]at j
 ·subst H;simp[Value.ownBlock]at j;exact Y.unlike Z O a U j.symm
theorem PayOk.set {x:Pay} (h:PayOk w x) (a:Row w g t cs) (ht:5≠t) (i:Nat) (u:Value):PayOk (w.setCell ⟨g,i,none⟩ u) x:=by
 obtain⟨b,j⟩:=h;exact⟨b,j.setCell (j.unlike a ht) u⟩
def SpI (h bs b1 b2:Nat) (V1:Value) (w:World) (pre:List Pay) (W:World):Prop :=
 ∃L c z,Row W h 22 #[.slice L pre.length c]/\Row W (h+1) 3 #[.int .i64 z]/\Row W (h+2) 25 #[.int .i64 0]/\Buf W bs 24 L pre.length c (pre.map Pay.val)/\(∀x∈pre,PayOk W x)/\Row W b1 24 #[V1]/\Row W b2 174 #[.pointer (some ⟨h+2,0,none⟩)]/\Ext w W/\bs<=W.heap.size
theorem PayOk.ext {x:Pay} (h:PayOk W x) (j:Ext W W1):PayOk W1 x:=by obtain⟨b,hb⟩:=h;exact⟨b,hb.ext j⟩
theorem PayOk.alike {x:Pay} (h:PayOk W x) (j:Alike B W W1):PayOk W1 x:=by obtain⟨b,hb⟩:=h;exact⟨b,j.buf hb⟩
theorem SpI.ext {h bs b1 b2:Nat} {pre:List Pay} (hi:SpI h bs b1 b2 V1 w pre W) (j:Ext W W1):SpI h bs b1 b2 V1 w pre W1:=by
 obtain⟨L,c,z,r1,r2,r3,hb,a,q1,q2,b,hs⟩:=hi;exact⟨L,c,z,r1.ext j,r2.ext j,r3.ext j,hb.ext j,fun x H=>(a x H).ext j,q1.ext j,q2.ext j,b.trans j,Nat.le_trans hs j.size⟩
theorem SpI.alike {h bs b1 b2 B:Nat} {pre:List Pay} (hi:SpI h bs b1 b2 V1 w pre W) (j:Alike B W W1) (b:w.heap.size<=B):SpI h bs b1 b2 V1 w pre W1:=by
 obtain⟨L,c,z,r1,r2,r3,hb,H,q1,q2,a,hs⟩:=hi;exact⟨L,c,z,j.row r1,j.row r2,j.row r3,j.buf hb,fun x Y=>(H x Y).alike j,j.row q1,j.row q2,j.ext a b,Nat.le_trans hs j.size⟩
def SplitW (w:World) (b:List UInt8) (e:Ending) (w':World):Prop:=∃L c z,∃ps:List Pay,e = .returned (.tuple #[.slice L ps.length c,.int .i64 z,.int .i64 ((splitF b).2:Int)])/\Cells w' L (ps.map Pay.val)/\pays ps=(splitF b).1/\(∀x∈ps,PayOk w' x)/\Ext w w'
theorem OC (A:Option Addr) (n c:Nat) (b:List UInt8) (w:World) (h:In8 w A n c b) (a2:n<=1000000000) :
 Calls prog 53 #[.slice A n c] w fun e w'=>SplitW w b e w':=by
 replace h:=Aa h;refine(callsIn_wide (n:=0)).1 ?_;refine callsIn_of_wp_marks func53 rfl trivial ?_;simp only[ntmps53,List.size_toArray,List.length_cons,List.length_nil,Nat.reduceAdd,Nat.reduceSub,Array.replicate_succ,Array.replicate_zero,List.push_toArray,List.append_toArray,List.nil_append,List.cons_append];gi_wp2_with fail;obtain⟨W3,Y⟩:=Ab (((w.alloc (Obj.cells #[Value.slice none 0 0] 22)).alloc (Obj.cells #[Value.int IntKind.i64 0] 3)).alloc (Obj.cells #[Value.int IntKind.i64 0] 25));rw[<-Y];obtain⟨h1,H⟩:=Ab w.heap.size;have q1:Row W3 h1 22 #[.slice none 0 0]:=by rw[Y,H];exact((Row.new w _ _).alloc _).alloc _
 have q2:Row W3 (h1+1) 3 #[.int .i64 0]:=by
  have:=Row.new (w.alloc (Obj.cells #[Value.slice none 0 0] 22)) 3 #[.int .i64 0];rw[World.size_alloc,<-H]at this;rw[Y];exact this.alloc _
 have q3:Row W3 (h1+2) 25 #[.int .i64 0]:=by
  have:=Row.new ((w.alloc (Obj.cells #[Value.slice none 0 0] 22)).alloc (Obj.cells #[Value.int IntKind.i64 0] 3)) 25 #[.int .i64 0];rw[World.size_alloc,World.size_alloc,<-H]at this;rw[Y];exact this
 have k0:Ext w W3:=by rw[Y];exact(((Ext.refl w).alloc _).alloc _).alloc _
 have e0:W3.heap.size=h1+3:=by rw[Y,H];simp
 rw[<-H];refine(callsIn_wide.2 (LG A n c (h1+2) W3)).mono ?_;rintro e w4 ⟨b1,b2,rfl,rb1,rb2,p2,j2,h3,a⟩;obtain⟨bs,x3⟩:=Ab w4.heap.size;have i0:SpI h1 bs b1 b2 (.slice A n c) w [] w4:=⟨none,0,0,q1.ext a,q2.ext a,q3.ext a,Buf.nil _ _ _,nofun,rb1,rb2,k0.trans a,by omega⟩
 have v0:=Kd A n c b h1 b1 b2 (h1+2) w w4 h.out (by omega) (k0.trans a) a2 rb1 rb2 (q3.ext a);rw[e0]at p2 j2;have j:w.heap.size<=w4.heap.size:=(k0.trans a).size;have p3:=rb2.lt;have m3:=(q3.ext a).lt;have j3:w.heap.size<=bs:=by omega
 replace i0:=Aa i0;replace v0:=Aa v0;replace Y:=Aa Y;replace H:=Aa H;clear q1 q2 q3 k0 a rb1 rb2 e0;gi_wp2_with fail;unfold FrIter at v0;refine C8 (gf:=144) (lb:=#[.pointer (some ⟨b1,0,none⟩),.pointer (some ⟨b2,0,none⟩)]) rfl (enters_of func144 (by kernel_rfl) rfl) v0.out (fun _=>rfl) (fun _ _ h=>h.others) ?fin (KeepS.trans h1 _) ?kb
  (fun pre W=>SpI h1 bs b1 b2 (.slice A n c) w pre W) (fun pre A B h ha=>h.alike ha j) (fun pre A B h T=>h.ext T) ?h0 ?hround ?hdone
 case fin =>
  rintro xs A B (⟨_,T⟩ | ⟨k,W3,_,_,T,rfl⟩)
  ·exact T.others
  ·exact T.others.trans (KeepsOthers.setCell _ _ _)
 case kb=>exact KeepS.alike (by omega) (fun k hk=>by omega)
 case h0=>exact fun W ha=>i0.out.alike ha j
 case hround =>
  rintro l pre ⟨P,cp,p,z⟩ W hI ⟨x0,r,n0⟩;unfold Pay.val;simp only;obtain⟨pl,y0⟩:=Ab p.length;rw[<-y0];replace y0:=Aa y0;replace hI:=Aa hI;replace x0:=Aa x0;replace n0:=Aa n0;gi_wp2_with fail;refine⟨KeepsOthers.refl _,KeepS.refl _ _ _,fun W2 f0=>?_⟩;have o1:=hI.out.alike f0 j;have p1:=Aa (x0.out.alike f0);clear f0 hI x0;obtain⟨L,cl,z0,r1,r2,r3,hb,I,g1,g2,G,m1⟩:=o1;have j1:pre.length<=4000000000:=by
   have h1:=JC b;rw[n0.out]at h1;simp only[pays,List.length_append,List.length_map,List.length_cons]at h1;have:=h.out.len;omega
  have k1:=r1.cell 0 rfl;have J:=Aa (hb.alloc (.cells #[.slice P pl cp] 24));have a1:=Aa (AN W2 [.slice P pl cp] 24);have x1:bs<=(W2.alloc (.cells #[.slice P pl cp] 24)).heap.size:=by rw[World.size_alloc];omega
  obtain⟨m,hm⟩:=Ab pre.length;rw[<-hm]at j1 k1 J r1 hb;replace hm:=Aa hm;replace r1:=Aa r1;replace r2:=Aa r2;replace r3:=Aa r3;replace hb:=Aa hb;replace I:=Aa I;replace g1:=Aa g1;replace g2:=Aa g2;replace G:=Aa G;obtain⟨Wa,Z⟩:=Ab (W2.alloc (.cells #[.slice P pl cp] 24));have j0:Ext W2 Wa:=by rw[Z];exact(Ext.refl W2).alloc _
  have m0:=Aa j0;have ra1:=Aa (r1.out.ext j0);have ra2:=Aa (r2.out.ext j0);rw[<-Z]at J a1 x1;replace Z:=Aa Z;clear j0;gi_wp2_with (gi_at_builtin;rw[<-Z.out];refine Bu Rw J.out a1.out (.tmp 11) (.tmp 13) rfl rfl rfl rfl rfl rfl (by simp[Value.oneCell']) (by omega) x1 (fun A6 c6 w6 g0 U o0 r0=>?_);have r16:=Cu J.out U ra1.out (by decide);have r26:=Cu J.out U ra2.out (by decide);have u1:=r16.cell 0 rfl;have u2:=r16.free 0;have r27:=r26.away (p:=⟨h1,0,none⟩) (by simp) (.slice A6 (m+1) c6);have u3:=r27.cell 0 rfl;have u4:=r27.free 0;replace r16:=Aa r16;replace r26:=Aa r26;replace r27:=Aa r27;replace g0:=Aa g0;replace U:=Aa U;replace o0:=Aa o0;replace r0:=Aa r0);have O:∀k,k<h1+3\/k=b1\/k=b2->k≠h1->k≠h1+1->((w6.setCell ⟨h1,0,none⟩ (.slice A6 (m+1) c6)).setCell ⟨h1+1,0,none⟩ (.int .i64 z)).heap[k]? = W2.heap[k]? :=fun k hk n1 n2=>by
   have y2:k<bs:=by omega
   rw[Below.heap_setCell _ _ _ k n2,Below.heap_setCell _ _ _ k n1,NU J.out U.out y2 (by omega)];exact Below.block m0.out k (by omega)
  have d1:∀w0:World,w0.heap.size<=h1->Ext w0 W2->Ext w0 ((w6.setCell ⟨h1,0,none⟩ (.slice A6 (m+1) c6)).setCell ⟨h1+1,0,none⟩ (.int .i64 z)):=fun w0 h0 T=>((o0.out w0 (T.trans m0.out) (by omega)).setCell (p:=⟨h1,0,none⟩) h0 _).setCell (p:=⟨h1+1,0,none⟩) (by show w0.heap.size<=h1+1;omega) _;have a3:=U.out.size;have m2:Buf ((w6.setCell ⟨h1,0,none⟩ (.slice A6 (m+1) c6)).setCell ⟨h1+1,0,none⟩ (.int .i64 z)) bs 24 A6 (m+1) c6 (pre.map Pay.val ++ [.slice P pl cp]):=by
   have q:=g0.out.setCell (p:=⟨h1,0,none⟩) (g0.out.unlike r16.out (by decide)) (.slice A6 (m+1) c6);exact q.setCell (p:=⟨h1+1,0,none⟩) (q.unlike r27.out (by decide)) _
  have d2:∀x∈pre ++ [(P,cp,p,z)],PayOk ((w6.setCell ⟨h1,0,none⟩ (.slice A6 (m+1) c6)).setCell ⟨h1+1,0,none⟩ (.int .i64 z)) x:=fun x hx=>by
   have i2:PayOk W2 x:=by
    rcases List.mem_append.1 hx with h | h
    ·exact I.out x h
    ·rw[List.mem_singleton.1 h];exact p1.out
   exact(((i2.ext m0.out).grown J.out U.out (by decide)).set r16.out (by decide) 0 _).set r27.out (by decide) 0 _
  refine⟨((m0.out.others.trans (BL J.out U.out)).trans (KeepsOthers.setCell _ _ _)).trans (KeepsOthers.setCell _ _ _),⟨d1,fun k hk o ho=>?_⟩,A6,c6,z,?_,?_,?_,?_,d2,?_,?_,d1 w (by have:=H.out;omega) G.out,?_⟩
  ·rw[O k (by omega) (by omega) (by omega)];exact ho
  ·rw[List.length_append,<-hm.out];exact(r16.out.put 0 _).away (by simp) _
  ·exact r27.out.put 0 _
  ·unfold Row;rw[O _ (by omega) (by omega) (by omega)];exact r3.out
  ·rw[List.length_append,<-hm.out,List.map_append];unfold Pay.val;simp only[List.map_cons,List.map_nil];rw[<-y0.out];exact m2
  ·unfold Row;rw[O _ (by omega) (by omega) (by omega)];exact g1.out
  ·unfold Row;rw[O _ (by omega) (by omega) (by omega)];exact g2.out
  ·simp;omega
 case hdone =>
  rintro D xs W2 W3 W4 hD hI hF hA hk;have h2:∃L c z,Row W4 h1 22 #[.slice L xs.length c]/\Row W4 (h1+1) 3 #[.int .i64 z]/\Row W4 (h1+2) 25 #[.int .i64 ((splitF b).2:Int)]/\Buf W4 bs 24 L xs.length c (xs.map Pay.val)/\(∀x∈xs,PayOk W4 x)/\Ext w W4/\pays xs=(splitF b).1:=by
   rcases hF with ⟨hs,T⟩ | ⟨k,W5,y3,hs,T,rfl⟩
   ·obtain⟨L,c,z,r1,r2,r3,hb,I,q1,q2,G,m1⟩:=(hI.ext T).alike hA j;rw[hs];exact⟨L,c,z,r1,r2,r3,hb,I,G,rfl⟩
   ·obtain⟨L,c,z,r1,r2,r3,hb,I,q1,q2,G,m1⟩:=hI.ext T;rw[hs];refine⟨L,c,z,hA.row (r1.away (by simp) _),hA.row (r2.away (by simp) _),hA.row (r3.put 0 _),hA.buf (hb.setCell (hb.unlike r3 (by decide)) _),fun x hx=>((I x hx).set r3 (by decide) 0 _).alike hA,hA.ext (G.setCell (by show w.heap.size<=h1+2;have:=H.out;omega) _) j,rfl⟩
  obtain⟨L,cl,z,r1,r2,r3,hb,I,G,l0⟩:=h2;have k1:=r1.cell 0 rfl;have k2:=r2.cell 0 rfl;have k3:=r3.cell 0 rfl;have f1:=r1.free 0;have f2:=r2.free 0;have f3:=r3.free 0;obtain⟨m,hm⟩:=Ab xs.length;rw[<-hm]at r1 k1 hb;obtain⟨ec,t0⟩:=Ab ((splitF b).2);rw[<-t0]at r3 k3;replace r1:=Aa r1;replace r2:=Aa r2;replace r3:=Aa r3;replace hb:=Aa hb;replace I:=Aa I;replace G:=Aa G;replace hm:=Aa hm;replace t0:=Aa t0;replace l0:=Aa l0;replace hk:=Aa hk;clear hI hF hA;gi_wp2_with fail;refine wpIn_wide.2 ?_;go_region;rw[show h1+1+1=h1+2 from rfl,r1.out.same rfl,r2.out.same rfl,r3.out.same rfl];gi_wp2_with fail;have x2:W4.drew.heap[D]? = some (.deferred (some [])):=hk.out;refine BR (B:=w4.heap.size) rfl x2 hD fun W ha=>⟨_,Hg rfl _ _ rfl rfl rfl (BX ((ha.row r1.out).cell 0 rfl) underlying22 rfl) (BX ((ha.row r2.out).cell 0 rfl) underlying3 rfl) (BX ((ha.row r3.out).cell 0 rfl) underlying25 rfl),L,cl,z,xs,?_,?_,l0.out,?_,?_⟩
  ·rw[<-hm.out,<-t0.out];rfl
  ·exact(ha.buf hb.out.drew).cells
  ·exact fun x hx=>((I.out x hx).ext (Ext.refl W4).drew).alike ha
  ·exact ha.ext G.out.drew j
end
section
open Go.RowKit
attribute [local go_sem] Oper.semAt_some AP Cp
theorem Jg (a b:List UInt8):(ByteArray.mk a.toArray++ByteArray.mk b.toArray)=⟨(a++b).toArray⟩:=by
 apply ByteArray.ext;rw[ByteArray.data_append];simp
theorem Lx:Elem prog 155 157 2 40:=⟨underlying155,⟨_,_,rfl,rfl,rfl,rfl,rfl⟩,by omega,by omega⟩
theorem DX (D:List TmV) (x:TmV):tcs (D ++ [x])=tcs D++tcell x:=by
 unfold tcs;rw[List.flatMap_append];simp
def oneT (l:List (List UInt8×Int)):List (List UInt8×List Int):=l.map fun p=>(p.1,[p.2])
theorem N2 (l:List (List UInt8×Int)) (p:List UInt8×Int):oneT (l ++ [p])=oneT l ++ [(p.1,[p.2])]:=by unfold oneT;rw[List.map_append];rfl
section
variable {w w1 w0:World} {base n:Nat} {e:TypeId} {size:Nat} {v:Value} {xs:List Value}
theorem Jn (H:w.ownsRow base e size v n xs) (a:w.grownBy w1 v.ownBlock) (j:Row w g t cs) (ht:t≠e):Row w1 g t cs :=
 j.grown a fun h=>by
  obtain⟨cur,b,_⟩:=Ae H h.symm;exact j.unlike b ht rfl
theorem FH (Y:w.ownsRow base e size v n xs) (a:w.grownBy w1 v.ownBlock):KeepsOthers w w1 :=
 KeepsOthers.of_grownBy a fun j o H h=>by
  obtain⟨cur,b,_⟩:=Ae Y H;unfold Row at b;rw[b]at h;injection h with h;subst h;rfl
theorem CX (b:w.ownsRow base e size v n xs) (j:w.grownBy w1 v.ownBlock) (h:Ext w0 w) (hb:w0.heap.size<=base):Ext w0 w1 :=
 h.grown j fun k hk=>by obtain⟨_,_,a⟩:=Ae b hk;omega
theorem Ci (J:w.ownsRow base e size v n xs) (Y:w.grownBy w1 v.ownBlock) {b:Nat} (hb:Buf w b t A m c ys) (ht:t≠e):Buf w1 b t A m c ys :=
 hb.grown Y fun a j h=>by
  obtain⟨cur,H,_⟩:=Ae J h;exact hb.unlike H ht a j rfl
end
theorem FU {l x:List UInt8} (h:x∈tokL l):x.length<=32:=by
 unfold tokL at h;obtain⟨y,_,rfl⟩:=List.mem_map.1 h;exact JZ y [] (by simp)
theorem Iv {base:Nat} {f:Fd} {x:List UInt8} (h:(tokL f.2)[i]? = some x):(fieldT base f)[i]? = some (f.1++58::x,((base+i:Nat):Int)):=by
 unfold fieldT;rw[List.getElem?_map,List.getElem?_zipIdx,h];simp
theorem CH:∀(fs:List Fd) (b:Nat),(∀f∈fs,f.2.length<=k)->(rawT b fs).length<=k*fs.length
 | [],b,_=>by simp[rawT]
 | f::fs,b,h=>by
  have h1:=CH fs (nextT b f) fun g j=>h g (List.mem_cons_of_mem _ j);have h2:=CK f.2;have a:=h f (List.mem_cons_self ..);unfold rawT;rw[List.length_append,CB,List.length_cons,Nat.mul_add];omega
theorem EN:∀(fs:List Fd) (b:Nat),(∀f∈fs,f.2.length<=k)->baseT b fs<=b+(64+k)*fs.length
 | [],b,_=>by simp[baseT]
 | f::fs,b,h=>by
  have h1:=EN fs (nextT b f) fun g j=>h g (List.mem_cons_of_mem _ j);have h2:=CK f.2;have a:=h f (List.mem_cons_self ..);unfold baseT;unfold nextT at h1 ⊢;rw[List.length_cons,Nat.mul_add];omega
theorem JF {l:List (List UInt8)} {x:List UInt8} (b:l[i]? = some x) {j:Nat} (h:j<2):(tkV l)[i*2+j]? = [Value.string ⟨x.toArray⟩,.int .i64 (i:Int)][j]? :=by
 unfold tkV;refine AW (cellsA:=fun p:List UInt8×Nat=> [Value.string ⟨p.1.toArray⟩,.int .i64 (p.2:Int)]) (k:=2) (fun _=>rfl) l.zipIdx i (x,i) j ?_ h;rw[List.getElem?_zipIdx,b];simp
theorem Si {base n c:Nat} {l:List (List UInt8)} (h:w.ownsRow base 207 2 (.slice A n c) n (tkV l)) (hk:∀g cs,Row w g 207 cs->Row w1 g 207 cs) {x:List UInt8} (a:l[i]? = some x) :
 ∃g o,A=some ⟨g,o,none⟩/\w1.cell? ⟨g,o+i*2,none⟩=some (.string ⟨x.toArray⟩)/\w1.cell? ⟨g,o+i*2+1,none⟩=some (.int .i64 (i:Int)):=by
 have H:=JF a (j:=0) (by omega);have h1:=JF a (j:=1) (by omega);rcases h with ⟨T,⟨_,h2⟩ | ⟨g,cap,cur,J,hb,Y,hn,U,hs,ht⟩⟩
 ·have:=(List.getElem?_eq_some_iff.1 a).1;have O:(tkV l).length=l.length*2:=by unfold tkV;rw[AU (cellsA:=fun p:List UInt8×Nat=> [Value.string ⟨p.1.toArray⟩,.int .i64 (p.2:Int)]) (k:=2) (fun _=>rfl),List.length_zipIdx]
  omega
 ·cases J;have key:∀(j:Nat) (v:Value),(tkV l)[j]? = some v->w1.cell? ⟨g,j,none⟩=some v:=fun j v b=>by
   rw[(hk g cur Y).get];rw[<-ht,List.getElem?_take]at b;split at b
   ·simpa using b
   ·cases b
  exact⟨g,0,rfl,by rw[Nat.zero_add];exact key _ _ H,by rw[Nat.zero_add];exact key _ _ h1⟩
def TI (base h:Nat) (Z:List (List UInt8×Int)) (w W:World):Prop :=
 ∃L c D,Row W h 155 #[.slice L D.length c]/\W.ownsRow base 157 2 (.slice L D.length c) D.length (tcs D)/\TmsOk W base D (oneT Z)/\Ext w W
theorem TI.ext {base h:Nat} {Z:List (List UInt8×Int)} (hi:TI base h Z w W) (j:Ext W W1):TI base h Z w W1:=by
 obtain⟨L,c,D,r,o,t,e⟩:=hi;exact⟨L,c,D,r.ext j,j.owns o,t.ext j,e.trans j⟩
theorem TI.alike {base h B:Nat} {Z:List (List UInt8×Int)} (hi:TI base h Z w W) (j:Alike B W W1) (b:w.heap.size<=B):TI base h Z w W1:=by
 obtain⟨L,c,D,r,o,t,e⟩:=hi;exact⟨L,c,D,j.row r,j.owns o,t.keep fun _ _ _ _ hb=>j.buf hb,j.ext e b⟩
def ptsOf (w:World) (x:Option Addr×Nat×Nat):List Int:=match x.1 with
 | none=> []
 | some a=>(List.range x.2.1).map fun i=>match w.cell? ⟨a.block,a.off+i,none⟩with
  | some (.int _ z)=>z
  | _=>0
theorem N6 {base:Nat} {l:List Int} (h:Buf w base t A n c (l.map IV)):ptsOf w (A,n,c)=l:=by
 have j:=h.cells;have H:=h.1;rw[List.length_map]at H;unfold ptsOf;rcases j with j | ⟨g,o,rfl,j⟩
 ·have:l = []:=List.map_eq_nil_iff.1 j;subst this;cases A with
  | none=>rfl
  | some a =>
   simp only;simp at H;rw[<-H];rfl
 ·simp only;apply List.ext_getElem?;intro i;rw[List.getElem?_map];show Option.map _ ((List.range n)[i]?)=_;by_cases hi:i<n
  ·rw[List.getElem?_range hi];have b:i<l.length:=by omega
   have:=j i (IV l[i]) (by rw[List.getElem?_map,List.getElem?_eq_getElem b];rfl);simp only[Option.map_some,this,IV];rw[List.getElem?_eq_getElem b]
  ·rw[List.getElem?_eq_none (by rw[List.length_range];omega),List.getElem?_eq_none (by omega)];rfl
end
section
open Go.RowKit
theorem Dw {e:Ev} {p:List UInt8×List Int} (h:p∈termsL e):checkE e.fs=0/\p.2=valsOf (rawT 0 e.fs) p.1/\p.2 ≠ []:=by
 unfold termsL at h;split at h
 ·rename_i j;exact⟨j,((BM _).mem p).1 h⟩
 ·cases h
theorem Ky:∀(fs:List Fd) (b:Nat) (q:List UInt8×Int),q∈rawT b fs->∃f∈fs,∃w∈tokL f.2,q.1=f.1++58::w
 | [],b,q,h=>by cases h
 | f::fs,b,q,h=>by
  unfold rawT at h;rcases List.mem_append.1 h with h | h
  ·unfold fieldT at h;obtain⟨p,H,rfl⟩:=List.mem_map.1 h;obtain⟨w,i⟩:=p;have:=List.mem_zipIdx H;exact⟨f,List.mem_cons_self ..,w,by rw[this.2.2];exact List.getElem_mem _,rfl⟩
  ·obtain⟨g,a,w,Y,j⟩:=Ky fs _ q h;exact⟨g,List.mem_cons_of_mem _ a,w,Y,j⟩
theorem Fv {β:Type} {ps:List (List UInt8×β)} (h:valsOf ps s ≠ []):∃p∈ps,p.1=s:=Decidable.byContradiction fun hn=>h (Df fun p j e=>hn ⟨p,j,e⟩)
theorem HM {β:Type} (ps:List (List UInt8×β)) (s:List UInt8):(valsOf ps s).length<=ps.length:=by
 unfold valsOf;rw[List.length_map];exact List.length_filter_le ..
theorem EH {e:Ev} {p:List UInt8×List Int} (h:p∈termsL e):1<=p.1.length/\p.1.length<=65:=by
 obtain⟨b,h1,h2⟩:=Dw h;rw[h1]at h2;obtain⟨q,J,j⟩:=Fv h2;obtain⟨f,H,w,U,a⟩:=Ky _ _ q J;have Y:=(AM b).2 f H;have O:=FU U;rw[<-j,a,List.length_append,List.length_cons];omega
theorem Jd {e:Ev} {p:List UInt8×List Int} (h:p∈termsL e):p.2.length<=65536:=by
 obtain⟨j,h1,h2⟩:=Dw h;have a:=HM (rawT 0 e.fs) p.1;have H:=CH (k:=4096) e.fs 0 fun f b=>((AM j).2 f b).2;have Y:=(AM j).1;rw[h1];omega
theorem JI {β:Type} (p:List UInt8×β):∀(l:List (List UInt8×List β)),(addG p l).length<=l.length+1
 | []=>by simp[addG]
 | x::xs=>by
  have:=JI p xs;unfold addG;split
  ·simp only[List.length_cons];omega
  ·split
   ·simp only[List.length_cons];omega
   ·simp only[List.length_cons];omega
theorem Iy {β:Type}:∀(ps:List (List UInt8×β)) (l:List (List UInt8×List β)),(ps.foldl (fun l p=>addG p l) l).length<=l.length+ps.length
 | [],l=>by simp
 | p::ps,l=>by
  have h1:=Iy ps (addG p l);have h2:=JI p l;rw[List.foldl_cons,List.length_cons];omega
theorem EX {β:Type} (ps:List (List UInt8×β)):(grp ps).length<=ps.length:=by
 have:=Iy ps [];unfold grp;simpa using this
theorem MD (e:Ev):(termsL e).length<=65536:=by
 unfold termsL;split
 ·rename_i h;have b:=EX (rawT 0 e.fs);have a:=CH (k:=4096) e.fs 0 fun f j=>((AM h).2 f j).2;have H:=(AM h).1;omega
 ·simp
end
section
open Go.RowKit
section
variable {β:Type}
def gsum (f:β->Nat) (r:List (List UInt8×List β)):Nat:=(r.map fun x=>(x.2.map f).sum).sum
theorem Ki (f:β->Nat) (p:List UInt8×β):∀(l:List (List UInt8×List β)),gsum f (addG p l)=gsum f l+f p.2
 | []=>by simp[addG,gsum]
 | x::xs=>by
  have ih:=Ki f p xs;unfold gsum at ih ⊢;unfold addG;split
  ·simp only[List.map_cons,List.sum_cons];omega
  ·split
   ·simp only[List.map_cons,List.sum_cons,List.map_append,List.sum_append,List.map_nil,List.sum_nil];omega
   ·simp only[List.map_cons,List.sum_cons,List.map_nil,List.sum_nil];omega
theorem IC (f:β->Nat):∀(ps:List (List UInt8×β)) (l:List (List UInt8×List β)),gsum f (ps.foldl (fun l p=>addG p l) l)=gsum f l+(ps.map fun p=>f p.2).sum
 | [],l=>by simp
 | p::ps,l=>by
  rw[List.foldl_cons,IC f ps,Ki,List.map_cons,List.sum_cons];omega
theorem EZ (f:β->Nat) (ps:List (List UInt8×β)):gsum f (grp ps)=(ps.map fun p=>f p.2).sum:=by
 unfold grp;rw[IC];simp[gsum]
theorem GR (r:List (List UInt8×List β)):gsum (fun _=>1) r=(r.map fun x=>x.2.length).sum:=by
 unfold gsum;congr 1;refine List.map_congr_left fun x _=>?_
 induction x.2 with
 | nil=>rfl
 | cons y ys ih=>rw[List.map_cons,List.sum_cons,ih,List.length_cons];omega
theorem JE (ps:List β):(ps.map fun _=>1).sum=ps.length:=by
 induction ps with
 | nil=>rfl
 | cons y ys ih=>rw[List.map_cons,List.sum_cons,ih,List.length_cons];omega
end
theorem Hf:∀(fs:List Fd) (b:Nat),(rawT b fs).length<=(putFs fs).length
 | [],b=>by simp[rawT]
 | f::fs,b=>by
  have h1:=Hf fs (nextT b f);have h2:=CK f.2;have j:f.2.length<=(putF f).length:=by unfold putF txL;simp only[List.length_append];omega
  have h:putFs (f::fs)=putF f++putFs fs:=rfl;unfold rawT;rw[h,List.length_append,CB,List.length_append];omega
theorem MF (e:Ev):((termsL e).map fun p=>p.2.length).sum<=(putE e).length:=by
 unfold termsL;split
 ·have h1:=EZ (fun _=>1) (rawT 0 e.fs);rw[GR,JE]at h1;rw[h1];have h2:=Hf e.fs 0;unfold putE;simp only[List.length_append];omega
 ·simp
theorem K3 (e:Ev):(termsL e).length<=(putE e).length:=by
 unfold termsL;split
 ·have h1:=EX (rawT 0 e.fs);have h2:=Hf e.fs 0;unfold putE;simp only[List.length_append];omega
 ·simp
theorem G6:∀(P:List Dc) (i:Nat) (lo:Int),((pairsD i P).map fun p=>p.2.2.length).sum<=(blockD lo P).length
 | [],i,lo=>by simp[pairsD]
 | d::t,i,lo=>by
  have h1:=G6 t (i+1) d.1;have h2:=MF d.2;unfold pairsD blockD oneD;rw[List.map_append,List.sum_append,List.map_map];simp only[List.length_append];have h:(((termsL d.2).map ((fun(p:List UInt8×Po)=>p.2.2.length)∘fun p=>(p.1,((i:Int),p.2))))).sum=((termsL d.2).map fun p=>p.2.length).sum:=rfl;omega
theorem G4:∀(P:List Dc) (i:Nat) (lo:Int),(pairsD i P).length<=(blockD lo P).length
 | [],i,lo=>by simp[pairsD]
 | d::t,i,lo=>by
  have h1:=G4 t (i+1) d.1;have h2:=K3 d.2;unfold pairsD blockD oneD;rw[List.length_append,List.length_map];simp only[List.length_append];omega
theorem Nc {n:Int}:∀ {l:List Int} {lo:Int},l.Pairwise (fun a b=>a<b)->(∀x∈l,lo<x/\x<n)->risB n lo l=true
 | [],lo,_,_=>rfl
 | x::t,lo,Y,h=>by
  obtain⟨h1,h2⟩:=List.pairwise_cons.1 Y;have j:=h x (List.mem_cons_self ..);unfold risB;rw[Nc h2 fun y H=>⟨h1 y H,(h y (List.mem_cons_of_mem _ H)).2⟩];simp[j.1,j.2]
theorem Nb:∀(fs:List Fd) (b:Nat),(rawT b fs).Pairwise (fun x y=>x.2<y.2)/\∀x∈rawT b fs,(b:Int)<=x.2/\x.2<(baseT b fs:Nat)
 | [],b=>⟨List.Pairwise.nil,nofun⟩
 | f::fs,b=>by
  obtain⟨h1,h2⟩:=Nb fs (nextT b f);have Y:nextT b f<=baseT (nextT b f) fs:=by
   have key:∀(fs:List Fd) (b:Nat),b<=baseT b fs:=fun fs=>by
    induction fs with
    | nil=>exact fun b=>Nat.le_refl _
    | cons g gs ih=>exact fun b=>Nat.le_trans (by unfold nextT;omega) (ih (nextT b g))
   exact key _ _
  have U:nextT b f=b+(64+(tokL f.2).length):=rfl;have a:∀x∈fieldT b f,(b:Int)<=x.2/\x.2<(b+(tokL f.2).length:Nat):=fun x h=>by
   unfold fieldT at h;obtain⟨p,O,rfl⟩:=List.mem_map.1 h;have:=List.mem_zipIdx O;simp only;omega
  have H:(fieldT b f).Pairwise (fun x y=>x.2<y.2):=by
   unfold fieldT;rw[List.pairwise_map];rw[List.pairwise_iff_getElem];intro i j hi Z J;simp only[List.getElem_zipIdx];omega
  unfold rawT baseT;refine⟨List.pairwise_append.2 ⟨H,h1,fun x h y T=>?_⟩,fun x h=>?_⟩
  ·have a1:=a x h;have a2:=h2 y T;omega
  ·rcases List.mem_append.1 h with h | h
   ·have a1:=a x h;omega
   ·have a2:=h2 x h;omega
theorem ME {e:Ev} {p:List UInt8×List Int} (h:p∈termsL e):risB 1048576 (-1) p.2=true:=by
 obtain⟨j,h1,h2⟩:=Dw h;obtain⟨r1,r2⟩:=Nb e.fs 0;have hb:=EN (k:=4096) e.fs 0 fun f b=>((AM j).2 f b).2;have Y:=(AM j).1;rw[h1];unfold valsOf;refine Nc ?_ fun x H=>?_
 ·rw[List.pairwise_map];exact r1.sublist List.filter_sublist
 ·obtain⟨q,a,rfl⟩:=List.mem_map.1 H;have:=r2 q (List.mem_filter.1 a).1;omega
theorem KD {β:Type} {s:List UInt8}:∀ {l:List (List UInt8×β)},Ris l->(valsOf l s).length<=1
 | [],_=>by simp[valsOf]
 | x::t,h=>by
  obtain⟨h1,h2⟩:=List.pairwise_cons.1 h;have ih:=KD (s:=s) h2;rw[K7];split
  ·rename_i j;rw[Df fun y b e=>by
    have:=h1 y b;rw[e,j]at this;exact List.lt_irrefl _ this]
   simp
  ·simpa using ih
theorem ED (s:List UInt8):∀(P:List Dc) (i:Nat) (lo:Int),lo<i->i+P.length<=65536 ->
 risB 65536 lo ((valsOf (pairsD i P) s).map (·.1))=true/\∀x∈valsOf (pairsD i P) s,(decide (0<x.2.length)&&risB 1048576 (-1) x.2)=true
 | [],i,lo,_,_=>⟨rfl,nofun⟩
 | d::t,i,lo,h1,h2=>by
  rw[List.length_cons]at h2;unfold pairsD;rw[AK,EJ (fun x:List Int=>((i:Int),x))];have J:Ris (termsL d.2):=by
   unfold termsL;split
   ·exact(BM _).up
   ·exact List.Pairwise.nil
  have j:=KD (s:=s) J;have h:∀x∈valsOf (termsL d.2) s,(decide (0<x.length)&&risB 1048576 (-1) x)=true:=fun x Y=>by
   unfold valsOf at Y;obtain⟨p,b,rfl⟩:=List.mem_map.1 Y;have b:=(List.mem_filter.1 b).1;rw[ME b,Bool.and_true];exact decide_eq_true (List.length_pos_iff.2 (Dw b).2.2)
  cases U:valsOf (termsL d.2) s with
  | nil =>
   have ih:=ED s t (i+1) lo (by omega) (by omega);simpa using ih
  | cons x xs =>
   rw[U]at j h;have a:xs = []:=by
    cases xs with
    | nil=>rfl
    | cons y ys=>simp at j
   subst a;have ih:=ED s t (i+1) i (by omega) (by omega);refine⟨?_,fun y H=>?_⟩
   ·show risB 65536 lo ((i:Int)::(valsOf (pairsD (i+1) t) s).map (·.1))=true;unfold risB;rw[ih.1];simp[h1];omega
   ·rcases List.mem_cons.1 H with rfl | H
    ·exact h x (List.mem_cons_self ..)
    ·exact ih.2 y H
theorem Q5 {P:List Dc} (a:P.length<=65536) {r:List UInt8×List Po} (b:r∈rowsD P):okPs r.2=true/\r.2 ≠ []/\r.2=valsOf (pairsD 0 P) r.1:=by
 have h:=((BM (pairsD 0 P)).mem r).1 b;have j:=ED r.1 P 0 (-1) (by omega) (by omega);rw[<-h.1]at j;refine⟨?_,h.2,h.1⟩;unfold okPs;rw[j.1,Bool.true_and];exact List.all_eq_true.2 j.2
theorem G5:∀ {P:List Dc} {i:Nat} {q:List UInt8×Po},q∈pairsD i P->∃d∈P,∃p∈termsL d.2,p.1=q.1
 | [],i,q,h=>by cases h
 | d::t,i,q,h=>by
  unfold pairsD at h;rcases List.mem_append.1 h with h | h
  ·obtain⟨p,j,rfl⟩:=List.mem_map.1 h;exact⟨d,List.mem_cons_self ..,p,j,rfl⟩
  ·obtain⟨d',hd,r⟩:=G5 h;exact⟨d',List.mem_cons_of_mem _ hd,r⟩
theorem DW {P:List Dc} {r:List UInt8×List Po} (Y:r∈rowsD P):1<=r.1.length/\r.1.length<=65:=by
 have h:=((BM (pairsD 0 P)).mem r).1 Y;have h2:=h.2;rw[h.1]at h2;obtain⟨q,H,b⟩:=Fv h2;obtain⟨d,_,p,a,j⟩:=G5 H;have:=EH a;rw[j,b]at this;exact this
theorem Jx (P:List Dc):Ris (rowsD P):=(BM (pairsD 0 P)).up
theorem Ja:∀(l:List Int) (lo:Int),-1<=lo->risB 1048576 lo l=true->(stepsL lo l).length<=10*l.length
 | [],lo,_,_=>by simp[stepsL]
 | n::t,lo,b,h=>by
  obtain⟨h1,h2,j⟩:=BW h;have ih:=Ja t n (by omega) j;have a:=Ag (n:=(n - lo - 1).toNat) (by omega);unfold stepsL;rw[List.length_append,List.length_cons];omega
theorem Gz:∀(L:List Po) (lo:Int),-1<=lo->risB 65536 lo (L.map (·.1))=true->(∀x∈L,(decide (0<x.2.length)&&risB 1048576 (-1) x.2)=true)->(blockPo lo L).length<=20*L.length+10*(L.map fun x=>x.2.length).sum
 | [],lo,_,_,_=>by simp[blockPo]
 | p::t,lo,U,h,b=>by
  rw[List.map_cons]at h;obtain⟨h1,h2,a⟩:=BW h;have j:=b p (List.mem_cons_self ..);rw[Bool.and_eq_true]at j;have ih:=Gz t p.1 (by omega) a fun x J=>b x (List.mem_cons_of_mem _ J);have hs:=Ja p.2 (-1) (by omega) j.2;have O:=DU j.2 (by omega);have H:=Ag (n:=(p.1 - lo - 1).toNat) (by omega);have Y:=Ag (n:=p.2.length) (by omega);unfold blockPo onePo;simp only[List.length_append,List.length_cons,List.map_cons,List.sum_cons];omega
theorem GA {L:List Po} (h:okPs L=true):(blockPo (-1) L).length<=20*L.length+10*(L.map fun x=>x.2.length).sum:=by
 unfold okPs at h;rw[Bool.and_eq_true]at h;exact Gz L (-1) (by omega) h.1 (List.all_eq_true.1 h.2)
theorem J7 {L:List Po} (h:okPs L=true) (hs:20*L.length+10*(L.map fun x=>x.2.length).sum<=50000000):(encPs L).length<=10+40*L.length+10*(L.map fun x=>x.2.length).sum:=by
 have h1:=GA h;have h2:=E8 h (by omega) (chunkL 32 L).length;rw[List.take_length]at h2;have j:=AO (k:=32) (by omega) L;have b:=Ag (n:=L.length) (by omega);unfold encPs;simp only[List.length_append];omega
end
section
open Go.RowKit
theorem F5 {α:Type} {f g:α->Nat}:∀(l:List α),(∀x∈l,f x<=g x)->(l.map f).sum<=(l.map g).sum
 | [],_=>Nat.le_refl _
 | x::t,h=>by
  have h1:=h x (List.mem_cons_self ..);have h2:=F5 t fun y j=>h y (List.mem_cons_of_mem _ j);simp only[List.map_cons,List.sum_cons];omega
theorem Dq {α:Type} {f:α->Nat}:∀ {l:List α} {x:α},x∈l->f x<=(l.map f).sum
 | y::t,x,h=>by
  rw[List.map_cons,List.sum_cons];rcases List.mem_cons.1 h with rfl | h
  ·omega
  ·have:=Dq (f:=f) h;omega
theorem Nh {α:Type} (f g:α->Nat) (a b c:Nat):∀(l:List α),(l.map fun x=>a+b*f x+c*g x).sum=a*l.length+b*(l.map f).sum+c*(l.map g).sum
 | []=>by simp
 | x::t=>by
  have ih:=Nh f g a b c t;simp only[List.map_cons,List.sum_cons,List.length_cons,Nat.mul_add];omega
theorem N5 (rs:List (List UInt8×List Po)):(postB rs).length=(rs.map fun r=>(encPs r.2).length).sum:=by
 unfold postB
 induction rs with
 | nil=>rfl
 | cons r t ih=>rw[List.flatMap_cons,List.length_append,ih,List.map_cons,List.sum_cons]
theorem Cc:∀(rs:List (List UInt8×List Po)) (o:Nat),(enOf o rs).length=rs.length
 | [],o=>rfl
 | r::t,o=>by
  unfold enOf;rw[List.length_cons,Cc t,List.length_cons]
theorem GH:∀(rs:List (List UInt8×List Po)) (o:Nat) (e:En),e∈enOf o rs->∃r∈rs,e.t=r.1/\o<=e.off/\e.off+e.len<=o+(postB rs).length/\e.len=(encPs r.2).length/\e.n=r.2.length
 | [],o,e,h=>by cases h
 | r::t,o,e,h=>by
  unfold enOf at h;have b:(postB (r::t)).length=(encPs r.2).length+(postB t).length:=by unfold postB;rw[List.flatMap_cons,List.length_append]
  rcases List.mem_cons.1 h with rfl | h
  ·exact⟨r,List.mem_cons_self ..,rfl,Nat.le_refl _,by simp only[b];omega,rfl,rfl⟩
  ·obtain⟨r',j,h1,h2,Y,a,H⟩:=GH t _ e h;exact⟨r',List.mem_cons_of_mem _ j,h1,by omega,by rw[b];omega,a,H⟩
theorem MU:∀(rs:List (List UInt8×List Po)) (o:Nat),Ris rs->(enOf o rs).Pairwise fun a b=>a.t<b.t
 | [],o,_=>List.Pairwise.nil
 | r::t,o,h=>by
  obtain⟨h1,h2⟩:=List.pairwise_cons.1 h;unfold enOf;refine List.pairwise_cons.2 ⟨fun e Y=>?_,MU t _ h2⟩;obtain⟨r',j,H,_⟩:=GH t _ e Y;rw[H];exact h1 r' j
structure SmP (P:List Dc):Prop where
  ok:okDs P=true
  sz:(blockD 0 P).length<=70000
structure SegB (P:List Dc):Prop where
  n:P.length<=65536
  pairs:(pairsD 0 P).length<=70000
  rows:(rowsD P).length<=70000
  each:∀r∈rowsD P,okPs r.2=true/\r.2 ≠ []/\r.2.length<=70000/\(blockPo (-1) r.2).length<=50000000/\(encPs r.2).length<=5000000
  posts:(postB (rowsD P)).length<=5000000
  ens:OkEs (enOf 0 (rowsD P))
  dic:(encEs (enOf 0 (rowsD P))).length<=16777216
  docs:(encDs P).length<=16777216
  times:(timesD 0 P).length<=16777216
  bits:8<=(ofB ((rowsD P).map (·.1))).length/\(ofB ((rowsD P).map (·.1))).length<=131072
theorem SmP.seg {P:List Dc} (h:SmP P):SegB P:=by
 have b:=h.ok;have k0:=h.sz;have hn:P.length<=65536:=by
  unfold okDs at b;rw[Bool.and_eq_true]at b;exact of_decide_eq_true b.1
 have I:=G4 P 0 0;have h0:=G6 P 0 0;have p0:(rowsD P).length<=(pairsD 0 P).length:=EX _;have Y:=EZ (fun _=>1) (pairsD 0 P);rw[GR,JE]at Y;have J:=EZ (fun x:Po=>x.2.length) (pairsD 0 P);unfold gsum at J;have Z:grp (pairsD 0 P)=rowsD P:=rfl;rw[Z]at Y J;have H:∀r∈rowsD P,okPs r.2=true/\r.2 ≠ []/\r.2.length<=70000/\(r.2.map fun x=>x.2.length).sum<=70000:=fun r j=>by
  have h1:=Q5 hn j;have h2:=Dq (f:=fun x:List UInt8×List Po=>x.2.length) j;have U:=Dq (f:=fun x:List UInt8×List Po=>(x.2.map fun(y:Po)=>y.2.length).sum) j;exact⟨h1.1,h1.2.1,by omega,by omega⟩
 have T:(postB (rowsD P)).length<=5000000:=by
  rw[N5];refine Nat.le_trans (F5 (g:=fun r:List UInt8×List Po=>10+40*r.2.length+10*(r.2.map fun(x:Po)=>x.2.length).sum) _ fun r j=>?_) ?_
  ·have:=H r j;exact J7 this.1 (by omega)
  ·rw[Nh (fun r:List UInt8×List Po=>r.2.length) (fun r:List UInt8×List Po=>(r.2.map fun(x:Po)=>x.2.length).sum)];omega
 have a:∀e∈enOf 0 (rowsD P),okEn e/\e.t ≠ []:=fun e O=>by
  obtain⟨r,j,h1,h2,U,h4,h5⟩:=GH _ _ e O;have hk:=DW j;have q0:=H r j;refine⟨⟨by rw[h1];exact hk.2,by omega,by omega,by omega⟩,fun e0=>?_⟩;rw[h1]at e0;rw[e0]at hk;simp at hk
 refine⟨hn,by omega,by omega,fun r j=>?_,T,⟨by rw[Cc];omega,a,MU _ _ (Jx P)⟩,?_,?_,?_,?_⟩
 ·have h1:=H r j;have h2:=GA h1.1;have U:=J7 h1.1 (by omega);exact⟨h1.1,h1.2.1,h1.2.2.1,by omega,by omega⟩
 ·have h1:=EE (cs:=chunkL 16 (enOf 0 (rowsD P))) fun c G=>⟨fun e O=>(a e (GB (by omega) G e O)).1,(Fz (by omega) G).2⟩
  have h2:=AO (k:=16) (by omega) (enOf 0 (rowsD P));rw[Cc]at h2;have U:=Ag (n:=(enOf 0 (rowsD P)).length) (by rw[Cc];omega);unfold encEs;rw[List.length_append];omega
 ·have h1:=Gy b (by omega) (chunkL 16 P).length;rw[List.take_length]at h1;have h2:=AO (k:=16) (by omega) P;have U:=Ag (n:=P.length) (by omega);unfold encDs;simp only[List.length_append];omega
 ·have:=Dx P 0;omega
 ·rw[QW];exact EU _
end
section
open Go.RowKit Go.Maps
open Go
structure MapL (P:Program) (k:TypeId) (w:World) (m:Nat) (L:List (Value×Value)):Prop where
  ex:∃es clock,w.heap[m]? = some (.map es clock)/\es.toList.map (fun e=>(e.key,e.val))=L/\es.toList.Pairwise (fun a b=>a.born≠b.born)/\∀e∈es.toList,e.born<clock
  keys:∀p∈L,∃l,keyOf P k p.1=some l
  nodup:(L.map Prod.fst).Nodup
section
variable {P:Program} {k:TypeId} {w w1:World} {m:Nat} {L:List (Value×Value)}
theorem MapL.keep (h:MapL P k w m L) (hb:w1.heap[m]? = w.heap[m]?):MapL P k w1 m L:=by
 obtain⟨⟨es,cl,h1,h2⟩,j,b⟩:=h;exact⟨⟨es,cl,hb.trans h1,h2⟩,j,b⟩
theorem MapL.lt (h:MapL P k w m L):m<w.heap.size:=by
 obtain⟨⟨es,cl,h1,_⟩,_⟩:=h;exact(Array.getElem?_eq_some_iff.1 h1).1
theorem MapL.ext (h:MapL P k w m L) (j:Ext w w1):MapL P k w1 m L:=h.keep (Below.block j m h.lt)
theorem MapL.grown {row:Option Nat} (h:MapL P k w m L) (b:w.grownBy w1 row) (j:row≠some m):MapL P k w1 m L:=h.keep (b.block m h.lt (fun e=>j e.symm))
theorem MapL.drew (h:MapL P k w m L):MapL P k w.drew m L:=h.keep rfl
theorem MapL.alloc (h:MapL P k w m L) (o:Obj):MapL P k (w.alloc o) m L:=h.keep (Below.heap_alloc w o m h.lt)
theorem MapL.made (w:World):MapL P k (w.alloc (.map #[] 0)) w.heap.size [] :=
 ⟨⟨#[],0,heap_alloc_new w _,rfl,List.Pairwise.nil,by simp⟩,by simp,by simp⟩
theorem MapL.unique {x u v:Value} (h:MapL P k w m L) (j:(x,u)∈L) (b:(x,v)∈L):u=v:=by
 have hn:=h.nodup;clear h
 induction L with
 | nil=>cases j
 | cons p L ih =>
  simp only[List.map_cons,List.nodup_cons]at hn;rcases List.mem_cons.1 j with h1 | h1 <;> rcases List.mem_cons.1 b with h2 | h2
  ·rw[<-h1]at h2;exact(Prod.mk.inj h2).2.symm
  ·exfalso;apply hn.1;rw[<-h1];exact List.mem_map.2 ⟨_,h2,rfl⟩
  ·exfalso;apply hn.1;rw[<-h2];exact List.mem_map.2 ⟨_,h1,rfl⟩
  ·exact ih h1 h2 hn.2
theorem MapL.find (h:MapL P k w m L) (K:Keyed P k) {x:Value} {l:Lit} (O:keyOf P k x=some l) {es:Array MapEntry} (hb:w.heap[m]? = some (.map es cl)) (W:World) :
 ((Instr.findKey k x es.toList).run P W = .ok none W/\∀p∈L,p.1≠x) \/
 ∃j e,(Instr.findKey k x es.toList).run P W = .ok (some (j,e.val)) W/\es[j]? = some e/\e.key=x/\(x,e.val)∈L:=by
 obtain⟨⟨es',cl',h1,h2,_⟩,U,_⟩:=h;rw[hb]at h1;cases h1;have hk:∀e∈es.toList,∃l,keyOf P k e.key=some l:=fun e b=>U (e.key,e.val) (by rw[<-h2];exact List.mem_map.2 ⟨e,b,rfl⟩);rcases K.find W O es.toList hk with ⟨H,a⟩ | ⟨j,e,H,Y,b⟩
 ·refine .inl ⟨H,fun p J=>?_⟩;rw[<-h2]at J;obtain⟨e,b,rfl⟩:=List.mem_map.1 J;exact a e b
 ·refine .inr ⟨j,e,H,by simpa using Y,b,?_⟩;rw[<-h2];exact List.mem_map.2 ⟨e,List.mem_of_getElem? Y,by rw[b]⟩
theorem MapL.look (h:MapL P k w m L) (K:Keyed P k) (ht:P.underlying t=some (.map k E)) {x z:Value} {l:Lit} (H:keyOf P k x=some l) (U:(zeroValue E).run P w = .ok z w) (ok:Bool) :
 (∃v,(x,v)∈L/\(Instr.lookup t (.map (some m)) x ok).run P w = .ok (if ok then .tuple #[v,.bool true] else v) w) \/
 ((∀p∈L,p.1≠x)/\(Instr.lookup t (.map (some m)) x ok).run P w = .ok (if ok then .tuple #[z,.bool false] else z) w):=by
 obtain⟨es,cl,hb,_⟩:=h.ex;have Y:(getObj m).run P w = .ok (.map es cl) w:=by simp[getObj,Sem.run,hb]
 rcases h.find K H hb w with ⟨a,b⟩ | ⟨j,e,a,T,O,J⟩
 ·refine .inr ⟨b,?_⟩;simp only[Instr.lookup,Sem.run_bind,run_underlying ht,Result.andThen_ok,Y,Sem.run_pure,K.check w es.isEmpty H,a,U]
 ·refine .inl ⟨e.val,J,?_⟩;simp only[Instr.lookup,Sem.run_bind,run_underlying ht,Result.andThen_ok,Y,Sem.run_pure,K.check w es.isEmpty H,a]
structure Put (L:List (Value×Value)) (x v:Value) (L':List (Value×Value)):Prop where
  mem:∀p,p∈L'↔p=(x,v)\/(p∈L/\p.1≠x)
  len:(∃u,(x,u)∈L)/\L'.length=L.length\/(∀p∈L,p.1≠x)/\L'.length=L.length+1
theorem CI {es:Array MapEntry} (hb:w.heap[m]? = some (.map es cl)) (o:Obj):(setObj m o).run P w = .ok () { w with heap:=w.heap.setIfInBounds m o }:=by
 simp[setObj,Sem.run,hb]
theorem BH {o:Obj} (h:m<w.heap.size):({ w with heap:=w.heap.setIfInBounds m o }:World).heap[m]? = some o:=by
 simp[h]
theorem Br (o : Obj) : w.grownBy { w with heap := w.heap.setIfInBounds m o } (some m) :=
  ⟨rfl, rfl, rfl, by simp, fun i _ hi => by
    have : m ≠ i := fun e => hi (by rw [e])
    simp [Array.getElem?_setIfInBounds_ne this]⟩
theorem CE {es:Array MapEntry} {j:Nat} {e0:MapEntry} (a:es[j]? = some e0) (f:MapEntry->MapEntry) (e:MapEntry) :
 e∈(es.modify j f).toList↔e=f e0\/∃i,i≠j/\es[i]? = some e:=by
 have H:j<es.size:=(Array.getElem?_eq_some_iff.1 a).1;constructor
 ·intro h;obtain⟨i,hi⟩:=List.mem_iff_getElem?.1 h;rw[Array.getElem?_toList,Array.getElem?_modify]at hi;split at hi
  ·rename_i b;subst b;rw[a]at hi;exact .inl (Option.some.inj hi).symm
  ·rename_i b;exact .inr ⟨i,fun h=>b h.symm,hi⟩
 ·rintro(rfl | ⟨i,hi,b⟩)
  ·refine List.mem_iff_getElem?.2 ⟨j,?_⟩;rw[Array.getElem?_toList,Array.getElem?_modify,if_pos rfl,a];rfl
  ·refine List.mem_iff_getElem?.2 ⟨i,?_⟩;rw[Array.getElem?_toList,Array.getElem?_modify,if_neg (fun h=>hi h.symm)];exact b
theorem GZ {es:Array MapEntry} {j:Nat} {β:Type} (f:MapEntry->MapEntry) (g:MapEntry->β) (a:∀e,es[j]? = some e->g (f e)=g e):(es.modify j f).toList.map g=es.toList.map g:=by
 refine List.ext_getElem? fun i=>?_;rw[List.getElem?_map,List.getElem?_map,Array.getElem?_toList,Array.getElem?_toList,Array.getElem?_modify];split
 ·rename_i h;subst h;cases b:es[j]? with
  | none=>rfl
  | some e=>simp[a e b]
 ·rfl
theorem Kr {es:Array MapEntry} (hn:(es.toList.map (·.key)).Nodup) {i j:Nat} {a b:MapEntry} (hi:es[i]? = some a) (H:es[j]? = some b) (hk:a.key=b.key):i=j:=by
 have h1:(es.toList.map (·.key))[i]? = some a.key:=by simp[hi]
 have h2:(es.toList.map (·.key))[j]? = some b.key:=by simp[H]
 have h:i<(es.toList.map (·.key)).length:=(List.getElem?_eq_some_iff.1 h1).1;exact(List.getElem?_inj h hn).1 (by rw[h1,h2,hk])
theorem MM {es:Array MapEntry} (hn:es.toList.Pairwise (fun a b=>a.born≠b.born)) {i j:Nat} {a b:MapEntry} (hi:es[i]? = some a) (Y:es[j]? = some b) (hk:a.born=b.born):i=j:=by
 have H:(es.toList.map (·.born)).Nodup:=by rw[List.nodup_iff_pairwise_ne,List.pairwise_map];exact hn
 have h1:(es.toList.map (·.born))[i]? = some a.born:=by simp[hi]
 have h2:(es.toList.map (·.born))[j]? = some b.born:=by simp[Y]
 have h:i<(es.toList.map (·.born)).length:=(List.getElem?_eq_some_iff.1 h1).1;exact(List.getElem?_inj h H).1 (by rw[h1,h2,hk])
theorem MapL.modify (h:MapL P k w m L) {es:Array MapEntry} (hb:w.heap[m]? = some (.map es cl)) {j:Nat} {e0:MapEntry} (a:es[j]? = some e0) (v:Value) {f:MapEntry->MapEntry}
 (Y:(f e0).key=e0.key) (U:(f e0).val=v) (O:(f e0).born=e0.born) (hw:w1.heap[m]? = some (.map (es.modify j f) cl)):∃L',MapL P k w1 m L'/\Put L e0.key v L':=by
 obtain⟨⟨es',cl',h1,h2,h4,h5⟩,h3,h6⟩:=h;rw[hb]at h1;cases h1;have H:(es.toList.map (·.key)).Nodup:=by
  rw[<-h2,List.map_map]at h6;exact h6
 refine⟨(es.modify j f).toList.map (fun e=>(e.key,e.val)),⟨⟨es.modify j f,cl,hw,rfl,?_,fun e b=>?_⟩,fun p J=>?_,?_⟩,fun p=>?_,.inl ⟨⟨e0.val,?_⟩,?_⟩⟩
 ·have Z:(es.modify j f).toList.map (·.born)=es.toList.map (·.born):=GZ f (·.born) (fun e b=>by rw[a]at b;cases b;exact O);have hn:(es.toList.map (·.born)).Nodup:=by rw[List.nodup_iff_pairwise_ne,List.pairwise_map];exact h4
  rw[<-Z,List.nodup_iff_pairwise_ne,List.pairwise_map]at hn;exact hn
 ·rcases (CE a f e).1 b with rfl | ⟨i,_,hi⟩
  ·rw[O];exact h5 e0 (by simpa using Array.mem_of_getElem? a)
  ·exact h5 e (by simpa using Array.mem_of_getElem? hi)
 ·obtain⟨e,b,rfl⟩:=List.mem_map.1 J;rcases (CE a f e).1 b with rfl | ⟨i,_,hi⟩
  ·rw[Y];exact h3 (e0.key,e0.val) (by rw[<-h2];exact List.mem_map.2 ⟨e0,by simpa using Array.mem_of_getElem? a,rfl⟩)
  ·exact h3 (e.key,e.val) (by rw[<-h2];exact List.mem_map.2 ⟨e,by simpa using Array.mem_of_getElem? hi,rfl⟩)
 ·rw[List.map_map];have:(es.modify j f).toList.map (Prod.fst∘fun e=>(e.key,e.val))=es.toList.map (·.key):=GZ f _ (fun e b=>by rw[a]at b;cases b;exact Y);rw[this];exact H
 ·constructor
  ·intro J;obtain⟨e,b,rfl⟩:=List.mem_map.1 J;rcases (CE a f e).1 b with rfl | ⟨i,hi,T⟩
   ·exact .inl (by rw[Y,U])
   ·refine .inr ⟨by rw[<-h2];exact List.mem_map.2 ⟨e,by simpa using Array.mem_of_getElem? T,rfl⟩,fun hk=>hi (Kr H T a hk)⟩
  ·rintro(rfl | ⟨J,I⟩)
   ·exact List.mem_map.2 ⟨f e0,(CE a f _).2 (.inl rfl),by rw[Y,U]⟩
   ·rw[<-h2]at J;obtain⟨e,b,rfl⟩:=List.mem_map.1 J;obtain⟨i,hi⟩:=List.mem_iff_getElem?.1 b;rw[Array.getElem?_toList]at hi;exact List.mem_map.2 ⟨e,(CE a f e).2 (.inr ⟨i,fun G=>I (by subst G;rw[a]at hi;cases hi;rfl),hi⟩),rfl⟩
 ·rw[<-h2];exact List.mem_map.2 ⟨e0,by simpa using Array.mem_of_getElem? a,rfl⟩
 ·rw[<-h2];simp
theorem MapL.push (h:MapL P k w m L) {es:Array MapEntry} (hb:w.heap[m]? = some (.map es cl)) {x v:Value} {l:Lit} (hx:keyOf P k x=some l) (Y:∀p∈L,p.1≠x)
 (I:w1.heap[m]? = some (.map (es.push { key:=x,val:=v,born:=cl }) (cl+1))):∃L',MapL P k w1 m L'/\Put L x v L':=by
 obtain⟨⟨es',cl',h1,h2,Z,O⟩,T,G⟩:=h;rw[hb]at h1;cases h1;refine⟨L ++ [(x,v)],⟨⟨_,_,I,by simp[h2],?_,fun e J=>?_⟩,fun p j=>?_,?_⟩,fun p=>?_,.inr ⟨Y,by simp⟩⟩
 ·simp only[Array.toList_push];rw[List.pairwise_append];exact⟨Z,List.pairwise_singleton ..,fun a U b H=>by
   obtain rfl:=List.mem_singleton.1 H;have:=O a U;simp only;omega⟩
 ·simp only[Array.toList_push]at J;rcases List.mem_append.1 J with J | J
  ·have:=O e J;omega
  ·obtain rfl:=List.mem_singleton.1 J;simp only;omega
 ·rcases List.mem_append.1 j with j | j
  ·exact T p j
  ·obtain rfl:=List.mem_singleton.1 j;exact⟨l,hx⟩
 ·rw[List.map_append,List.nodup_append];refine⟨G,by simp,fun a U b H=>?_⟩;simp at H;obtain⟨p,j,rfl⟩:=List.mem_map.1 U;rw[H];exact Y p j
 ·constructor
  ·intro j;rcases List.mem_append.1 j with j | j
   ·exact .inr ⟨j,Y p j⟩
   ·exact .inl (List.mem_singleton.1 j)
  ·rintro(rfl | ⟨j,_⟩)
   ·simp
   ·exact List.mem_append_left _ j
theorem MapL.update (h:MapL P k w m L) (K:Keyed P k) (ht:P.underlying t=some (.map k E)) {x:Value} {l:Lit} (b:keyOf P k x=some l) (v:Value) :
 ∃w' L',(Instr.mapUpdate t (.map (some m)) x v).run P w = .ok () w'/\MapL P k w' m L'/\Put L x v L'/\w.grownBy w' (some m)/\w'.heap.size=w.heap.size:=by
 obtain⟨es,cl,hb,_⟩:=h.ex;have Y:(getObj m).run P w = .ok (.map es cl) w:=by simp[getObj,Sem.run,hb]
 rcases h.find K b hb w with ⟨H,a⟩ | ⟨j,e,H,J,U,O⟩
 ·obtain⟨L',h1,h2⟩:=h.push (w1:= { w with heap:=w.heap.setIfInBounds m (.map (es.push { key:=x,val:=v,born:=cl }) (cl+1)) }) hb b a (BH h.lt);refine⟨_,L',?_,h1,h2,Br _,by simp⟩;simp only[Instr.mapUpdate,Sem.run_bind,run_underlying ht,Result.andThen_ok,Y,K.check w false b,H,CI hb]
 ·subst U;obtain⟨L',h1,h2⟩:=h.modify (w1:= { w with heap:=w.heap.setIfInBounds m (.map (es.modify j fun e'=> { e' with key:=e.key,val:=v }) cl) }) hb J v (f:=fun e'=> { e' with key:=e.key,val:=v }) rfl rfl rfl (BH h.lt);refine⟨_,L',?_,h1,h2,Br _,by simp⟩;simp only[Instr.mapUpdate,Sem.run_bind,run_underlying ht,Result.andThen_ok,Y,K.check w false b,H,J,Option.map_some,Option.getD_some,K.stays w b,CI hb]
theorem MapL.entry (h:MapL P k w m L) (K:Keyed P k) (ht:P.underlying t=some (.map k E)) {x z:Value} {l:Lit} (hx:keyOf P k x=some l) (hz:(zeroValue E).run P w = .ok z w) :
 ∃w' v n,(Instr.mapEntry t (.map (some m)) x).run P w = .ok (.tuple #[v,.int .i64 n]) w'/\((x,v)∈L\/(∀p∈L,p.1≠x)/\v=z)/\w.grownBy w' (some m)/\w'.heap.size=w.heap.size/\(∃L1,MapL P k w' m L1) /\
  ∀(w2:World) (u:Value),w2.heap[m]? = w'.heap[m]? ->
   ∃w3 L',(Instr.entryStore t (.map (some m)) (.int .i64 n) u).run P w2 = .ok () w3/\MapL P k w3 m L'/\Put L x u L'/\w2.grownBy w3 (some m)/\w3.heap.size=w2.heap.size:=by
 obtain⟨es,cl,hb,_,Z,n0⟩:=h.ex;have hg:(getObj m).run P w = .ok (.map es cl) w:=by simp[getObj,Sem.run,hb]
 have back:∀(es2:Array MapEntry) (cl2 j:Nat) (e0:MapEntry) (w2:World) (u:Value),w2.heap[m]? = some (.map es2 cl2)->es2[j]? = some e0->es2.toList.Pairwise (fun a b=>a.born≠b.born) ->
  (Instr.entryStore t (.map (some m)) (.int .i64 (e0.born:Int)) u).run P w2 = .ok () { w2 with heap:=w2.heap.setIfInBounds m (.map (es2.modify j fun e=> { e with val:=u }) cl2) }:=by
  intro es2 cl2 j e0 w2 u H G d0;have c0:(getObj m).run P w2 = .ok (.map es2 cl2) w2:=by simp[getObj,Sem.run,H]
  have J:j<es2.size:=(Array.getElem?_eq_some_iff.1 G).1;have y0:es2.findIdx? (fun e=>(e.born:Int)==(e0.born:Int))=some j:=by
   rw[Array.findIdx?_eq_some_iff_getElem];refine⟨J,?_,fun i hi=>?_⟩
   ·have:es2[j]=e0:=by
     have:=Array.getElem?_eq_getElem J;rw[G]at this;exact(Option.some.inj this).symm
    simp[this]
   ·have U:es2[i].born≠e0.born:=fun he=>by
     have:=MM d0 (Array.getElem?_eq_getElem (by omega:i<es2.size)) G he;omega
    simp;omega
  simp only[Instr.entryStore,Sem.run_bind,c0,Result.andThen_ok,asInt,asIntOf,Sem.run_pure,y0,CI H]
 rcases h.find K hx hb w with ⟨hr,T⟩ | ⟨j,e,hr,hj,he,hm⟩
 ·let w':World:= { w with heap:=w.heap.setIfInBounds m (.map (es.push { key:=x,val:=z,born:=cl }) (cl+1)) }
  have Y:w'.heap[m]? = some (.map (es.push { key:=x,val:=z,born:=cl }) (cl+1)):=BH h.lt;obtain⟨L1,h1,h2⟩:=h.push (w1:=w') hb hx T Y;refine⟨w',z,(cl:Int),?_,.inr ⟨T,rfl⟩,Br _,by simp[w'],⟨L1,h1⟩,fun w2 u H=>?_⟩
  ·simp only[Instr.mapEntry,Sem.run_bind,run_underlying ht,Result.andThen_ok,hg,K.check w false hx,hr,hz,CI hb,Sem.run_pure,goInt];rfl
  ·have q0:(es.push { key:=x,val:=z,born:=cl })[es.size]? = some { key:=x,val:=z,born:=cl }:=by simp
   obtain⟨⟨es1,cl1,j0,_,v0,_⟩,_⟩:=id h1;rw[Y]at j0;cases j0;have I:=back _ _ _ _ w2 u (H.trans Y) q0 v0;have J:m<w2.heap.size:=(Array.getElem?_eq_some_iff.1 (H.trans Y)).1;obtain⟨L2,h3,h4⟩:=(h1.keep H).modify (w1:= { w2 with heap:=w2.heap.setIfInBounds m (.map ((es.push { key:=x,val:=z,born:=cl }).modify es.size fun e=> { e with val:=u }) (cl+1)) }) (H.trans Y) q0 u (f:=fun e=> { e with val:=u }) rfl rfl rfl (BH J);refine⟨_,L2,I,h3,⟨fun p=>?_,?_⟩,Br _,by simp⟩
   ·rw[h4.mem p];constructor
    ·rintro(rfl | ⟨hp,U⟩)
     ·exact .inl rfl
     ·rcases (h2.mem p).1 hp with rfl | hp
      ·exact absurd rfl U
      ·exact .inr hp
    ·rintro(rfl | ⟨hp,U⟩)
     ·exact .inl rfl
     ·exact .inr ⟨(h2.mem p).2 (.inr ⟨hp,U⟩),U⟩
   ·refine .inr ⟨T,?_⟩;rcases h2.len with ⟨⟨u',i0⟩,_⟩ | ⟨_,hl⟩
    ·exact absurd rfl (T _ i0)
    ·rcases h4.len with ⟨_,o0⟩ | ⟨p0,_⟩
     ·omega
     ·exact absurd rfl (p0 (x,z) ((h2.mem _).2 (.inl rfl)))
 ·subst he
  let w':World:= { w with heap:=w.heap.setIfInBounds m (.map (es.modify j fun e'=> { e' with key:=e.key }) cl) }
  have r0:j<es.size:=(Array.getElem?_eq_some_iff.1 hj).1;have O:es.modify j (fun e'=> { e' with key:=e.key })=es:=by
   apply Array.ext_getElem?;intro i;rw[Array.getElem?_modify];split
   ·rename_i hi;subst hi;rw[hj];rfl
   ·rfl
  have Y:w'.heap[m]? = some (.map es cl):=by
   have:=BH (w:=w) (m:=m) (o:= .map (es.modify j fun e'=> { e' with key:=e.key }) cl) h.lt;rw[O]at this;simpa [w',O]using this
  refine⟨w',e.val,(e.born:Int),?_,.inl hm,Br _,by simp[w'],⟨L,h.keep (Y.trans hb.symm)⟩,fun w2 u H=>?_⟩
  ·simp only[Instr.mapEntry,Sem.run_bind,run_underlying ht,Result.andThen_ok,hg,K.check w false hx,hr,hj,Option.map_some,Option.getD_some,K.stays w hx,CI hb,Sem.run_pure,goInt];rfl
  ·have I:=back es cl j e w2 u (H.trans Y) hj Z;have J:m<w2.heap.size:=(Array.getElem?_eq_some_iff.1 (H.trans Y)).1;obtain⟨L2,h3,h4⟩:=(h.keep ((H.trans Y).trans hb.symm)).modify (w1:= { w2 with heap:=w2.heap.setIfInBounds m (.map (es.modify j fun e=> { e with val:=u }) cl) }) (H.trans Y) hj u (f:=fun e=> { e with val:=u }) rfl rfl rfl (BH J);exact⟨_,L2,I,h3,h4,Br _,by simp⟩
end
end
section
open Go.RowKit
theorem HX (w:World):Calls prog 201 #[.slice none 0 0,.int .i64 0,.int .i64 0,cmpV] w fun e w'=>e = .returned (.tuple #[])/\w'=w:=by
 unfold cmpV
 go_in
 go_wp2_with fail
 go_loopw [8] (fun s8 wr=>s8 = .int .i64 1/\wr=w) (fun _ _=>0)
 case atStart=>exact⟨rfl,rfl⟩
 case round =>
  obtain⟨rfl,rfl⟩:=hrel;go_wp2_with fail
  go_end0
  exact⟨rfl,rfl⟩
theorem MB (w:World):Calls prog 176 #[.slice none 0 0,.int .i64 0,cmpV] w fun e w'=>e = .returned (.tuple #[])/\w'=w:=by
 have h:=Aa (HX w);unfold cmpV at h ⊢
 go_in
 go_wp2_with fail
 go_loopw [7,8] (fun s7 s8 wr=>s7 = .int .i64 0/\s8 = .int .i64 20/\wr=w) (fun _ _ _=>0)
 case atStart=>exact⟨rfl,rfl,rfl⟩
 case round =>
  obtain⟨rfl,rfl,rfl⟩:=hrel;go_wp2_with fail;refine h.out.mono ?_;rintro e w1 ⟨rfl,rfl⟩;go_wp2_with fail
  go_loopw [6] (fun s6 wr2=>s6 = .int .i64 20/\wr2=w1) (fun _ _=>0)
  case atStart=>exact⟨rfl,rfl⟩
  case round =>
   obtain⟨rfl,rfl⟩:=hrel;go_wp2_with fail
   go_end0
   exact⟨rfl,rfl⟩
theorem Hx (w:World):Calls prog 131 #[.slice none 0 0,cmpV] w fun e w'=>e = .returned (.tuple #[])/\w'=w:=by
 have h:=Aa (MB w);unfold cmpV at h ⊢
 go_in
 go_wp2_with fail;refine h.out.mono ?_;rintro e w1 ⟨rfl,rfl⟩;go_wp2_with fail
 go_end0
 exact⟨rfl,rfl⟩
theorem Mv (base:Nat) (L:Option Addr) (n c:Nat) (D:List TmV) (w:World) (h:w.ownsRow base 157 2 (.slice L n c) n (tcs D)) (hn:n=D.length) (j:n<=268435456) :
 Calls prog 131 #[.slice L n c,cmpV] w fun e w'=>e = .returned (.tuple #[])/\∃E,Std D E/\(n≠0->∃g,L=some ⟨g,0,none⟩/\base<=g/\TR w' g E)/\Chg (fun k=>(Value.slice L n c).ownBlock=some k) w w':=by
 rcases h with ⟨T,⟨b,O⟩ | ⟨g,cap,cur,b,hb,J,U,Y,hs,ht⟩⟩
 ·cases b;obtain rfl:D = []:=List.length_eq_zero_iff.1 hn.symm;exact(Hx w).mono fun e w' ⟨h1,h2⟩=>⟨h1,[],⟨List.Pairwise.nil,Stb.refl _⟩,fun h=>absurd rfl h,by rw[h2];exact Chg.refl _ _⟩
 ·cases b;subst hn;refine(Hw g c D w ⟨cur,J,fun i v hi=>?_⟩ j).mono ?_
  ·rw[<-ht,List.getElem?_take]at hi;split at hi
   ·simpa using hi
   ·cases hi
  ·rintro e w' ⟨h1,E,h2,a,H⟩;exact⟨h1,E,h2,fun _=>⟨g,rfl,hb,a⟩,H.mono fun k _ hk=>by rw[hk];rfl⟩
end
end Go.Proofs.YtfifdilapbeiiaaGreat
