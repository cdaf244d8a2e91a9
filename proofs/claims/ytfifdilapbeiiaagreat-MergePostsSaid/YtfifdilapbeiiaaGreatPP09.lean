/- Texts of one proof, joined. -/
import Derived.Test.YtfifdilapbeiiaaGreatPP08
import Derived.Laws.OwnMore
set_option linter.unusedSimpArgs false
set_option linter.unusedVariables false
set_option maxRecDepth 100000
set_option maxHeartbeats 16000000
namespace Go.Proofs.YtfifdilapbeiiaaGreat
open _root_.Go.Proofs.Tryz
variable {a0:Act} {listed:Array Bool} {ops:Array Oper} {vs:Array Value} {Q:Exit → Act → World → Prop} {z z1 z2:Int} {D L f r s:List UInt8} {N c g i k m n y:Nat} {o:Oper} {A:Option Addr} {P:Program} {md:Region.Mode} {t:TypeId} {V v:Value} {W W1 X w w' w0 w1 wx:World}
section
open Go.RowKit
theorem Ms (a b:List UInt8) (w:World) (ha:a.length<=1000000000) (hb:b.length<=1000000000) :
 Calls prog 137 #[.string ⟨a.toArray⟩,.string ⟨b.toArray⟩] w fun e w'=>e = .returned (.int .i64 (cpl a b:Int))/\Ext w w':=by
 obtain⟨Z,hZ⟩:=Ab (cpl a b);rw[<-hZ];obtain⟨n,hn⟩:=Ab a.length;obtain⟨m,G⟩:=Ab b.length;have v0:(⟨a.toArray⟩:ByteArray).size=n:=by rw[hn];exact ByteArray.size_mk_toArray a
 have x0:(⟨b.toArray⟩:ByteArray).size=m:=by rw[G];exact ByteArray.size_mk_toArray b
 rw[<-hn]at ha;rw[<-G]at hb;have j0:Z<=n/\Z<=m:=by have:=DC a b;omega
 replace hZ:=Aa hZ;replace hn:=Aa hn;replace G:=Aa G
 go_in
 go_wp2_with fail
 go_loopw [5] (fun s5 wr=>∃i:Nat,s5 = .int .i64 (i:Int)/\i<=n/\i<=m/\Hid (a.take i=b.take i)/\Hid (Ext w wr)) (fun s5 _=>n - (intOf s5).toNat)
 case atStart=>exact⟨0,rfl,by omega,by omega,Aa (by simp),Aa (Ext.refl w)⟩
 case round =>
  obtain⟨i,rfl,p0,him,ht,I⟩:=hrel;have Y:=GD i a b ht.out (by rw[<-hn.out];exact p0) (by rw[<-G.out];exact him);rw[<-hZ.out]at Y;replace Y:=Aa Y;by_cases h1:i<n
  ·by_cases h2:i<m
   ·obtain⟨x,O⟩:∃x,a[i]? = some x:=⟨_,List.getElem?_eq_getElem (by rw[<-hn.out];exact h1)⟩
    obtain⟨y,T⟩:∃y,b[i]? = some y:=⟨_,List.getElem?_eq_getElem (by rw[<-G.out];exact h2)⟩
    have m0:=fun W=>AB O (z:=(i:Int)) rfl W;have t0:=fun W=>AB T (z:=(i:Int)) rfl W;have J:a.drop i=x::a.drop (i+1):=by
     rw[List.drop_eq_getElem_cons (List.getElem?_eq_some_iff.1 O).1,(List.getElem?_eq_some_iff.1 O).2]
    have U:b.drop i=y::b.drop (i+1):=by
     rw[List.drop_eq_getElem_cons (List.getElem?_eq_some_iff.1 T).1,(List.getElem?_eq_some_iff.1 T).2]
    by_cases H:x=y
    ·have q1:((x.toNat:Int)==(y.toNat:Int))=true:=by rw[H];exact beq_self_eq_true _
     have k0:Hid (a.take (i+1)=b.take (i+1)):=Aa (by rw[List.take_add_one,List.take_add_one,O,T,ht.out,H]);replace O:=Aa O;replace T:=Aa T;replace J:=Aa J;replace U:=Aa U;replace H:=Aa H;go_wp2_with fail;refine AE (fun K hK=>?_);go_wp2_with fail;refine⟨by kernel_rfl,?_⟩;go_wp2_with fail;exact⟨⟨i+1,by congr 1,by omega,by omega,k0,Aa I.out.drew⟩,by simp only[intOf];omega⟩
    ·have q1:((x.toNat:Int)==(y.toNat:Int))=false:=beq_eq_false_iff_ne.2 fun h=>H (UInt8.toNat_inj.1 (by omega));have j:Z=i:=by rw[Y.out,J,U,cpl,if_neg H];rfl
     replace O:=Aa O;replace T:=Aa T;replace J:=Aa J;replace U:=Aa U;replace H:=Aa H;replace j:=Aa j;go_wp2_with fail;refine AE (fun K hK=>?_);go_wp2_with fail;refine⟨by kernel_rfl,?_⟩;go_wp2_with fail;go_ret;exact⟨by rw[j.out];rfl,I.out.drew⟩
   ·have j:Z=i:=by have:=Y.out;omega
    replace j:=Aa j;go_wp2_with fail;refine AE (fun K hK=>?_);go_wp2_with fail;refine⟨by kernel_rfl,?_⟩;go_wp2_with fail;go_ret;exact⟨by rw[j.out];rfl,I.out.drew⟩
  ·have j:Z=i:=by have:=Y.out;omega
   replace j:=Aa j;go_wp2_with fail;refine AE (fun K hK=>?_);go_wp2_with fail;refine⟨by kernel_rfl,?_⟩;go_wp2_with fail;go_ret;exact⟨by rw[j.out];rfl,I.out.drew⟩
def En.cells (e:En):List Value:= [.string ⟨e.t.toArray⟩,.int .i64 (e.off:Int),.int .i64 (e.len:Int),.int .i64 (e.n:Int)]
def encells (l:List En):List Value:=l.flatMap En.cells
theorem FZ (l:List En):(encells l).length=l.length*4:=AU (cellsA:=En.cells) (k:=4) (fun _=>rfl) l
theorem CR {l:List En} {x:En} (h:l[i]? = some x) {j:Nat} (b:j<4):(encells l)[i*4+j]? = x.cells[j]? :=AW (cellsA:=En.cells) (k:=4) (fun _=>rfl) l i x j h b
theorem AX {l:List En} (h:Cells w A (encells l)) {x:En} (j:l[i]? = some x):∃g o,A=some ⟨g,o,none⟩/\w.cell? ⟨g,o+i*4,none⟩=some (.string ⟨x.t.toArray⟩)/\w.cell? ⟨g,o+i*4+1,none⟩=some (.int .i64 (x.off:Int))/\w.cell? ⟨g,o+i*4+2,none⟩=some (.int .i64 (x.len:Int))/\w.cell? ⟨g,o+i*4+3,none⟩=some (.int .i64 (x.n:Int)):=by
 obtain⟨g,o,a,b⟩:=h.at_ (by rw[FZ];have:=(List.getElem?_eq_some_iff.1 j).1;omega);exact⟨g,o,a,b (i*4+0) _ (by rw[CR j (by omega)];rfl),b (i*4+1) _ (by rw[CR j (by omega)];rfl),b (i*4+2) _ (by rw[CR j (by omega)];rfl),b (i*4+3) _ (by rw[CR j (by omega)];rfl)⟩
theorem Bm:∀(a b:List UInt8),Op.bytesLess a b=decide (a<b)
 | [],[]=>by simp[Op.bytesLess]
 | _::_,[]=>by simp[Op.bytesLess]
 | [],_::_=>by simp[Op.bytesLess]
 | x::a,y::b=>by
  rw[Op.bytesLess,Bm a b,Bool.eq_iff_iff,decide_eq_true_iff,List.cons_lt_cons_iff];simp
theorem Sk {l:List En} (h:OkEs l) {x y:En} (j:l[i]? = some x) (b:l[i+1]? = some y):x.t<y.t:=by
 obtain⟨h1,rfl⟩:=List.getElem?_eq_some_iff.1 j;obtain⟨h2,rfl⟩:=List.getElem?_eq_some_iff.1 b;exact List.pairwise_iff_getElem.1 h.up i (i+1) h1 h2 (by omega)
theorem RL {a:List UInt8} (h:a ≠ []) : []<a:=by
 cases a with
 | nil=>exact absurd rfl h
 | cons x t=>exact List.nil_lt_cons x t
def lastT (l:List En) (i:Nat):List UInt8:=match (l.take i).getLast? with
 | some e=>e.t
 | none=> []
theorem Dp {l:List En} {x:En} (h:l[i]? = some x):lastT l (i+1)=x.t:=by
 unfold lastT;rw[List.take_add_one,h];simp
theorem Px {l:List En} (h:OkEs l) {x:En} (j:l[i]? = some x):lastT l i<x.t:=by
 cases i with
 | zero=>exact RL (h.each x (List.mem_of_getElem? j)).2
 | succ i =>
  obtain⟨y,b⟩:∃y,l[i]? = some y:=⟨_,List.getElem?_eq_getElem (by have:=(List.getElem?_eq_some_iff.1 j).1;omega)⟩
  rw[Dp b];exact Sk h b j
def thr (a b c:Int) (i:Nat):Int:=if i=0 then a else if i=1 then b else c
theorem I2 {a b c:Int} (hi:i<3) (W:World):(Instr.index 220 (.agg #[.int .i64 a,.int .i64 b,.int .i64 c]) (.int .i64 (i:Int))).run prog W = .ok (.int .i64 (thr a b c i)) W:=by
 rcases (show i=0\/i=1\/i=2 by omega)with rfl | rfl | rfl
 ·show _=_
  kernel_rfl
 ·show _=_
  kernel_rfl
 ·show _=_
  kernel_rfl
theorem Qg {a b c:Int} (i:Nat) (h:0<=a/\a<=67108864) (hb:0<=b/\b<=67108864) (j:0<=c/\c<=67108864):0<=thr a b c i/\thr a b c i<=67108864:=by
 unfold thr;split
 ·exact h
 ·split
  ·exact hb
  ·exact j
theorem J3 (l:List En) (A:Option Addr) (m c:Nat) (w:World) (hm:m=l.length) (h:Cells w A (encells l)) (O:OkEs l) :
 Calls prog 85 #[.slice A m c] w fun e w'=>e = .returned (.bool true)/\Ext w w':=by
 have i0:m<=262144:=by rw[hm];exact O.few
 replace hm:=Aa hm;replace h:=Aa h;replace O:=Aa O
 go_in
 go_wp2_with fail
 go_loopw [3,11] (fun s3 s11 wr=>∃(i:Nat) (la:List UInt8),s3 = .string ⟨la.toArray⟩/\s11 = .int .i64 (i:Int)/\i<=m/\Hid (la=lastT l i)/\Hid (Ext w wr)) (fun _ s11 _=>m - (intOf s11).toNat)
 case atStart=>exact⟨0,[],rfl,rfl,by omega,Aa rfl,Aa (Ext.refl w)⟩
 case round =>
  obtain⟨i,la,rfl,rfl,hi,m0,hE⟩:=hrel;by_cases j0:i<m
  ·obtain⟨x,J⟩:∃x,l[i]? = some x:=⟨_,List.getElem?_eq_getElem (by rw[<-hm.out];exact j0)⟩
   obtain⟨g,o,hA,x0,x1,x2,x3⟩:=AX (h.out.ext hE.out) J;subst hA;have H:=Px O.out J;rw[<-m0.out]at H;obtain⟨⟨b1,b2,b3,b4⟩,t0⟩:=O.out.each x (List.mem_of_getElem? J);have q0:Hid (x.t=lastT l (i+1)):=Aa (Dp J).symm;obtain⟨t,off,len,n⟩:=x;simp only at x0 x1 x2 x3 H b1 b2 b3 b4 q0;have v0:(⟨t.toArray⟩:ByteArray).size=t.length:=ByteArray.size_mk_toArray t;obtain⟨tl,G⟩:=Ab t.length;rw[<-G]at v0 b1;have q1:Op.bytesLess t la=false:=by rw[Bm];exact decide_eq_false fun h2=>List.lt_asymm H h2
   have q2:(t==la)=false:=beq_eq_false_iff_ne.2 fun e=>by rw[e]at H;exact List.lt_irrefl _ H
   obtain⟨W5,U⟩:=Ab (wr.alloc (.cells #[.string ⟨t.toArray⟩,.int .i64 (off:Int),.int .i64 (len:Int),.int .i64 (n:Int)] 100));obtain⟨g5,T⟩:=Ab wr.heap.size;have Y:Row W5 g5 100 #[.string ⟨t.toArray⟩,.int .i64 (off:Int),.int .i64 (len:Int),.int .i64 (n:Int)]:=by rw[U,T];exact Row.new wr _ _
   have Z:Ext w W5:=by rw[U];exact hE.out.alloc _
   have y0:=Y.cell 0 rfl;have y1:=Y.cell 1 rfl;have y2:=Y.cell 2 rfl;have y3:=Y.cell 3 rfl;replace J:=Aa J;replace H:=Aa H;replace G:=Aa G;replace Y:=Aa Y;replace Z:=Aa Z;replace U:=Aa U;replace T:=Aa T;clear t0;go_upto_region 5 with (fail)
   rw[<-U.out,<-T.out];go_wp2_with fail
   go_loopw [6,32] (fun s6 s32 wv=>∃j:Nat,s6 = .bool true/\s32 = .int .i64 (j:Int)/\j<=3/\wv=W5) (fun _ s32 _=>3 - (intOf s32).toNat)
   case atStart=>exact⟨0,rfl,rfl,by omega,rfl⟩
   case round =>
    obtain⟨j,rfl,rfl,hj,rfl⟩:=hrel;by_cases g0:j<3
    ·have hx:=fun W=>I2 (a:=(off:Int)) (b:=(len:Int)) (c:=(n:Int)) g0 W;have I:=Qg (a:=(off:Int)) (b:=(len:Int)) (c:=(n:Int)) j (by omega) (by omega) (by omega);obtain⟨v,hv⟩:=Ab (thr (off:Int) (len:Int) (n:Int) j);rw[<-hv]at hx I;obtain⟨e0,f0⟩:=I;have h0:(j:Int)<3:=by omega
     replace hv:=Aa hv;go_wp2_with fail;exact⟨⟨j+1,rfl,by congr 1,by omega,trivial⟩,by simp only[intOf];omega⟩
    ·have h0:¬ (j:Int)<3:=by omega
     go_wp2_with fail;exact⟨⟨i+1,t,rfl,rfl,by omega,q0,Z⟩,by simp only[intOf];omega⟩
  ·obtain rfl:i=m:=by omega
   go_wp2_with fail;go_ret;exact⟨Bf (decide_eq_true (by omega)),hE.out⟩
end
section
open Go.RowKit
attribute [local go_sem] Oper.semAt_some AP
theorem Lp (A:Option Addr) (n c k:Nat) (w:World) (hk:1<=k) (h:k<=1000000) :
 Calls prog 136 #[.slice A n c,.int .i64 (k:Int)] w fun e w'=>∃b1 b2,e = .returned (.func (.func 180) #[] #[.pointer (some ⟨b1,0,none⟩),.pointer (some ⟨b2,0,none⟩)])/\Row w' b1 97 #[.slice A n c]/\Row w' b2 3 #[.int .i64 (k:Int)]/\w.heap.size<=b1/\w.heap.size<=b2/\b1<b2/\Ext w w':=by
 go_in
 go_wp2_with fail;go_ret;have h1:=Row.new w 97 #[.slice A n c];have h2:=Row.new (w.alloc (.cells #[.slice A n c] 97)) 3 #[.int .i64 (k:Int)];rw[World.size_alloc]at h2;exact⟨w.heap.size,w.heap.size+1,rfl,h1.alloc _,h2,Nat.le_refl _,by omega,by omega,((Ext.refl w).alloc _).alloc _⟩
theorem KS (j:z=(i:Int)) (hi:i<=n):∃A' c',∀W:World,(Instr.sliceAt 97 (.slice A n c) (some (.int .i64 z)) none none).run prog W = .ok (.slice A' (n - i) c') W:=by
 subst j;have ht:=underlying97;have h:prog.elem 97=100:=by unfold Program.elem;rw[ht]
 have hs:∀W:World,(sizeOf 100).run prog W = .ok 4 W:=fun W=>by kernel_rfl
 refine⟨if c=i then A else A.map fun a=>a.add (i*4),c - i,fun W=>?_⟩;rw[run_sliceAt_slice W _ _ _ _ _ (by rw[ht,h]),run_slice_l W _ A n c (by rw[ht,h]) .i64 i (by omega) (by omega),h,hs];simp only[Result.andThen_ok,sliced];rfl
theorem KT {n c i j:Nat} (Y:z=(i:Int)) (b:z1=((i+j:Nat):Int)) (H:z2=((i+j:Nat):Int)) (hi:i+j<=c) (J:0<j) (W:World) :
 (Instr.sliceAt 97 (.slice A n c) (some (.int .i64 z)) (some (.int .i64 z1)) (some (.int .i64 z2))).run prog W = .ok (.slice (A.map fun a=>a.add (i*4)) j j) W:=by
 subst Y b H;have ht:=underlying97;have h:prog.elem 97=100:=by unfold Program.elem;rw[ht]
 have hs:(sizeOf 100).run prog W = .ok 4 W:=by kernel_rfl
 rw[run_sliceAt_slice W _ _ _ _ _ (by rw[ht,h]),run_slice_lhm W _ A n c (by rw[ht,h]) .i64 .i64 .i64 i ((i+j:Nat):Int) ((i+j:Nat):Int) (by omega) (by omega) (by omega) (by omega),h,hs];simp only[Result.andThen_ok];congr 1;unfold sliced;rw[if_neg (by omega),show ((i+j:Nat):Int).toNat - (i:Int).toNat=j by omega];rfl
def chunkVC (A:Option Addr) (n k i:Nat):Value:= .slice (A.map fun a=>a.add (i*k*4)) (min k (n - i*k)) (min k (n - i*k))
def ChIterC (A:Option Addr) (n k b1 b2:Nat) (w:World):Prop :=
 Iter prog 180 #[.pointer (some ⟨b1,0,none⟩),.pointer (some ⟨b2,0,none⟩)] (fun i:Nat=>#[chunkVC A n k i]) Ext (fun pre i _=>i=pre.length/\i*k<n) (KeepB b1 b2) (fun xs W W'=>n<=xs.length*k/\xs=List.range xs.length/\(∀i∈xs,i*k<n)/\Ext W W') w
theorem JV (A:Option Addr) (n c k b1 b2:Nat) (w:World) (H:Row w b1 97 #[.slice A n c]) (Y:Row w b2 3 #[.int .i64 (k:Int)]) (hk:1<=k) (n0:k<=1000000) (hn:n<=1000000000) (hc:n<=c):ChIterC A n k b1 b2 w:=by
 intro l J W hE U hY h0;replace H:=H.ext hE;replace Y:=Y.ext hE;clear hE;replace H:=Aa H;replace Y:=Aa Y;replace hY:=Aa hY;replace U:=Aa U;replace h0:=Aa h0;refine(callsIn_wide (n:=0)).1 ?_;refine callsIn_of_wp func180 rfl trivial ?_;simp only[ntmps180,List.size_toArray,List.length_cons,List.length_nil,Nat.reduceAdd,Nat.reduceSub,Array.replicate_succ,Array.replicate_zero,List.push_toArray,List.append_toArray,List.nil_append,List.cons_append];gi_wp2_with fail
 gi_loopw [4] (fun s4 wr=>∃(i q:Nat) (pre:List Nat),s4 = .int .i64 (q:Int)/\Hid (q=i*k)/\q<=n+k/\Hid (pre.length=i)/\Hid (pre=List.range i)/\Hid (∀j∈pre,j*k<n)/\Hid (J pre wr)/\Hid (Row wr b1 97 #[.slice A n c])/\Hid (Row wr b2 3 #[.int .i64 (k:Int)])) (fun s4 _=>n - (intOf s4).toNat)
 case atStart=>exact⟨0,0,[],rfl,Aa (by simp),by omega,Aa rfl,Aa rfl,Aa nofun,h0,H,Y⟩
 case round =>
  obtain⟨i,q,pre,rfl,hq,h1,b,q0,G,hJ,r1,r2⟩:=hrel;have k1:=r1.out.cell 0 rfl;have k2:=r2.out.cell 0 rfl;by_cases Z:q<n
  ·obtain⟨m,hm⟩:∃m:Nat,(m:Int)=min (k:Int) ((n - q:Nat):Int):=⟨min k (n - q),by omega⟩
   have y0:0<m:=by omega
   have o0:m<=k:=by omega
   have r0:m<=n - q:=by omega
   have c0:m=k\/m=n - q:=by omega
   have f0:=fun(W:World)=>AQ (P:=prog) #[3,3] 3 hm W;have j1:=fun(W:World)=>KT (A:=A) (n:=n) (c:=c) (i:=q) (j:=m) (z:=(q:Int)) (z1:=(q:Int)+(m:Int)) (z2:=(q:Int)+(m:Int)) rfl (by omega) (by omega) (by omega) y0 W;obtain⟨A',c',q1⟩:=KS (A:=A) (n:=n) (c:=c) (i:=q) (z:=(q:Int)) rfl (by omega);replace hm:=Aa hm;have j0:=hY.out pre pre.length wr.drew (U.out _ _ _ hJ.out (Ext.refl wr).drew) ⟨rfl,by rw[b.out,<-hq.out];exact Z⟩;have O:chunkVC A n k pre.length = .slice (A.map fun a=>a.add (q*4)) m m:=by
    unfold chunkVC;rw[b.out,<-hq.out,show min k (n - q)=m by omega]
   rw[O]at j0;obtain⟨fn,tmps,assign,body,hy,hR⟩:=j0;have I:Hid (∀j∈pre ++ [pre.length],j*k<n):=Aa fun j hj=>by
    rcases List.mem_append.1 hj with h | h
    ·exact G.out j h
    ·rw[List.mem_singleton.1 h,b.out,<-hq.out];exact Z
   have p0:Hid (pre ++ [pre.length]=List.range (i+1)):=Aa (by rw[List.range_succ,b.out,q0.out]);have d0:Hid (q+k=(i+1)*k):=Aa (by rw[Nat.succ_mul,hq.out]);clear O c0 hY U;gi_wp2_with fail;refine wpIn_wide.2 (AE (fun K hK=>?_));go_wp2_with fail;refine⟨by kernel_rfl,?_⟩;gi_wp2_with fail;refine hR.mono ?_;rintro e W3 ⟨rfl,v0,T⟩;have r13:=Aa (show Row W3 b1 97 #[.slice A n c] from T.1 _ r1.out);have r23:=Aa (show Row W3 b2 3 #[.int .i64 (k:Int)] from T.2 _ r2.out);have k23:=r23.out.cell 0 rfl;gi_wp2_with fail;exact⟨⟨i+1,q+k,pre ++ [pre.length],by congr 1,d0,by omega,Aa (by rw[List.length_append,b.out];rfl),p0,I,Aa v0,r13,r23⟩,by simp only[intOf];omega⟩
  ·gi_wp2_with fail
   go_end0
   exact⟨⟨_,rfl⟩,pre,_,hJ.out,by rw[b.out,<-hq.out];omega,by rw[b.out];exact q0.out,G.out,Ext.refl _⟩
end
section
open Go.RowKit Go.Shelf
attribute [local go_sem] Oper.semAt_some AP Cp
theorem Ji {l:List En} (h:Cells w A (encells l)) (j:∀a,A=some a->a.spot=none) (i m:Nat):Cells w (A.map fun a=>a.add (i*4)) (encells ((l.drop i).take m)):=by
 unfold encells;rw[Bh (f:=En.cells) (k:=4) (fun _=>rfl),Bo (f:=En.cells) (k:=4) (fun _=>rfl)];exact h.part j _ _
def DEnc (base h1 b1 b2:Nat) (V:Value) (L:List UInt8) (w W:World):Prop :=
 (∃A c,Row W h1 24 #[.slice A L.length c]/\Own8 W base A L.length c L)/\Row W b1 97 #[V]/\Row W b2 3 #[.int .i64 16]/\Ext w W
theorem DEnc.alike {base h1 b1 b2 B:Nat} (h:DEnc base h1 b1 b2 V L w W) (j:Alike B W W1) (b:w.heap.size<=B):DEnc base h1 b1 b2 V L w W1:=by
 obtain⟨⟨A,c,r,o⟩,r1,r2,a⟩:=h;exact⟨⟨A,c,j.row r,o.1,j.buf o.2⟩,j.row r1,j.row r2,j.ext a b⟩
theorem DEnc.ext {base h1 b1 b2:Nat} (h:DEnc base h1 b1 b2 V L w W) (j:Ext W W1):DEnc base h1 b1 b2 V L w W1:=by
 obtain⟨⟨A,c,r,o⟩,r1,r2,b⟩:=h;exact⟨⟨A,c,r.ext j,o.ext j⟩,r1.ext j,r2.ext j,b.trans j⟩
def thrB (a b c:Nat) (j:Nat):List UInt8:=if j=0 then [] else if j=1 then vb a else if j=2 then vb a++vb b else vb a++vb b++vb c
theorem OP {a b c j:Nat} (H:j<3) {v:Nat} (h:(v:Int)=thr (a:Int) (b:Int) (c:Int) j):thrB a b c (j+1)=thrB a b c j++vb v:=by
 rcases (show j=0\/j=1\/j=2 by omega)with rfl | rfl | rfl
 ·have:v=a:=by unfold thr at h;simp at h;omega
  subst this;simp[thrB]
 ·have:v=b:=by unfold thr at h;simp at h;omega
  subst this;simp[thrB]
 ·have:v=c:=by unfold thr at h;simp at h;omega
  subst this;simp[thrB]
theorem GF (l:List En) (A:Option Addr) (m c:Nat) (w:World) (hm:m=l.length) (h:Cells w A (encells l)) (hA:∀a,A=some a->a.spot=none) (h7:m<=c) (d1:OkEs l) :
 Calls prog 86 #[.slice A m c] w fun e w'=>OwnB w w.heap.size (encEs l) e w':=by
 have e7:m<=262144:=by rw[hm];exact d1.few
 have n0:=Aa (fun A n c x l W h1 h2 h3 h4 h5=>Cm A n c x l W h1 h2 h3 h4 h5);have h6:=Aa (fun A n c l s W h1 h2 h3 h4 h5=>DR A n c l s W h1 h2 h3 h4 h5);have p7:=Aa (fun a b W h1 h2=>Ms a b W h1 h2);have q8:=AH (m:=m) (by omega);replace hm:=Aa hm;replace h:=Aa h;replace d1:=Aa d1;replace hA:=Aa hA;refine(callsIn_wide (n:=0)).1 ?_;refine callsIn_of_wp_marks func86 rfl trivial ?_;simp only[ntmps86,List.size_toArray,List.length_cons,List.length_nil,Nat.reduceAdd,Nat.reduceSub,Array.replicate_succ,Array.replicate_zero,List.push_toArray,List.append_toArray,List.nil_append,List.cons_append];gi_wp2_with fail;refine(callsIn_wide.2 (n0.out none 0 0 m [] w rfl (.inl rfl) (fun _=>rfl) (by omega) (by omega))).mono ?_;rintro e w2 G;obtain⟨A2,c2,rfl,o0,q2⟩:=G;rw[List.nil_append]at o0 ⊢;obtain⟨k2,v0⟩:∃k,k=(vb m).length:=⟨_,rfl⟩
 rw[<-v0]at o0 ⊢;replace o0:=Aa o0;replace v0:=Aa v0;replace q2:=Aa q2;gi_wp2_with fail;obtain⟨W3,k1⟩:=Ab (w2.alloc (Obj.cells #[Value.slice A2 k2 c2] 24));rw[<-k1];obtain⟨h1,m1⟩:=Ab w2.heap.size;have q1:Row W3 h1 24 #[.slice A2 k2 c2]:=by rw[k1,m1];exact Row.new w2 _ _
 have j2:Ext w2 W3:=by rw[k1];exact(Ext.refl w2).alloc _
 have x4:W3.heap.size=h1+1:=by rw[k1,m1];simp
 have o5:w.heap.size<=h1:=by rw[m1];exact q2.out.size
 have r5:Own8 W3 w.heap.size A2 k2 c2 (vb m):=⟨v0.out,o0.out.ext j2⟩
 rw[<-m1];refine(callsIn_wide.2 (Lp A m c 16 W3 (by omega) (by omega))).mono ?_;rintro e w4 ⟨b1,b2,rfl,rb1,rb2,i6,l6,t4,f3⟩;have r0:DEnc w.heap.size h1 b1 b2 (.slice A m c) (vb m) w w4:=⟨⟨A2,c2,by rw[<-v0.out];exact q1.ext f3,by rw[<-v0.out];exact r5.ext f3⟩,rb1,rb2,(q2.out.trans j2).trans f3⟩
 have p4:=JV A m c 16 b1 b2 w4 rb1 rb2 (by omega) (by omega) (by omega) h7;rw[x4]at i6 l6;have g0:=r0.2.2.2.size;replace r0:=Aa r0;replace p4:=Aa p4;replace k1:=Aa k1;replace m1:=Aa m1;clear q1 f3 rb1 rb2 o0 j2 q2 v0 x4 r5;gi_wp2_with fail;unfold ChIterC at p4;refine C8 (gf:=180) (lb:=#[.pointer (some ⟨b1,0,none⟩),.pointer (some ⟨b2,0,none⟩)]) rfl (enters_of func180 (by kernel_rfl) rfl) p4.out (fun _=>rfl) (fun _ _ h=>h.others) (fun _ _ _ h=>h.2.2.2.others) (KeepB.trans b1 b2) ?kb
  (fun pre W=>DEnc w.heap.size h1 b1 b2 (.slice A m c) (vb m++partsE ((chunkL 16 l).take pre.length)) w W) (fun pre A B h ha=>h.alike ha g0) (fun pre A B h hE=>h.ext hE) ?h0 ?hround ?hdone
 case kb =>
  have f5:=(r0.out.2.1).lt;have i5:=(r0.out.2.2.1).lt;exact KeepB.alike f5 i5
 case h0 =>
  intro W ha;have:=r0.out.alike ha g0;simpa [partsE]using this
 case hround =>
  rintro rl pre i W hI ⟨hi,r6⟩;subst hi;have p3:=F7 (l:=l) (r:=pre.length) (by rw[<-hm.out];exact r6);obtain⟨j,hj⟩:=Ab (min 16 (m - pre.length*16));obtain⟨cb,j1⟩:=Ab ((l.drop (pre.length*16)).take 16);have e0:cb.length=j:=by rw[j1,hj,List.length_take,List.length_drop,hm.out]
  obtain⟨A',e3⟩:=Ab (A.map fun a=>a.add (pre.length*16*4):Option Addr);have k3:Cells w A' (encells cb):=by rw[e3,j1];exact Ji h.out hA.out _ _
  have y4:chunkVC A m 16 pre.length = .slice A' j j:=by unfold chunkVC;rw[e3,hj]
  have f0:∀x∈cb,okEn x:=fun x hx=>by rw[j1]at hx;exact(d1.out.each x (List.mem_of_mem_drop (List.mem_of_mem_take hx))).1
  rw[<-j1]at p3;obtain⟨L,hL⟩:=Ab (vb m++partsE ((chunkL 16 l).take pre.length));rw[<-hL]at hI;have e6:L.length<=60000010:=by
   have h1:=F8 (fun e he=>(d1.out.each e he).1) d1.out.few pre.length;have h2:=Ag (n:=m) (by omega);rw[hL,List.length_append];omega
  have t7:j<=16:=by omega
  obtain⟨Y,hY⟩:=Ab (blockE [] cb);have f6:Y.length<=3200:=by have:=Di (l:=cb) (last:= []) f0;rw[hY];omega
  rw[<-hY]at p3;rw[y4];clear y4;replace hI:=Aa hI;replace k3:=Aa k3;replace e3:=Aa e3;replace j1:=Aa j1;replace hj:=Aa hj;replace hL:=Aa hL;replace e0:=Aa e0;replace p3:=Aa p3;replace f0:=Aa f0;replace hY:=Aa hY;gi_wp2_with fail;refine⟨KeepsOthers.refl _,KeepB.refl _ _ _,fun W2 g5=>?_⟩;have l3:=Aa (hI.out.alike g5 g0);clear g5 hI;have t5:=Aa l3.out.2.2.2;gi_wp2_with fail
  gi_loopw [5,6,21] (fun s5 s6 s21 wr=>∃(i n5 c5:Nat) (A5:Option Addr) (X la:List UInt8),s5 = .slice A5 n5 c5/\s6 = .string ⟨la.toArray⟩/\s21 = .int .i64 (i:Int)/\i<=j/\n5<=3200/\la.length<=65/\Hid (Y=X++blockE la (cb.drop i))/\Hid (Own8 wr w.heap.size A5 n5 c5 X)/\Hid (Ext W2 wr)) (fun _ _ s21 _=>j - (intOf s21).toNat)
  case atStart=>exact⟨0,0,0,none,[],[],rfl,rfl,rfl,by omega,by omega,by simp,Aa (by rw[hY.out];rfl),Aa ⟨rfl,Buf.nil _ _ _⟩,Aa (Ext.refl _)⟩
  case round =>
   obtain⟨i,n5,c5,A5,X,la,rfl,rfl,rfl,d7,f7,x7,e5,j3,hE⟩:=hrel;have O:Hid (Ext w wr):=Aa (t5.out.trans hE.out);by_cases n6:i<j
   ·obtain⟨x,d3⟩:∃x,cb[i]? = some x:=⟨_,List.getElem?_eq_getElem (by rw[e0.out];exact n6)⟩
    obtain⟨g,o,b6,x0,x1,x2,x3⟩:=AX (k3.out.ext O.out) d3;subst b6;have g7:=f0.out x (List.mem_of_getElem? d3);have o2:=e5.out;rw[AY d3]at o2;obtain⟨t,off,len,n⟩:=x;obtain⟨b0,b1',b2',b3'⟩:=g7;simp only at x0 x1 x2 x3 b0 b1' b2' b3';obtain⟨k,hk⟩:=Ab (cpl la t);have o6:k<=t.length:=by rw[hk];exact(DC la t).2
    obtain⟨X1,o3⟩:=Ab (X++vb k);obtain⟨X2,f2⟩:=Ab (X1++txL (t.drop k));obtain⟨X3,i2⟩:=Ab (X2++thrB off len n 3);have c0:Y=X3++blockE t (cb.drop (i+1)):=by
     rw[o2,i2,f2,o3,hk];show X++(enB la _++blockE t _)=_;unfold enB thrB;simp
    have m7:X3.length<=3200:=by rw[c0,List.length_append]at f6;omega
    have b5:X2.length<=X3.length:=by rw[i2,List.length_append];omega
    have a5:X1.length<=X2.length:=by rw[f2,List.length_append];omega
    have k7:=fun W=>Ge t k o6 (z:=(k:Int)) rfl W;have v7:k<=65:=by omega
    have h8:=AH (m:=k) (by omega);have k6:=Aa (fun W=>p7.out la t W (by omega) (by omega));rw[<-hk]at k6;obtain⟨W5,d2⟩:=Ab (wr.alloc (.cells #[.string ⟨t.toArray⟩,.int .i64 (off:Int),.int .i64 (len:Int),.int .i64 (n:Int)] 100));obtain⟨g8,q4⟩:=Ab wr.heap.size;have r4:Row W5 g8 100 #[.string ⟨t.toArray⟩,.int .i64 (off:Int),.int .i64 (len:Int),.int .i64 (n:Int)]:=by rw[d2,q4];exact Row.new wr _ _
    have t0:Ext wr W5:=by rw[d2];exact(Ext.refl wr).alloc _
    have g6:(⟨t.toArray⟩:ByteArray).size=t.length:=ByteArray.size_mk_toArray t;replace o3:=Aa o3;replace f2:=Aa f2;replace i2:=Aa i2;replace c0:=Aa c0;replace hk:=Aa hk;replace d3:=Aa d3;replace r4:=Aa r4;replace t0:=Aa t0;replace d2:=Aa d2;replace q4:=Aa q4;replace g6:=Aa g6;clear o2;gi_wp2_with fail;rw[<-d2.out,<-q4.out];refine(Bb (k6.out W5)).mono ?_;rintro e w6 ⟨rfl,b4⟩;have q6:=Aa (r4.out.ext b4);have m2:=Aa (t0.out.trans b4);have y0:=q6.out.cell 0 rfl;have J:=j3.out.ext m2.out;have j6:w.heap.size<=w6.heap.size:=(O.out.trans m2.out).size;replace J:=Aa J;clear b4;gi_wp2_with fail;refine(Bb (n0.out A5 n5 c5 k X w6 J.out.1 J.out.2.cells J.out.nil_ (by omega) (by omega))).mono ?_;rintro e w7 G;obtain⟨A7,c7,rfl,Z,U⟩:=G;rw[<-o3.out]at Z ⊢;have p6:=Aa (q6.out.ext U);have y0:=p6.out.cell 0 rfl;have j4:=Aa (m2.out.trans U);have k4:Hid (Own8 w7 w.heap.size A7 X1.length c7 X1):=Aa ⟨rfl,Z.lower j6⟩;obtain⟨n7,I⟩:=Ab X1.length;rw[<-I]at k4 a5 ⊢;replace I:=Aa I;have a3:w.heap.size<=w7.heap.size:=(O.out.trans j4.out).size;clear Z U;gi_wp2_with fail;refine(Bb (h6.out A7 n7 c7 X1 (t.drop k) w7 k4.out.1 k4.out.2.cells k4.out.nil_ (by omega) (by rw[List.length_drop];omega))).mono ?_;rintro e w8 G;obtain⟨A8,c8,rfl,a4,c4⟩:=G;rw[<-f2.out]at a4 ⊢;have z3:=Aa (p6.out.ext c4);have y0:=z3.out.cell 0 rfl;have y1:=z3.out.cell 1 rfl;have y2:=z3.out.cell 2 rfl;have y3:=z3.out.cell 3 rfl;have g4:=Aa (j4.out.trans c4);have w5:Hid (Own8 w8 w.heap.size A8 X2.length c8 X2):=Aa ⟨rfl,a4.lower a3⟩;obtain⟨n8,n4⟩:=Ab X2.length;rw[<-n4]at w5 b5 ⊢;replace n4:=Aa n4;clear a4 c4;gi_wp2_with fail
    gi_loopw [5,46] (fun s5 s46 wv=>∃(q n9 c9:Nat) (A9:Option Addr),s5 = .slice A9 n9 c9/\s46 = .int .i64 (q:Int)/\q<=3/\n9<=3300+20*q/\Hid (Own8 wv w.heap.size A9 n9 c9 (X2++thrB off len n q))/\Hid (Ext w8 wv)) (fun _ s46 _=>3 - (intOf s46).toNat)
    case atStart=>exact⟨0,n8,c8,A8,rfl,rfl,by omega,by omega,Aa (by rw[show thrB off len n 0 = [] from rfl,List.append_nil];exact w5.out),Aa (Ext.refl _)⟩
    case round =>
     obtain⟨q,n9,c9,A9,rfl,rfl,l7,i7,a1,i3⟩:=hrel;by_cases hq:q<3
     ·have hx:=fun W=>I2 (a:=(off:Int)) (b:=(len:Int)) (c:=(n:Int)) hq W;have l5:=Qg (a:=(off:Int)) (b:=(len:Int)) (c:=(n:Int)) q (by omega) (by omega) (by omega);obtain⟨v,hv⟩:∃v:Nat,(v:Int)=thr (off:Int) (len:Int) (n:Int) q:=⟨(thr (off:Int) (len:Int) (n:Int) q).toNat,by omega⟩
      rw[<-hv]at hx l5;have o7:v<=67108864:=by omega
      have q7:(q:Int)<3:=by omega
      have p8:=AH (m:=v) (by omega);have o4:=OP hq hv;have k0:=Ag (n:=v) (by omega);obtain⟨X9,r3⟩:=Ab (X2++thrB off len n q);obtain⟨X10,p0⟩:=Ab (X9++vb v);rw[<-r3]at a1;have e4:X10=X2++thrB off len n (q+1):=by rw[p0,r3,o4,List.append_assoc]
      have d4:X10.length<=3300+20*(q+1):=by have:=a1.out.1;rw[p0,List.length_append];omega
      have b3:w.heap.size<=wr.heap.size:=((O.out.trans g4.out).trans i3.out).size;clear l5 k0;replace hv:=Aa hv;replace o4:=Aa o4;replace r3:=Aa r3;replace p0:=Aa p0;replace e4:=Aa e4;gi_wp2_with fail;refine(Bb (n0.out A9 n9 c9 v X9 wr a1.out.1 a1.out.2.cells a1.out.nil_ (by omega) (by omega))).mono ?_;rintro e w10 G;obtain⟨A10,c10,rfl,i1,H⟩:=G;rw[<-p0.out]at i1 ⊢;have j0:Hid (Own8 w10 w.heap.size A10 X10.length c10 (X2++thrB off len n (q+1))):=Aa (by rw[<-e4.out];exact⟨rfl,i1.lower b3⟩);obtain⟨n10,q3⟩:=Ab X10.length;rw[<-q3]at j0 d4 ⊢;replace q3:=Aa q3;have m0:=Aa (i3.out.trans H);clear i1 H;gi_wp2_with fail;exact⟨⟨q+1,n10,c10,A10,rfl,by congr 1,by omega,by omega,j0,m0⟩,by simp only[intOf];omega⟩
     ·have q7:¬ (q:Int)<3:=by omega
      have m3:q=3:=by omega
      have j0:Hid (Own8 wr w.heap.size A9 n9 c9 X3):=Aa (by rw[i2.out];have:=a1.out;rw[m3]at this;exact this);have y7:n9<=3200:=by have:=j0.out.1;omega
      have t3:=z3.out.ext i3.out;have y0:=t3.cell 0 rfl;have m0:Hid (Ext W2 wr):=Aa ((hE.out.trans g4.out).trans i3.out);have q5:t.length<=65:=b0;replace t3:=Aa t3;replace m3:=Aa m3;clear y1 y2 y3;gi_wp2_with fail;exact⟨⟨i+1,n9,c9,A9,X3,t,rfl,rfl,by congr 1,by omega,by omega,q5,c0,j0,m0⟩,by simp only[intOf];omega⟩
   ·have i4:Y=X:=by rw[e5.out,List.drop_eq_nil_of_le (by rw[e0.out];omega),blockE,List.append_nil]
    obtain⟨⟨A1,c1,r1,o1⟩,rb1,rb2,_⟩:=l3.out.ext hE.out;have f1:=r1.cell 0 rfl;have T:=j3.out.1;obtain⟨nl,q0⟩:=Ab L.length;rw[<-q0]at f1 o1 e6 r1;obtain⟨L1,a2⟩:=Ab (L++vb n5);have k0:=Ag (n:=n5) (by omega);have z5:L1.length<=60000020:=by rw[a2,List.length_append];omega
    have r7:=AH (m:=n5) (by omega);have b3:=O.out.size;have l0:L1++X=vb m++partsE ((chunkL 16 l).take (pre.length+1)):=by
     rw[p3.out,a2,hL.out,i4,<-T];simp
    have p5:=j3.out.2.cells;have f4:(X.map B8).length=n5:=by rw[List.length_map];exact T.symm
    replace q0:=Aa q0;replace a2:=Aa a2;replace i4:=Aa i4;replace r1:=Aa r1;replace o1:=Aa o1;replace rb1:=Aa rb1;replace rb2:=Aa rb2;replace T:=Aa T;replace l0:=Aa l0;replace p5:=Aa p5;replace f4:=Aa f4;clear k0;gi_wp2_with fail;refine(Bb (n0.out A1 nl c1 n5 L wr o1.out.1 o1.out.2.cells o1.out.nil_ (by omega) (by omega))).mono ?_;rintro e w7 G;obtain⟨A7,c7,rfl,Z,U⟩:=G;rw[<-a2.out]at Z ⊢;obtain⟨n7,I⟩:=Ab L1.length;rw[<-I]at Z z5 ⊢;have a3:=U.size;have j7:=Aa (Cells.ext p5.out U);replace I:=Aa I;replace Z:=Aa Z;replace U:=Aa U;have r17:=Aa (r1.out.ext U.out);gi_wp2_with (gi_at_builtin;refine Bu Aw Z.out j7.out (.tmp 61) (.tmp 62) rfl rfl rfl rfl rfl f4.out (Ai _) (by omega) a3 (fun A10 c10 w10 d0 v4 z4 k0=>?_);have H:=z4 wr U.out (Nat.le_refl _);have r210:=r1.out.ext H;have u0:=r210.cell 0 rfl;have u1:=r210.free 0;replace r210:=Aa r210;replace d0:=Aa d0;replace v4:=Aa v4;replace H:=Aa H;clear z4 k0);have t4:Buf (w10.setCell ⟨h1,0,none⟩ (.slice A10 (n7+n5) c10)) w.heap.size 5 A10 (n7+n5) c10 ((L1++X).map B8):=by
     rw[List.map_append];exact(d0.out.setCell (d0.out.unlike r210.out (by decide)) _).lower b3
    refine⟨((hE.out.others).trans H.out.others).trans (KeepsOthers.setCell _ _ _),KeepB.of l3.out.2.1 ((rb1.out.ext H.out).away (by simp;omega) _) l3.out.2.2.1 ((rb2.out.ext H.out).away (by simp;omega) _),⟨A10,c10,?_,?_⟩,(rb1.out.ext H.out).away (by simp;omega) _,(rb2.out.ext H.out).away (by simp;omega) _,(O.out.trans H.out).setCell (by simpa using o5) _⟩
    ·rw[show (pre ++ [pre.length]).length=pre.length+1 by simp,<-l0.out,List.length_append,<-I.out,<-T.out];exact r210.out.put 0 _
    ·rw[show (pre ++ [pre.length]).length=pre.length+1 by simp,<-l0.out];refine⟨rfl,?_⟩;rw[List.length_append,<-I.out,<-T.out];exact t4
 case hdone =>
  rintro D xs W2 W3 W5 hD hI ⟨v5,c6,d6,x5⟩ m5 hk;have i0:=It l xs.length (by rw[<-hm.out];exact v5);rw[<-hm.out]at i0;obtain⟨⟨A1,c1,r1,o1⟩,rb1,rb2,t0⟩:=(hI.ext x5).alike m5 g0;rw[<-i0]at r1 o1;have f1:=r1.cell 0 rfl;obtain⟨nl,q0⟩:=Ab ((encEs l).length);rw[<-q0]at f1 o1;replace q0:=Aa q0;replace r1:=Aa r1;replace o1:=Aa o1;replace rb1:=Aa rb1;replace rb2:=Aa rb2;replace t0:=Aa t0;replace i0:=Aa i0;replace hk:=Aa hk;clear hI v5 c6 d6 x5 m5;gi_wp2_with fail;refine BR (B:=w4.heap.size) rfl hk.out hD fun W ha=>⟨_,results_tmp rfl _ _ _,?_⟩
  exact⟨A1,c1,by rw[<-q0.out];rfl,by rw[<-q0.out];exact⟨o1.out.1,ha.buf o1.out.2⟩,ha.ext t0.out g0⟩
end
section
open Go.RowKit
theorem J0 (l:List En) (A:Option Addr) (m c:Nat) (w:World) (H:m=l.length) (h:Cells w A (encells l)) (Y:∀a,A=some a->a.spot=none) (U:m<=c) (j:OkEs l) :
 Calls prog 45 #[.slice A m c] w fun e w'=>OkB w (encEs l) e w':=by
 have h1:=Aa (J3 l A m c w H h j);have h2:=Aa (fun W (T:Ext w W)=>GF l A m c W H (h.ext T) Y U j);replace H:=Aa H;replace j:=Aa j;replace Y:=Aa Y;replace h:=Aa h
 go_in
 go_wp2_with fail;refine h1.out.mono ?_;rintro e w1 ⟨rfl,b⟩;go_wp2_with fail;refine(h2.out _ b).mono ?_;rintro e w2 ⟨A2,c2,rfl,O,J⟩;go_wp2_with fail;go_ret2;exact⟨A2,c2,rfl,⟨O.1,O.2.lower b.size⟩,b.trans J⟩
def RdD (w0:World) (g:Nat) (r:List UInt8) (W:World):Prop:=∃A c,Row W g 182 #[.slice A r.length c,.bool false]/\In8 w0 A r.length c r/\Ext w0 W
theorem RdD.ext (h:RdD w0 g r W) (j:Ext W W1):RdD w0 g r W1:=by
 obtain⟨A,c,r1,hi,b⟩:=h;exact⟨A,c,r1.ext j,hi,b.trans j⟩
def NumD (w0:World) (g q:Nat) (r:List UInt8) (W:World) (e:Ending) (W':World):Prop:=e = .returned (.int .i64 (q:Int))/\RdD w0 g r W'/\Chg (fun k=>k=g) W W'
theorem DD (w0 W:World) (g q:Nat) (r:List UInt8) (z:Int) (h:RdD w0 g (vb q++r) W) (J:w0.heap.size<=g) (G:(q:Int)<=z) (Z:z<=1099511627776) (H:(vb q++r).length<=1000000000) :
 Calls prog 97 #[.pointer (some ⟨g,0,none⟩),.int .i64 z] W fun e W'=>NumD w0 g q r W e W':=by
 obtain⟨A,c,r1,hi,Y⟩:=h;have a:=Cl A (vb q++r).length c (vb q++r) w0 W hi Y H;rw[BD (by omega)]at a;obtain⟨n,hn⟩:=Ab ((vb q++r).length);rw[<-hn]at a r1 H;obtain⟨b,hb⟩:∃b:Nat,z=(b:Int):=⟨z.toNat,by omega⟩
 subst hb;have k1:=r1.cell 0 rfl;have O:=AH (m:=b) (by omega);have T:=wrap_i64 (q:=q) (by omega);have U:¬ (b:Int)<(q:Int):=by omega
 replace a:=Aa a;replace r1:=Aa r1;replace hi:=Aa hi;replace Y:=Aa Y;replace hn:=Aa hn
 go_in
 go_wp2_with fail;refine a.out.mono ?_;rintro e w1 ⟨j,A1,c1,rfl,hi1⟩;have r11:=r1.out.ext j;have k3:=r11.cell 1 rfl;have k4:=r11.free 0;have k5:=r11.cell 0 rfl;replace r11:=Aa r11;replace j:=Aa j;replace hi1:=Aa hi1;go_wp2_with fail;go_ret;exact⟨rfl,⟨A1,c1,r11.out.put 0 _,hi1.out,(Y.out.trans j.out).setCell J _⟩,(Chg.of_ext j.out _).trans (Chg.of_set (S:=fun k=>k=g) w1 _ rfl) fun _ _ h=>h⟩
def TxtD (w0:World) (g:Nat) (s r:List UInt8) (W:World) (e:Ending) (W':World):Prop:=e = .returned (.string ⟨s.toArray⟩)/\RdD w0 g r W'/\Chg (fun k=>k=g) W W'
theorem Nz (w0 W:World) (g:Nat) (s r:List UInt8) (h:RdD w0 g (txL s++r) W) (Y:w0.heap.size<=g) (hs:s.length<=65) (a:(txL s++r).length<=1000000000) :
 Calls prog 148 #[.pointer (some ⟨g,0,none⟩)] W fun e W'=>TxtD w0 g s r W e W':=by
 obtain⟨A,c,r1,hi,H⟩:=h;have b:=DG A (txL s++r).length c 65 (txL s++r) w0 W hi H a (by omega);rw[GQ hs (by omega)]at b;obtain⟨n,hn⟩:=Ab ((txL s++r).length);rw[<-hn]at b r1 a;have k1:=r1.cell 0 rfl;replace b:=Aa b;replace r1:=Aa r1;replace hi:=Aa hi;replace H:=Aa H;replace hn:=Aa hn
 go_in
 go_wp2_with fail;refine b.out.mono ?_;rintro e w1 ⟨j,A1,c1,rfl,hi1⟩;have r11:=r1.out.ext j;have k3:=r11.cell 1 rfl;have k4:=r11.free 0;have k5:=r11.cell 0 rfl;replace r11:=Aa r11;replace j:=Aa j;replace hi1:=Aa hi1;go_wp2_with fail;go_ret;exact⟨rfl,⟨A1,c1,r11.out.put 0 _,hi1.out,(H.out.trans j.out).setCell Y _⟩,(Chg.of_ext j.out _).trans (Chg.of_set (S:=fun k=>k=g) w1 _ rfl) fun _ _ h=>h⟩
def FilR (w:World) (g:Nat) (f:List UInt8):Prop:=∃A c,Row w g 172 #[.slice A f.length c]/\In8 w A f.length c f
theorem FilR.ext (h:FilR w g f) (j:Ext w w1):FilR w1 g f:=by
 obtain⟨A,c,b,hi⟩:=h;exact⟨A,c,b.ext j,hi.ext j⟩
theorem C2 (h:i<f.length):f.getD i 0=f[i]:=by rw[List.getD_eq_getElem?_getD,List.getElem?_eq_getElem h];rfl
theorem Pe (h:y<256):bits .and .u8 (y:Int) 1=((y%2:Nat):Int):=by
 have j:∀k:Fin 256,bits .and .u8 ((k.val:Nat):Int) 1=((k.val%2:Nat):Int):=by decide +kernel
 exact j ⟨y,h⟩
theorem MZ (g k:Nat) (f:List UInt8) (w:World) (h:FilR w g f) (hk:k<8*f.length) (Z:k<1048576) :
 Calls prog 183 #[.pointer (some ⟨g,0,none⟩),.int .u64 (k:Int)] w fun e w'=>e = .returned (.bool (hasB f k))/\Ext w w':=by
 obtain⟨A,c,hr,hi⟩:=h;obtain⟨b,o,rfl,T⟩:=hi.bytes.at_ (by omega);have a:k / 8<f.length:=by omega
 have j:=T (k / 8) a;have H:=C2 a;have hb:hasB f k=decide ((f[k / 8].toNat / 2^(k%8)%2=1)):=by unfold hasB;rw[H]
 obtain⟨x,Y⟩:=Ab (f[k / 8].toNat);have O:x<256:=by rw[Y];exact f[k / 8].toNat_lt
 rw[<-Y]at j hb;rw[hb];have r0:=hr.cell 0 rfl;obtain⟨q,U⟩:=Ab (k / 8);obtain⟨m,J⟩:=Ab (k%8);rw[<-U]at j a;rw[<-J];have G:m<8:=by omega
 have h0:(k:Int) / 8=(q:Int):=by omega
 have I:(k:Int)%8=(m:Int):=by omega
 obtain⟨n,hn⟩:=Ab f.length;rw[<-hn]at r0 a;replace hn:=Aa hn;replace U:=Aa U;replace J:=Aa J;replace Y:=Aa Y;clear hb H T
 go_in
 go_wp2_with fail;go_ret;refine⟨Bf ?_,Ext.refl _⟩;have hy:x / 2^m<256:=Nat.lt_of_le_of_lt (Nat.div_le_self _ _) O;have e:(x:Int) / 2^m=((x / 2^m:Nat):Int):=by simp
 rw[e,Pe hy];rw[Bool.eq_iff_iff,beq_iff_eq,decide_eq_true_iff];omega
theorem KX (hk:k / 8<f.length) (h:hasB f k=true):setB f k=f:=by
 unfold setB;have j:(f.getD (k / 8) 0).toNat ||| 2^(k%8)=(f.getD (k / 8) 0).toNat:=by
  unfold hasB at h;have ht:(f.getD (k / 8) 0).toNat.testBit (k%8)=true:=by rw[Nat.testBit_eq_decide_div_mod_eq];exact h
  apply Nat.eq_of_testBit_eq;intro i;rw[Nat.testBit_or,Nat.testBit_two_pow];by_cases hi:k%8=i
  ·rw[<-hi,ht];rfl
  ·rw[decide_eq_false hi,Bool.or_false]
 rw[j,UInt8.ofNat_toNat];apply List.ext_getElem (by rw[List.length_set]);intro i h1 h2;rw[List.getElem_set];split
 ·rename_i e;subst e;exact C2 hk
 ·rfl
def FilO (w:World) (base g:Nat) (f:List UInt8):Prop:=∃b c cur,Row w g 172 #[.slice (some ⟨b,0,none⟩) f.length c]/\base<=b/\Row w b 5 cur/\f.length<=c/\c<=cur.size/\cur.toList.take f.length=f.map B8
theorem FilO.ext {base g:Nat} (h:FilO w base g f) (a:Ext w w1):FilO w1 base g f:=by
 obtain⟨b,c,cur,Y,hb,j,h1,h2,H⟩:=h;exact⟨b,c,cur,Y.ext a,hb,j.ext a,h1,h2,H⟩
theorem FilO.buf {base g:Nat} (h:FilO w base g f):∃A c,Row w g 172 #[.slice A f.length c]/\Buf w base 5 A f.length c (f.map B8):=by
 obtain⟨b,c,cur,H,hb,j,h1,h2,a⟩:=h;exact⟨_,c,H,List.length_map ..,h1,.inr ⟨b,cur,rfl,hb,j,h2,a⟩⟩
theorem FilO.fil {base g:Nat} (h:FilO w base g f):FilR w g f:=by
 obtain⟨A,c,j,hb⟩:=h.buf;exact⟨A,c,j,hb.in8⟩
def SetP (w:World) (base g:Nat) (f:List UInt8) (w':World):Prop:=FilO w' base g f/\∀w0,Ext w0 w->w0.heap.size<=base->Ext w0 w'
theorem Q8 (g k base:Nat) (f:List UInt8) (w:World) (h:FilO w base g f) (hk:k<8*f.length) (g0:k<1048576) :
 Calls prog 143 #[.pointer (some ⟨g,0,none⟩),.int .u64 (k:Int)] w fun e w'=>e = .returned (.bool (!hasB f k))/\SetP w base g (setB f k) w':=by
 have Y:=MZ g k f w h.fil hk g0;have j:k / 8<f.length:=by omega
 cases O:hasB f k with
 | true =>
  rw[O]at Y;have hs:=KX j O;rw[hs];replace Y:=Aa Y;replace hs:=Aa hs;replace O:=Aa O;replace h:=Aa h
  go_in
  go_wp2_with fail;refine Y.out.mono ?_;rintro e w1 ⟨rfl,a⟩;go_wp2_with fail;go_ret;exact⟨rfl,h.out.ext a,fun w0 h0 _=>h0.trans a⟩
 | false =>
  rw[O]at Y;replace O:=Aa O;obtain⟨b,c,cur,I,hb,H,h1,h2,h3⟩:=h;have J:cur[k / 8]? = some (B8 f[k / 8]):=by
   have:(cur.toList.take f.length)[k / 8]? = some (B8 f[k / 8]):=by rw[h3,List.getElem?_map,List.getElem?_eq_getElem j];rfl
   rw[List.getElem?_take,if_pos j]at this;simpa using this
  have j0:=C2 j;obtain⟨x,Z⟩:=Ab (f[k / 8].toNat);have G:x<256:=by rw[Z];exact f[k / 8].toNat_lt
  unfold B8 at J;rw[<-Z]at J;obtain⟨q,T⟩:=Ab (k / 8);obtain⟨m,hm⟩:=Ab (k%8);rw[<-T]at j;have U:m<8:=by omega
  have f0:(k:Int) / 8=(q:Int):=by omega
  have d0:(k:Int)%8=(m:Int):=by omega
  obtain⟨n,hn⟩:=Ab f.length;rw[<-hn]at I j;have k0:g≠b:=Row.unlike I H (by decide);replace hn:=Aa hn;replace T:=Aa T;replace hm:=Aa hm;replace Z:=Aa Z;replace Y:=Aa Y
  go_in
  go_wp2_with fail;refine Y.out.mono ?_;rintro e w1 ⟨rfl,a⟩;have r0:=(I.ext a).cell 0 rfl;have r1:=(H.ext a).cell (k / 8) J;rw[<-T.out]at r1;have r2:=(H.ext a).free q;replace a:=Aa a;go_wp2_with fail;go_ret;have x0:bits BinOp.or IntKind.u8 (x:Int) (2^m%256)=((x ||| 2^m:Nat):Int):=by
   have hp:2^m<256:=Nat.pow_lt_pow_right (n:=8) (by omega) U;have e:(2:Int)^m%256=((2^m:Nat):Int):=by
    have:∀k:Fin 8,(2:Int)^k.val%256=((2^k.val:Nat):Int):=by decide
    exact this ⟨m,U⟩
   rw[e,u8_or_nat _ _ G hp]
  rw[x0];have t0:=(H.ext a.out).put q (.int .u8 ((x ||| 2^m:Nat):Int));have v0:=(I.ext a.out).away (p:=⟨b,q,none⟩) (by simpa using k0) (.int .u8 ((x ||| 2^m:Nat):Int));have p0:B8 (UInt8.ofNat ((f.getD (k / 8) 0).toNat ||| 2^(k%8))) = .int .u8 ((x ||| 2^m:Nat):Int):=by
   unfold B8;rw[j0,<-Z.out,<-hm.out,UInt8.toNat_ofNat',Nat.mod_eq_of_lt (Rg G U)]
  refine⟨rfl,⟨b,c,_,by rw[Ce,<-hn.out];exact v0,hb,t0,by rw[Ce];exact h1,by rw[Array.size_setIfInBounds];exact h2,?_⟩,fun w0 h0 c0=>(h0.trans a.out).setCell (by simp only;omega) _⟩;unfold setB;rw[List.length_set,<-T.out,Array.toList_setIfInBounds,List.take_set,h3,List.map_set,T.out,p0]
theorem KZ (g:Nat) (f:List UInt8) (w:World) (h:FilR w g f) (j:f.length<=1000000000):Calls prog 142 #[.pointer (some ⟨g,0,none⟩)] w fun e w'=>e = .returned (.int .i64 ((8*f.length:Nat):Int))/\w'=w:=by
 obtain⟨A,c,b,hi⟩:=h;have r0:=b.cell 0 rfl;obtain⟨n,hn⟩:=Ab f.length;rw[<-hn]at r0 j ⊢;replace hn:=Aa hn
 go_in
 go_wp2_with fail;go_ret;exact⟨Fb (by omega),rfl⟩
theorem GL (g:Nat) (f:List UInt8) (w:World) (h:FilR w g f) (j:0<f.length):Calls prog 91 #[.pointer (some ⟨g,0,none⟩)] w fun e w'=>e = .returned (.bool false)/\w'=w:=by
 obtain⟨A,c,a,hi⟩:=h;have r0:=a.cell 0 rfl;obtain⟨n,hn⟩:=Ab f.length;rw[<-hn]at r0 j;have b:((n:Int)==0)=false:=beq_eq_false_iff_ne.2 (by omega);replace hn:=Aa hn
 go_in
 go_wp2_with fail;go_ret;exact⟨rfl,rfl⟩
def fplA (s:List UInt8) (m:Nat):Array Value:=#[.int .u64 (fpl s m 0:Int),.int .u64 (fpl s m 1:Int),.int .u64 (fpl s m 2:Int),.int .u64 (fpl s m 3:Int)]
theorem Dd (y:Int):IntKind.u64.wrap y=y%18446744073709551616:=by simp[IntKind.wrap,IntKind.bits,IntKind.signed]
theorem CA (h:m<18446744073709551616):IntKind.u64.wrap (m:Int)=(m:Int):=by rw[Dd];omega
theorem Ha (s:List UInt8) (m:Nat) (w:World) (hs:s.length<=1000000000) (hm:0<m) (k4:m<=1048576) :
 Calls prog 141 #[.string ⟨s.toArray⟩,.int .i64 (m:Int)] w fun e w'=>e = .returned (.agg (fplA s m))/\Ext w w':=by
 obtain⟨W0,J⟩:=Ab (w.alloc (.cells #[.int .u64 0,.int .u64 0,.int .u64 0,.int .u64 0] 228));obtain⟨c,w1,f0,hb,I,k2⟩:=FM s W0;clear k2;obtain⟨g4,O⟩:=Ab w.heap.size;have j1:Row W0 g4 228 #[.int .u64 0,.int .u64 0,.int .u64 0,.int .u64 0]:=by rw[J,O];exact Row.new w _ _
 have q2:=Aa (j1.ext I);have i0:Ext w W0:=by rw[J];exact(Ext.refl w).alloc _
 have d0:=Aa (i0.trans I);obtain⟨b8,n0⟩:=Ab W0.heap.size;rw[<-n0]at f0 hb;obtain⟨n,hn⟩:=Ab s.length;rw[<-hn]at f0 hs;obtain⟨h0,T⟩:=Ab (14695981039346656037:Nat);have e0:h0<18446744073709551616:=by omega
 have q0:h0=fnv []:=T;replace hb:=Aa hb;replace hn:=Aa hn;replace n0:=Aa n0;replace J:=Aa J;replace O:=Aa O;replace i0:=Aa i0;replace I:=Aa I;replace j1:=Aa j1;replace T:=Aa T;replace q0:=Aa q0
 go_in
 go_upto_region 2 with (fail)
 rw[<-J.out,<-O.out];go_wp2_with fail
 go_loopw [5,15] (fun s5 s15 wr=>∃(i h:Nat),s5 = .int .u64 (h:Int)/\s15 = .int .i64 (i:Int)/\i<=n/\h<18446744073709551616/\Hid (h=fnv (s.take i))/\wr=w1) (fun _ s15 _=>n - (intOf s15).toNat)
 case atStart=>exact⟨0,h0,by rw[T.out];rfl,rfl,by omega,e0,q0,rfl⟩
 case round =>
  obtain⟨i,h,rfl,rfl,hi,hh,hf,rfl⟩:=hrel;by_cases a1:i<n
  ·obtain⟨x,c0⟩:∃x,s[i]? = some x:=⟨_,List.getElem?_eq_getElem (by rw[<-hn.out];exact a1)⟩
   obtain⟨g,o,hA,x1⟩:=hb.out.at_ (by rw[<-hn.out];omega);obtain⟨rfl,rfl⟩:g=b8/\o=0:=by injection hA with hA;injection hA with h1 h2;exact⟨h1.symm,h2.symm⟩
   have f1:=x1 i (by rw[<-hn.out];exact a1);rw[(List.getElem?_eq_some_iff.1 c0).2,Nat.zero_add]at f1;have Y:=hf.out;have j0:fnv (s.take (i+1))=fnvS h x:=by rw[List.take_add_one,c0,Y];exact Kb _ x
   obtain⟨y,hy⟩:=Ab x.toNat;rw[<-hy]at f1;have x4:y<256:=by rw[hy];exact x.toNat_lt
   have j2:=u64_xor_nat h y hh (by omega);obtain⟨z,hz⟩:=Ab (h ^^^ y);rw[<-hz]at j2;have o1:IntKind.u64.wrap ((z:Int)*1099511628211)=((fnvS h x:Nat):Int):=by
    rw[Dd];unfold fnvS;rw[<-hy,<-hz];omega
   obtain⟨h2,k0⟩:=Ab (fnvS h x);have i1:h2<18446744073709551616:=by rw[k0];exact Jk h x
   rw[<-k0]at o1 j0;replace j0:=Aa j0.symm;replace k0:=Aa k0;replace hz:=Aa hz;replace hy:=Aa hy;replace c0:=Aa c0;clear Y x1 hA;go_wp2_with fail;exact⟨⟨i+1,h2,rfl,rfl,by omega,i1,j0,trivial⟩,by simp only[intOf];omega⟩
  ·obtain rfl:i=n:=by omega
   have Y:h=fnv s:=by rw[hf.out,List.take_of_length_le (by rw[<-hn.out];exact Nat.le_refl _)]
   obtain⟨fs,p0⟩:=Ab (h%4294967296);obtain⟨d,hd⟩:=Ab (h / 4294967296);obtain⟨sd,G⟩:=Ab (d ||| 1);have y1:d<4294967296:=by omega
   have m3:sd<4294967296:=by rw[G];exact Nat.or_lt_two_pow (n:=32) y1 (by decide)
   have h3:fs<4294967296:=by omega
   have z3:bits .and .u64 (h:Int) 4294967295=(fs:Int):=by
    rw[show (4294967295:Int)=((4294967295:Nat):Int)from rfl,u64_and_nat h 4294967295 hh (by omega),p0];exact congrArg _ (Nat.and_two_pow_sub_one_eq_mod h 32)
   have l3:(h:Int) / 4294967296=(d:Int):=by omega
   have j4:bits .or .u64 (d:Int) 1=(sd:Int):=by rw[G];exact u64_or_nat d 1 (by omega) (by omega)
   have q1:∀i,fpl s m i=(fs+i*sd)%m:=fun i=>by unfold fpl;rw[<-Y,<-p0,<-hd,<-G]
   have t4:=CA (m:=m) (by omega);replace p0:=Aa p0;replace hd:=Aa hd;replace G:=Aa G;replace q1:=Aa q1;replace Y:=Aa Y;clear T q0 e0;go_wp2_with fail;obtain⟨W2,H⟩:=Ab (wr.alloc (.cells #[.int .u64 0,.int .u64 0,.int .u64 0,.int .u64 0] 228));obtain⟨g10,b⟩:=Ab wr.heap.size;rw[<-H,<-b];have m1:Row W2 g10 228 #[.int .u64 0,.int .u64 0,.int .u64 0,.int .u64 0]:=by rw[H,b];exact Row.new wr _ _
   have l0:Ext w W2:=by rw[H];exact d0.out.alloc _
   have Z:Row W2 g4 228 #[.int .u64 0,.int .u64 0,.int .u64 0,.int .u64 0]:=by rw[H];exact q2.out.alloc _
   have k3:g4≠g10:=by have:=q2.out.lt;omega
   have q3:w.heap.size<=g10:=by rw[b];exact d0.out.size
   have a:w.heap.size<=g4:=by have:=O.out;omega
   replace m1:=Aa m1;replace l0:=Aa l0;replace Z:=Aa Z;replace H:=Aa H;replace b:=Aa b
   go_loopw [30] (fun s30 wv=>∃(j:Nat) (cs:Array Value),s30 = .int .i64 (j:Int)/\j<=4/\Hid (cs.size=4/\∀k,k<j->cs[k]? = some (.int .u64 (fpl s m k:Int)))/\Hid (Row wv g10 228 cs)/\Hid (Row wv g4 228 #[.int .u64 0,.int .u64 0,.int .u64 0,.int .u64 0])/\Hid (Ext w wv)) (fun s30 _=>4 - (intOf s30).toNat)
   case atStart=>exact⟨0,_,rfl,by omega,Aa ⟨rfl,fun k hk=>by omega⟩,m1,Z,l0⟩
   case round =>
    obtain⟨j,cs,rfl,hj,U,hr,g0,hE⟩:=hrel;by_cases d1:j<4
    ·obtain⟨p,hp⟩:=Ab (j*sd);have i3:p<17179869184:=by
      have:j*sd<=3*4294967296:=Nat.mul_le_mul (by omega) (by omega);omega
     obtain⟨t,ht⟩:=Ab (fs+p);obtain⟨v,hv⟩:=Ab (t%m);have r0:v=fpl s m j:=by rw[q1.out,hv,ht,hp]
     have m4:=CA (m:=j) (by omega);have p3:IntKind.u64.wrap ((j:Int)*(sd:Int))=(p:Int):=by
      rw[show (j:Int)*(sd:Int)=(p:Int)by rw[hp];simp];exact CA (by omega)
     have y3:(fs:Int)+(p:Int)=(t:Int):=by omega
     have v4:=CA (m:=t) (by omega);have f3:(t:Int)%(m:Int)=(v:Int):=by rw[hv];simp
     have p4:((m:Int)==0)=false:=beq_eq_false_iff_ne.2 (by omega);have o2:∃u,cs[j]? = some u:=⟨_,Array.getElem?_eq_getElem (by rw[U.out.1];exact d1)⟩
     obtain⟨u,hu⟩:=o2;have h4:=hr.out.cell j hu;have q4:=hr.out.free j;have d3:(j:Int)<4:=by omega
     replace hp:=Aa hp;replace ht:=Aa ht;replace hv:=Aa hv;replace r0:=Aa r0;replace hu:=Aa hu;go_wp2_with fail;refine⟨⟨j+1,cs.setIfInBounds j (.int .u64 (v:Int)),by congr 1,by omega,Aa ⟨by rw[Array.size_setIfInBounds];exact U.out.1,fun k hk=>?_⟩,Aa (hr.out.put j _),Aa (g0.out.away k3 _),Aa (hE.out.setCell q3 _)⟩,by simp only[intOf];omega⟩;rw[Array.getElem?_setIfInBounds];split
     ·rename_i e;subst e;rw[if_pos (by rw[U.out.1];exact d1),r0.out]
     ·exact U.out.2 k (by omega)
    ·have e3:¬ (j:Int)<4:=by omega
     have o0:cs=fplA s m:=by
      obtain⟨h1,h2⟩:=U.out;apply Array.ext_getElem?;intro k;by_cases hk:k<4
      ·rw[h2 k (by omega)];rcases (show k=0\/k=1\/k=2\/k=3 by omega)with rfl | rfl | rfl | rfl <;> rfl
      ·rw[Array.getElem?_eq_none (by omega),Array.getElem?_eq_none (by show 4<=k;omega)]
     rw[o0]at hr;unfold fplA at hr;obtain⟨v0,m0⟩:=Ab (fpl s m 0);obtain⟨v1,t0⟩:=Ab (fpl s m 1);obtain⟨v2,x0⟩:=Ab (fpl s m 2);obtain⟨v3,y0⟩:=Ab (fpl s m 3);rw[<-m0,<-t0,<-x0,<-y0]at hr;have o3:=g0.out.get;have r3:=g0.out.free;replace m0:=Aa m0;replace t0:=Aa t0;replace x0:=Aa x0;replace y0:=Aa y0;replace o0:=Aa o0;go_wp2_with (refine wpList_load_row rfl 228 (.tmp 10) rfl g10 rfl 228 _ (0,0) _ hr.out underlying228 rfl (by kernel_rfl) ?_);have j3:=(((g0.out.put 0 (.int .u64 (v0:Int))).put 1 (.int .u64 (v1:Int))).put 2 (.int .u64 (v2:Int))).put 3 (.int .u64 (v3:Int));have i2:=(((hE.out.setCell (p:=⟨g4,0,none⟩) a (.int .u64 (v0:Int))).setCell (p:=⟨g4,1,none⟩) a (.int .u64 (v1:Int))).setCell (p:=⟨g4,2,none⟩) a (.int .u64 (v2:Int))).setCell (p:=⟨g4,3,none⟩) a (.int .u64 (v3:Int));exact bodyPost_ret (results_cell_row rfl _ _ g4 228 #[.int .u64 (v0:Int),.int .u64 (v1:Int),.int .u64 (v2:Int),.int .u64 (v3:Int)] (0,0) _ rfl j3 underlying228 rfl (by kernel_rfl)) rfl ⟨by unfold fplA;rw[<-m0.out,<-t0.out,<-x0.out,<-y0.out],i2⟩
theorem Nd (hi:i<4) (W:World):(Instr.index 228 (.agg (fplA s m)) (.int .i64 (i:Int))).run prog W = .ok (.int .u64 (fpl s m i:Int)) W:=by
 unfold fplA;generalize fpl s m=F;rcases (show i=0\/i=1\/i=2\/i=3 by omega)with rfl | rfl | rfl | rfl
 ·show _=_
  kernel_rfl
 ·show _=_
  kernel_rfl
 ·show _=_
  kernel_rfl
 ·show _=_
  kernel_rfl
def pAdd (f s:List UInt8) (m:Nat):Nat->List UInt8
 | 0=>f
 | j+1=>setB (pAdd f s m j) (fpl s m j)
theorem Kt (f s:List UInt8) (m:Nat):∀j,(pAdd f s m j).length=f.length
 | 0=>rfl
 | j+1=>by rw[pAdd,Ce,Kt f s m j]
theorem PK (f s:List UInt8):pAdd f s (8*f.length) 4=addB f s:=rfl
theorem NM (f:List UInt8):∀l:List (List UInt8),(l.foldl addB f).length=f.length:=by
 intro l
 induction l generalizing f with
 | nil=>rfl
 | cons c l ih=>rw[List.foldl_cons,ih,EL]
theorem LF (f:List UInt8) {l:List (List UInt8)} {x:List UInt8} (h:l[i]? = some x):(l.take (i+1)).foldl addB f=addB ((l.take i).foldl addB f) x:=by
 rw[List.take_add_one,h,List.foldl_append];rfl
def AddP (w0:World) (base g:Nat) (f:List UInt8) (e:Ending) (w':World):Prop:=∃z:Int,e = .returned (.int .i64 z)/\FilO w' base g f/\Ext w0 w'
theorem Qp (g base:Nat) (f:List UInt8) (A:Option Addr) (n c:Nat) (ts:List (List UInt8)) (w0 w:World) (h:FilO w base g f) (hf:0<f.length) (d2:f.length<=131072) (hn:n=ts.length) (t0:Cells w0 A (ts.map strV)) (hE:Ext w0 w) (hb:w0.heap.size<=base) (f2:n<=1000000000) (hlen:∀t∈ts,t.length<=1000000000) :
 Calls prog 90 #[.pointer (some ⟨g,0,none⟩),.slice A n c] w fun e w'=>AddP w0 base g (ts.foldl addB f) e w':=by
 have a1:=Aa (GL g f w h.fil hf);obtain⟨m,hm⟩:=Ab (8*f.length);have g0:0<m:=by omega
 have f0:m<=1048576:=by omega
 have o1:=Aa (fun W (F:List UInt8) (O:FilO W base g F) (hl:F.length=f.length)=>KZ g F W O.fil (by omega));have f1:=Aa (fun s W (hs:s.length<=1000000000)=>Ha s m W hs g0 f0);have m1:=Aa (fun s i (hi:i<4) W=>Nd (s:=s) (m:=m) hi W);have i1:=Aa (fun s j W (F:List UInt8) (O:FilO W base g F) (hl:F.length=f.length)=>Q8 g (fpl s m j) base F W O (by rw[hl,<-hm];exact FC s j g0) (Nat.lt_of_lt_of_le (FC s j g0) f0));obtain⟨Z,hZ⟩:=Ab (ts.foldl addB f);rw[<-hZ];have r0:=h;obtain⟨b,cc,cur,hr,_⟩:=r0;have k0:=hr.cell 0 rfl;clear hr;replace hZ:=Aa hZ;replace hm:=Aa hm;replace h:=Aa h;replace hn:=Aa hn;replace t0:=Aa t0;replace hE:=Aa hE;replace hlen:=Aa hlen
 go_in
 go_wp2_with fail;refine a1.out.mono ?_;rintro e w1 ⟨rfl,hw⟩;obtain rfl:=hw.symm;go_wp2_with fail
 go_loopw [5,14] (fun s5 s14 wr=>∃(i:Nat) (z:Int),s5 = .int .i64 z/\s14 = .int .i64 (i:Int)/\i<=n/\Hid (FilO wr base g ((ts.take i).foldl addB f))/\Hid (Ext w0 wr)) (fun _ s14 _=>n - (intOf s14).toNat)
 case atStart=>exact⟨0,0,rfl,rfl,by omega,h,hE⟩
 case round =>
  obtain⟨i,z,rfl,rfl,hi,O,I⟩:=hrel;by_cases j1:i<n
  ·obtain⟨x,U⟩:∃x,ts[i]? = some x:=⟨_,List.getElem?_eq_getElem (by rw[<-hn.out];exact j1)⟩
   obtain⟨ga,o,hA,c0⟩:=t0.out.at_ (by rw[List.length_map,<-hn.out];omega);subst hA;have y1:=I.out.cell (c0 i (strV x) (by rw[List.getElem?_map,U];rfl));unfold strV at y1;have j2:=hlen.out x (List.mem_of_getElem? U);have G:=LF f U;obtain⟨F,T⟩:=Ab ((ts.take i).foldl addB f);rw[<-T]at O G;have J:F.length=f.length:=by rw[T];exact NM _ _
   have y0:=Aa (o1.out wr F O.out J);rw[J,<-hm.out]at y0;have k1:=Aa (fun W=>f1.out x W j2);have m0:=O.out;obtain⟨b2,cc2,cur2,l0,_⟩:=m0;have k2:=l0.cell 0 rfl;clear l0 c0;replace U:=Aa U;replace T:=Aa T;replace G:=Aa G;replace J:=Aa J;go_wp2_with fail;refine y0.out.mono ?_;rintro e w3 ⟨rfl,hw⟩;obtain rfl:=hw.symm;go_wp2_with fail;refine(k1.out _).mono ?_;rintro e w4 ⟨rfl,h0⟩;have q1:=Aa (O.out.ext h0);have v0:=Aa (I.out.trans h0);clear h0;go_wp2_with fail
   go_loopw [5,24] (fun s5 s24 wv=>∃(j:Nat) (z:Int),s5 = .int .i64 z/\s24 = .int .i64 (j:Int)/\j<=4/\Hid (FilO wv base g (pAdd F x m j))/\Hid (Ext w0 wv)) (fun _ s24 _=>4 - (intOf s24).toNat)
   case atStart=>exact⟨0,_,rfl,rfl,by omega,q1,v0⟩
   case round =>
    obtain⟨j,z2,rfl,rfl,hj,p0,q0⟩:=hrel;by_cases x1:j<4
    ·have hx:=m1.out x j x1;have d0:(j:Int)<4:=by omega
     have Y:=i1.out x j wr (pAdd F x m j) p0.out (by rw[Kt];exact J.out);have i0:setB (pAdd F x m j) (fpl x m j)=pAdd F x m (j+1):=rfl;rw[i0]at Y;obtain⟨p,hp⟩:=Ab (fpl x m j);rw[<-hp]at hx Y;obtain⟨v,hv⟩:=Ab (!hasB (pAdd F x m j) p);rw[<-hv]at Y;have m0:=p0.out;obtain⟨b3,cc3,cur3,n0,_⟩:=m0;have k3:=n0.cell 0 rfl;clear n0 i0;replace Y:=Aa Y;replace hp:=Aa hp;replace hv:=Aa hv;cases v with
     | true =>
      go_wp2_with fail;refine Y.out.mono ?_;rintro e w5 ⟨rfl,H,a⟩;replace H:=Aa H;replace a:=Aa (a w0 q0.out hb);go_wp2_with fail;exact⟨⟨j+1,_,rfl,by congr 1,by omega,H,a⟩,by simp only[intOf];omega⟩
     | false =>
      go_wp2_with fail;refine Y.out.mono ?_;rintro e w5 ⟨rfl,H,a⟩;replace H:=Aa H;replace a:=Aa (a w0 q0.out hb);go_wp2_with fail;exact⟨⟨j+1,_,rfl,by congr 1,by omega,H,a⟩,by simp only[intOf];omega⟩
    ·have d0:¬ (j:Int)<4:=by omega
     have x0:Hid (FilO wr base g ((ts.take (i+1)).foldl addB f)):=Aa (by
      rw[G.out,<-PK,J.out,<-hm.out];have:=p0.out;rw[show j=4 by omega]at this;exact this)
     go_wp2_with fail;exact⟨⟨i+1,_,rfl,rfl,by omega,x0,q0⟩,by simp only[intOf];omega⟩
  ·obtain rfl:i=n:=by omega
   have j0:FilO wr base g Z:=by
    have:=O.out;rw[List.take_of_length_le (by rw[<-hn.out];exact Nat.le_refl _)]at this;rw[hZ.out];exact this
   replace j0:=Aa j0;go_wp2_with fail;go_ret;exact⟨_,rfl,j0.out,I.out⟩
def NewF (w:World) (f:List UInt8) (e:Ending) (w':World):Prop:=∃g,e = .returned (.tuple #[.pointer (some ⟨g,0,none⟩),.int .i64 0])/\w.heap.size<=g/\FilO w' w.heap.size g f/\Ext w w'
theorem Tm (n:Nat) (w:World) (hn:n<=262144):Calls prog 89 #[.int .i64 (n:Int)] w fun e w'=>NewF w (List.replicate (filL n) 0) e w':=by
 obtain⟨x,J⟩:∃x:Nat,(x:Int)=max ((n*10:Nat):Int) 64:=⟨max (n*10) 64,by omega⟩
 have b:(x:Int)=max (10*(n:Int)) 64:=by omega
 obtain⟨y,a⟩:∃y:Nat,(y:Int)=min (x:Int) 1048576:=⟨min x 1048576,by omega⟩
 have H:=fun(W:World)=>Eg (P:=prog) #[3,3] 3 b W;have Y:=fun(W:World)=>AQ (P:=prog) #[3,3] 3 a W;obtain⟨k,hk⟩:=Ab ((y+7) / 8);have j:k=filL n:=by unfold filL;omega
 have Z:y<=1048576:=by omega
 have O:((y:Int)+7) / 8=(k:Int):=by omega
 have U:k<=131072:=by omega
 have T:∀W:World,(Instr.makeSlice 24 (.int .i64 (k:Int)) (.int .i64 (k:Int))).run prog W = .ok (.slice (some ⟨W.heap.size,0,none⟩) k k) (W.alloc (.cells (madeCells #[.int .u8 0] k) 5)):=fun W=>by
  have h:=run_make (P:=prog) W 24 5 _ _ underlying24 rfl rfl .i64 .i64 (k:Int) (k:Int) (by omega) (by omega) (by show (1:Int)*k<=_;omega) (by omega);rw[h];simp only[Int.toNat_natCast];show Result.ok _ (W.alloc (.cells (madeCells #[.int .u8 0] (k*1)) 5))=_;rw[Nat.mul_one]
 replace J:=Aa J;replace b:=Aa b;replace a:=Aa a;replace hk:=Aa hk;replace j:=Aa j
 go_in
 go_wp2_with fail;go_ret2;have h1:=Row.new w 5 (madeCells #[.int .u8 0] k);have h2:=Row.new (w.alloc (.cells (madeCells #[.int .u8 0] k) 5)) 172 #[.slice (some ⟨w.heap.size,0,none⟩) k k];rw[World.size_alloc]at h2;refine⟨w.heap.size+1,rfl,by omega,⟨w.heap.size,k,_,by rw[List.length_replicate,<-j.out];exact h2,Nat.le_refl _,h1.alloc _,by rw[List.length_replicate,<-j.out];exact Nat.le_refl _,by rw[size_madeCells];exact Nat.le_refl _,?_⟩,((Ext.refl w).alloc _).alloc _⟩;rw[List.length_replicate,<-j.out,toList_madeCells_one,List.take_of_length_le (by simp),List.map_replicate];rfl
def NewF1 (w:World) (f:List UInt8) (e:Ending) (w':World):Prop:=∃g,e = .returned (.pointer (some ⟨g,0,none⟩))/\w.heap.size<=g/\FilO w' w.heap.size g f/\Ext w w'
theorem QI (A:Option Addr) (n c:Nat) (ts:List (List UInt8)) (w:World) (hn:n=ts.length) (Y:Cells w A (ts.map strV)) (T:n<=1000000000) (hlen:∀t∈ts,t.length<=1000000000) :
 Calls prog 49 #[.slice A n c] w fun e w'=>NewF1 w (ofB ts) e w':=by
 obtain⟨x,G⟩:∃x:Nat,(x:Int)=min (n:Int) 262144:=⟨min n 262144,by omega⟩
 have I:=fun(W:World)=>AQ (P:=prog) #[3,3] 3 G W;have J:x=min ts.length 262144:=by omega
 have Z:=Aa (fun W=>Tm x W (by omega));have j:=Aa (fun g W (h:FilO W w.heap.size g (List.replicate (filL x) 0)) (U:Ext w W)=>Qp g w.heap.size (List.replicate (filL x) 0) A n c ts w W h (by rw[List.length_replicate];have:=EU x;omega) (by rw[List.length_replicate];have:=EU x;omega) hn Y U (Nat.le_refl _) T hlen);have H:ts.foldl addB (List.replicate (filL x) 0)=ofB ts:=by unfold ofB;rw[J]
 rw[H]at j;replace G:=Aa G;replace J:=Aa J;replace hn:=Aa hn;replace H:=Aa H;replace Y:=Aa Y;replace hlen:=Aa hlen
 go_in
 go_wp2_with fail;refine(Z.out _).mono ?_;rintro e w1 ⟨g,rfl,hg,O,U⟩;replace O:=Aa O;replace U:=Aa U;go_wp2_with fail;refine(j.out g _ O.out U.out).mono ?_;rintro e w2 ⟨z,rfl,a,b⟩;replace a:=Aa a;replace b:=Aa b;go_wp2_with fail;go_ret;exact⟨g,rfl,hg,a.out,b.out⟩
theorem LB (g:Nat) (f:List UInt8) (w:World) (h:FilR w g f) (J:0<f.length) (U:f.length<=131072) :
 Calls prog 50 #[.pointer (some ⟨g,0,none⟩)] w fun e w'=>NewB w f e w':=by
 have H:=Aa (GL g f w h J);obtain⟨A,c,Y,hi⟩:=h;have k0:=Y.cell 0 rfl;have j:=Aa (Cr A f.length c f w rfl hi.bytes hi.nil_ (by omega));obtain⟨n,hn⟩:=Ab f.length;rw[<-hn]at k0 j;replace hn:=Aa hn;replace Y:=Aa Y;replace hi:=Aa hi
 go_in
 go_wp2_with fail;refine H.out.mono ?_;rintro e w1 ⟨rfl,O⟩;obtain rfl:=O.symm;go_wp2_with fail;refine j.out.mono ?_;rintro e w2 ⟨A1,c1,rfl,b,a⟩;replace b:=Aa b;replace a:=Aa a;go_wp2_with fail;go_ret;exact⟨A1,c1,by rw[<-hn.out];rfl,by rw[<-hn.out];exact b.out,a.out⟩
theorem NO (A:Option Addr) (n c:Nat) (f:List UInt8) (w:World) (h:In8 w A n c f) (hf:8<=n) (T:n<=131072) :
 Calls prog 57 #[.slice A n c] w fun e w'=>NewF w f e w':=by
 have Y:=Aa (Cr A n c f w h.len h.bytes h.nil_ (by omega));have j:=Aa h.len;replace h:=Aa h
 go_in
 go_wp2_with fail;refine Y.out.mono ?_;rintro e w1 ⟨A1,c1,rfl,H,a⟩;replace H:=Aa H;replace a:=Aa a;go_wp2_with fail;go_ret2;have h2:=Row.new w1 172 #[.slice A1 n c1];obtain⟨G,J,U⟩:=H.out;rcases U with ⟨_,I⟩ | ⟨b,cur,rfl,hb,Z,O,ht⟩
 ·omega
 ·exact⟨w1.heap.size,rfl,a.out.size,⟨b,c1,cur,by rw[<-j.out];exact h2,hb,Z.alloc _,by rw[<-j.out];exact J,O,by rw[<-j.out];exact ht⟩,a.out.alloc _⟩
end
section
open Go.RowKit
def dstOf (ops:Array Oper) (j:Nat):Option Tmp:=(ops[j]?).bind (·.dst)
structure KnowOps (md:Region.Mode) (ops:Array Oper) (base:Array Bool) (N:Nat):Prop where
  acyc:(List.range ops.size).all (fun i=>((ops[i]?).map fun o=>o.after.all fun e=> !Region.binds md e || decide (e.on<i)).getD true)=true
  nodup:(ops.toList.filterMap (·.dst)).Nodup
  bound:ops.toList.all (fun o=>match o.dst with | some d=>decide (d<N) | none=>true)=true
  size:base.size=ops.size
def lack (ops:Array Oper) (listed:Array Bool):List Nat:=(List.range ops.size).filter fun i=> !listed.getD i true
theorem GW (hi:i∈lack ops listed):(lack ops (listed.setIfInBounds i true)).length<(lack ops listed).length:=by
 unfold lack at hi ⊢;obtain⟨H,a⟩:=List.mem_filter.1 hi;have b:i<listed.size:=by
  apply Decidable.byContradiction;intro h;rw[Array.getD_eq_getD_getElem?,Array.getElem?_eq_none (by omega)]at a;simp at a
 have h1:((List.range ops.size).filter fun j=> !(listed.setIfInBounds i true).getD j true)=(((List.range ops.size).filter fun j=> !listed.getD j true).filter fun j=>decide (j≠i)):=by
  rw[List.filter_filter];refine List.filter_congr fun j _=>?_;rw[Array.getD_eq_getD_getElem?,Array.getD_eq_getD_getElem?,Array.getElem?_setIfInBounds];by_cases h:i=j
  ·subst h;simp[b]
  ·have:¬ j=i:=fun e=>h e.symm;simp[h,this]
 rw[h1];exact List.length_filter_lt_length_iff_exists.2 ⟨i,hi,by simp⟩
theorem BU (hi:i∈Region.ready md ops listed):i∈lack ops listed/\∃o,ops[i]? = some o/\∀e∈o.after,Region.binds md e=true->listed.getD e.on false=true:=by
 unfold Region.ready at hi;obtain⟨a,h⟩:=List.mem_filter.1 hi;rw[Bool.and_eq_true]at h;refine⟨List.mem_filter.2 ⟨a,h.1⟩,?_⟩;cases j:ops[i]? with
 | none=>rw[j]at h;simp at h
 | some o =>
  rw[j]at h;simp only[Option.map_some,Option.getD_some]at h;refine⟨o,rfl,fun e b hb=>?_⟩;have h2:=h.2;rw[Array.all_eq_true_iff_forall_mem]at h2;have:=h2 e b;rw[hb]at this;simpa using this
theorem Ey {base listed:Array Bool} (hk:KnowOps md ops base N) (hs:listed.size=ops.size) (Z:Region.ready md ops listed = []):lack ops listed = []:=by
 apply Decidable.byContradiction;intro J;have key:∀i,i∉lack ops listed:=by
  intro i
  induction i using Nat.strongRecOn with
  | ind i ih =>
   intro hi;obtain⟨U,b⟩:=List.mem_filter.1 hi;have Y:i<ops.size:=List.mem_range.1 U;have:i∈Region.ready md ops listed:=by
    unfold Region.ready;refine List.mem_filter.2 ⟨U,?_⟩;rw[b,Bool.true_and];have T:ops[i]? = some ops[i]:=Array.getElem?_eq_getElem Y;rw[T,Option.map_some,Option.getD_some];rw[Array.all_eq_true_iff_forall_mem];intro e he;have j:=hk.acyc;rw[List.all_eq_true]at j;have h1:=j i U;rw[T,Option.map_some,Option.getD_some,Array.all_eq_true_iff_forall_mem]at h1;cases H:Region.binds md e with
    | false=>simp
    | true =>
    have h:=h1 e he;rw[H]at h;have h2:e.on<i:=by simpa using h
    have G:=ih e.on h2;have a:listed.getD e.on true=true:=by
     apply Decidable.byContradiction;intro I;exact G (List.mem_filter.2 ⟨List.mem_range.2 (by omega),by simpa using I⟩)
    have O:e.on<listed.size:=by omega
    rw[Array.getD_eq_getD_getElem?,Array.getElem?_eq_getElem O]at a;rw[Array.getD_eq_getD_getElem?,Array.getElem?_eq_getElem O];simp at a ⊢;rw[a]
    try simp
   rw[Z]at this;cases this
 cases b:lack ops listed with
 | nil=>exact J b
 | cons i t=>exact key i (by rw[b];exact List.mem_cons_self ..)
theorem FB (h:(ops.toList.filterMap (·.dst)).Nodup) {i j:Nat} {d:Tmp} (hi:dstOf ops i=some d) (O:dstOf ops j=some d):i=j:=by
 unfold dstOf at hi O;obtain⟨oi,J,b⟩:=Option.bind_eq_some_iff.1 hi;obtain⟨oj,U,a⟩:=Option.bind_eq_some_iff.1 O;have h1:ops.toList[i]? = some oi:=by simpa using J
 have h2:ops.toList[j]? = some oj:=by simpa using U
 generalize ops.toList=l at h h1 h2;clear J U hi O
 induction l generalizing i j with
 | nil=>simp at h1
 | cons x t ih =>
  have Y:∀ {k:Nat} {o:Oper},t[k]? = some o->o.dst=some d->d∈t.filterMap (·.dst):=fun {k o} hk T=>List.mem_filterMap.2 ⟨o,List.mem_of_getElem? hk,T⟩;cases H:x.dst with
  | none =>
   rw[List.filterMap_cons_none H]at h;cases i with
   | zero=>simp at h1;subst h1;rw[H]at b;cases b
   | succ i =>
    cases j with
    | zero=>simp at h2;subst h2;rw[H]at a;cases a
    | succ j=>exact congrArg (· + 1) (ih h (by simpa using h1) (by simpa using h2))
  | some dx =>
   rw[List.filterMap_cons_some H,List.nodup_cons]at h;cases i with
   | zero =>
    simp at h1;subst h1;rw[H]at b;cases b;cases j with
    | zero=>rfl
    | succ j=>exact absurd (Y (by simpa using h2) a) h.1
   | succ i =>
    cases j with
    | zero =>
     simp at h2;subst h2;rw[H]at a;cases a;exact absurd (Y (by simpa using h1) b) h.1
    | succ j=>exact congrArg (· + 1) (ih h.2 (by simpa using h1) (by simpa using h2))
structure KnowA (ops:Array Oper) (base:Array Bool) (a0:Act) (wx:World) (a:Act) (w:World):Prop where
  size:a.tmps.size=a0.tmps.size
  defers:a.defers=a0.defers
  same:∀(d:Nat) (_:(List.range ops.size).all (fun j=>base.getD j true || decide (dstOf ops j≠some d))=true:=by kernel_rfl),a.tmps[d]? = a0.tmps[d]?
  ext:Ext wx w
theorem DZ {S:World->Prop} {base:Array Bool} (hk:KnowOps md ops base a0.tmps.size) (H:Nat->Value->World->Prop)
 (hm:∀j v w w',H j v w->Ext w w'->H j v w') (hS:∀w,Ext wx w->S w)
 (q0:∀i o,ops[i]? = some o->base.getD i true=false->∀a w,KnowA ops base a0 wx a w->(∀e∈o.after,Region.binds md e=true->base.getD e.on true=false->∀d,dstOf ops e.on=some d->H e.on (a.tmps.getD d undef) w) ->
  if Region.wanted o (yielded ops a.tmps)=true then Oper.wp P o a w (fun a' w'=>∃v,a'=a.put o.dst v/\H i v w'/\Ext w w') Q else H i undef w)
 (v0:∀a w,KnowA ops base a0 wx a w->(∀j d,base.getD j true=false->dstOf ops j=some d->H j (a.tmps.getD d undef) w)->Q .normal a w) :
 ∀(fuel:Nat) (listed:Array Bool) (a:Act) (w:World),listed.size=ops.size->(lack ops listed).length<=fuel->(∀j,base.getD j true=true->listed.getD j true=true)->KnowA ops base a0 wx a w ->
  (∀j d,base.getD j true=false->listed.getD j true=true->dstOf ops j=some d->H j (a.tmps.getD d undef) w)->wpAnyH P md ops Q S fuel listed a w:=by
 have T:∀(listed:Array Bool) (a:Act) (w:World),lack ops listed = []->listed.size=ops.size->KnowA ops base a0 wx a w->(∀j d,base.getD j true=false->listed.getD j true=true->dstOf ops j=some d->H j (a.tmps.getD d undef) w)->Q .normal a w:=fun listed a w hl hs Y I=>v0 a w Y fun j d hb hd=>I j d hb (by
  apply Decidable.byContradiction;intro hn;have hj:j<ops.size:=by
   unfold dstOf at hd;obtain⟨o,ho,_⟩:=Option.bind_eq_some_iff.1 hd;exact(Array.getElem?_eq_some_iff.1 ho).1
  have:j∈lack ops listed:=List.mem_filter.2 ⟨List.mem_range.2 hj,by simpa using hn⟩;rw[hl]at this;cases this) hd
 intro fuel
 induction fuel with
 | zero =>
  intro listed a w hs hf hb Y I;have h0:lack ops listed = []:=List.length_eq_zero_iff.1 (by omega);refine⟨?_,T listed a w h0 hs Y I⟩;cases hr:Region.ready md ops listed with
  | nil=>rfl
  | cons i t =>
   have:=(BU (md:=md) (ops:=ops) (listed:=listed) (i:=i) (by rw[hr];exact List.mem_cons_self ..)).1;rw[h0]at this;cases this
 | succ fuel ih =>
  intro listed a w hs hf hb Y I;refine⟨fun h0=>T listed a w (Ey hk hs h0) hs Y I,fun i hi=>?_⟩;obtain⟨U,o,ho,t0⟩:=BU hi;have y0:=(List.mem_filter.1 U).2;have x0:i<listed.size:=by rw[hs];exact List.mem_range.1 (List.mem_filter.1 U).1
  have m0:base.getD i true=false:=by
   apply Decidable.byContradiction;intro hn;have:=hb i (by simpa using hn);rw[this]at y0;cases y0
  have O:=q0 i o ho m0 a w Y fun e he d0 e0 d hd=>I e.on d e0 (by
   have h1:=t0 e he d0;rw[Array.getD_eq_getD_getElem?]at h1 ⊢;cases hx:listed[e.on]? with
   | none=>simp
   | some b=>rw[hx]at h1;simpa using h1) hd
  have J:∀v w',H i v w'->Ext w w'->S w'/\wpAnyH P md ops Q S fuel (listed.setIfInBounds i true) (a.put o.dst v) w':=fun v w' hv hE=>by
   have n0:∀j,(listed.setIfInBounds i true).getD j true=true->j=i\/listed.getD j true=true:=fun j hj=>by
    by_cases e:j=i
    ·exact .inl e
    ·rw[Array.getD_eq_getD_getElem?,Array.getElem?_setIfInBounds_ne (fun h=>e h.symm),<-Array.getD_eq_getD_getElem?]at hj;exact .inr hj
   have Z:∀d,o.dst≠some d->(a.put o.dst v).tmps[d]? = a.tmps[d]? :=fun d hd=>by
    unfold Act.put;cases k1:o.dst with
    | none=>rfl
    | some d' =>
     simp only;rw[Array.getElem?_setIfInBounds_ne];intro e;exact hd (by rw[k1,e])
   have j1:(a.put o.dst v).tmps.size=a.tmps.size:=by
    unfold Act.put;cases o.dst with
    | none=>rfl
    | some d'=>simp
   have i0:(a.put o.dst v).defers=a.defers:=by
    unfold Act.put;cases o.dst <;> rfl
   have G:dstOf ops i=o.dst:=by unfold dstOf;rw[ho];rfl
   refine⟨hS _ (Y.ext.trans hE),ih _ _ _ (by simpa using hs) (by have:=GW U;omega) (fun j hj=>?_) ⟨by rw[j1];exact Y.size,by rw[i0];exact Y.defers,fun d hd=>?_,Y.ext.trans hE⟩ fun j d f0 o0 hd=>?_⟩
   ·have:=hb j hj;by_cases e:j=i
    ·subst e;rw[Array.getD_eq_getD_getElem?,Array.getElem?_setIfInBounds,if_pos rfl,if_pos x0];rfl
    ·rw[Array.getD_eq_getD_getElem?,Array.getElem?_setIfInBounds_ne (fun h=>e h.symm),<-Array.getD_eq_getD_getElem?];exact this
   ·rw[Z d (by
     rw[List.all_eq_true]at hd;have:=hd i (List.mem_filter.1 U).1;rw[m0,Bool.false_or]at this;rw[<-G];exact of_decide_eq_true this)]
    exact Y.same d hd
   ·by_cases e:j=i
    ·subst e;rw[G]at hd;have r0:d<a.tmps.size:=by
      have g0:=hk.bound;rw[List.all_eq_true]at g0;have:=g0 o (by simpa using Array.mem_of_getElem? ho);rw[hd]at this;rw[Y.size];exact of_decide_eq_true this
     have:(a.put o.dst v).tmps.getD d undef=v:=by
      unfold Act.put;rw[hd,Array.getD_eq_getD_getElem?,Array.getElem?_setIfInBounds,if_pos rfl,if_pos r0];rfl
     rw[this];exact hv
    ·have q1:o.dst≠some d:=fun h=>e (FB hk.nodup hd (G.trans h));rw[Array.getD_eq_getD_getElem?,Z d q1,<-Array.getD_eq_getD_getElem?];exact hm j _ _ _ (I j d f0 ((n0 j o0).resolve_left e) hd) hE
  unfold wpOp;rw[ho];simp only;split
  ·rename_i hw;rw[if_pos hw]at O;exact .inl (Oper.wp_mono (fun a' w' ⟨v,he,hv,hE⟩=>by rw[he];exact J v w' hv hE) O)
  ·rename_i hw;rw[if_neg hw]at O;exact J undef w O (Ext.refl w)
section
variable {P:Program} {ops:Array Oper} {Q:Exit->Act->World->Prop} {o:Oper} {a:Act} {w:World} {H:Value->World->Prop} {E0:Prop}
theorem Fg {f:Nat} {xs:Array Operand} {ts:Array TypeId} (J:o.op = .call { callee:= .value (.func f),args:=xs,argTypes:=ts }) (j:o.guard=none) (eg:∀args w,(callFunc f args).run P w = .ok (.enter f args) w) (O:xs.map a.eval=vs)
 (Y:Calls P f vs w fun e w'=>∃u,e = .returned u/\H u w'/\Ext w w'):if Region.wanted o (yielded ops a.tmps)=true then Oper.wp P o a w (fun a' w'=>∃v,a'=a.put o.dst v/\H v w'/\Ext w w') Q else E0:=by
 rw[if_pos (by simp[Region.wanted,j])];have U:(execOp a.eval o).run P w = .ok (.enter f vs) w:=by
  unfold execOp;simp[J,resolve,invoke,go_sem,eg,O]
 unfold Oper.wp;rw[U,Oper.upon_enter];refine Y.mono ?_;rintro e w' ⟨u,rfl,h,b⟩;exact⟨u,rfl,h,b⟩
theorem AC (Y:(execOp a.eval o).run P w = .ok (.value v) w') (j:o.guard=none) (h:H v w') (b:Ext w w'):if Region.wanted o (yielded ops a.tmps)=true then Oper.wp P o a w (fun a' w'=>∃v,a'=a.put o.dst v/\H v w'/\Ext w w') Q else E0:=by
 rw[if_pos (by simp[Region.wanted,j])];unfold Oper.wp;rw[Y,Oper.upon_value];exact⟨v,rfl,h,b⟩
theorem Ah {x:Operand} (h:o.op = .move x\/o.op = .assign x) (j:a.eval x=v):(execOp a.eval o).run P w = .ok (.value v) w:=by
 unfold execOp;rcases h with h | h <;> simp[h,j]
theorem AI {x:Operand} {q v:Value} (h:o.op = .load t x) (b:a.eval x=q) (j:(Instr.loadAt t q).run P w = .ok v w):(execOp a.eval o).run P w = .ok (.value v) w:=by
 unfold execOp;simp[h,b,j,Result.andThen]
theorem Ao {x:Operand} {q v:Value} (h:o.op = .fieldAddr t x k) (b:a.eval x=q) (j:(Instr.fieldAt t q k).run P w = .ok v w):(execOp a.eval o).run P w = .ok (.value v) w:=by
 unfold execOp;simp[h,b,j,Result.andThen]
theorem GK {x:Operand} (h:o.op = .extract x k) (b:a.eval x = .tuple vs) (j:(Instr.extract (.tuple vs) k).run P w = .ok v w):(execOp a.eval o).run P w = .ok (.value v) w:=by
 unfold execOp;simp[h,b,j,Result.andThen]
theorem C0 {parts:Array (Nat×Operand)} {vs:Array (Nat×Value)} (h:o.op = .buildSlice t n parts) (b:parts.map (fun p=>(p.1,a.eval p.2))=vs) (j:(Instr.buildSlice t n vs).run P w = .ok v w'):(execOp a.eval o).run P w = .ok (.value v) w':=by
 unfold execOp;simp[h,b,j,Result.andThen]
theorem Ac {t:Tmp} (h:a.tmps.getD t undef=v):a.eval (.tmp t)=v:=h
theorem Af {t:Tmp} (h:a.tmps[t]? = a0.tmps[t]?):a.eval (.tmp t)=a0.eval (.tmp t):=by
 show a.tmps.getD t undef=a0.tmps.getD t undef;rw[Array.getD_eq_getD_getElem?,Array.getD_eq_getD_getElem?,h]
end
def KStep (P:Program) (md:Region.Mode) (ops:Array Oper) (Q:Exit->Act->World->Prop) (base:Array Bool) (a0:Act) (wx:World) (H:Nat->Value->World->Prop) (i:Nat) (o:Oper):Prop :=
 ∀a w,KnowA ops base a0 wx a w->(∀(j d:Nat) (_:(o.after.any fun e=>e.on==j&&Region.binds md e)=true:=by kernel_rfl) (_:base.getD j true=false:=by kernel_rfl) (_:dstOf ops j=some d:=by kernel_rfl),H j (a.tmps.getD d undef) w) ->
  if Region.wanted o (yielded ops a.tmps)=true then Oper.wp P o a w (fun a' w'=>∃v,a'=a.put o.dst v/\H i v w'/\Ext w w') Q else H i undef w
def KSteps (P:Program) (md:Region.Mode) (ops:Array Oper) (Q:Exit->Act->World->Prop) (base:Array Bool) (a0:Act) (wx:World) (H:Nat->Value->World->Prop) (l:List Nat):Prop :=
 ∀i∈l,∀o,ops[i]? = some o->KStep P md ops Q base a0 wx H i o
section
variable {P:Program} {md:Region.Mode} {ops:Array Oper} {Q:Exit->Act->World->Prop} {base:Array Bool} {a0:Act} {wx:World} {H:Nat->Value->World->Prop}
theorem KSteps.nil:KSteps P md ops Q base a0 wx H []:=fun _ h=>absurd h List.not_mem_nil
theorem KSteps.cons {l:List Nat} (Y:ops[i]? = some o) (h:KStep P md ops Q base a0 wx H i o) (hs:KSteps P md ops Q base a0 wx H l):KSteps P md ops Q base a0 wx H (i::l):=fun j a o' b=>by
 rcases List.mem_cons.1 a with rfl | a
 ·rw[Y]at b;cases b;exact h
 ·exact hs j a o' b
theorem KSteps.all {l:List Nat} (hs:KSteps P md ops Q base a0 wx H l) (O:(List.range ops.size).all (fun i=>base.getD i true || l.contains i)=true) :
 ∀i o,ops[i]? = some o->base.getD i true=false->∀a w,KnowA ops base a0 wx a w->(∀e∈o.after,Region.binds md e=true->base.getD e.on true=false->∀d,dstOf ops e.on=some d->H e.on (a.tmps.getD d undef) w) ->
  if Region.wanted o (yielded ops a.tmps)=true then Oper.wp P o a w (fun a' w'=>∃v,a'=a.put o.dst v/\H i v w'/\Ext w w') Q else H i undef w:=fun i o T hb a w Z hd=>by
 rw[List.all_eq_true]at O;have h1:=O i (List.mem_range.2 (Array.getElem?_eq_some_iff.1 T).1);rw[hb,Bool.false_or]at h1;refine hs i (by simpa using h1) o T a w Z fun j d U b Y=>?_;rw[Array.any_eq_true']at U;obtain⟨e,G,h⟩:=U;rw[Bool.and_eq_true]at h;have J:e.on=j:=by simpa using h.1
 subst J;exact hd e G h.2 b d Y
def dsK (ops:Array Oper) (base:Array Bool):List Tmp:=(List.range ops.size).filterMap fun j=>if base.getD j true then none else dstOf ops j
theorem KnowA.act {a:Act} (h:KnowA ops base a0 wx a w) (ds:List Tmp) (H:dsK ops base=ds):a = { tmps:=ds.foldl (fun t d=>t.setIfInBounds d (a.tmps.getD d undef)) a0.tmps,defers:=a0.defers }:=by
 have key:∀(ds:List Tmp) (t0:Array Value),t0.size=a.tmps.size->(∀d,d∉ds->a.tmps[d]? = t0[d]?)->a.tmps=ds.foldl (fun t d=>t.setIfInBounds d (a.tmps.getD d undef)) t0:=by
  intro ds
  induction ds with
  | nil =>
   intro t0 hs hn;exact Array.ext_getElem? fun d=>hn d List.not_mem_nil
  | cons x xs ih =>
   intro t0 hs hn;refine ih _ (by simpa using hs) fun d hd=>?_;rw[Array.getElem?_setIfInBounds];by_cases e:x=d
   ·subst e;rw[if_pos rfl];by_cases b:x<t0.size
    ·rw[if_pos b,Array.getD_eq_getD_getElem?,Array.getElem?_eq_getElem (by rw[<-hs];exact b)];rfl
    ·rw[if_neg b,Array.getElem?_eq_none (by rw[<-hs];exact Nat.le_of_not_lt b)]
   ·rw[if_neg e];exact hn d fun U=>by
     rcases List.mem_cons.1 U with h | h
     ·exact e h.symm
     ·exact hd h
 have h1:=key ds a0.tmps h.size.symm fun d hd=>h.same d (by
  rw[List.all_eq_true];intro j J;cases hb:base.getD j true with
  | true=>rfl
  | false =>
   rw[Bool.false_or];refine decide_eq_true fun Y=>hd ?_;rw[<-H];exact List.mem_filterMap.2 ⟨j,J,by rw[hb];exact Y⟩)
 rw[<-h1,<-h.defers]
theorem FF {Hs:List (Value->World->Prop)} (h:∀p∈Hs,∀v w w',p v w->Ext w w'->p v w') (j:Nat) (v:Value) (w w':World) (b:(Hs.getD j fun _ _=>True) v w) (H:Ext w w'):(Hs.getD j fun _ _=>True) v w':=by
 rw[List.getD_eq_getElem?_getD]at b ⊢;cases a:Hs[j]? with
 | none=>trivial
 | some p =>
  rw[a]at b;exact h p (List.mem_of_getElem? a) v w w' b H
end
end
section
open Go.RowKit
theorem Bz {b k:Nat} (h:w.cell? ⟨b,k,none⟩=some v):(Instr.loadAt 3 (.pointer (some ⟨b,k,none⟩))).run prog w = .ok v w:=by
 go_simp
theorem Bn (w:World) (b:Nat):(Instr.fieldAt 79 (.pointer (some ⟨b,0,none⟩)) 2).run prog w = .ok (.pointer (some ⟨b,2,none⟩)) w/\(Instr.fieldAt 79 (.pointer (some ⟨b,0,none⟩)) 3).run prog w = .ok (.pointer (some ⟨b,3,none⟩)) w/\(Instr.fieldAt 79 (.pointer (some ⟨b,0,none⟩)) 4).run prog w = .ok (.pointer (some ⟨b,4,none⟩)) w/\(Instr.fieldAt 79 (.pointer (some ⟨b,0,none⟩)) 5).run prog w = .ok (.pointer (some ⟨b,5,none⟩)) w/\(Instr.fieldAt 79 (.pointer (some ⟨b,0,none⟩)) 6).run prog w = .ok (.pointer (some ⟨b,6,none⟩)) w:=by
 refine⟨?_,?_,?_,?_,?_⟩ <;> go_simp
theorem QA (w:World) (a b c d e:Int):(Instr.buildSlice 43 5 #[(0,.int .i64 a),(1,.int .i64 b),(2,.int .i64 c),(3,.int .i64 d),(4,.int .i64 e)]).run prog w = .ok (.slice (some ⟨w.heap.size,0,none⟩) 5 5) (w.alloc (.cells #[.int .i64 a,.int .i64 b,.int .i64 c,.int .i64 d,.int .i64 e] 3)):=by
 go_simp
theorem Ru (w:World) (a b c d e f:Option Addr) (na nb nc nd ne nf ca cb cc cd ce cf:Nat):(Instr.buildSlice 22 6 #[(0,.slice a na ca),(1,.slice b nb cb),(2,.slice c nc cc),(3,.slice d nd cd),(4,.slice e ne ce),(5,.slice f nf cf)]).run prog w = .ok (.slice (some ⟨w.heap.size,0,none⟩) 6 6) (w.alloc (.cells #[.slice a na ca,.slice b nb cb,.slice c nc cc,.slice d nd cd,.slice e ne ce,.slice f nf cf] 24)):=by
 go_simp
def kEq (u:Value) (v:Value) (_:World):Prop:=v=u
def kSl (D:List UInt8) (v:Value) (w:World):Prop:=∃A c b,v = .slice A D.length c/\Buf w b 5 A D.length c (D.map B8)
def kFi (D:List UInt8) (v:Value) (w:World):Prop:=∃g b,v = .pointer (some ⟨g,0,none⟩)/\FilO w b g D
def kRi (a b c d e:Int) (v:Value) (w:World):Prop:=∃g,v = .slice (some ⟨g,0,none⟩) 5 5/\Row w g 3 #[.int .i64 a,.int .i64 b,.int .i64 c,.int .i64 d,.int .i64 e]
def kSx (v1 v3 v4:Value) (DT D7 DV:List UInt8) (v:Value) (w:World):Prop:=∃g BT cT bT BY cY bY BV cV bV,v = .slice (some ⟨g,0,none⟩) 6 6/\Cells w (some ⟨g,0,none⟩) [v1,.slice BT DT.length cT,v3,v4,.slice BY D7.length cY,.slice BV DV.length cV] /\
 Buf w bT 5 BT DT.length cT (DT.map B8)/\Buf w bY 5 BY D7.length cY (D7.map B8)/\Buf w bV 5 BV DV.length cV (DV.map B8)
def kTu (base:Nat) (J:List UInt8) (v:Value) (w:World):Prop:=∃A c,v = .tuple #[.slice A J.length c,.int .i64 0]/\Own8 w base A J.length c J
def kSj (base:Nat) (J:List UInt8) (v:Value) (w:World):Prop:=∃A c,v = .slice A J.length c/\Own8 w base A J.length c J
theorem Pv (u:Value) (v:Value) (w w':World) (h:kEq u v w) (_:Ext w w'):kEq u v w':=h
theorem Sb (D:List UInt8) (v:Value) (w w':World) (h:kSl D v w) (j:Ext w w'):kSl D v w':=by obtain⟨A,c,b,h1,h2⟩:=h;exact⟨A,c,b,h1,h2.ext j⟩
theorem R4 (D:List UInt8) (v:Value) (w w':World) (h:kFi D v w) (j:Ext w w'):kFi D v w':=by obtain⟨g,b,h1,h2⟩:=h;exact⟨g,b,h1,h2.ext j⟩
theorem R9 (a b c d e:Int) (v:Value) (w w':World) (h:kRi a b c d e v w) (j:Ext w w'):kRi a b c d e v w':=by obtain⟨g,h1,h2⟩:=h;exact⟨g,h1,h2.ext j⟩
theorem Sc (v1 v3 v4:Value) (DT D7 DV:List UInt8) (v:Value) (w w':World) (h:kSx v1 v3 v4 DT D7 DV v w) (j:Ext w w'):kSx v1 v3 v4 DT D7 DV v w':=by
 obtain⟨g,BT,cT,bT,BY,cY,bY,BV,cV,bV,h1,h2,b,a,H⟩:=h;exact⟨g,BT,cT,bT,BY,cY,bY,BV,cV,bV,h1,h2.ext j,b.ext j,a.ext j,H.ext j⟩
theorem Sd (base:Nat) (J:List UInt8) (v:Value) (w w':World) (h:kTu base J v w) (j:Ext w w'):kTu base J v w':=by obtain⟨A,c,h1,h2⟩:=h;exact⟨A,c,h1,h2.1,h2.2.ext j⟩
theorem Sa (base:Nat) (J:List UInt8) (v:Value) (w w':World) (h:kSj base J v w) (j:Ext w w'):kSj base J v w':=by obtain⟨A,c,h1,h2⟩:=h;exact⟨A,c,h1,h2.1,h2.2.ext j⟩
theorem LY {f:Nat} (h:Calls prog f vs X fun e w'=>NewB X D e w'):Calls prog f vs X fun e w'=>∃u,e = .returned u/\kSl D u w'/\Ext X w':=h.mono (by
 rintro e w' ⟨A,c,rfl,hb,j⟩;exact⟨_,rfl,⟨A,c,_,rfl,hb⟩,j⟩)
end
end Go.Proofs.YtfifdilapbeiiaaGreat
