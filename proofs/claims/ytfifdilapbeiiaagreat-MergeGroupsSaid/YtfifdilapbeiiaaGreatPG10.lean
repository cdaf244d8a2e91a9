/- Texts of one proof, joined. -/
import Derived.Test.YtfifdilapbeiiaaGreatPG09
import Derived.Lib.SliceRun
set_option linter.unusedSimpArgs false
set_option linter.unusedVariables false
set_option maxRecDepth 100000
set_option maxHeartbeats 16000000
namespace Go.Proofs.YtfifdilapbeiiaaGreat
open _root_.Go.Proofs.Tryz
variable {a a' a0:Act} {listed:Array Bool} {ops:Array Oper} {cs cs' lb vs:Array Value} {Q R:Exit → Act → World → Prop} {fl la la0 z z0 z1 z2:Int} {bs ks ns ps:List (List UInt8)} {L':List (Value × Value)} {ms rs:List Nat} {Hd Hd' L f l l1 l2 nm p pre r r1 r2 s tx:List UInt8} {news us xs ys:List Value} {B B1 M N X acc b b1 b2 base bytes c c' c1 c2 c3 cl fr fuel g g' g1 g2 g3 gd gf i j k lo m m' n n1 n2 n3 off q x:Nat} {S:Nat → Prop} {o y:Oper} {A A' A1 A2 A3 A8:Option Addr} {P:Program} {md:Region.Mode} {E T e t t' t1 t2 tp tq tr ty:TypeId} {V V1 u u0 v v1 v2 v3:Value} {C W W' W1 W6 w w' w0 w1 w2 w8 w9 wx:World}
section
open Go.RowKit
def midE (l:List En) (i:Nat) (la:List UInt8):List UInt8:=blockE la ((l.drop i).take (16 - i%16))++partsE (chunkL 16 (l.drop (i+(16 - i%16))))
def restE (l:List En) (i:Nat):List UInt8:=if i%16=0 then partsE (chunkL 16 (l.drop i)) else midE l i (lastT l i)
theorem Mi (l:List En):encEs l=vb l.length++restE l 0:=by
 unfold restE encEs;rw[if_pos (by omega),List.drop_zero]
theorem Mh {l:List En} (h:i%16=0) (hi:i<l.length):∃q,restE l i=vb q++midE l i []/\q<=(midE l i []).length:=by
 have d:l.drop i ≠ []:=fun e=>by
  have:=congrArg List.length e;rw[List.length_drop,List.length_nil]at this;omega
 refine⟨(blockE [] ((l.drop i).take 16)).length,?_,?_⟩
 ·unfold restE midE;rw[if_pos h,h,BE d (by omega),List.drop_drop];show vb _++blockE [] _++partsE _=_;rw[List.append_assoc]
 ·unfold midE;rw[h,List.length_append];exact Nat.le_add_right _ _
theorem N0 {l:List En} {x:En} (d:l[i]? = some x) (la:List UInt8):midE l i la=enB la x++restE l (i+1):=by
 unfold midE;have H:i%16<16:=Nat.mod_lt _ (by omega);rw[AY d,show 16 - i%16=(15 - i%16)+1 by omega,List.take_succ_cons];show (enB la x++blockE x.t _)++_=_;rw[List.append_assoc];congr 1;unfold restE;by_cases h:(i+1)%16=0
 ·rw[if_pos h,show 15 - i%16=0 by omega,List.take_zero,blockE,List.nil_append,show i+(0+1)=i+1 by omega]
 ·rw[if_neg h,Dp d];unfold midE;rw[show 16 - (i+1)%16=15 - i%16 by omega,show i+(15 - i%16+1)=i+1+(15 - i%16)by omega]
theorem Pa:Elem prog 97 100 4 40:=⟨underlying97,⟨_,_,rfl,rfl,rfl,rfl,rfl⟩,by omega,by omega⟩
def DicR (w:World) (g:Nat) (l:List En):Prop:=∃A c,Row w g 186 #[.slice A l.length c,.bool true]/\Cells w A (encells l)
theorem DicR.ext {l:List En} (h:DicR w g l) (d:Ext w w1):DicR w1 g l:=by
 obtain⟨A,c,h1,h2⟩:=h;exact⟨A,c,h1.ext d,h2.ext d⟩
def DicO (w:World) (base g:Nat) (l:List En):Prop:=∃A c,Row w g 186 #[.slice A l.length c,.bool true]/\w.ownsRow base 100 4 (.slice A l.length c) l.length (encells l)
theorem DicO.dic {l:List En} (h:DicO w base g l):DicR w g l:=by
 obtain⟨A,c,h1,h2⟩:=h;exact⟨A,c,h1,Cells.of_own h2⟩
theorem DicO.ext {l:List En} (h:DicO w base g l) (d:Ext w w1):DicO w1 base g l:=by
 obtain⟨A,c,h1,h2⟩:=h;exact⟨A,c,h1.ext d,d.owns h2⟩
theorem DicO.chg {l:List En} (h:DicO w base g l) (H:Chg S w w1) (Y:∀q,S q->∃t cs,Row w q t cs/\t≠186/\t≠100):DicO w1 base g l:=by
 obtain⟨A,c,h1,h2⟩:=h;refine⟨A,c,h1.keep (H.block _ h1.lt fun hs=>?_),H.owns h2 fun q J hs=>?_⟩
 ·obtain⟨t,cs,d,hn,_⟩:=Y _ hs;exact Row.unlike d h1 hn rfl
 ·obtain⟨t,cs,d,_,hn⟩:=Y _ hs;exact Am h2 d (fun e=>hn e.symm) J
def NewDO (w:World) (l:List En) (e:Ending) (w':World):Prop:=∃g,e = .returned (.tuple #[.pointer (some ⟨g,0,none⟩),.int .i64 0])/\DicO w' w.heap.size g l/\Ext w w'
theorem Ls (A:Option Addr) (n c:Nat) (bs:List UInt8) (w:World) (l:List En) (h:In8 w A n c bs) (m0:OkEs l) (y1:bs=encEs l) (j5:n<=100000000) :
 Calls prog 56 #[.slice A n c] w fun e w'=>NewDO w l e w':=by
 obtain⟨m,hm⟩:=Ab l.length;have g5:m<=262144:=by rw[hm];exact m0.few
 have p0:bs=vb m++restE l 0:=by rw[y1,hm];exact Mi l
 have g0:n=(vb m++restE l 0).length:=by rw[<-p0];exact h.len
 obtain⟨g,hg⟩:=Ab w.heap.size;obtain⟨W0,y0⟩:=Ab (w.alloc (.cells #[.slice A n c,.bool false] 182));have m2:Ext w W0:=by rw[y0];exact(Ext.refl w).alloc _
 have Y:RdD w g (vb m++restE l 0) W0:=by
  refine⟨A,c,?_,by rw[<-g0,<-p0];exact h,m2⟩;rw[<-g0,y0,hg];exact Row.new w _ _
 have k2:=Aa (fun W q r z h1 h2 h3 h4=>DD w W g q r z h1 (by omega) h2 h3 h4);have i3:=Aa (fun W la x r h1 h2 h3 h4=>Lt w W g la x r h1 (by omega) h2 h3 h4);have k3:(restE l 0).length<=n:=by rw[g0,List.length_append];omega
 replace Y:=Aa Y;replace m2:=Aa m2;replace m0:=Aa m0;replace y1:=Aa y1;replace p0:=Aa p0;replace hm:=Aa hm;replace y0:=Aa y0;replace hg:=Aa hg;replace h:=Aa h;replace g0:=Aa g0;replace k3:=Aa k3
 go_in
 go_wp2_with fail;rw[<-y0.out,<-hg.out];refine(k2.out W0 m (restE l 0) 262144 Y.out (by omega) (by omega) (by rw[<-g0.out];omega)).mono ?_;rintro e w1 ⟨rfl,y2,x3⟩;replace y2:=Aa y2;replace x3:=Aa x3;go_wp2_with fail
 go_loopw [6,7,8] (fun s6 s7 s8 wr=>∃(i c6:Nat) (A6:Option Addr) (la:List UInt8),s6 = .slice A6 i c6/\s7 = .string ⟨la.toArray⟩/\s8 = .int .i64 (i:Int)/\i<=m/\Hid (i%16≠0->la=lastT l i)/\Hid (la.length<=65)/\Hid ((restE l i).length<=n)/\Hid (RdD w g (restE l i) wr)/\Hid (wr.ownsRow w.heap.size 100 4 (.slice A6 i c6) i (encells (l.take i)))) (fun _ _ s8 _=>m - (intOf s8).toNat)
 case atStart=>exact⟨0,0,none,[],rfl,rfl,rfl,by omega,Aa (fun h=>by omega),Aa (by simp),k3,y2,Aa (World.ownsRow_nil _ _ _ _)⟩
 case round =>
  obtain⟨i,c6,A6,la,rfl,rfl,rfl,him,l4,r3,j4,hS,k0⟩:=hrel;obtain⟨wv,rfl⟩:=Ab wr;obtain⟨B0,d0,r0,_,_⟩:=hS.out;have kb:=r0.cell 1 rfl;clear r0;by_cases l3:i<m
  ·obtain⟨x,t0⟩:∃x,l[i]? = some x:=⟨_,List.getElem?_eq_getElem (by rw[<-hm.out];exact l3)⟩
   have m4:=(m0.out.each x (List.mem_of_getElem? t0)).1;obtain⟨mo,i0⟩:=Ab (i%16);have q5:(i:Int)%16=(mo:Int):=by omega
   have h5:((mo:Int)==0)=decide (mo=0):=by rw[Bool.eq_iff_iff,beq_iff_eq,decide_eq_true_iff];omega
   replace i0:=Aa i0;replace t0:=Aa t0;go_upto_if 29 with (fail)
   go_cut [7] (fun s7 wx=>∃la2:List UInt8,s7 = .string ⟨la2.toArray⟩/\Hid (la2.length<=65)/\Hid ((midE l i la2).length<=n)/\Hid (RdD w g (midE l i la2) wx)/\Hid (wx.ownsRow w.heap.size 100 4 (.slice A6 i c6) i (encells (l.take i))))
   case first =>
    by_cases j3:mo=0
    ·obtain⟨q,hq,p4⟩:=Mh (l:=l) (by rw[<-i0.out];exact j3) (by rw[<-hm.out];exact l3);have a2:=hS.out;have o0:=j4.out;rw[hq]at a2 o0;have I:(midE l i []).length<=n:=by rw[List.length_append]at o0;omega
     have hc:=Aa (k2.out wv q _ (n:Int) a2 (by omega) (by omega) (by omega));replace hq:=Aa hq;replace p4:=Aa p4;replace I:=Aa I;clear a2 o0;go_wp2_with fail;refine hc.out.mono ?_;rintro e w3 ⟨rfl,G,j2⟩;have O:=j2.owns k0.out fun gb o2 e=>by
      obtain⟨B,d,q1,_,_⟩:=hS.out;exact Am k0.out q1 (by decide) (by rw[o2,e])
     replace G:=Aa G;replace O:=Aa O;replace j2:=Aa j2;go_wp2_with fail
     go_meet
     case rel=>exact⟨[],rfl,Aa (by simp),I,G,O⟩
    ·have o1:restE l i=midE l i la:=by
      unfold restE;rw[if_neg (by rw[<-i0.out];exact j3),l4.out (by rw[<-i0.out];exact j3)]
     have G:Hid (RdD w g (midE l i la) wv):=Aa (by rw[<-o1];exact hS.out);have I:Hid ((midE l i la).length<=n):=Aa (by rw[<-o1];exact j4.out);replace o1:=Aa o1;go_wp2_with fail
     go_meet
     case rel=>exact⟨la,rfl,r3,I,G,k0⟩
   case rest =>
    obtain⟨la2,rfl,o3,I,G,O⟩:=hcut;have m3:=N0 t0.out la2;have d2:=G.out;have f0:=I.out;rw[m3]at d2 f0;have p1:(restE l (i+1)).length<=n:=by rw[List.length_append]at f0;omega
    have hc:=Aa (i3.out _ la2 x _ d2 m4 o3.out (by omega));have f1:=Dp t0.out;have t3:encells (l.take (i+1))=encells (l.take i)++x.cells:=by
     rw[List.take_add_one,t0.out];unfold encells;rw[List.flatMap_append];simp
    obtain⟨t,off,len,nn⟩:=x;have k1:t.length<=65:=m4.1;simp only at f1;replace m3:=Aa m3;replace p1:=Aa p1;replace f1:=Aa f1;replace t3:=Aa t3;replace k1:=Aa k1;clear d2 f0;go_wp2_with fail;refine hc.out.mono ?_;rintro e w4 ⟨he,b3,y3⟩;have he:e = .returned (.agg #[.string ⟨t.toArray⟩,.int .i64 (off:Int),.int .i64 (len:Int),.int .i64 (nn:Int)]):=he;subst he;have h0:=y3.owns O.out fun gb o2 e=>by
     obtain⟨B,d,q1,_,_⟩:=G.out;exact Am O.out q1 (by decide) (by rw[o2,e])
    obtain⟨g9,c0⟩:=Ab w4.heap.size;obtain⟨W9,j0⟩:=Ab (w4.alloc (.cells #[.string ⟨t.toArray⟩,.int .i64 (off:Int),.int .i64 (len:Int),.int .i64 (nn:Int)] 100));have k4:Row W9 g9 100 #[.string ⟨t.toArray⟩,.int .i64 (off:Int),.int .i64 (len:Int),.int .i64 (nn:Int)]:=by rw[j0,c0];exact Row.new w4 _ _
    have d3:RdD w g (restE l (i+1)) W9:=by rw[j0];exact b3.ext ((Ext.refl w4).alloc _)
    have n0:W9.ownsRow w.heap.size 100 4 (.slice A6 i c6) i (encells (l.take i)):=by rw[j0];exact((Ext.refl w4).alloc _).owns h0
    have Z:=k4.ext (Ext.refl W9).drew;have q0:=d3.ext (Ext.refl W9).drew;have J:=(Ext.refl W9).drew.owns n0;have g4:w.heap.size<=W9.drew.heap.size:=by obtain⟨_,_,_,_,q⟩:=q0;exact q.size
    have b0:∀k,(Value.slice A6 i c6).ownBlock=some k->k<g9:=fun k hk=>by
     obtain⟨cs,r4,_⟩:=Ae h0 hk;rw[c0];exact r4.lt
    have f3:=Z.get;have Y:W9.drew.cell? ⟨g9,0,none⟩=some (.string ⟨t.toArray⟩)/\W9.drew.cell? ⟨g9,1,none⟩=some (.int .i64 (off:Int))/\W9.drew.cell? ⟨g9,2,none⟩=some (.int .i64 (len:Int))/\W9.drew.cell? ⟨g9,3,none⟩=some (.int .i64 (nn:Int)):=⟨Z.cell 0 rfl,Z.cell 1 rfl,Z.cell 2 rfl,Z.cell 3 rfl⟩
    have x0:Ext W9.drew (W9.drew.alloc (.cells #[.string ⟨t.toArray⟩,.int .i64 (off:Int),.int .i64 (len:Int),.int .i64 (nn:Int)] 100)):=(Ext.refl _).alloc _;have e2:(W9.drew.alloc (.cells #[.string ⟨t.toArray⟩,.int .i64 (off:Int),.int .i64 (len:Int),.int .i64 (nn:Int)] 100)).cell? ⟨g9,0,none⟩=some (.string ⟨t.toArray⟩)/\(W9.drew.alloc (.cells #[.string ⟨t.toArray⟩,.int .i64 (off:Int),.int .i64 (len:Int),.int .i64 (nn:Int)] 100)).cell? ⟨g9,1,none⟩=some (.int .i64 (off:Int))/\(W9.drew.alloc (.cells #[.string ⟨t.toArray⟩,.int .i64 (off:Int),.int .i64 (len:Int),.int .i64 (nn:Int)] 100)).cell? ⟨g9,2,none⟩=some (.int .i64 (len:Int))/\(W9.drew.alloc (.cells #[.string ⟨t.toArray⟩,.int .i64 (off:Int),.int .i64 (len:Int),.int .i64 (nn:Int)] 100)).cell? ⟨g9,3,none⟩=some (.int .i64 (nn:Int)):=⟨x0.cell Y.1,x0.cell Y.2.1,x0.cell Y.2.2.1,x0.cell Y.2.2.2⟩
    have p3:∀w8,W9.drew.grownBy w8 (Value.slice A6 i c6).ownBlock->w8.cell? ⟨g9,0,none⟩=some (.string ⟨t.toArray⟩)/\w8.cell? ⟨g9,1,none⟩=some (.int .i64 (off:Int))/\w8.cell? ⟨g9,2,none⟩=some (.int .i64 (len:Int))/\w8.cell? ⟨g9,3,none⟩=some (.int .i64 (nn:Int)):=fun w8 e1=>by
     have i1:=Row.grown (w:=W9.drew) Z e1 (fun e=>by
      have:=b0 _ e.symm;omega)
     exact⟨i1.cell 0 rfl,i1.cell 1 rfl,i1.cell 2 rfl,i1.cell 3 rfl⟩
    replace Z:=Aa Z;replace q0:=Aa q0;replace J:=Aa J;replace j0:=Aa j0;replace c0:=Aa c0;replace Y:=Aa Y;replace e2:=Aa e2;replace p3:=Aa p3;replace b0:=Aa b0;replace f3:=Aa f3;clear k4 d3 n0 h0 b3 y3 x0;go_wp2_with fail;rw[<-j0.out,<-c0.out]
    go_region_held3 (fun x=>x.cell? ⟨g9,0,none⟩=some (.string ⟨t.toArray⟩)/\x.cell? ⟨g9,1,none⟩=some (.int .i64 (off:Int))/\x.cell? ⟨g9,2,none⟩=some (.int .i64 (len:Int))/\x.cell? ⟨g9,3,none⟩=some (.int .i64 (nn:Int))) (first | exact Y.out | exact e2.out | exact p3.out _ ‹_›) (first | (refine OH (us:= [.string ⟨t.toArray⟩,.int .i64 (off:Int),.int .i64 (len:Int),.int .i64 (nn:Int)]) (m:=1) Pa rfl J.out rfl (.tmp 37) (.tmp 39) rfl rfl rfl rfl (Az rfl) (by omega) g4 (fun A8 c8 w8 n4 e1=>?_)))
    go_wp2_with fail;have b4:RdD w g (restE l (i+1)) w8:=by
     obtain⟨B,d,q1,q2,q3⟩:=q0.out;refine⟨B,d,q1.grown e1 fun e=>Am J.out q1 (by decide) e.symm,q2,q3.grown e1 fun k hk=>?_⟩;obtain⟨_,_,hb⟩:=Ae J.out hk;exact hb
    have q4:w8.ownsRow w.heap.size 100 4 (.slice A8 (i+1) c8) (i+1) (encells (l.take (i+1))):=by rw[t3.out];exact n4
    exact⟨⟨i+1,c8,A8,t,rfl,rfl,rfl,by omega,Aa (fun _=>f1.out.symm),k1,p1,Aa b4,Aa q4⟩,by simp only[intOf];omega⟩
  ·obtain rfl:i=m:=by omega
   have U:=k0.out;rw[List.take_of_length_le (by rw[<-hm.out];exact Nat.le_refl _)]at U;have d1:=BN U;have a1:=Cells.of_own U;have m1:Ext w wv:=by obtain⟨_,_,_,_,q⟩:=hS.out;exact q
   have e4:=Aa (fun W (hE:Ext wv W/\W.cell? ⟨g,1,none⟩=some (Value.bool false))=>(J3 l A6 i c6 W hm.out (a1.ext hE.1) m0.out).mono fun e W' ⟨he,v0⟩=>And.intro he (show Ext wv W'/\W'.cell? ⟨g,1,none⟩=some (Value.bool false)from⟨hE.1.trans v0,v0.cell hE.2⟩));have f2:=Aa (fun W (hE:Ext wv W/\W.cell? ⟨g,1,none⟩=some (Value.bool false))=>(GF l A6 i c6 W hm.out (a1.ext hE.1) d1.2 d1.1 m0.out).mono fun e W' (h:OwnB _ _ _ e W')=>show ∃A5 c5,e = .returned (.slice A5 (encEs l).length c5)/\Bs W' A5 (encEs l)/\Ext wv W'/\W'.cell? ⟨g,1,none⟩=some (Value.bool false)from by
    obtain⟨A5,c5,he,ho,v0⟩:=h;exact⟨A5,c5,he,ho.2.cells,hE.1.trans v0,v0.cell hE.2⟩)
   have Y:Ext wv wv.drew/\wv.drew.cell? ⟨g,1,none⟩=some (Value.bool false):=⟨(Ext.refl wv).drew,kb⟩
   have f4:∀W,(Ext wv W/\W.cell? ⟨g,1,none⟩=some (Value.bool false))->(convert 24 9 (.slice A n c)).run prog W = .ok (.string ⟨bs.toArray⟩) W:=fun W hE=>CT ((h.out.bytes.ext m1).ext hE.1) n c h.out.len;have k5:(bs==bs)=true:=beq_self_eq_true bs;obtain⟨nb,l0⟩:=Ab ((encEs l).length);rw[<-y1.out]at f2 l0;rw[<-l0]at f2;replace U:=Aa U;replace d1:=Aa d1;replace a1:=Aa a1;replace m1:=Aa m1;replace Y:=Aa Y;replace l0:=Aa l0;go_wp2_with fail;refine wp_region_held_drew (S:=(fun x=>Ext wv x/\x.cell? ⟨g,1,none⟩=some (Value.bool false))) (by kernel_rfl) Y.out (fun x2=>?_);refine wpAnyH_take (i:=0) (v:= .pointer (some ⟨g,0,none⟩)) rfl (by kernel_rfl) (by kernel_rfl) (by kernel_rfl) (fun _ _ _ h=>h) (Or.inl ⟨by rfl,?_⟩) (by assumption) ?_
   ·intro w' H
    (try dsimp only at H)
    go_simp
    try with_reducible rfl
    all_goals omega
   (try simp only[Act.put,Bv,Bw,By,CN,CO,CP])
   refine wpAnyH_take (i:=1) (v:= .pointer (some ⟨g,0,none⟩)) rfl (by kernel_rfl) (by kernel_rfl) (by kernel_rfl) (fun _ _ _ h=>h) (Or.inl ⟨by rfl,?_⟩) (by assumption) ?_
   ·intro w' H
    (try dsimp only at H)
    go_simp
    try with_reducible rfl
    all_goals omega
   (try simp only[Act.put,Bv,Bw,By,CN,CO,CP])
   refine wpAnyH_take (i:=2) (v:= .pointer (some ⟨g,1,none⟩)) rfl (by kernel_rfl) (by kernel_rfl) (by kernel_rfl) (fun _ _ _ h=>h) (Or.inl ⟨by rfl,?_⟩) (by assumption) ?_
   ·intro w' H
    (try dsimp only at H)
    go_simp
    try with_reducible rfl
    all_goals omega
   (try simp only[Act.put,Bv,Bw,By,CN,CO,CP])
   refine wpAnyH_take (i:=3) (v:= .bool false) rfl (by kernel_rfl) (by kernel_rfl) (by kernel_rfl) (fun _ _ _ h=>h) (Or.inl ⟨by rfl,?_⟩) (by assumption) ?_
   ·intro w' H
    (try dsimp only at H)
    obtain⟨_,p5⟩:=H;go_simp
    try with_reducible rfl
    all_goals omega
   (try simp only[Act.put,Bv,Bw,By,CN,CO,CP])
   refine wpAnyH_take (i:=4) (v:= .bool false) rfl (by kernel_rfl) (by kernel_rfl) (by kernel_rfl) (fun _ _ _ h=>h) (Or.inl ⟨by rfl,?_⟩) (by assumption) ?_
   ·intro w' H
    (try dsimp only at H)
    go_simp
    try with_reducible rfl
    all_goals omega
   (try simp only[Act.put,Bv,Bw,By,CN,CO,CP])
   refine wpAnyH_take (i:=5) (v:= .slice A6 i c6) rfl (by kernel_rfl) (by kernel_rfl) (by kernel_rfl) (fun _ _ _ h=>h) (Or.inl ⟨by rfl,?_⟩) (by assumption) ?_
   ·intro w' H
    (try dsimp only at H)
    go_simp
    try with_reducible rfl
    all_goals omega
   (try simp only[Act.put,Bv,Bw,By,CN,CO,CP])
   refine wpAnyH_ready (rs:= [6]) (by kernel_rfl) (by simp) ?_;refine AllReadyH.cons rfl (fun K hK=>?_) AllReadyH.nil
   (first | go_at_call 85 | (go_simp;go_at_call 85));(refine(e4.out _ ‹_›).mono ?_;rintro e w5 ⟨rfl,e3⟩)
   refine hK.out _ _ ?_ (fun t4=>?_)
   ·exact e3
   clear hK K
   (try simp only[Act.put,Bv,Bw,By,CN,CO,CP])
   refine wpAnyH_take (i:=7) (v:= .bool false) rfl (by kernel_rfl) (by kernel_rfl) (by kernel_rfl) (fun _ _ _ h=>h) (Or.inl ⟨by rfl,?_⟩) (by assumption) ?_
   ·intro w' H
    (try dsimp only at H)
    go_simp
    try with_reducible rfl
    all_goals omega
   (try simp only[Act.put,Bv,Bw,By,CN,CO,CP])
   refine wpAnyH_take (i:=8) (v:= .bool false) rfl (by kernel_rfl) (by kernel_rfl) (by kernel_rfl) (fun _ _ _ h=>h) (Or.inl ⟨by rfl,?_⟩) (by assumption) ?_
   ·intro w' H
    (try dsimp only at H)
    go_simp
    try with_reducible rfl
    all_goals omega
   (try simp only[Act.put,Bv,Bw,By,CN,CO,CP])
   refine wpAnyH_take (i:=9) (v:= .bool false) rfl (by kernel_rfl) (by kernel_rfl) (by kernel_rfl) (fun _ _ _ h=>h) (Or.inl ⟨by rfl,?_⟩) (by assumption) ?_
   ·intro w' H
    (try dsimp only at H)
    go_simp
    try with_reducible rfl
    all_goals omega
   (try simp only[Act.put,Bv,Bw,By,CN,CO,CP])
   refine wpAnyH_take (i:=10) (v:= .slice A6 i c6) rfl (by kernel_rfl) (by kernel_rfl) (by kernel_rfl) (fun _ _ _ h=>h) (Or.inl ⟨by rfl,?_⟩) (by assumption) ?_
   ·intro w' H
    (try dsimp only at H)
    go_simp
    try with_reducible rfl
    all_goals omega
   (try simp only[Act.put,Bv,Bw,By,CN,CO,CP])
   refine wpAnyH_take (i:=13) (v:= .slice A n c) rfl (by kernel_rfl) (by kernel_rfl) (by kernel_rfl) (fun _ _ _ h=>h) (Or.inl ⟨by rfl,?_⟩) (by assumption) ?_
   ·intro w' H
    (try dsimp only at H)
    go_simp
    try with_reducible rfl
    all_goals omega
   (try simp only[Act.put,Bv,Bw,By,CN,CO,CP])
   refine wpAnyH_take (i:=14) (v:= .string ⟨bs.toArray⟩) rfl (by kernel_rfl) (by kernel_rfl) (by kernel_rfl) (fun _ _ _ h=>h) (Or.inl ⟨by rfl,?_⟩) (by assumption) ?_
   ·intro w' H
    (try dsimp only at H)
    have i4:=f4 w' H;go_simp
    try with_reducible rfl
    all_goals omega
   (try simp only[Act.put,Bv,Bw,By,CN,CO,CP])
   refine wpAnyH_ready (rs:= [11]) (by kernel_rfl) (by simp) ?_;refine AllReadyH.cons rfl (fun K hK=>?_) AllReadyH.nil
   (first | go_at_call 86 | (go_simp;go_at_call 86));(refine(f2.out _ ‹_›).mono ?_;rintro e w6 ⟨A5,c5,rfl,c4,x1⟩)
   have i4:=CT c4 nb c5 l0.out;refine hK.out _ _ ?_ (fun v4=>?_)
   ·exact x1
   clear hK K
   (try simp only[Act.put,Bv,Bw,By,CN,CO,CP])
   refine wpAnyH_ready (rs:= [12]) (by kernel_rfl) (by simp) ?_;refine AllReadyH.cons rfl (fun K hK=>?_) AllReadyH.nil;go_simp;refine hK.out _ _ ?_ (fun x4=>?_)
   ·exact x1
   clear hK K
   (try simp only[Act.put,Bv,Bw,By,CN,CO,CP])
   refine wpAnyH_take (i:=15) (v:= .bool false) rfl (by kernel_rfl) (by kernel_rfl) (by kernel_rfl) (fun _ _ _ h=>h) (Or.inl ⟨by rfl,?_⟩) (by assumption) ?_
   ·intro w' H
    (try dsimp only at H)
    go_simp
    try with_reducible rfl
    all_goals omega
   (try simp only[Act.put,Bv,Bw,By,CN,CO,CP])
   refine wpAnyH_take (i:=16) (v:= .bool false) rfl (by kernel_rfl) (by kernel_rfl) (by kernel_rfl) (fun _ _ _ h=>h) (Or.inl ⟨by rfl,?_⟩) (by assumption) ?_
   ·intro w' H
    (try dsimp only at H)
    go_simp
    try with_reducible rfl
    all_goals omega
   (try simp only[Act.put,Bv,Bw,By,CN,CO,CP])
   refine wpAnyH_done (by kernel_rfl) ?_ _;have z3:=Aa x1.1;clear e3 x1 x2;go_wp2_with fail;go_ret2;refine⟨w6.heap.size,rfl,⟨A6,c6,?_,?_⟩,(m1.out.trans z3.out).alloc _⟩
   ·rw[<-hm.out];exact Row.new w6 _ _
   ·rw[<-hm.out];exact((Ext.refl w6).alloc _).owns (z3.out.owns U.out)
end
section
open Go.RowKit Go.Maps
def openD (b:List UInt8):Option (List Dc) :=
 if b.take 4 = [76,83,69,71] then
  if (splitF (b.drop 4)).2=0/\(splitF (b.drop 4)).1.length=6 then
   match decDs ((splitF (b.drop 4)).1.headD [])with
   | some P=>if 0<P.length/\segL P=b then some P else none
   | none=>none
  else none
 else none
def SegR (w:World) (g:Nat) (P:List Dc):Prop:=∃(ds:List DocC) (A:Option Addr) (c:Nat) (lo hi fi la:Int) (B:Option Addr) (cB gd gf:Nat),
 Row w g 120 #[.slice A ds.length c,.int .i64 0,.int .i64 0,.int .i64 lo,.int .i64 hi,.int .i64 fi,.int .i64 la,.int .i64 (ds.length:Int),.pointer (some ⟨gd,0,none⟩),.slice B (postB (rowsD P)).length cB,.pointer (some ⟨gf,0,none⟩)] /\
 dcs ds=P/\partD P = [lo,hi,fi,la,(ds.length:Int)]/\DocsOk w A ds/\DicR w gd (enOf 0 (rowsD P))/\In8 w B (postB (rowsD P)).length cB (postB (rowsD P))/\FilR w gf (ofB ((rowsD P).map (·.1)))
def SegRB (base:Nat) (w:World) (g:Nat) (P:List Dc):Prop:=∃(ds:List DocC) (A:Option Addr) (c:Nat) (lo hi fi la:Int) (B:Option Addr) (cB gd gf:Nat),
 Row w g 120 #[.slice A ds.length c,.int .i64 0,.int .i64 0,.int .i64 lo,.int .i64 hi,.int .i64 fi,.int .i64 la,.int .i64 (ds.length:Int),.pointer (some ⟨gd,0,none⟩),.slice B (postB (rowsD P)).length cB,.pointer (some ⟨gf,0,none⟩)] /\
 dcs ds=P/\partD P = [lo,hi,fi,la,(ds.length:Int)]/\DocsOwn w base A c ds/\DicO w base gd (enOf 0 (rowsD P))/\Buf w base 5 B (postB (rowsD P)).length cB ((postB (rowsD P)).map B8)/\FilO w base gf (ofB ((rowsD P).map (·.1)))
theorem SegRB.seg {P:List Dc} (h:SegRB base w g P):SegR w g P:=by
 obtain⟨ds,A,c,lo,hi,fi,la,B,cB,gd,gf,h1,h2,d,H,Y,J,U⟩:=h;exact⟨ds,A,c,lo,hi,fi,la,B,cB,gd,gf,h1,h2,d,H.ok,Y.dic,J.in8,U.fil⟩
theorem FilO.lower (h:FilO w base g f) (hb:b<=base):FilO w b g f:=by
 obtain⟨b1,c,cur,H,h1,d,h2⟩:=h;exact⟨b1,c,cur,H,Nat.le_trans hb h1,d,h2⟩
theorem DicO.lower {l:List En} (h:DicO w base g l) (hb:b<=base):DicO w b g l:=by
 obtain⟨A,c,h1,h2⟩:=h;exact⟨A,c,h1,AD h2 hb⟩
def SegOB (w:World) (b:List UInt8) (e:Ending) (w':World):Prop:=Ext w w'/\match openD b with
 | some P=>∃g,e = .returned (.tuple #[.pointer (some ⟨g,0,none⟩),.int .i64 0])/\SegRB w.heap.size w' g P
 | none=>e = .returned (.tuple #[.pointer none,.int .i64 130])
theorem SegOB.no {b:List UInt8} (d:Ext w w') (h:openD b=none):SegOB w b (.returned (.tuple #[.pointer none,.int .i64 130])) w':=by
 refine⟨d,?_⟩;rw[h]
def SegO (w:World) (b:List UInt8) (e:Ending) (w':World):Prop:=Ext w w'/\match openD b with
 | some P=>∃g,e = .returned (.tuple #[.pointer (some ⟨g,0,none⟩),.int .i64 0])/\SegR w' g P
 | none=>e = .returned (.tuple #[.pointer none,.int .i64 130])
theorem SegO.no {b:List UInt8} (d:Ext w w') (h:openD b=none):SegO w b (.returned (.tuple #[.pointer none,.int .i64 130])) w':=by
 refine⟨d,?_⟩;rw[h]
theorem Ik {p:Addr} (h:Cells w A xs) (d:w.cell? p=some u0) (H:∀v∈xs,v≠u0) (u:Value):Cells (w.setCell p u) A xs:=by
 rcases h with h | ⟨g,o,J,U⟩
 ·exact .inl h
 ·refine .inr ⟨g,o,J,fun i v Y=>?_⟩;have h1:=U i v Y;rw[World.cell?_setCell_other w p _ u (fun e=>by
   rw[e]at d;rw[h1]at d;injection d with d;exact H v (List.mem_of_getElem? Y) d)]
  exact h1
theorem Ly (l:List En):∀v∈encells l,v≠Value.pointer none:=fun v d e=>by
 unfold encells at d;obtain⟨x,_,h⟩:=List.mem_flatMap.1 d;unfold En.cells at h;simp only[List.mem_cons,List.not_mem_nil,or_false]at h;rcases h with rfl | rfl | rfl | rfl <;> cases e
theorem DicR.set {l:List En} (h:DicR w gd l) (d:Row w g 120 cs) (hi:cs[i]? = some (.pointer none)) (u:Value):DicR (w.setCell ⟨g,i,none⟩ u) gd l:=by
 obtain⟨A,c,h1,h2⟩:=h;exact⟨A,c,h1.away (h1.unlike d (by decide)) u,Ik h2 (d.cell i hi) (Ly l) u⟩
theorem FilO.set (h:FilO w b gf f) (d:Row w g 120 cs) (u:Value):FilO (w.setCell ⟨g,i,none⟩ u) b gf f:=by
 obtain⟨b1,c,cur,h1,hb,h2,H,Y,J⟩:=h;exact⟨b1,c,cur,h1.away (h1.unlike d (by decide)) u,hb,h2.away (h2.unlike d (by decide)) u,H,Y,J⟩
theorem EV {ds:List DocC} (h:DocsOk w A ds) (G:m=ds.length) (h0:0<m) (hs:SmP (dcs ds)):∀p∈framesD (dcs ds),p.length<=16777216:=by
 have Y:=hs.seg;have I:(vall (partD (dcs ds))).length<=16777216:=by
  obtain⟨x0,J⟩:∃x,ds[0]? = some x:=⟨_,List.getElem?_eq_getElem (by omega)⟩
  obtain⟨xl,U⟩:∃x,ds[m - 1]? = some x:=⟨_,List.getElem?_eq_getElem (by omega)⟩
  have h1:=C7 G J U;have H:∀d∈dcs ds,I64ok' d.2.at_:=fun d hd=>by
   unfold dcs at hd;obtain⟨x,O,rfl⟩:=List.mem_map.1 hd;exact(h.each x O).2.1
  have q0:=(h.each x0 (List.mem_of_getElem? J)).2;have ql:=(h.each xl (List.mem_of_getElem? U)).2;have hn:m<=65536:=by
   have:=Y.n;unfold dcs at this;rw[List.length_map]at this;omega
  rw[h1];have q1:=E5 (dcs ds) _ q0.1 H;have q2:=Ea (dcs ds) _ q0.1 H;have q5:I64ok' (m:Int):=by unfold I64ok';omega
  have h2:=De [lowD x0.e.at_ (dcs ds),highD x0.e.at_ (dcs ds),x0.seq,xl.seq,(m:Int)] (fun x O=>by
   simp only[List.mem_cons,List.not_mem_nil,or_false]at O;rcases O with rfl | rfl | rfl | rfl | rfl
   ·exact q1
   ·exact q2
   ·exact q0.2
   ·exact ql.2
   ·exact q5) 5
  exact Nat.le_trans h2 (by decide)
 intro p Z;unfold framesD at Z;simp only[List.mem_cons,List.not_mem_nil,or_false]at Z;rcases Z with rfl | rfl | rfl | rfl | rfl | rfl
 ·exact Y.docs
 ·exact Y.times
 ·exact Nat.le_trans Y.posts (by decide)
 ·exact Y.dic
 ·exact Nat.le_trans Y.bits.2 (by decide)
 ·exact I
theorem Ff (A:Option Addr) (n c:Nat) (b:List UInt8) (w:World) (h:In8 w A n c b) (d7:n<=1000000000) (m2:∀P,(splitF (b.drop 4)).2=0->decDs ((splitF (b.drop 4)).1.headD [])=some P->(blockD 0 P).length<=70000) :
 Calls prog 24 #[.slice A n c] w fun e w'=>SegOB w b e w':=by
 have m4:=h.len;obtain⟨k4,a4⟩:∃k:Nat,(k:Int)=min (n:Int) 4:=⟨min n 4,by omega⟩
 have p6:k4<=n:=by omega
 have g7:=fun(W:World)=>AQ (P:=prog) #[3,3] 3 a4 W;obtain⟨f7,h4⟩:=h.headk .i64 p6 (z:=(k4:Int)) rfl;have g4:=fun(W:World) (hE:Ext w W)=>CT (A:=A) (l:=b.take k4) (w:=W) (h4.bytes.ext hE) k4 c h4.len;have q5:b.take k4=b.take 4:=by
  by_cases j6:4<=n
  ·have:k4=4:=by omega
   rw[this]
  ·have:k4=n:=by omega
   rw[this,List.take_of_length_le (by omega),List.take_of_length_le (by omega)]
 have h6:=Tryz.strings_HasPrefix ⟨(b.take k4).toArray⟩ ⟨#[76,83,69,71]⟩ w;obtain⟨hp,j1⟩:=Ab (Lib.hasPrefix (b.take 4) [76,83,69,71]);have q1:Calls prog 52 #[.string ⟨(b.take k4).toArray⟩,.string ⟨#[76,83,69,71]⟩] w fun e w'=>e = .returned (.bool hp)/\w'=w:=by
  rw[j1,<-q5];simpa using h6
 have m1:hp=true↔b.take 4 = [76,83,69,71]:=by
  rw[j1];unfold Lib.hasPrefix;rw[List.isPrefixOf_iff_prefix];constructor
  ·intro v6;exact(v6.eq_of_length_le (by rw[List.length_take];simp;omega)).symm
  ·intro e;rw[e];exact List.prefix_refl _
 have q7:=g4 w (Ext.refl w);replace q1:=Aa q1;replace h:=Aa h;replace m2:=Aa m2;clear h6 g4 h4;have e5:=Aa m4;replace a4:=Aa a4;replace j1:=Aa j1;replace q5:=Aa q5;by_cases e4:hp=true
 ·have x1:=m1.1 e4;subst e4;have j6:4<=n:=by
   have:=congrArg List.length x1;rw[List.length_take]at this;simp at this;omega
  obtain⟨A4,c4,i6,q3⟩:=h.out.from_ (fr:=4) j6 (z:=4) rfl;have y3:=OC A4 (n - 4) c4 (b.drop 4) w q3 (by omega);clear m4;replace y3:=Aa y3;replace q3:=Aa q3;replace x1:=Aa x1;replace m1:=Aa m1
  go_in
  go_wp2_with fail;refine q1.out.mono ?_;rintro e w1 ⟨rfl,rfl⟩;go_wp2_with fail;refine y3.out.mono ?_;rintro e w2 ⟨L,cL,z,ps,rfl,t4,j2,q2,Z⟩;have Y:openD b=if (splitF (b.drop 4)).2=0/\ps.length=6 then (match decDs ((pays ps).headD [])with | some P=>if 0<P.length/\segL P=b then some P else none | none=>none) else none:=by
   unfold openD;rw[if_pos x1.out,<-j2];have:(pays ps).length=ps.length:=List.length_map ..;rw[this]
  have y0:=m2.out;rw[<-j2]at y0;obtain⟨sc,h5⟩:=Ab ((splitF (b.drop 4)).2);rw[<-h5]at Y y0 ⊢;have v0:∀p∈pays ps,p.length<=16777216:=fun p hp=>by rw[j2]at hp;exact(Fl hp).1
  replace h5:=Aa h5;replace y0:=Aa y0;replace v0:=Aa v0;obtain⟨np,r3⟩:=Ab ps.length;rw[<-r3]at Y ⊢;replace r3:=Aa r3;replace t4:=Aa t4;replace j2:=Aa j2;replace q2:=Aa q2;by_cases t3:sc=0
  ·by_cases g6:np=6
   ·subst t3;subst g6;rw[if_pos ⟨rfl,rfl⟩]at Y;obtain⟨⟨A0,k0,b0,z0⟩,⟨A1,k1,b1,z1⟩,⟨A2,k2,b2,z2⟩,⟨A3,k3,b3,z3⟩,⟨A4',k4',b4,z4⟩,⟨A5,k5,b5,z5⟩,x6⟩:∃p0 p1 p2 p3 p4 p5:Pay,ps = [p0,p1,p2,p3,p4,p5]:=by
     have:=r3.out
     match ps,this with
     | [p0,p1,p2,p3,p4,p5],_=>exact⟨p0,p1,p2,p3,p4,p5,rfl⟩
    subst x6;obtain⟨gl,ol,hL,d2⟩:=t4.out.at_ (by simp);subst hL;have l0:=d2 0 (.slice A0 b0.length k0) rfl;have l2:=d2 2 (.slice A2 b2.length k2) rfl;have l3:=d2 3 (.slice A3 b3.length k3) rfl;have l4:=d2 4 (.slice A4' b4.length k4') rfl;rw[Nat.add_zero]at l0;have r4:(pays [(A0,k0,b0,z0),(A1,k1,b1,z1),(A2,k2,b2,z2),(A3,k3,b3,z3),(A4',k4',b4,z4),(A5,k5,b5,z5)]).headD []=b0:=rfl;rw[r4]at Y;have j4:=fun P hP=>y0.out P rfl (by rw[r4];exact hP);have q6:In8 w2 A0 b0.length k0 b0:=by obtain⟨bb,hb⟩:=q2.out (A0,k0,b0,z0) (by simp);exact hb.in8
    have l6:=v0.out b0 (by simp[pays]);have g0:=JA A0 b0.length k0 b0 w2 q6 (by omega);obtain⟨D,hD⟩:=Ab (decDs b0);have r0:=fun P (h:decDs b0=some P)=>Iq h;rw[<-hD]at g0 Y r0;have x3:∀P,D=some P->(blockD 0 P).length<=70000:=fun P hP=>j4 P (by rw[<-hD];exact hP);obtain⟨n0,i4⟩:=Ab b0.length;rw[<-i4]at g0 l0;replace hD:=Aa hD;replace r0:=Aa r0;replace g0:=Aa g0;replace Y:=Aa Y;replace x3:=Aa x3;replace i4:=Aa i4;clear d2 j4 q6 l6 r4;go_wp2_with fail;refine g0.out.mono ?_;rintro e w3 ⟨q0,d1⟩;cases D with
    | none =>
     simp only at d1;subst d1;have d:openD b=none:=Y.out;replace d:=Aa d;go_wp2_with fail;go_ret2;exact SegOB.no (Z.trans q0) d.out
    | some P =>
     simp only at d1;obtain⟨ds,Ad,cd,i1,rfl,a1⟩:=d1;obtain⟨m6,b7⟩:=r0.out P rfl;have z6:=x3.out P rfl;have a5:P.length=ds.length:=by rw[<-i1];exact List.length_map ..
     have i2:=a1.ok;have G:=a1.cap;have o0:=Z.trans q0;have U:openD b=if 0<P.length/\segL P=b then some P else none:=Y.out;obtain⟨m,hm⟩:=Ab ds.length;rw[<-hm]at G a5 ⊢;rw[a5]at U;by_cases n6:m=0
     ·have d:openD b=none:=by rw[U,if_neg (fun e=>by omega)]
      subst n6;have t0:=Fe ds Ad 0 cd w3 hm i2 G.2 G.1 (by omega) (.inr rfl);replace t0:=Aa t0;replace d:=Aa d;replace hm:=Aa hm;clear U G a1 i2;go_wp2_with fail;refine t0.out.mono ?_;rintro e w4 ⟨rfl,H⟩;go_wp2_with fail;go_ret2;exact SegOB.no (o0.trans H) d.out
     ·have m2:SmP (dcs ds):=by rw[i1];exact⟨m6,z6⟩
      have t0:=CY ds Ad m cd w3 hm i2 G.2 G.1 m2 (by omega);rw[i1]at t0;have hB:=(SmP.mk m6 z6).seg;replace t0:=Aa t0;replace hm:=Aa hm;replace U:=Aa U;replace hB:=Aa hB;go_wp2_with fail;refine t0.out.mono ?_;rintro e w4 ⟨A9,c9,rfl,y5,H⟩;obtain⟨n9,o3⟩:=Ab ((segL P).length);rw[<-o3]at y5 ⊢;have y6:=CT (A:=A9) (l:=segL P) (w:=w4) y5.2.cells n9 c9 o3;have x7:=CT (A:=A) (l:=b) (w:=w4) ((h.out.ext (o0.trans H)).bytes) n c e5.out;replace o3:=Aa o3;by_cases o2:segL P=b
      ·rw[o2]at y6;have k7:=o0.trans H;have a3:openD b=some P:=by rw[U.out,if_pos ⟨by omega,o2⟩]
       obtain⟨x0,j5⟩:∃x,ds[0]? = some x:=⟨_,List.getElem?_eq_getElem (by have:=hm.out;omega)⟩
       obtain⟨xl,g5⟩:∃x,ds[m - 1]? = some x:=⟨_,List.getElem?_eq_getElem (by have:=hm.out;omega)⟩
       have m3:=C7 hm.out j5 g5;obtain⟨lo,d4⟩:∃z,z=lowD x0.e.at_ (dcs ds):=⟨_,rfl⟩
       obtain⟨h3,y4⟩:∃z,z=highD x0.e.at_ (dcs ds):=⟨_,rfl⟩
       rw[<-d4,<-y4]at m3;have w6:m<=1000000:=by have:=hB.out.n;omega
       have O:=fun X (hx:Ext w4 X)=>K4 ds Ad m cd X hm.out (i2.ext (H.trans hx)) w6 (by omega);rw[m3]at O;have t6:prtA [lo,h3,x0.seq,xl.seq,(m:Int)]=#[.int .i64 0,.int .i64 0,.int .i64 lo,.int .i64 h3,.int .i64 x0.seq,.int .i64 xl.seq,.int .i64 (m:Int)]:=rfl;rw[t6]at O;obtain⟨bb2,c5⟩:=q2.out (A2,k2,b2,z2) (by simp);simp only at c5;have y2:=c5.ext (q0.trans H);have k6:=v0.out b2 (by simp[pays]);obtain⟨n2,j3⟩:=Ab b2.length;rw[<-j3]at y2 l2 k6;have h0:=fun X (hx:Ext w4 X)=>Cr A2 n2 k2 b2 X j3 (y2.ext hx).cells (MN y2) (by omega);have lx2:=(q0.trans H).cell l2;replace m3:=Aa m3;replace d4:=Aa d4;replace y4:=Aa y4;replace j5:=Aa j5;replace g5:=Aa g5;replace O:=Aa O;replace h0:=Aa h0;replace j3:=Aa j3;replace a3:=Aa a3;clear t6;go_upto_region 12 with fail
       go_cut [10] (fun s10 wy=>∃g BC cC,s10 = .pointer (some ⟨g,0,none⟩)/\Hid (Row wy g 120 #[.slice Ad m cd,.int .i64 0,.int .i64 0,.int .i64 lo,.int .i64 h3,.int .i64 x0.seq,.int .i64 xl.seq,.int .i64 (m:Int),.pointer none,.slice BC n2 cC,.pointer none])/\Hid (Buf wy w4.heap.size 5 BC n2 cC (b2.map B8))/\Hid (Ext w4 wy)/\w4.heap.size<=g)
       case first =>
        have hX:Hid (Ext w4 w4):=Aa (Ext.refl w4)
        go_region_held3 (fun x=>x.cell? ⟨gl,ol+2,none⟩=some (.slice A2 n2 k2))
         (exact(hX.out.trans (by(first | with_reducible exact Ext.refl _ | with_reducible exact Ext.drew (Ext.refl _) | with_reducible exact Ext.alloc (Ext.refl _) _ | with_reducible exact Ext.drew (Ext.alloc (Ext.refl _) _) | with_reducible exact Ext.alloc (Ext.drew (Ext.refl _)) _ | with_reducible exact Ext.alloc (Ext.alloc (Ext.refl _) _) _ | with_reducible exact Ext.drew (Ext.alloc (Ext.alloc (Ext.refl _) _) _)))).cell lx2)
         (first
         | (go_at_call 46;refine(O.out _ (hX.out.trans (by(first | with_reducible exact Ext.refl _ | with_reducible exact Ext.drew (Ext.refl _) | with_reducible exact Ext.alloc (Ext.refl _) _ | with_reducible exact Ext.drew (Ext.alloc (Ext.refl _) _) | with_reducible exact Ext.alloc (Ext.drew (Ext.refl _)) _ | with_reducible exact Ext.alloc (Ext.alloc (Ext.refl _) _) _ | with_reducible exact Ext.drew (Ext.alloc (Ext.alloc (Ext.refl _) _) _))))).mono ?_;rintro e w9 ⟨rfl,e1⟩;(try replace c0:=Aa (c0.out.ext (Ext.trans (by(first | with_reducible exact Ext.refl _ | with_reducible exact Ext.drew (Ext.refl _) | with_reducible exact Ext.alloc (Ext.refl _) _ | with_reducible exact Ext.drew (Ext.alloc (Ext.refl _) _) | with_reducible exact Ext.alloc (Ext.drew (Ext.refl _)) _ | with_reducible exact Ext.alloc (Ext.alloc (Ext.refl _) _) _ | with_reducible exact Ext.drew (Ext.alloc (Ext.alloc (Ext.refl _) _) _))) e1)));replace hX:=Aa (hX.out.trans (Ext.trans (by(first | with_reducible exact Ext.refl _ | with_reducible exact Ext.drew (Ext.refl _) | with_reducible exact Ext.alloc (Ext.refl _) _ | with_reducible exact Ext.drew (Ext.alloc (Ext.refl _) _) | with_reducible exact Ext.alloc (Ext.drew (Ext.refl _)) _ | with_reducible exact Ext.alloc (Ext.alloc (Ext.refl _) _) _ | with_reducible exact Ext.drew (Ext.alloc (Ext.alloc (Ext.refl _) _) _))) e1));clear e1)
         | (go_at_call 55;refine(h0.out _ (hX.out.trans (by(first | with_reducible exact Ext.refl _ | with_reducible exact Ext.drew (Ext.refl _) | with_reducible exact Ext.alloc (Ext.refl _) _ | with_reducible exact Ext.drew (Ext.alloc (Ext.refl _) _) | with_reducible exact Ext.alloc (Ext.drew (Ext.refl _)) _ | with_reducible exact Ext.alloc (Ext.alloc (Ext.refl _) _) _ | with_reducible exact Ext.drew (Ext.alloc (Ext.alloc (Ext.refl _) _) _))))).mono ?_;rintro e w9 ⟨BC,cC,rfl,c0,e1⟩;have c0:=Aa (c0.lower (hX.out.trans (by(first | with_reducible exact Ext.refl _ | with_reducible exact Ext.drew (Ext.refl _) | with_reducible exact Ext.alloc (Ext.refl _) _ | with_reducible exact Ext.drew (Ext.alloc (Ext.refl _) _) | with_reducible exact Ext.alloc (Ext.drew (Ext.refl _)) _ | with_reducible exact Ext.alloc (Ext.alloc (Ext.refl _) _) _ | with_reducible exact Ext.drew (Ext.alloc (Ext.alloc (Ext.refl _) _) _)))).size);replace hX:=Aa (hX.out.trans (Ext.trans (by(first | with_reducible exact Ext.refl _ | with_reducible exact Ext.drew (Ext.refl _) | with_reducible exact Ext.alloc (Ext.refl _) _ | with_reducible exact Ext.drew (Ext.alloc (Ext.refl _) _) | with_reducible exact Ext.alloc (Ext.drew (Ext.refl _)) _ | with_reducible exact Ext.alloc (Ext.alloc (Ext.refl _) _) _ | with_reducible exact Ext.drew (Ext.alloc (Ext.alloc (Ext.refl _) _) _))) e1));clear e1))
        all_goals (go_wp2_with fail)
        all_goals go_meet
        all_goals (case rel=>exact⟨_,_,_,rfl,Aa (Row.new _ _ _),Aa (c0.out.ext ((Ext.refl _).alloc _)),Aa (hX.out.trans ((Ext.refl _).alloc _)),hX.out.size⟩)
       case rest =>
        obtain⟨g,BC,cC,rfl,h7,c0,x5,x4⟩:=hcut;have J : [b0,b1,b2,b3,b4,b5]=framesD P:=by
         have h1:=j2.out;rw[<-o2]at h1;have h2:(segL P).drop 4=joinL (framesD P):=rfl;rw[h2,CW _ (by rw[<-i1];exact EV i2 hm.out (by omega) m2)]at h1;exact h1
        unfold framesD at J;injection J with f0 J;injection J with f1 J;injection J with f2 J;injection J with f3 J;injection J with f4 J;have i0:=(q0.trans H).trans x5.out;have lx3:=i0.cell l3;obtain⟨bb3,e3⟩:=q2.out (A3,k3,b3,z3) (by simp);obtain⟨bb4,i3⟩:=q2.out (A4',k4',b4,z4) (by simp);simp only at e3 i3;have j7:gl<w4.heap.size:=by
         have h1:=World.block_lt_of_cell? w2 _ l3;have h2:=(q0.trans H).size;simp only at h1;omega
        have c7:b3.length<=16777216:=v0.out b3 (by simp[pays]);have y1:=Ls A3 b3.length k3 b3 wc (enOf 0 (rowsD P)) (e3.ext i0).in8 hB.out.ens f3 (by omega);have a2:8<=b4.length/\b4.length<=131072:=by rw[f4];exact hB.out.bits
        obtain⟨n3,o4⟩:=Ab b3.length;obtain⟨n4,I⟩:=Ab b4.length;rw[<-o4]at lx3 y1;have lx4:=i0.cell l4;rw[<-I]at lx4 a2;replace o4:=Aa o4;replace I:=Aa I;replace y1:=Aa y1;replace i0:=Aa i0;replace f2:=Aa f2;replace f3:=Aa f3;replace f4:=Aa f4;replace i3:=Aa i3;replace e3:=Aa e3;clear f0 f1 J l0 l2 l3 l4 lx2;go_wp2_with fail;refine y1.out.mono ?_;rintro e w5 ⟨gd,rfl,e2,d0⟩;have r1:=h7.out.ext d0;have y8:=r1.cell 8 rfl;have z8:=r1.free 8;have lx45:=d0.cell lx4;have e7:gl≠g:=by omega
        have t7:g≠gl:=by omega
        replace e2:=Aa e2;replace r1:=Aa r1;replace d0:=Aa d0;clear lx3 lx4;go_wp2_with fail;obtain⟨W6,j0⟩:=Ab (w5.setCell ⟨g,8,none⟩ (.pointer (some ⟨gd,0,none⟩)));rw[<-j0];have o5:w2.heap.size<=g:=Nat.le_trans (q0.trans H).size x4;have x2:Ext w2 W6:=by rw[j0];exact(i0.out.trans d0.out).setCell (p:=⟨g,8,none⟩) o5 _
        have v5:Ext w3 W6:=by rw[j0];exact((H.trans x5.out).trans d0.out).setCell (p:=⟨g,8,none⟩) (Nat.le_trans H.size x4) _
        have r6:Row W6 g 120 #[.slice Ad m cd,.int .i64 0,.int .i64 0,.int .i64 lo,.int .i64 h3,.int .i64 x0.seq,.int .i64 xl.seq,.int .i64 (m:Int),.pointer (some ⟨gd,0,none⟩),.slice BC n2 cC,.pointer none]:=by rw[j0];exact r1.out.put 8 _
        have e6:=Aa (show DicO W6 wc.heap.size gd (enOf 0 (rowsD P))by rw[j0];exact e2.out.chg (Chg.of_set (S:=fun q=>q=g) w5 _ rfl) (fun q e=>by subst e;exact⟨_,_,r1.out,by decide,by decide⟩));have d5:=c0.out.ext d0.out;have d6:Buf W6 w4.heap.size 5 BC n2 cC (b2.map B8):=by rw[j0];exact d5.setCell (d5.unlike r1.out (by decide)) _
        have m0:=NO A4' b4.length k4' b4 W6 (i3.out.ext x2).in8 (by rw[<-I.out];exact a2.1) (by rw[<-I.out];exact a2.2);rw[<-I.out]at m0;replace m0:=Aa m0;replace j0:=Aa j0;refine m0.out.mono ?_;rintro e w7 ⟨gf,rfl,_,v4,e0⟩;have r7:=r6.ext e0;have y10:=r7.cell 10 rfl;have z10:=r7.free 10;replace v4:=Aa v4;replace r7:=Aa r7;replace e0:=Aa e0;clear r1 r6 m0 y8 z8 lx45;go_wp2_with fail;go_ret2;have r5:=Nat.le_trans Z.size o5;have r8:=r7.out.put 10 (.pointer (some ⟨gf,0,none⟩));have f5:=d6.ext e0.out;have i5:=f5.setCell (p:=⟨g,10,none⟩) (f5.unlike r7.out (by decide)) (.pointer (some ⟨gf,0,none⟩));have f6:=(e6.out.ext e0.out).chg (Chg.of_set (S:=fun q=>q=g) w7 (a:=⟨g,10,none⟩) (.pointer (some ⟨gf,0,none⟩)) rfl) (fun q e=>by subst e;exact⟨_,_,r7.out,by decide,by decide⟩);have n5:=v4.out.set r7.out (i:=10) (.pointer (some ⟨gf,0,none⟩));have l5:=a1.ext ((v5.trans e0.out).setCell (p:=⟨g,10,none⟩) (Nat.le_trans H.size x4) (.pointer (some ⟨gf,0,none⟩)));refine⟨(Z.trans (x2.trans e0.out)).setCell (p:=⟨g,10,none⟩) r5 _,?_⟩;rw[a3.out];have o6:=hm.out;have q4:n2=(postB (rowsD P)).length:=by rw[j3.out,f2.out]
        rw[q4,f2.out]at i5;rw[f4.out]at n5;subst o6;rw[q4]at r8;refine⟨g,rfl,ds,Ad,cd,lo,h3,x0.seq,xl.seq,BC,cC,gd,gf,r8,i1,by rw[<-i1];exact m3.out,l5.lower Z.size,f6.lower ?b1,i5.lower ?b2,n5.lower ?b3⟩
        ·exact Nat.le_trans Z.size i0.out.size
        ·exact Nat.le_trans Z.size (q0.trans H).size
        ·exact Nat.le_trans Z.size x2.size
      ·have d:openD b=none:=by rw[U.out,if_neg (fun e=>o2 e.2)]
       have a7:(segL P==b)=false:=beq_eq_false_iff_ne.2 o2;replace d:=Aa d;go_wp2_with fail;go_ret2;exact SegOB.no (o0.trans H) d.out
   ·have d:openD b=none:=by rw[Y,if_neg (fun e=>g6 e.2)]
    have m7:((np:Int)==6)=false:=by simp;omega
    subst t3;replace d:=Aa d;clear Y;go_wp2_with fail;go_ret2;exact SegOB.no Z d.out
  ·have d:openD b=none:=by rw[Y,if_neg (fun e=>t3 e.1)]
   have v7:((sc:Int)==0)=false:=by simp;omega
   replace d:=Aa d;clear Y;go_wp2_with fail;go_ret2;exact SegOB.no Z d.out
 ·have d:openD b=none:=by
   unfold openD;rw[if_neg (fun e=>e4 (m1.2 e))]
  replace d:=Aa d;clear m4
  go_in
  go_wp2_with fail;refine q1.out.mono ?_;rintro e w1 ⟨rfl,rfl⟩;go_wp2_with fail;go_ret2;exact SegOB.no (Ext.refl _) d.out
theorem KW (A:Option Addr) (n c:Nat) (b:List UInt8) (w:World) (h:In8 w A n c b) (H:n<=1000000000) (Y:∀P,(splitF (b.drop 4)).2=0->decDs ((splitF (b.drop 4)).1.headD [])=some P->(blockD 0 P).length<=70000) :
 Calls prog 24 #[.slice A n c] w fun e w'=>SegO w b e w' :=
 (Ff A n c b w h H Y).mono fun e w' d=>by
  obtain⟨J,d⟩:=d;refine⟨J,?_⟩;split at d
  ·obtain⟨g,h1,h2⟩:=d;exact⟨g,h1,h2.seg⟩
  ·exact d
end
section
open Go.RowKit Go.Maps
theorem SegR.ext {P:List Dc} (h:SegR w g P) (d:Ext w w1):SegR w1 g P:=by
 obtain⟨ds,A,c,lo,hi,fi,la,B,cB,gd,gf,h1,h2,H,Y,J,U,O⟩:=h;exact⟨ds,A,c,lo,hi,fi,la,B,cB,gd,gf,h1.ext d,h2,H,Y.ext d,J.ext d,U.ext d,O.ext d⟩
theorem M5 (g n c:Nat) (A:Option Addr) (w:World) (h:w.cell? ⟨g,0,none⟩=some (.slice A n c)) (hn:0<n) (d:n<=1000000000):Calls prog 58 #[.pointer (some ⟨g,0,none⟩)] w fun e w'=>e = .returned (.bool false)/\w'=w:=by
 have H:((n:Int)==0)=false:=by simp;omega
 go_in
 go_wp2_with fail;go_ret;exact⟨by simp,rfl⟩
theorem Fh (g:Nat) (P:List Dc) (w:World) (h:SegR w g P) (Y:0<P.length) (d:P.length<=1000000000):Calls prog 34 #[.pointer (some ⟨g,0,none⟩)] w fun e w'=>e = .returned (.int .i64 (P.length:Int))/\w'=w:=by
 obtain⟨ds,A,c,lo,hi,fi,la,B,cB,gd,gf,h1,h2,_⟩:=h;have H:P.length=ds.length:=by rw[<-h2];exact List.length_map ..
 rw[H]at Y d ⊢;have k0:=h1.cell 0 rfl;have hn:=Aa (M5 g ds.length c A w k0 Y d);replace h1:=Aa h1;replace H:=Aa H;replace h2:=Aa h2
 go_in
 go_wp2_with fail;refine hn.out.mono ?_;rintro e w1 ⟨rfl,rfl⟩;go_wp2_with fail;go_ret;exact⟨rfl,rfl⟩
end
section
open Go.RowKit Go.Maps
structure SegP (P:List Dc):Prop where
  sm:SmP P
  ne:0<P.length
theorem SegP.few {P:List Dc} (h:SegP P):P.length<=1000000000:=by have:=h.sm.seg.n;omega
theorem SegR.none {P:List Dc} (h:SegR w g P) (d:SegP P):Calls prog 58 #[.pointer (some ⟨g,0,none⟩)] w fun e w'=>e = .returned (.bool false)/\w'=w:=by
 have H:=d.few;have hn:=d.ne;obtain⟨ds,A,c,lo,hi,fi,la,B,cB,gd,gf,h1,h2,_⟩:=h;have Y:P.length=ds.length:=by rw[<-h2];exact List.length_map ..
 exact M5 g ds.length c A w (h1.cell 0 rfl) (by omega) (by omega)
theorem I8 (g:Nat) (P:List Dc) (w:World) (h:SegR w g P) (hP:SegP P):Calls prog 70 #[.pointer (some ⟨g,0,none⟩)] w fun e w'=>e = .returned (.agg (prtA (partD P)))/\Ext w w':=by
 have hn:=Aa (fun W (hE:Ext w W)=>(h.ext hE).none hP);obtain⟨ds,A,c,lo,hi,fi,la,B,cB,gd,gf,h1,h2,G,h4,h5,h6,h7⟩:=h;obtain⟨W,Z⟩:=Ab (w.alloc (Obj.cells #[.int .i64 0,.int .i64 0,.int .i64 0,.int .i64 0,.int .i64 0,.int .i64 0,.int .i64 0] 79));have O:Ext w W:=by rw[Z];exact(Ext.refl w).alloc _
 have H:Row W w.heap.size 79 #[.int .i64 0,.int .i64 0,.int .i64 0,.int .i64 0,.int .i64 0,.int .i64 0,.int .i64 0]:=by rw[Z];exact Row.new w _ _
 have d:=h1.ext O;have k1:=d.cell 1 rfl;have k2:=d.cell 2 rfl;have k3:=d.cell 3 rfl;have k4:=d.cell 4 rfl;have k5:=d.cell 5 rfl;have k6:=d.cell 6 rfl;have k7:=d.cell 7 rfl;have f0:=H.free 0;have f1:=H.free 1;have f2:=H.free 2;have f3:=H.free 3;have f4:=H.free 4;have f5:=H.free 5;have f6:=H.free 6;have c0:=H.cell 0 rfl;have c1:=H.cell 1 rfl;have c2:=H.cell 2 rfl;have c3:=H.cell 3 rfl;have c4:=H.cell 4 rfl;have c5:=H.cell 5 rfl;have c6:=H.cell 6 rfl;replace h1:=Aa h1;replace d:=Aa d;replace H:=Aa H;replace G:=Aa G;replace Z:=Aa Z;clear h4 h5 h6 h7;obtain⟨bg,J⟩:=Ab w.heap.size;rw[<-J]at H f0 f1 f2 f3 f4 f5 f6 c0 c1 c2 c3 c4 c5 c6;have Y:w.heap.size<=bg:=Nat.le_of_eq J.symm;replace J:=Aa J;obtain⟨nn,U⟩:=Ab ((ds.length:Int):Int);rw[<-U]at k7;replace U:=Aa U
 go_in
 go_wp2_with fail;rw[<-Z.out,<-J.out];refine(hn.out _ O).mono ?_;rintro e w1 ⟨rfl,q0⟩;subst q0;go_wp2_with fail;have h0:=((((((H.out.put 0 (.int .i64 0)).put 1 (.int .i64 0)).put 2 (.int .i64 lo)).put 3 (.int .i64 hi)).put 4 (.int .i64 fi)).put 5 (.int .i64 la)).put 6 (.int .i64 nn);have I:=((((((O.setCell (p:=⟨bg,0,none⟩) Y (.int .i64 0)).setCell (p:=⟨bg,1,none⟩) Y (.int .i64 0)).setCell (p:=⟨bg,2,none⟩) Y (.int .i64 lo)).setCell (p:=⟨bg,3,none⟩) Y (.int .i64 hi)).setCell (p:=⟨bg,4,none⟩) Y (.int .i64 fi)).setCell (p:=⟨bg,5,none⟩) Y (.int .i64 la)).setCell (p:=⟨bg,6,none⟩) Y (.int .i64 nn);refine bodyPost_ret (Fa rfl _ _ bg #[.int .i64 0,.int .i64 0,.int .i64 lo,.int .i64 hi,.int .i64 fi,.int .i64 la,.int .i64 nn] rfl (run_loadVar_row _ bg 79 79 _ (0,0) _ h0 underlying79 rfl (by kernel_rfl))) rfl ⟨?_,I⟩;rw[G.out,<-U.out];rfl
end
section
open Go.RowKit
theorem CF (w:World) (t:TypeId):(w.alloc (.cells #[] t)).ownsRow w.heap.size t 2 (.slice (some ⟨w.heap.size,0,none⟩) 0 0) 0 [] :=
 ⟨rfl,.inr ⟨w.heap.size,0,#[],rfl,Nat.le_refl _,heap_alloc_new w _,Nat.le_refl _,by unfold maxLen;omega,rfl,rfl⟩⟩
section
variable {t e sz:Nat}
end
end
section
open Go.RowKit Go.Maps
theorem QT (c:Nat) (w:World):(binOp .eql 67 (.slice none 0 c) (.slice none 0 0)).run prog w = .ok (.bool true) w:=by kernel_rfl
theorem QU (a:Addr) (n c:Nat) (w:World):(binOp .eql 67 (.slice (some a) n c) (.slice none 0 0)).run prog w = .ok (.bool false) w:=by kernel_rfl
theorem LD (A:Option Addr) (n c:Nat) (l:List Fd) (w:World) (hn:n=l.length) (G:Cells w A (fcells l)) (k0:n<=1073741824) :
 Calls prog 115 #[.slice A n c] w fun e w'=>∃A1 c1,e = .returned (.slice A1 n c1)/\w'.ownsRow w.heap.size 91 2 (.slice A1 n c1) n (fcells l)/\Ext w w':=by
 cases A with
 | none =>
  have h0:l = []:=by
   rcases G with h | ⟨_,_,h,_⟩
   ·have:=congrArg List.length h;rw[Dl,List.length_nil]at this;exact List.length_eq_zero_iff.1 (by omega)
   ·cases h
  subst h0;obtain rfl:n=0:=hn;have hq:=QT c w
  go_in
  go_wp2_with fail;go_ret;exact⟨none,0,rfl,⟨rfl,.inl ⟨rfl,rfl⟩⟩,Ext.refl _⟩
 | some a =>
  have hq:=QU a n c w;have ho:=CF w 91;have d:Ext w (w.alloc (.cells #[] 91)):=(Ext.refl w).alloc _;have hb:=G.ext d;have H:(fcells l).length=n*2:=by rw[Dl,hn]
  have J:∀u∈fcells l,u.oneCell'=true:=fun u I=>by
   unfold fcells at I;obtain⟨f,_,U⟩:=List.mem_flatMap.1 I;unfold Fd.cells at U;simp only[List.mem_cons,List.not_mem_nil,or_false]at U;rcases U with rfl | rfl <;> rfl
  have Z:w.heap.size<=(w.alloc (.cells #[] 91)).heap.size:=d.size;replace H:=Aa H;replace hn:=Aa hn
  go_in
  go_wp2_with (at_builtin;refine AV (m:=n) Lu ho hb (.tmp 5) (.tmp 6) rfl rfl rfl rfl rfl H.out J (by omega) Z (fun A1 c1 w3 Y O p0=>?_));go_ret;refine⟨A1,c1,rfl,?_,d.grown O (fun k hk=>by cases hk;exact Nat.le_refl _)⟩;rw[Nat.zero_add]at Y;exact Y
theorem QZ (x:DocC) (w:World) (h:x.e.Ok w x.A) (U:x.e.fs.length<=20):Calls prog 71 #[.agg #[.int .i64 x.seq,.int .i64 x.e.at_,.slice x.A x.e.fs.length x.c]] w fun e w'=>∃A c,e = .returned (.agg #[.int .i64 x.seq,.int .i64 x.e.at_,.slice A x.e.fs.length c])/\x.e.Own w' w.heap.size A c/\Ext w w':=by
 obtain⟨sq,⟨at_,fs⟩,A,c⟩:=x;simp only at h U ⊢;have d:=h.long;simp only at d;obtain⟨n,hn⟩:=Ab fs.length;rw[<-hn]at U ⊢;have H:Ext w ((w.alloc (.cells #[.int .i64 sq,.int .i64 at_,.slice A n c] 71)).alloc (.cells #[.int .i64 0,.int .i64 0,.slice none 0 0] 71)):=((Ext.refl w).alloc _).alloc _;have r1:Row ((w.alloc (.cells #[.int .i64 sq,.int .i64 at_,.slice A n c] 71)).alloc (.cells #[.int .i64 0,.int .i64 0,.slice none 0 0] 71)) w.heap.size 71 #[.int .i64 sq,.int .i64 at_,.slice A n c]:=(Row.new w _ _).alloc _;have r2:Row ((w.alloc (.cells #[.int .i64 sq,.int .i64 at_,.slice A n c] 71)).alloc (.cells #[.int .i64 0,.int .i64 0,.slice none 0 0] 71)) (w.heap.size+1) 71 #[.int .i64 0,.int .i64 0,.slice none 0 0]:=by
  have h:=Row.new (w.alloc (.cells #[.int .i64 sq,.int .i64 at_,.slice A n c] 71)) 71 #[.int .i64 0,.int .i64 0,.slice none 0 0];simpa using h
 have q0:=Aa (LD A n c fs ((w.alloc (.cells #[.int .i64 sq,.int .i64 at_,.slice A n c] 71)).alloc (.cells #[.int .i64 0,.int .i64 0,.slice none 0 0] 71)) hn (h.cells.ext H) (by omega));have k2:=r1.cell 2 rfl;have p0:=H.size;replace hn:=Aa hn;replace H:=Aa H;replace r1:=Aa r1;replace r2:=Aa r2;replace d:=Aa d;clear h
 go_in
 go_wp2_with fail;refine q0.out.mono ?_;rintro e w2 ⟨A1,c1,rfl,J,Y⟩;have q1:=r1.out.ext Y;have q2:=r2.out.ext Y;have z2:=q1.free 2;obtain⟨g,Z⟩:=Ab w.heap.size;rw[<-Z]at q1 q2 z2 ⊢;have p1:=q1.put 2 (.slice A1 n c1);have p2:=q2.away (p:=⟨g,2,none⟩) (by simp) (.slice A1 n c1);have y0:=p1.cell 0 rfl;have y1:=p1.cell 1 rfl;have y2:=p1.cell 2 rfl;have v0:=p2.cell 0 rfl;have v1:=p2.cell 1 rfl;have v2:=p2.cell 2 rfl;have u0:=p2.free 0;have u1:=p2.free 1;have u2:=p2.free 2;have s2:=q1.cell 2 rfl;replace q1:=Aa q1;replace J:=Aa J;replace Y:=Aa Y;replace Z:=Aa Z;replace p2:=Aa p2;replace p1:=Aa p1;replace q2:=Aa q2;clear k2;go_wp2_with fail;have pf:=((p2.out.put 0 (.int .i64 sq)).put 1 (.int .i64 at_)).put 2 (.slice A1 n c1);have g0:=Z.out;have G:=(((H.out.trans Y.out).setCell (p:=⟨g,2,none⟩) (by simp only;omega) (.slice A1 n c1)).setCell (p:=⟨g+1,0,none⟩) (by simp only;omega) (.int .i64 sq)).setCell (p:=⟨g+1,1,none⟩) (by simp only;omega) (.int .i64 at_);have I:=G.setCell (p:=⟨g+1,2,none⟩) (by simp only;omega) (.slice A1 n c1);have O:=AD J.out p0;have hC:Chg (fun k=>k=g\/k=g+1) w2 ((((w2.setCell ⟨g,2,none⟩ (.slice A1 n c1)).setCell ⟨g+1,0,none⟩ (.int .i64 sq)).setCell ⟨g+1,1,none⟩ (.int .i64 at_)).setCell ⟨g+1,2,none⟩ (.slice A1 n c1)) :=
  (((Chg.of_set w2 _ (.inl rfl)).trans (Chg.of_set _ _ (.inr rfl)) fun _ _ h=>h).trans (Chg.of_set _ _ (.inr rfl)) fun _ _ h=>h).trans (Chg.of_set _ _ (.inr rfl)) fun _ _ h=>h
 have h0:=hC.owns O fun k hk=>by
  obtain⟨cs,hr,_⟩:=Ae O hk;rintro(rfl | rfl)
  ·exact Row.unlike hr q1.out (by decide) rfl
  ·exact Row.unlike hr q2.out (by decide) rfl
 refine bodyPost_ret (results_cell_row rfl _ _ (g+1) 71 #[.int .i64 sq,.int .i64 at_,.slice A1 n c1] (0,0) _ rfl pf underlying71 rfl (by kernel_rfl)) rfl ⟨A1,c1,rfl,⟨?_,d.out,?_⟩,I⟩
 ·simp only;rw[<-hn.out];exact h0
 ·simp only;rw[<-hn.out];exact U
end
section
open Go.RowKit Go.Maps
theorem DocsOwn.push {base c c8:Nat} {B A8:Option Addr} {l:List DocC} {x:DocC} (h:DocsOwn w base B c l) (Z:x.e.Own w base x.A x.c) (hi:I64ok' x.e.at_/\I64ok' x.seq)
 (I:w8.ownsRow base 71 3 (.slice A8 (l.length+1) c8) (l.length+1) (dcells l++x.cells)) (G:w.grownBy w8 (Value.slice B l.length c).ownBlock):DocsOwn w8 base A8 c8 (l ++ [x]):=by
 have hlen:(l ++ [x]).length=l.length+1:=by simp
 have Y:Chg (fun k'=>(Value.slice B l.length c).ownBlock=some k') w w8:=Chg.of_grown G fun k' _ O=>O;have U:∀k cs,Row w k 91 cs->¬ (Value.slice B l.length c).ownBlock=some k:=fun k cs J=>Am h.own J (by decide);refine⟨by rw[hlen,FX];exact I,fun y d=>?_,fun y d=>?_⟩
 ·rcases List.mem_append.1 d with d | d
  ·exact⟨Y.owns (h.each y d).1 fun g' H=>by obtain⟨cs,J,_⟩:=Ae (h.each y d).1 H;exact U _ _ J,(h.each y d).2⟩
  ·rw[List.mem_singleton.1 d];exact⟨Y.owns Z.1 fun g' H=>by obtain⟨cs,J,_⟩:=Ae Z.1 H;exact U _ _ J,Z.2⟩
 ·rcases List.mem_append.1 d with d | d
  ·exact h.ints y d
  ·rw[List.mem_singleton.1 d];exact hi
def DocsA (P:List Dc) (w:World) (e:Ending) (w':World):Prop:=Ext w w'/\∃(l:List DocC) (A:Option Addr) (c:Nat),dcs l=P/\e = .returned (.slice A l.length c)/\DocsOwn w' w.heap.size A c l
theorem SegP.fields {P:List Dc} (h:SegP P) {d:Dc} (hd:d∈P):d.2.fs.length<=20:=by
 have h1:=h.sm.ok;unfold okDs at h1;rw[Bool.and_eq_true,Bool.and_eq_true,List.all_eq_true]at h1;have:=(AM (of_decide_eq_true (h1.2.2 d hd))).1;omega
theorem SS (g:Nat) (P:List Dc) (w:World) (h:SegR w g P) (hP:SegP P):Calls prog 28 #[.pointer (some ⟨g,0,none⟩)] w fun e w'=>DocsA P w e w':=by
 have hlen:=Fh g P w h hP.ne hP.few;have hf:=hP.few;obtain⟨ds,A,c,lo,hi,fi,la,B,cB,gd,gf,h1,h2,h3,h4,_⟩:=h;have x0:P.length=ds.length:=by rw[<-h2];exact List.length_map ..
 obtain⟨n,hn⟩:=Ab ds.length;rw[x0,<-hn]at hlen hf;rw[<-hn]at h1;have p0:∀x∈ds,x.e.fs.length<=20:=fun x hx=>hP.fields (d:=x.dc) (by rw[<-h2];exact List.mem_map.2 ⟨x,hx,rfl⟩);replace p0:=Aa p0;replace hlen:=Aa hlen;replace h1:=Aa h1;replace h4:=Aa h4;replace h2:=Aa h2;replace hn:=Aa hn;clear h3 x0
 go_in
 go_wp2_with fail;refine hlen.out.mono ?_;rintro e w1 ⟨rfl,rfl⟩;go_wp2_with fail
 go_loopw [3,7] (fun s3 s7 wr=>∃(i d:Nat) (B:Option Addr) (out:List DocC),s3 = .slice B i d/\s7 = .int .i64 (i:Int)/\i<=n/\Hid (out.length=i)/\Hid (dcs out=(dcs ds).take i)/\Hid (DocsOwn wr w1.heap.size B d out)/\Hid (Ext w1 wr)) (fun _ s7 _=>n - (intOf s7).toNat)
 case atStart=>exact⟨0,0,none,[],rfl,rfl,by omega,Aa rfl,Aa rfl,Aa (DocsOwn.nil _ _),Aa (Ext.refl _)⟩
 case round =>
  obtain⟨i,d,B,out,rfl,rfl,hi,O,d0,e0,hE⟩:=hrel;by_cases p1:i<n
  ·obtain⟨x,hx⟩:∃x,ds[i]? = some x:=⟨_,List.getElem?_eq_getElem (by rw[<-hn.out];exact p1)⟩
   have t0:=List.mem_of_getElem? hx;have r1:=h1.out.ext hE.out;have k0:=r1.cell 0 rfl;obtain⟨gA,oA,rfl,l0,l1,l2⟩:=AR (h4.out.cells.ext hE.out) hx;obtain⟨v0,G,I⟩:=h4.out.each x t0;have ho:=QZ x wr (v0.ext hE.out) (p0.out x t0);have H:dcs (out ++ [x])=(dcs ds).take (i+1):=by
    rw[BJ,d0.out];have:(dcs ds)[i]? = some x.dc:=by unfold dcs;rw[List.getElem?_map,hx];rfl
    rw[List.take_add_one,this];rfl
   rw[BJ]at H;obtain⟨sq,⟨at_,fs⟩,xA,xc⟩:=x;simp only at l0 l1 l2 ho G I;obtain⟨m,hm⟩:=Ab fs.length;rw[<-hm]at l2 ho;replace ho:=Aa ho;replace hm:=Aa hm;replace v0:=Aa v0;replace H:=Aa H;replace hx:=Aa hx;replace r1:=Aa r1;replace G:=Aa G;replace I:=Aa I;clear t0;go_wp2_with (fail);refine ho.out.mono ?_;rintro e w4 ⟨A4,c4,rfl,Y,U⟩;have J:=e0.out.ext U;have f0:w1.heap.size<=w4.heap.size:=(hE.out.trans U).size;have h0:w4.ownsRow w1.heap.size 71 3 (.slice B i d) i (dcells out):=by have:=J.own;rw[O.out]at this;exact this
   have q1:i+1<=4294967296:=by omega
   have y0:=hE.out.size;replace J:=Aa J;replace Y:=Aa Y;replace U:=Aa U;clear k0 l0 l1 l2;go_wp2_with (at_builtin;refine AS (us:= [.int .i64 sq,.int .i64 at_,.slice A4 m c4]) (m:=1) MQ h0 rfl (.tmp 10) (.tmp 20) rfl rfl rfl rfl rfl (Az rfl) q1 f0 (fun A8 c8 w8 j0 Z k1=>?_);replace j0:=Aa j0;replace Z:=Aa Z;clear k1);have b0:Ev.Own ⟨at_,fs⟩ w4 w1.heap.size A4 c4:=by
    have h:=Y.out;exact⟨AD h.1 y0,h.2⟩
   have g0:=DocsOwn.push (x:=⟨sq,⟨at_,fs⟩,A4,c4⟩) J.out b0 ⟨G.out,I.out⟩ (by rw[O.out];unfold DocC.cells;simp only;rw[<-hm.out];exact j0.out) (by rw[O.out];exact Z.out);have r0:Ext w1 w8:=(hE.out.trans U.out).grown Z.out fun k hk=>by obtain⟨_,_,hb⟩:=Ae h0 hk;exact hb
   refine⟨⟨i+1,c8,A8,_,rfl,by go_num,by omega,Aa (by rw[List.length_append,O.out];rfl),Aa (by rw[BJ];exact H.out),Aa g0,Aa r0⟩,by simp only[intOf];omega⟩
  ·obtain rfl:i=n:=by omega
   go_wp2_with fail;go_ret;refine⟨hE.out,out,B,d,?_,by rw[O.out];rfl,e0.out⟩;rw[d0.out,hn.out,<-h2.out];exact List.take_of_length_le (by unfold dcs;rw[List.length_map];exact Nat.le_refl _)
end
section
open Go.RowKit
theorem FI {P:List Dc} (h:SegP P) (H:∀p∈framesD P,p.length<=16777216) (J:∀d∈P,I64ok' d.2.at_):openD (segL P)=some P:=by
 have h1:(segL P).take 4 = [76,83,69,71]:=rfl;have h2:(segL P).drop 4=joinL (framesD P):=rfl;have Y:=J1 h.sm.ok J (by have:=h.sm.sz;omega);unfold openD;rw[if_pos h1,h2,CW _ H,if_pos ⟨rfl,rfl⟩];show (match decDs (encDs P)with | some Q=>if 0<Q.length/\segL Q=segL P then some Q else none | none=>none)=some P;rw[Y];show (if 0<P.length/\segL P=segL P then some P else none)=some P;rw[if_pos ⟨h.ne,rfl⟩]
theorem SB {b:List UInt8} {P:List Dc} (h:openD b=some P):0<P.length/\segL P=b/\okDs P=true:=by
 unfold openD at h;split at h
 ·split at h
  ·split at h
   ·rename_i Q H;split at h
    ·rename_i d;injection h with h;subst h;exact⟨d.1,d.2,(Iq H).1⟩
    ·cases h
   ·cases h
  ·cases h
 ·cases h
theorem NJ {b:List UInt8} (hb:b.length<=60000) (P:List Dc) (h:decDs ((splitF (b.drop 4)).1.headD [])=some P):(blockD 0 P).length<=70000:=by
 have h1:=Iq h;have h2:((splitF (b.drop 4)).1.headD []).length<=b.length:=by
  cases hs:(splitF (b.drop 4)).1 with
  | nil=>simp
  | cons p t =>
   have:=(Fl (l:=b.drop 4) (p:=p) (by rw[hs];exact List.mem_cons_self ..)).2;rw[List.length_drop]at this;simp only[List.headD_cons];omega
 rw[<-h1.2]at h2;unfold encDs at h2;simp only[List.length_append]at h2;omega
end
section
open Go.RowKit Go.Maps
theorem J8 (P:List Dc) (O:SegP P) (U:openD (segL P)=some P) (J:(segL P).length<=60000) (A:Option Addr) (c:Nat) (w:World) (h:Own8 w 0 A (segL P).length c (segL P)) :
 Calls prog 24 #[.slice A (segL P).length c] w fun e w'=>∃g,e = .returned (.tuple #[.pointer (some ⟨g,0,none⟩),.int .i64 0])/\SegR w' g P/\Ext w w':=by
 refine(KW A _ c (segL P) w h.2.in8 (by omega) (fun Q _ Y=>NJ J Q Y)).mono ?_;rintro e w' ⟨H,d⟩;rw[U]at d;obtain⟨g,rfl,hs⟩:=d;exact⟨g,rfl,hs,H⟩
end
section
open Go.RowKit Go.Maps
theorem SF {b:List UInt8} {P:List Dc} (h:openD b=some P) (hb:b.length<=60000):SegP P:=by
 obtain⟨h1,_,d⟩:=SB h;refine⟨⟨d,NJ hb P ?_⟩,h1⟩;unfold openD at h;split at h
 ·split at h
  ·split at h
   ·rename_i Q H;split at h
    ·injection h with h;rw[<-h];exact H
    ·cases h
   ·cases h
  ·cases h
 ·cases h
theorem DocsOk.take {ds:List DocC} (h:DocsOk w A ds) (k:Nat) (U:ds ≠ []->A'=A):DocsOk w A' (ds.take k):=by
 refine⟨?_,fun x Z=>h.each x (List.mem_of_mem_take Z)⟩;by_cases d:ds = []
 ·left;rw[d];simp[dcells]
 ·rw[U d];rcases h.cells with Y | ⟨g,o,O,Y⟩
  ·left;have J:ds.length=0:=by
    have:=congrArg List.length Y;rw[Er,List.length_nil]at this;omega
   exact absurd (List.length_eq_zero_iff.1 J) d
  ·refine .inr ⟨g,o,O,fun i v H=>Y i v ?_⟩;unfold dcells at H ⊢;rw[Bh (f:=DocC.cells) (k:=3) (fun _=>rfl),List.getElem?_take]at H;split at H
   ·exact H
   ·cases H
end
section
open Go.RowKit Go.Maps
theorem Uh (A B:Option Addr) (n c c2:Nat) (xs:List Int) (w:World) (hn:n=xs.length) (O:Cells w A (xs.map IV)) (Z:Cells w B (xs.map IV)) (G:n<=9223372036854775807) :
 Calls prog 16 #[.slice A n c,.slice B n c2] w fun e w'=>e = .returned (.bool true)/\Ext w w':=by
 replace hn:=Aa hn
 go_in
 go_wp2_with fail
 go_loopw [5] (fun s5 wr=>∃i:Nat,s5 = .int .i64 i/\i<=n/\Ext w wr) (fun s5 _=>n - (intOf s5).toNat)
 case atStart=>exact⟨0,rfl,by omega,Ext.refl _⟩
 case round =>
  obtain⟨i,rfl,hi,H⟩:=hrel;by_cases Y:i<n
  ·have U:i<xs.length:=by rw[<-hn.out];exact Y
   obtain⟨g,o,rfl,J⟩:=O.at_ (by rw[List.length_map];omega);obtain⟨g2,o2,rfl,d⟩:=Z.at_ (by rw[List.length_map];omega);obtain⟨x,h⟩:=Ab (xs[i]);have k1:wr.cell? ⟨g,o+i,none⟩=some (.int .i64 x):=H.cell (J i _ (by rw[List.getElem?_map,List.getElem?_eq_getElem U,h];rfl));have k2:wr.cell? ⟨g2,o2+i,none⟩=some (.int .i64 x):=H.cell (d i _ (by rw[List.getElem?_map,List.getElem?_eq_getElem U,h];rfl));clear J d;replace h:=Aa h;go_wp2_with fail;refine AE (fun K I=>?_);go_wp2_with fail;refine⟨by kernel_rfl,?_⟩;go_wp2_with fail;go_roundw
   case rel=>exact⟨i+1,by go_num,by omega,H.drew⟩
   case measure=>simp[intOf];omega
  ·go_wp2_with fail;go_ret;exact⟨rfl,H⟩
def opensD (bs:List (List UInt8)):Option (List (List Dc)):=if bs.all (fun b=>(openD b).isSome)=true then some (bs.filterMap openD) else none
def fstD:List Dc->Int
 | []=>0
 | d::_=>d.1
def chainD:Int->List (List Dc)->Bool
 | _,[]=>true
 | la,P::t=>decide (la<fstD P)&&chainD (lastD 0 P) t
def mergeD (bs:List (List UInt8)):Option (List (List Dc)):=match opensD bs with
 | some Ps=>if 0<Ps.length/\chainD 0 Ps=true then some Ps else none
 | none=>none
theorem Tf {b:List UInt8} (h:bs[i]? = some b) (H:openD b=none):opensD bs=none:=by
 unfold opensD;rw[if_neg];intro d;have:=List.all_eq_true.1 d b (List.mem_of_getElem? h);rw[H]at this;cases this
theorem T3 {b:List UInt8} {P:List Dc} (h:bs[i]? = some b) (d:openD b=some P):(bs.take (i+1)).filterMap openD=(bs.take i).filterMap openD ++ [P]:=by
 rw[List.take_add_one,h,List.filterMap_append];congr 1;show List.filterMap openD [b]=_;rw[List.filterMap_cons,d];rfl
theorem Td {Ps:List (List Dc)} {P:List Dc} (h:Ps[i]? = some P) (la:Int):chainD la (Ps.drop i)=(decide (la<fstD P)&&chainD (lastD 0 P) (Ps.drop (i+1))):=by
 obtain⟨hi,rfl⟩:=List.getElem?_eq_some_iff.1 h;rw[List.drop_eq_getElem_cons hi];rfl
theorem Tr {P:List Dc} (h:0<P.length):∃lo hi n,partD P = [lo,hi,fstD P,lastD 0 P,n]:=by
 cases P with
 | nil=>cases h
 | cons d t=>exact⟨_,_,_,rfl⟩
end
section
open Go.RowKit Go.Maps
structure BsC where
  b:List UInt8
  A:Option Addr
  c:Nat
def BsC.val (x:BsC):Value:= .slice x.A x.b.length x.c
def In8e (w:World) (A:Option Addr) (n c:Nat) (b:List UInt8):Prop:=In8 w A n c b\/(b = []/\n=0/\c=0)
theorem In8e.ext {b:List UInt8} (h:In8e w A n c b) (d:Ext w w'):In8e w' A n c b:=h.imp (·.ext d) id
structure BssR (w:World) (A:Option Addr) (l:List BsC):Prop where
  cells:Cells w A (l.map BsC.val)
  each:∀x∈l,In8e w x.A x.b.length x.c x.b/\x.b.length<=60000
theorem BssR.ext {l:List BsC} (h:BssR w A l) (d:Ext w w'):BssR w' A l:=⟨h.cells.ext d,fun x H=>⟨(h.each x H).1.ext d,(h.each x H).2⟩⟩
theorem SegRB.ext {P:List Dc} (h:SegRB base w g P) (d:Ext w w1):SegRB base w1 g P:=by
 obtain⟨ds,A,c,lo,hi,fi,la,B,cB,gd,gf,h1,h2,H,Y,J,U,O⟩:=h;exact⟨ds,A,c,lo,hi,fi,la,B,cB,gd,gf,h1.ext d,h2,H,Y.ext d,J.ext d,U.ext d,O.ext d⟩
theorem SegRB.low {P:List Dc} (h:SegRB base w g P):SegRB 0 w g P:=by
 obtain⟨ds,A,c,lo,hi,fi,la,B,cB,gd,gf,h1,h2,d,H,Y,J,U⟩:=h;exact⟨ds,A,c,lo,hi,fi,la,B,cB,gd,gf,h1,h2,d,H.lower (Nat.zero_le _),Y.lower (Nat.zero_le _),J.lower (Nat.zero_le _),U.lower (Nat.zero_le _)⟩
theorem SegRB.unl {P:List Dc} (h:SegRB base w g P) (H:Chg S w w1) (J:∀k,S k->∃cs,Row w k 56 cs):SegRB base w1 g P:=by
 obtain⟨ds,A,c,lo,hi,fi,la,B,cB,gd,gf,h1,h2,O,Z,G,U,b,cf,cc,f1,f2,f3,f4⟩:=h;have d:∀ {k t cs},Row w k t cs->t≠56->¬ S k:=fun hk ht e=>by
  obtain⟨_,Y⟩:=J _ e;exact Row.unlike hk Y ht rfl
 refine⟨ds,A,c,lo,hi,fi,la,B,cB,gd,gf,H.row h1 (d h1 (by decide)),h2,O,Z.chg H (fun k t cs hk ht _=>d hk (by rcases ht with rfl | rfl <;> decide)),G.chg H (fun k e=>?_),U.chg H (fun a I e=>?_),b,cf,cc,H.row f1 (d f1 (by decide)),f2,H.row f3 (d f3 (by decide)),f4⟩
 ·obtain⟨cs,Y⟩:=J k e;exact⟨_,cs,Y,by decide,by decide⟩
 ·obtain⟨cs,Y⟩:=J _ e;exact U.unlike Y (by decide) a I rfl
abbrev Sg:=Nat×List Dc
def Sg.val (x:Sg):Value:= .pointer (some ⟨x.1,0,none⟩)
def SgsR (w:World) (A:Option Addr) (l:List Sg):Prop:=Cells w A (l.map Sg.val)/\∀x∈l,SegR w x.1 x.2/\SegP x.2
theorem SgsR.ext {l:List Sg} (h:SgsR w A l) (d:Ext w w'):SgsR w' A l:=⟨h.1.ext d,fun x H=>⟨(h.2 x H).1.ext d,(h.2 x H).2⟩⟩
theorem TD (W:World):(Instr.sliceAt 24 (.slice A 0 0) none (some (.int .i64 0)) none).run prog W = .ok (.slice A 0 0) W:=by
 have ht:=underlying24;have h:prog.elem 24=5:=by unfold Program.elem;rw[ht]
 have hs:∀W:World,(sizeOf 5).run prog W = .ok 1 W:=fun W=>by kernel_rfl
 rw[run_sliceAt_slice W _ _ _ _ _ (by rw[ht,h]),run_slice_h W _ A 0 0 (by rw[ht,h]) .i64 0 (by omega) (by omega),h,hs];rfl
theorem TC (A:Option Addr) (w:World):Calls prog 24 #[.slice A 0 0] w fun e w'=>SegOB w [] e w':=by
 have d:=fun(W:World)=>AQ (P:=prog) #[3,3] 3 (x:=0) (y:=4) (m:=0) rfl W;have Y:=fun W=>TD (A:=A) W;have H:=fun(W:World)=>CT (A:=A) (l:= []) (w:=W) (.inl rfl) 0 0 rfl;have h:=Tryz.strings_HasPrefix ⟨#[]⟩ ⟨#[76,83,69,71]⟩ w;replace h:=Aa h
 go_in
 go_wp2_with fail;refine h.out.mono ?_;rintro e w1 ⟨rfl,rfl⟩;go_wp2_with fail;go_ret2;exact SegOB.no (Ext.refl _) rfl
theorem TE (A:Option Addr) (n c:Nat) (b:List UInt8) (w:World) (h:In8e w A n c b) (d:b.length<=60000):Calls prog 24 #[.slice A n c] w fun e w'=>SegOB w b e w':=by
 rcases h with h | ⟨rfl,rfl,rfl⟩
 ·exact Ff A n c b w h (by have:=h.len;omega) fun Q _ H=>NJ d Q H
 ·exact TC A w
def EachA (w:World) (r:Option (List (List Dc))) (e:Ending) (w':World):Prop:=Ext w w'/\match r with
 | some Ps=>∃(l:List Sg) (A:Option Addr) (n c:Nat),l.map (·.2)=Ps/\n=l.length/\e = .returned (.tuple #[.slice A n c,.bool (decide (0<n))])/\SgsR w' A l
 | none=>e = .returned (.tuple #[.slice none 0 0,.bool false])
theorem EachA.no {r:Option (List (List Dc))} (d:Ext w w') (h:r=none):EachA w r (.returned (.tuple #[.slice none 0 0,.bool false])) w':=by subst h;exact⟨d,rfl⟩
theorem Tw:Elem prog 62 56 1 8:=⟨underlying62,⟨_,_,rfl,rfl,rfl,rfl,rfl⟩,by omega,by omega⟩
theorem Tk (bs:List BsC) (A:Option Addr) (n c:Nat) (w:World) (hn:n=bs.length) (h:BssR w A bs) (j1:n<=1000000) :
 Calls prog 69 #[.slice A n c,.func (.func 24) #[] #[]] w (EachA w (opensD (bs.map BsC.b))):=by
 obtain⟨Z,hZ⟩:=Ab (opensD (bs.map BsC.b));rw[<-hZ];replace hZ:=Aa hZ;have l0:=Aa TE;replace hn:=Aa hn;replace h:=Aa h
 go_in
 go_wp2_with fail
 go_loopw [6,13] (fun s6 s13 wr=>∃(i d:Nat) (B:Option Addr) (l:List Sg),s6 = .slice B i d/\s13 = .int .i64 (i:Int)/\i<=n/\Hid (l.length=i)/\Hid (((bs.map BsC.b).take i).all (fun b=>(openD b).isSome)=true/\l.map (·.2)=((bs.map BsC.b).take i).filterMap openD)/\Hid (wr.ownsRow w.heap.size 56 1 (.slice B i d) i (l.map Sg.val))/\Hid (∀x∈l,SegRB 0 wr x.1 x.2/\SegP x.2)/\Hid (Ext w wr)) (fun _ s13 _=>n - (intOf s13).toNat)
 case atStart=>exact⟨0,0,none,[],rfl,rfl,by omega,Aa rfl,Aa ⟨rfl,rfl⟩,Aa ⟨rfl,.inl ⟨rfl,rfl⟩⟩,Aa nofun,Aa (Ext.refl _)⟩
 case round =>
  obtain⟨i,d,B,l,rfl,rfl,hi,hl,O,ho,hs,hE⟩:=hrel;by_cases f0:i<n
  ·obtain⟨x,Y⟩:∃x,bs[i]? = some x:=⟨_,List.getElem?_eq_getElem (by rw[<-hn.out];exact f0)⟩
   obtain⟨b0,h0⟩:=h.out.each x (List.mem_of_getElem? Y);obtain⟨g,o,rfl,hc⟩:=(h.out.cells.ext hE.out).at_ (by rw[List.length_map,<-hn.out];omega);have k0:=hc i x.val (by rw[List.getElem?_map,Y];rfl);have U:(bs.map BsC.b)[i]? = some x.b:=by rw[List.getElem?_map,Y];rfl
   have J:=l0.out x.A x.b.length x.c x.b wr (b0.ext hE.out) h0;unfold BsC.val at k0;obtain⟨xb,xA,xc⟩:=x;simp only at k0 J U h0;obtain⟨xn,q0⟩:=Ab xb.length;rw[<-q0]at k0 J h0;replace J:=Aa J;replace U:=Aa U;replace q0:=Aa q0;clear hc Y b0;cases G:openD xb with
   | none =>
    have hz:=Aa (Tf U.out G);replace G:=Aa G;go_wp2_with fail;refine(J.out).mono ?_;rintro e w4 ⟨H,hr⟩;rw[G.out]at hr;simp only at hr;subst hr;go_wp2_with fail;go_ret2;exact EachA.no (hE.out.trans H) (by rw[hZ.out,hz.out])
   | some P =>
    have hP:=Aa (SF G (by rw[<-q0.out];exact h0));have g0:=T3 U.out G;have j0:((bs.map BsC.b).take (i+1)).all (fun b=>(openD b).isSome)=true:=by rw[List.take_add_one,U.out,List.all_append,O.out.1];show (openD xb).isSome&&true=true;rw[G];rfl
    replace G:=Aa G;replace g0:=Aa g0;replace j0:=Aa j0;go_wp2_with fail;refine(J.out).mono ?_;rintro e w4 ⟨H,hr⟩;rw[G.out]at hr;obtain⟨g4,rfl,v0⟩:=hr;have m0:=Aa (H.owns ho.out);have o0:w.heap.size<=w4.heap.size:=(hE.out.trans H).size;replace v0:=Aa v0;replace H:=Aa H;go_wp2_with (at_builtin;refine AS (us:= [.pointer (some ⟨g4,0,none⟩)]) (m:=1) Tw m0.out rfl (.tmp 25) (.tmp 27) rfl rfl rfl rfl rfl (Az rfl) (by omega) o0 (fun A8 c8 w8 t0 I i0=>?_);replace t0:=Aa t0;replace I:=Aa I;clear i0);have c0:Ext w w8:=(hE.out.trans H.out).grown I.out fun k hk=>by obtain⟨_,_,hb⟩:=Ae m0.out hk;exact hb
    have n0:∀x∈l ++ [(g4,P)],SegRB 0 w8 x.1 x.2/\SegP x.2:=fun x Y=>by
     have hk:∀k,(Value.slice B i d).ownBlock=some k->∃cs,Row w4 k 56 cs:=fun k hk=>by obtain⟨cs,hr,_⟩:=Ae m0.out hk;exact⟨cs,hr⟩
     have hC:Chg (fun k=>(Value.slice B i d).ownBlock=some k) w4 w8:=Chg.of_grown I.out fun _ _ h=>h;rcases List.mem_append.1 Y with Y | Y
     ·exact⟨((hs.out x Y).1.ext H.out).unl hC hk,(hs.out x Y).2⟩
     ·rw[List.mem_singleton.1 Y];exact⟨v0.out.low.unl hC hk,hP.out⟩
    go_roundw
    case rel=>exact⟨i+1,c8,A8,l ++ [(g4,P)],rfl,by go_num,by omega,Aa (by rw[List.length_append,hl.out];rfl),Aa ⟨j0.out,by rw[List.map_append,O.out.2,g0.out];rfl⟩,Aa (by rw[List.map_append];exact t0.out),Aa n0,Aa c0⟩
    case measure=>simp only[intOf];omega
  ·have e0:(bs.map BsC.b).take i=bs.map BsC.b:=List.take_of_length_le (by rw[List.length_map,<-hn.out];omega);have ha:=O.out;rw[e0]at ha;go_wp2_with fail;go_ret2;refine⟨hE.out,?_⟩;rw[hZ.out];unfold opensD;rw[if_pos ha.1];exact⟨l,B,i,d,ha.2,hl.out.symm,by congr 3,Cells.of_own ho.out,fun x Y=>⟨(hs.out x Y).1.seg,(hs.out x Y).2⟩⟩
def OpA (w:World) (r:Option (List (List Dc))) (e:Ending) (w':World):Prop:=Ext w w'/\match r with
 | some Ps=>∃(l:List Sg) (A:Option Addr) (n c:Nat),l.map (·.2)=Ps/\n=l.length/\e = .returned (.tuple #[.slice A n c,.int .i64 0])/\SgsR w' A l
 | none=>e = .returned (.tuple #[.slice none 0 0,.int .i64 330])
theorem OpA.no {r:Option (List (List Dc))} (d:Ext w w') (h:r=none):OpA w r (.returned (.tuple #[.slice none 0 0,.int .i64 330])) w':=by subst h;exact⟨d,rfl⟩
theorem TJ {Ps:List (List Dc)} (h:opensD bs=some Ps):Ps.length<=bs.length:=by
 unfold opensD at h;split at h
 ·injection h with h;rw[<-h];exact List.length_filterMap_le ..
 ·cases h
theorem S7 (bs:List BsC) (A:Option Addr) (n c:Nat) (w:World) (hn:n=bs.length) (h:BssR w A bs) (i0:n<=1000000) :
 Calls prog 27 #[.slice A n c] w (OpA w (mergeD (bs.map BsC.b))):=by
 obtain⟨Z,I⟩:=Ab (mergeD (bs.map BsC.b));rw[<-I];unfold mergeD at I;have j0:=Aa (Tk bs A n c w hn h i0);have hlen:∀Ps,opensD (bs.map BsC.b)=some Ps->Ps.length<=1000000:=fun Ps hp=>by
  have:=TJ hp;rw[List.length_map,<-hn]at this;omega
 obtain⟨O,hO⟩:=Ab (opensD (bs.map BsC.b));rw[<-hO]at j0 I hlen;replace hlen:=Aa hlen;replace I:=Aa I;clear h hn hO
 go_in
 go_wp2_with fail;refine j0.out.mono ?_;rintro e w1 ⟨J,hr⟩;clear j0;cases O with
 | none =>
  simp only at hr;subst hr;go_wp2_with fail;go_ret2;exact OpA.no J I.out
 | some Ps =>
  obtain⟨l,B,k,d,hl,hk,rfl,hs⟩:=hr;have U:Ps.length=k:=by rw[<-hl,hk,List.length_map]
  have r0:k<=1000000:=by rw[<-U];exact hlen.out _ rfl
  by_cases h0:0<k
  ·have hd:decide (0<k)=true:=decide_eq_true h0;have hz:Z=if chainD 0 (Ps.drop 0)=true then some Ps else none:=by
    rw[I.out];simp only[U,h0,true_and,List.drop_zero]
   rw[hd];replace hz:=Aa hz;replace hs:=Aa hs;replace hl:=Aa hl;replace hk:=Aa hk;replace U:=Aa U;replace J:=Aa J;clear hd I hlen;go_wp2_with fail
   go_loopw [6,19] (fun s6 s19 wr=>∃(i:Nat) (la:Int),s6 = .int .i64 la/\s19 = .int .i64 (i:Int)/\i<=k/\Hid (Z=if chainD la (Ps.drop i)=true then some Ps else none)/\Hid (Ext w1 wr)) (fun _ s19 _=>k - (intOf s19).toNat)
   case atStart=>exact⟨0,0,rfl,rfl,by omega,hz,Aa (Ext.refl _)⟩
   case round =>
    clear hz;obtain⟨i,la,rfl,rfl,hi,hz,hE⟩:=hrel;by_cases f0:i<k
    ·obtain⟨x,hx⟩:∃x,l[i]? = some x:=⟨_,List.getElem?_eq_getElem (by rw[<-hk.out];exact f0)⟩
     obtain⟨c0,t0⟩:=(hs.out.ext hE.out).2 x (List.mem_of_getElem? hx);obtain⟨g,o,rfl,hc⟩:=(hs.out.ext hE.out).1.at_ (by rw[List.length_map,<-hk.out];omega);have k0:=hc i x.val (by rw[List.getElem?_map,hx];rfl);have b0:Ps[i]? = some x.2:=by rw[<-hl.out,List.getElem?_map,hx];rfl
     have G:=Td b0 la;obtain⟨lo,hh,nn,y0⟩:=Tr t0.ne;have Y:=I8 x.1 x.2 wr c0 t0;rw[y0]at Y;unfold prtA at Y;unfold Sg.val at k0;obtain⟨fi,g0⟩:=Ab (fstD x.2);obtain⟨lx,m0⟩:=Ab (lastD 0 x.2);rw[<-g0,<-m0]at Y;rw[<-g0,<-m0]at G;replace Y:=Aa Y;clear hc hx c0 t0 b0 y0 g0 m0;by_cases h1:fi<=la
     ·have H:=hz.out;rw[G,decide_eq_false (show ¬ la<fi by omega),Bool.false_and,if_neg (by simp)]at H;replace H:=Aa H;clear G;go_wp2_with fail;refine Y.out.mono ?_;rintro e w4 ⟨rfl,p0⟩;go_wp2_with fail;go_ret2;exact OpA.no (((J.out.trans hE.out).trans p0).alloc _) H.out
     ·have H:=hz.out;rw[G,decide_eq_true (show la<fi by omega),Bool.true_and]at H;replace H:=Aa H;clear G;go_wp2_with fail;refine Y.out.mono ?_;rintro e w4 ⟨rfl,p0⟩;go_wp2_with fail;go_roundw
      case rel=>exact⟨i+1,lx,rfl,by go_num,by omega,H,Aa ((hE.out.trans p0).alloc _)⟩
      case measure=>simp only[intOf];omega
    ·have H:=hz.out;rw[List.drop_of_length_le (by rw[U.out];omega)]at H;replace H:=Aa H;go_wp2_with fail;go_ret2;refine⟨J.out.trans hE.out,?_⟩;rw[H.out];exact⟨l,B,k,d,hl.out,hk.out,rfl,hs.out.ext hE.out⟩
  ·have hd:decide (0<k)=false:=decide_eq_false h0;rw[hd];have H:Z=none:=by rw[I.out];simp only[U,h0,false_and,if_false]
   replace H:=Aa H;clear I hd;go_wp2_with fail;go_ret2;exact OpA.no J H.out
end
section
open Go.RowKit Go.Maps
def keepD (fl:Int) (x:DocC):Bool:= !decide (x.e.at_<fl)
theorem SZ (x:DocC) (fb:Nat) (fl:Int) (w:World) (h:Row w fb 3 #[.int .i64 fl]) :
 Calls prog 30 #[.agg #[.int .i64 x.seq,.int .i64 x.e.at_,.slice x.A x.e.fs.length x.c],.pointer (some ⟨fb,0,none⟩)] w fun e w'=>e = .returned (.bool (decide (x.e.at_<fl)))/\Ext w w':=by
 have k0:=(h.ext ((Ext.refl w).alloc (Obj.cells #[.int .i64 x.seq,.int .i64 x.e.at_,.slice x.A x.e.fs.length x.c] 71))).cell 0 rfl;obtain⟨sq,⟨at_,fs⟩,A,c⟩:=x;simp only at k0 ⊢;obtain⟨m,d⟩:=Ab fs.length;rw[<-d]at k0 ⊢;clear d h
 go_in
 go_wp2_with fail;go_ret;exact⟨rfl,(Ext.refl w).alloc _⟩
def IdxA (w:World) (fl:Int) (l:List DocC) (e:Ending) (w':World):Prop:=Ext w w'/\((e = .returned (.int .i64 (-1))/\l.all (keepD fl)=true)\/∃i:Nat,e = .returned (.int .i64 (i:Int))/\i<l.length/\(l.take i).all (keepD fl)=true/\∃x,l[i]? = some x/\keepD fl x=false)
theorem Tp (l:List DocC) (A:Option Addr) (n c fb:Nat) (fl:Int) (w:World) (hn:n=l.length) (h:Cells w A (dcells l)) (hb:Row w fb 3 #[.int .i64 fl]) (q0:n<=1000000) :
 Calls prog 72 #[.slice A n c,.func (.func 30) #[] #[.pointer (some ⟨fb,0,none⟩)]] w (IdxA w fl l):=by
 have hd:=Aa SZ;replace hn:=Aa hn;replace h:=Aa h;replace hb:=Aa hb
 go_in
 go_wp2_with fail
 go_loopw [8] (fun s8 wr=>∃i:Nat,s8 = .int .i64 (i:Int)/\i<=n/\Hid ((l.take i).all (keepD fl)=true)/\Hid (Ext w wr)) (fun s8 _=>n - (intOf s8).toNat)
 case atStart=>exact⟨0,rfl,by omega,Aa rfl,Aa (Ext.refl _)⟩
 case round =>
  obtain⟨i,rfl,hi,d,O⟩:=hrel;by_cases G:i<n
  ·obtain⟨x,hx⟩:∃x,l[i]? = some x:=⟨_,List.getElem?_eq_getElem (by rw[<-hn.out];exact G)⟩
   obtain⟨g,o,rfl,k0,k1,k2⟩:=AR (h.out.ext O.out) hx;have H:=hd.out x fb fl wr (hb.out.ext O.out);obtain⟨v,I⟩:=Ab (decide (x.e.at_<fl));rw[<-I]at H;have U:(l.take (i+1)).all (keepD fl) = !v:=by
    rw[List.take_add_one,hx,List.all_append,d.out,I];show (keepD fl x&&true)=_;rw[Bool.and_true];rfl
   replace U:=Aa U;have J:keepD fl x = !v:=by rw[I];rfl
   replace J:=Aa J;replace I:=Aa I;replace hx:=Aa hx;replace H:=Aa H;cases v with
   | true =>
    go_wp2_with fail;refine H.out.mono ?_;rintro e w4 ⟨rfl,Y⟩;go_wp2_with fail;go_ret;exact⟨O.out.trans Y,.inr ⟨i,rfl,by rw[<-hn.out];exact G,d.out,x,hx.out,J.out⟩⟩
   | false =>
    go_wp2_with fail;refine H.out.mono ?_;rintro e w4 ⟨rfl,Y⟩;go_wp2_with fail;go_roundw
    case rel=>exact⟨i+1,by go_num,by omega,U,Aa (O.out.trans Y)⟩
    case measure=>simp only[intOf];omega
  ·have Z:=d.out;rw[List.take_of_length_le (by rw[<-hn.out];omega)]at Z;go_wp2_with fail;go_ret;exact⟨O.out,.inl ⟨rfl,Z⟩⟩
theorem TM:∀(D:List DocC) (i:Nat) (x:DocC),i<D.length->(((dcells D).set (i*3) (.int .i64 x.seq)).set (i*3+1) (.int .i64 x.e.at_)).set (i*3+2) (.slice x.A x.e.fs.length x.c)=dcells (D.set i x)
 | y::D,0,x,_=>rfl
 | y::D,i+1,x,h=>by
  have ih:=TM D i x (by simpa using h);have e1:(i+1)*3=i*3+1+1+1:=by omega
  rw[e1,List.set_cons_succ];show _=y.cells++dcells (D.set i x);rw[<-ih];rfl
theorem TY {base g n c size:Nat}:∀(vs:List Value) (o:Nat) (w:World),w.ownsRow base e size (.slice (some ⟨g,0,none⟩) n c) n xs->n*size<=o->(w.setCells g o vs).ownsRow base e size (.slice (some ⟨g,0,none⟩) n c) n xs
 | [],o,w,h,_=>h
 | v::vs,o,w,h,d=>by
  have h2:=M7 h o v;rw[List.set_eq_of_length_le (by rw[h.1];exact d)]at h2;exact TY vs (o+1) _ h2 (by omega)
theorem TT:∀(vs:List Value) (o:Nat) (w:World),Chg (fun k=>k=g) w (w.setCells g o vs)
 | [],_,w=>Chg.refl _ w
 | v::vs,o,w=>(Chg.of_set (S:=fun k=>k=g) w (a:=⟨g,o,none⟩) v rfl).trans (TT vs (o+1) _) fun _ _ h=>h
theorem Tq {base n c i size:Nat} (h:w.ownsRow base e size (.slice A n c) n xs) (hi:i<=n) (H:A≠none):w.ownsRow base e size (.slice A i c) i (xs.take (i*size)):=by
 obtain⟨U,Z⟩:=h;have O:i*size<=n*size:=Nat.mul_le_mul_right _ hi;refine⟨by rw[List.length_take,U];omega,?_⟩;rcases Z with ⟨d,_⟩ | ⟨g,cap,cur,d,hb,J,hn,Y,hs,ht⟩
 ·cases d;exact absurd rfl H
 ·cases d;exact .inr ⟨g,_,cur,rfl,hb,J,by omega,Y,hs,by rw[<-ht,List.take_take,Nat.min_eq_left O]⟩
theorem S3 (w:World) (b o n c:Nat) (hn:0<n) (U:∀j,j<n*3->(w.cell? ⟨b,o+j,none⟩).isSome=true) (O:∀j,j<n*3->w.frozen? ⟨b,o+j,none⟩=false) :
 ∃vs,∀ty,(Builtin.clear_ #[30] ty #[.slice (some ⟨b,o,none⟩) n c]).run prog w = .ok (.tuple #[]) (w.setCells b o vs):=by
 have ht:=underlying30;have Z:∀W:World,(zeroValue 71).run prog W = .ok (.agg #[.int .i64 0,.int .i64 0,.slice none 0 0]) W:=fun W=>by kernel_rfl
 obtain⟨vs,d⟩:=Ab ((Builtin.zeroCells (Value.agg #[.int .i64 0,.int .i64 0,.slice none 0 0]).cells n).toList);have hlen:vs.length=n*3:=by rw[d];simp[Builtin.zeroCells,Value.cells]
 have H:∀v∈vs,v.oneCell'=true:=fun v J=>by
  rw[d]at J;unfold Builtin.zeroCells at J;rw[Array.toList_map]at J;obtain⟨i,_,rfl⟩:=List.mem_map.1 J;show Value.oneCell' ((#[.int .i64 0,.int .i64 0,.slice none 0 0]:Array Value)[i%3]!)=true;have:=Nat.mod_lt i (show 0<3 by omega);obtain h | h | h:i%3=0\/i%3=1\/i%3=2:=by omega
  all_goals rw[h];rfl
 have Y:=run_storeCells_cells (P:=prog) b o vs 0 w (by rw[hlen];simpa using U) (by rw[hlen];simpa using O) H;simp only[Nat.add_zero]at Y;obtain⟨m,rfl⟩:∃m,n=m+1:=⟨n - 1,by omega⟩
 refine⟨vs,fun ty=>?_⟩;simp[Builtin.clear_,run_underlying ht,Z,<-d,Y]
theorem Tg (h:k<n) (hn:n<=c) (W:World) :
 (Instr.sliceAt 30 (.slice (some ⟨g,0,none⟩) n c) (some (.int .i64 (k:Int))) none none).run prog W = .ok (.slice (some ⟨g,k*3,none⟩) (n - k) (c - k)) W:=by
 have ht:=underlying30;have d:prog.elem 30=71:=by unfold Program.elem;rw[ht]
 have hs:∀W:World,(sizeOf 71).run prog W = .ok 3 W:=fun W=>by kernel_rfl
 have H:((k:Int)).toNat=k:=by omega
 rw[run_sliceAt_slice W _ _ _ _ _ (by rw[ht,d]),run_slice_l W _ _ n c (by rw[ht,d]) .i64 k (by omega) (by omega),d,hs];simp only[Result.andThen_ok];unfold sliced;rw[if_neg (by omega),H];simp[Addr.add_lit]
def DelA (base:Nat) (fl:Int) (l:List DocC) (w:World) (e:Ending) (w':World):Prop:=∃(A:Option Addr) (n c:Nat),e = .returned (.slice A n c)/\n=(l.filter (keepD fl)).length/\DocsOwn w' base A c (l.filter (keepD fl))/\Chg (fun k=>base<=k) w w'
theorem Ay {l:List DocC} {x:DocC} (h:l[j]? = some x) (p:DocC->Bool):(l.take (j+1)).filter p=(l.take j).filter p++if p x=true then [x] else []:=by
 rw[List.take_add_one,h,List.filter_append];congr 1;show List.filter p [x]=_;rw[List.filter_cons];rfl
theorem Ti (l:List DocC) (A:Option Addr) (n c fb base:Nat) (fl:Int) (w:World) (hn:n=l.length) (h:DocsOwn w base A c l) (hb:Row w fb 3 #[.int .i64 fl]) (f3:base<=w.heap.size) (x3:n<=1000000) :
 Calls prog 29 #[.slice A n c,.func (.func 30) #[] #[.pointer (some ⟨fb,0,none⟩)]] w (DelA base fl l w):=by
 have j3:=Aa (Tp l A n c fb fl w hn h.ok.cells hb x3);have hd:=Aa SZ;have n0:=h.cap;rw[<-hn]at n0;have Y:=h.own;rw[<-hn]at Y;replace hn:=Aa hn;replace hb:=Aa hb
 go_in
 go_wp2_with fail;refine j3.out.mono ?_;rintro e w1 ⟨U,hr⟩;rcases hr with ⟨rfl,O⟩ | ⟨i0,rfl,a2,O,x0,o2,v0⟩
 ·have G:l.filter (keepD fl)=l:=List.filter_eq_self.2 (List.all_eq_true.1 O);replace G:=Aa G;replace h:=Aa h;clear O Y;go_wp2_with fail;go_ret;exact⟨A,n,c,rfl,by rw[G.out];exact hn.out,by rw[G.out];exact h.out.ext U,Chg.of_ext U _⟩
 ·have e3:i0<n:=by rw[hn.out];exact a2
  obtain⟨g,rfl⟩:∃g,A=some ⟨g,0,none⟩:=by
   rcases Y.2 with ⟨_,h0⟩ | ⟨g,_,_,hv,_⟩
   ·omega
   ·cases hv;exact⟨g,rfl⟩
  obtain⟨_,_,m2⟩:=Ae Y rfl;have e1:l.take i0=(l.take (i0+1)).filter (keepD fl):=by
   rw[Ay o2,if_neg (by rw[v0];simp),List.append_nil];exact(List.filter_eq_self.2 (List.all_eq_true.1 O)).symm
  have y3:=Aa (U.owns Y);have p3:=Aa fun x J=>((h.ext U).each x J)
  have f1:=Aa h.ints;have q3:=Aa (Chg.of_ext U fun k=>base<=k);have h4:((i0:Int) == -1)=false:=beq_eq_false_iff_ne.2 (by omega);replace U:=Aa U;replace e1:=Aa e1;clear o2 v0 O h Y a2;go_wp2_with fail
  go_loopw [5,6] (fun s5 s6 wr=>∃(i j:Nat) (D:List DocC),s5 = .int .i64 (i:Int)/\s6 = .int .i64 (j:Int)/\i<j/\j<=n/\Hid (D.length=n/\D.take i=(l.take j).filter (keepD fl)/\∀k,j<=k->D[k]? = l[k]?)/\Hid (wr.ownsRow base 71 3 (.slice (some ⟨g,0,none⟩) n c) n (dcells D))/\Hid (∀x∈l,x.e.Own wr base x.A x.c)/\Hid (Row wr fb 3 #[.int .i64 fl])/\Hid (Chg (fun k=>base<=k) w wr)) (fun _ s6 _=>n - (intOf s6).toNat)
  case atStart=>exact⟨i0,i0+1,l,rfl,by go_num,by omega,by omega,Aa ⟨hn.out.symm,e1.out,fun _ _=>rfl⟩,y3,p3,Aa (hb.out.ext U.out),q3⟩
  case round =>
   obtain⟨i,j,D,rfl,rfl,o3,w3,hD,ho,hs,f0,hC⟩:=hrel;obtain⟨j1,m1,p1⟩:=hD.out;have f2:=Ae ho.out rfl;obtain⟨cur,H,_⟩:=f2;by_cases hj:j<n
   ·obtain⟨x,J⟩:∃x,l[j]? = some x:=⟨_,List.getElem?_eq_getElem (by rw[<-hn.out];exact hj)⟩
    obtain⟨y,hy⟩:∃y,D[i]? = some y:=⟨_,List.getElem?_eq_getElem (by omega)⟩
    obtain⟨g',o',o0,k0,k1,k2⟩:=AR (Cells.of_own ho.out) ((p1 j (Nat.le_refl _)).trans J);cases o0;rw[Nat.zero_add]at k0 k1 k2;have m0:=Ay J (keepD fl);have Z:=hd.out x fb fl (wr.alloc (Obj.cells #[.int .i64 x.seq,.int .i64 x.e.at_,.slice x.A x.e.fs.length x.c] 71)) (f0.out.ext ((Ext.refl wr).alloc _));obtain⟨v,hv⟩:=Ab (decide (x.e.at_<fl));have v0:keepD fl x = !v:=by rw[hv];rfl
    rw[<-hv]at Z;rw[v0]at m0;have I:=TM D i x (by omega);obtain⟨sq,⟨at_,fs⟩,xA,xc⟩:=x;simp only at k0 k1 k2 Z I;obtain⟨m,hm⟩:=Ab fs.length;rw[<-hm]at k2 Z I;obtain⟨W,hW⟩:=Ab (wr.alloc (Obj.cells #[Value.int .i64 sq,.int .i64 at_,.slice xA m xc] 71));have e0:Ext wr W:=by rw[hW];exact(Ext.refl wr).alloc _
    have j0:Row W wr.heap.size 71 #[.int .i64 sq,.int .i64 at_,.slice xA m xc]:=by rw[hW];exact Row.new wr _ _
    obtain⟨gq,t0⟩:=Ab wr.heap.size;rw[<-t0]at j0;have l3:g≠gq:=by have hl:g<wr.heap.size:=H.lt;omega
    have q0:=j0.cell 0 rfl;have q1:=j0.cell 1 rfl;have q2:=j0.cell 2 rfl;rw[<-hW]at Z;replace Z:=Aa Z;replace m0:=Aa m0;replace I:=Aa I;replace hm:=Aa hm;replace hv:=Aa hv;replace e0:=Aa e0;replace j0:=Aa j0;replace H:=Aa H;replace hD:=Aa hD;clear v0 j1 m1 p1 hd;cases v with
    | true =>
     go_wp2_with fail;rw[<-hW,<-t0];clear hW t0;refine Z.out.mono ?_;rintro e w4 ⟨rfl,d⟩;replace d:=Aa (e0.out.trans d);go_wp2_with fail;go_roundw
     case rel=>exact⟨i,j+1,D,rfl,by go_num,by omega,by omega,Aa ⟨hD.out.1,by rw[hD.out.2.1,m0.out];simp,fun k hk=>hD.out.2.2 k (by omega)⟩,Aa (d.out.owns ho.out),Aa (fun x J=>⟨d.out.owns (hs.out x J).1,(hs.out x J).2⟩),Aa (f0.out.ext d.out),Aa (hC.out.trans (Chg.of_ext d.out _) fun _ _ h=>h)⟩
     case measure=>simp only[intOf];omega
    | false =>
     go_wp2_with fail;rw[<-hW,<-t0];clear hW t0;refine Z.out.mono ?_;rintro e w4 ⟨rfl,d⟩;have x0:=d.cell q0;have x1:=d.cell q1;have x2:=d.cell q2;replace d:=Aa (e0.out.trans d);have d2:=Aa (d.out.owns ho.out);obtain⟨g',o',o0,y0,y1,y2⟩:=AR (Cells.of_own d2.out) hy;cases o0;rw[Nat.zero_add]at y0 y1 y2;have i3:=(H.out.ext d.out).free;go_wp2_with fail;go_roundw
     case rel =>
      obtain⟨w5,o1⟩:=Ab (((w4.setCell ⟨g,i*3,none⟩ (.int .i64 sq)).setCell ⟨g,i*3+1,none⟩ (.int .i64 at_)).setCell ⟨g,i*3+2,none⟩ (.slice xA m xc));have r0:Chg (fun k=>k=g) w4 w5:=by
       rw[o1];exact((Chg.of_set (S:=fun k=>k=g) w4 (a:=⟨g,i*3,none⟩) _ rfl).trans (Chg.of_set (S:=fun k=>k=g) _ (a:=⟨g,i*3+1,none⟩) _ rfl) fun _ _ h=>h).trans (Chg.of_set (S:=fun k=>k=g) _ (a:=⟨g,i*3+2,none⟩) _ rfl) fun _ _ h=>h
      have z3:w5.ownsRow base 71 3 (.slice (some ⟨g,0,none⟩) n c) n (dcells (D.set i ⟨sq,⟨at_,fs⟩,xA,xc⟩)):=by
       rw[o1,<-I.out];exact M7 (M7 (M7 d2.out _ _) _ _) _ _
      have i2:∀k t cs,Row w4 k t cs->t≠71->¬ k=g:=fun k t cs hk ht=>Row.unlike hk (H.out.ext d.out) ht;rw[<-o1];have p0:i<D.length:=by rw[hD.out.1];omega
      refine⟨i+1,j+1,D.set i ⟨sq,⟨at_,fs⟩,xA,xc⟩,rfl,by go_num,by omega,by omega,Aa ⟨by rw[List.length_set];exact hD.out.1,?_,fun k hk=>by rw[List.getElem?_set,if_neg (by omega)];exact hD.out.2.2 k (by omega)⟩,Aa z3,Aa fun x J=>⟨r0.owns (d.out.owns (hs.out x J).1) fun k hk=>?_,(hs.out x J).2⟩,Aa (r0.row (f0.out.ext d.out) (i2 _ _ _ (f0.out.ext d.out) (by decide))),Aa ((hC.out.trans (Chg.of_ext d.out _) fun _ _ h=>h).trans r0 fun k _ h=>by rw[h];exact m2)⟩
      ·rw[m0.out,<-hD.out.2.1,List.take_add_one,List.getElem?_set,if_pos rfl,if_pos p0,List.take_set,List.set_eq_of_length_le (by rw[List.length_take];omega)];rfl
      ·obtain⟨cs,hr,_⟩:=Ae (d.out.owns (hs.out x J).1) hk;exact i2 _ _ _ hr (by decide)
     case measure=>simp only[intOf];omega
   ·obtain rfl:j=n:=by omega
    have G:D.take i=l.filter (keepD fl):=by rw[m1,List.take_of_length_le (by rw[<-hn.out];exact Nat.le_refl _)]
    have d3:cur.size=c*3:=by
     rcases ho.out.2 with ⟨hv,_⟩ | ⟨_,_,cur',hv,_,k3,_,_,a3,_⟩
     ·cases hv
     ·cases hv;have:=H.symm.trans k3;injection this with this;injection this with this;rw[this];exact a3
    have m3:=n0.1;obtain⟨vs,j2⟩:=S3 wr g (i*3) (j - i) (c - i) (by omega) (fun q hq=>by rw[H.get,Array.getElem?_eq_getElem (by omega)];rfl) (fun q _=>H.free _);have b0:=TY vs (i*3) wr (Tq ho.out (i:=i) (by omega) (by simp)) (Nat.le_refl _);rw[show (dcells D).take (i*3)=dcells (D.take i)from(Bh (f:=DocC.cells) (k:=3) (fun _=>rfl) D i).symm,G]at b0;have p0:i=(l.filter (keepD fl)).length:=by rw[<-G,List.length_take,j1];omega
    have h1:=TT (g:=g) vs (i*3) wr;have l0:∀x∈l.filter (keepD fl),x.e.Own (wr.setCells g (i*3) vs) base x.A x.c:=fun x J=>by
     have J:=(List.mem_filter.1 J).1;refine⟨h1.owns (hs.out x J).1 fun k hk=>?_,(hs.out x J).2⟩;obtain⟨cs,hr,_⟩:=Ae (hs.out x J).1 hk;exact Row.unlike hr H (by decide)
    have d0:Chg (fun k=>base<=k) w (wr.setCells g (i*3) vs):=hC.out.trans h1 fun k _ h=>by rw[h];exact m2
    obtain⟨Wc,p2⟩:=Ab (wr.setCells g (i*3) vs);rw[<-p2]at j2 b0 l0 d0;have b3:=fun W:World=>Tg (g:=g) (n:=j) (c:=c) (k:=i) (by omega) m3 W;obtain⟨ji,i1⟩:=Ab (j - i);obtain⟨ci,d1⟩:=Ab (c - i);rw[<-i1,<-d1]at j2 b3;replace b0:=Aa b0;replace l0:=Aa l0;replace d0:=Aa d0;replace H:=Aa H;replace p0:=Aa p0;replace hD:=Aa hD;replace i1:=Aa i1;replace d1:=Aa d1;clear p2 h1 G j1 m1 p1 d3;go_wp2_with fail;go_ret;exact⟨some ⟨g,0,none⟩,i,c,rfl,p0.out,⟨by rw[<-p0.out];exact b0.out,l0.out,fun x J=>f1.out x (List.mem_filter.1 J).1⟩,d0.out⟩
end
section
open Go.RowKit Go.Maps
def keepP (fl:Int) (d:Dc):Bool:= !decide (d.2.at_<fl)
def docsM (fl:Int) (Ps:List (List Dc)):List Dc:=Ps.flatten.filter (keepP fl)
theorem S5 (fl:Int) (l:List DocC):dcs (l.filter (keepD fl))=(dcs l).filter (keepP fl):=by
 unfold dcs;rw[List.filter_map];rfl
theorem DocsOwn.app {base c c2 c8:Nat} {B A2 A8:Option Addr} {l l2:List DocC} (h:DocsOwn w base B c l) (h2:DocsOwn w base A2 c2 l2)
 (Z:w8.ownsRow base 71 3 (.slice A8 (l.length+l2.length) c8) (l.length+l2.length) (dcells l++dcells l2)) (O:w.grownBy w8 (Value.slice B l.length c).ownBlock):DocsOwn w8 base A8 c8 (l++l2):=by
 have Y:Chg (fun k'=>(Value.slice B l.length c).ownBlock=some k') w w8:=Chg.of_grown O fun k' _ U=>U;refine⟨by rw[List.length_append];unfold dcells;rw[List.flatMap_append];exact Z,fun y d=>?_,fun y d=>?_⟩
 ·have H:y.e.Own w base y.A y.c:=by rcases List.mem_append.1 d with d | d;exact h.each y d;exact h2.each y d
  exact⟨Y.owns H.1 fun g' J=>by obtain⟨cs,G,_⟩:=Ae H.1 J;exact Am h.own G (by decide),H.2⟩
 ·rcases List.mem_append.1 d with d | d
  ·exact h.ints y d
  ·exact h2.ints y d
theorem S4 (l:List DocC):∀u∈dcells l,u.oneCell'=true:=fun u d=>by
 unfold dcells at d;obtain⟨x,_,h⟩:=List.mem_flatMap.1 d;unfold DocC.cells at h;simp only[List.mem_cons,List.not_mem_nil,or_false]at h;rcases h with rfl | rfl | rfl <;> rfl
def MdA (w:World) (fl:Int) (r:Option (List (List Dc))) (e:Ending) (w':World):Prop:=Ext w w'/\match r with
 | some Ps=>∃(l:List DocC) (A:Option Addr) (n c:Nat),dcs l=docsM fl Ps/\n=l.length/\e = .returned (.tuple #[.slice A n c,.int .i64 0])/\DocsOwn w' w.heap.size A c l
 | none=>e = .returned (.tuple #[.slice none 0 0,.int .i64 330])
theorem MdA.no {r:Option (List (List Dc))} (d:Ext w w') (h:r=none):MdA w fl r (.returned (.tuple #[.slice none 0 0,.int .i64 330])) w':=by subst h;exact⟨d,rfl⟩
theorem S6 {Ps:List (List Dc)} (h:mergeD bs=some Ps):Ps.length<=bs.length:=by
 unfold mergeD at h;split at h
 ·rename_i Qs d;split at h
  ·injection h with h;subst h;exact TJ d
  ·cases h
 ·cases h
theorem Te (bs:List BsC) (A:Option Addr) (n c:Nat) (fl:Int) (w:World) (hn:n=bs.length) (h:BssR w A bs) (x2:n<=10) :
 Calls prog 10 #[.int .i64 fl,.slice A n c] w (MdA w fl (mergeD (bs.map BsC.b))):=by
 obtain⟨W,hW⟩:=Ab (w.alloc (.cells #[.int .i64 fl] 3));have U:Ext w W:=by rw[hW];exact(Ext.refl w).alloc _
 have h0:Row W w.heap.size 3 #[.int .i64 fl]:=by rw[hW];exact Row.new w _ _
 have I:=S7 bs A n c W hn (h.ext U) (by omega);obtain⟨Z,hZ⟩:=Ab (mergeD (bs.map BsC.b));rw[<-hZ]at I ⊢;have hlen:∀Ps,Z=some Ps->Ps.length<=10:=fun Ps hp=>by
  have:=S6 (hZ.symm.trans hp);rw[List.length_map,<-hn]at this;omega
 obtain⟨fb,q0⟩:=Ab w.heap.size;rw[<-q0]at h0;have p2:=Aa q0;replace I:=Aa I;replace hlen:=Aa hlen;replace h0:=Aa h0;replace U:=Aa U;clear hZ h hn
 go_in
 go_wp2_with fail;rw[<-hW,<-q0];clear hW q0;refine I.out.mono ?_;rintro e w1 ⟨J,hr⟩;cases Z with
 | none =>
  simp only at hr;subst hr;go_wp2_with fail;go_ret2;exact MdA.no (U.out.trans J) rfl
 | some Ps =>
  obtain⟨l,B,k,d,hl,hk,rfl,hs⟩:=hr;have j2:k<=10:=by rw[hk];have:=hlen.out Ps rfl;rw[<-hl,List.length_map]at this;exact this
  have i1:=Aa SS;have i0:=Aa Ti;have n0:=Aa (h0.out.ext J);replace J:=Aa (U.out.trans J);have d1:=hk;replace hs:=Aa hs;replace hl:=Aa hl;replace hk:=Aa hk;clear hlen h0 U I d1;go_wp2_with fail
  go_loopw [8,21] (fun s8 s21 wr=>∃(i m q:Nat) (C:Option Addr) (D:List DocC),s8 = .slice C m q/\s21 = .int .i64 (i:Int)/\i<=k/\m<=i*65536/\Hid (m=D.length)/\Hid (dcs D=((l.take i).map (·.2)).flatten)/\Hid (DocsOwn wr w1.heap.size C q D)/\Hid (Ext w1 wr)) (fun _ s21 _=>k - (intOf s21).toNat)
  case atStart=>exact⟨0,0,0,none,[],rfl,rfl,by omega,by omega,Aa rfl,Aa rfl,Aa (DocsOwn.nil _ _),Aa (Ext.refl _)⟩
  case round =>
   obtain⟨i,m,q,C,D,rfl,rfl,hi,hm,G,hD,ho,hE⟩:=hrel;by_cases a1:i<k
   ·obtain⟨x,hx⟩:∃x,l[i]? = some x:=⟨_,List.getElem?_eq_getElem (by rw[<-hk.out];exact a1)⟩
    obtain⟨o0,e0⟩:=(hs.out.ext hE.out).2 x (List.mem_of_getElem? hx);obtain⟨g,o,rfl,hc⟩:=(hs.out.ext hE.out).1.at_ (by rw[List.length_map,<-hk.out];omega);have k0:=hc i x.val (by rw[List.getElem?_map,hx];rfl);have d0:=i1.out x.1 x.2 wr o0 e0;have a2:=e0.sm.seg.n;have c0:((l.take (i+1)).map (·.2)).flatten=((l.take i).map (·.2)).flatten++x.2:=by
     rw[List.take_add_one,hx,List.map_append,List.flatten_append];congr 1;show [x.2].flatten=_;rw[List.flatten_cons,List.flatten_nil,List.append_nil]
    unfold Sg.val at k0;replace d0:=Aa d0;replace c0:=Aa c0;clear hc hx o0 e0;go_wp2_with fail;refine d0.out.mono ?_;rintro e w4 ⟨O,l4,A4,c4,j0,rfl,g0⟩;obtain⟨m4,Y⟩:=Ab l4.length;have m2:m4<=65536:=by rw[Y];have:(dcs l4).length=l4.length:=List.length_map ..;rw[j0]at this;omega
    rw[<-Y];have l0:=Aa (ho.out.ext O);have H:=l0.out.own;rw[<-G.out]at H;replace g0:=Aa (g0.lower hE.out.size);have v0:(dcells l4).length=m4*3:=by rw[Er,Y]
    have x1:m+m4<=4294967296:=by omega
    have o1:w1.heap.size<=w4.heap.size:=(hE.out.trans O).size;replace O:=Aa (hE.out.trans O);replace H:=Aa H;replace v0:=Aa v0;replace Y:=Aa Y;replace j0:=Aa j0;go_wp2_with (at_builtin;refine AV (m:=m4) MQ H.out g0.out.ok.cells (.tmp 25) (.tmp 27) rfl rfl rfl rfl rfl v0.out (S4 _) x1 o1 (fun A8 c8 w8 b0 p0 e1=>?_);replace b0:=Aa b0;replace p0:=Aa p0;clear e1);have j1:Ext w1 w8:=O.out.grown p0.out fun k hk=>by obtain⟨_,_,hb⟩:=Ae H.out hk;exact hb
    have f0:=l0.out.app g0.out (A8:=A8) (c8:=c8) (w8:=w8) (by rw[<-G.out,<-Y.out];exact b0.out) (by rw[<-G.out];exact p0.out);go_roundw
    case rel=>exact⟨i+1,m+m4,c8,A8,D++l4,rfl,by go_num,by omega,by omega,Aa (by rw[List.length_append,<-G.out,<-Y.out]),Aa (by rw[c0.out,<-hD.out,<-j0.out];unfold dcs;rw[List.map_append]),Aa f0,Aa j1⟩
    case measure=>simp only[intOf];omega
   ·have t0:dcs D=Ps.flatten:=by rw[hD.out,List.take_of_length_le (by rw[<-hk.out];omega),hl.out]
    have y1:=Aa (i0.out D C m q fb w1.heap.size fl wr G.out ho.out (n0.out.ext hE.out) hE.out.size (by omega));replace t0:=Aa t0;clear i0;go_wp2_with fail;refine y1.out.mono ?_;rintro e w5 ⟨A5,n5,c5,rfl,x0,y0,p1⟩;replace x0:=Aa x0;replace y0:=Aa y0;go_wp2_with fail;go_ret2;have k1:Ext w1 w5:=hE.out.chg p1 fun k hk h=>by omega
    exact⟨J.out.trans k1,D.filter (keepD fl),A5,n5,c5,by rw[S5,t0.out];rfl,x0.out,rfl,y0.out.lower J.out.size⟩
def MrA (w:World) (fl:Int) (r:Option (List (List Dc))) (e:Ending) (w':World):Prop:=match r with
 | some Ps=>if docsM fl Ps = [] then e = .returned (.tuple #[.slice none 0 0,.int .i64 7])/\Ext w w' else OkB w (segL (docsM fl Ps)) e w'
 | none=>e = .returned (.tuple #[.slice none 0 0,.int .i64 330])/\Ext w w'
theorem TK (bs:List BsC) (A:Option Addr) (n c:Nat) (fl:Int) (w:World) (hn:n=bs.length) (h:BssR w A bs) (m0:n<=10) (O:∀Ps,mergeD (bs.map BsC.b)=some Ps->docsM fl Ps ≠ []->SmP (docsM fl Ps)) :
 Calls prog 8 #[.int .i64 fl,.slice A n c] w (MrA w fl (mergeD (bs.map BsC.b))):=by
 have p0:=Aa (Te bs A n c fl w hn h m0);obtain⟨Z,hZ⟩:=Ab (mergeD (bs.map BsC.b));rw[<-hZ]at p0 O ⊢;have q0:=Aa CY;replace O:=Aa O;clear hZ h hn
 go_in
 go_wp2_with fail;refine p0.out.mono ?_;rintro e w1 ⟨U,hr⟩;cases Z with
 | none =>
  simp only at hr;subst hr;go_wp2_with fail;go_ret2;exact⟨rfl,U⟩
 | some Ps =>
  obtain⟨l,B,k,d,G,hk,rfl,I⟩:=hr;by_cases h0:k=0
  ·have H:docsM fl Ps = []:=by rw[<-G,List.length_eq_zero_iff.1 (hk.symm.trans h0)];rfl
   subst h0;replace H:=Aa H;replace G:=Aa G;replace hk:=Aa hk;replace I:=Aa I;go_wp2_with fail;go_ret2;unfold MrA;simp only;rw[if_pos H.out];exact⟨rfl,U⟩
  ·have H:¬ docsM fl Ps = []:=fun e=>h0 (by rw[<-G]at e;rw[hk];have:=congrArg List.length e;unfold dcs at this;rw[List.length_map]at this;exact this);have x0:((k:Int)==0)=false:=beq_eq_false_iff_ne.2 (by omega);have J:=I.cap;rw[<-hk]at J;have Y:=q0.out l B k d w1 hk I.ok J.2 J.1 (by rw[G];exact O.out Ps rfl H) (by omega);rw[G]at Y;replace Y:=Aa Y;replace H:=Aa H;replace G:=Aa G;replace hk:=Aa hk;replace I:=Aa I;clear q0;go_wp2_with fail;refine Y.out.mono ?_;rintro e w2 ⟨A2,c2,rfl,k0,g0⟩;go_wp2_with fail;go_ret2;unfold MrA;simp only;rw[if_neg H.out];exact⟨A2,c2,rfl,⟨k0.1,k0.2.lower U.size⟩,U.trans g0⟩
end
end Go.Proofs.YtfifdilapbeiiaaGreat
