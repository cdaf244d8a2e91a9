/- Texts of one proof, joined. -/
import Derived.Test.YtpnlihgcboepeaaGreatPN09
import Derived.ChangeArms
set_option linter.unusedSimpArgs false
set_option linter.unusedVariables false
set_option maxRecDepth 100000
set_option maxHeartbeats 16000000
namespace Go.Proofs.YtpnlihgcboepeaaGreat
open _root_.Go.Proofs.Tryz
variable {cs:Array Value} {f:List UInt8} {xs:List Value} {b base fuel g gd gf i m:Nat} {S:Nat → Prop} {A:Option Addr} {P:Program} {ty:TypeId} {u0:Value} {w w' w1 w8:World}
section
open Go.RowKit
def midE (l:List En) (i:Nat) (la:List UInt8):List UInt8:=blockE la ((l.drop i).take (16 - i%16))++partsE (chunkL 16 (l.drop (i+(16 - i%16))))
def restE (l:List En) (i:Nat):List UInt8:=if i%16=0 then partsE (chunkL 16 (l.drop i)) else midE l i (lastT l i)
theorem Mi (l:List En):encEs l=vb l.length++restE l 0:=by
 unfold restE encEs;rw[if_pos (by omega),List.drop_zero]
theorem Mh {l:List En} (h:i%16=0) (hi:i<l.length):∃q,restE l i=vb q++midE l i []/\q<=(midE l i []).length:=by
 have d:l.drop i ≠ []:=fun e=>by
  have:=congrArg List.length e;rw[List.length_drop,List.length_nil]at this;omega
 refine⟨(blockE [] ((l.drop i).take 16)).length,?_,?_⟩
 ·unfold restE midE;rw[if_pos h,h,BE d (by omega),List.drop_drop];show vb _++blockE [] _++partsE _=_;rw[List.append_assoc]
 ·unfold midE;rw[h,List.length_append];exact Nat.le_add_right _ _
theorem N0 {l:List En} {x:En} (d:l[i]? = some x) (la:List UInt8):midE l i la=enB la x++restE l (i+1):=by
 unfold midE;have H:i%16<16:=Nat.mod_lt _ (by omega);rw[AY d,show 16 - i%16=(15 - i%16)+1 by omega,List.take_succ_cons];show (enB la x++blockE x.t _)++_=_;rw[List.append_assoc];congr 1;unfold restE;by_cases h:(i+1)%16=0
 ·rw[if_pos h,show 15 - i%16=0 by omega,List.take_zero,blockE,List.nil_append,show i+(0+1)=i+1 by omega]
 ·rw[if_neg h,Dp d];unfold midE;rw[show 16 - (i+1)%16=15 - i%16 by omega,show i+(15 - i%16+1)=i+1+(15 - i%16)by omega]
theorem Pa:Elem prog 192 195 4 40:=⟨underlying192,⟨_,_,rfl,rfl,rfl,rfl,rfl⟩,by omega,by omega⟩
def DicR (w:World) (g:Nat) (l:List En):Prop:=∃A c,Row w g 235 #[.slice A l.length c,.bool true]/\Cells w A (encells l)
theorem DicR.ext {l:List En} (h:DicR w g l) (d:Ext w w1):DicR w1 g l:=by
 obtain⟨A,c,h1,h2⟩:=h;exact⟨A,c,h1.ext d,h2.ext d⟩
def DicO (w:World) (base g:Nat) (l:List En):Prop:=∃A c,Row w g 235 #[.slice A l.length c,.bool true]/\w.ownsRow base 195 4 (.slice A l.length c) l.length (encells l)
theorem DicO.dic {l:List En} (h:DicO w base g l):DicR w g l:=by
 obtain⟨A,c,h1,h2⟩:=h;exact⟨A,c,h1,Cells.of_own h2⟩
theorem DicO.ext {l:List En} (h:DicO w base g l) (d:Ext w w1):DicO w1 base g l:=by
 obtain⟨A,c,h1,h2⟩:=h;exact⟨A,c,h1.ext d,d.owns h2⟩
theorem DicO.chg {l:List En} (h:DicO w base g l) (Y:Chg S w w1) (J:∀q,S q->∃t cs,Row w q t cs/\t≠235/\t≠195):DicO w1 base g l:=by
 obtain⟨A,c,h1,h2⟩:=h;refine⟨A,c,h1.keep (Y.block _ h1.lt fun hs=>?_),Y.owns h2 fun q U hs=>?_⟩
 ·obtain⟨t,cs,H,d,_⟩:=J _ hs;exact Row.unlike H h1 d rfl
 ·obtain⟨t,cs,H,_,d⟩:=J _ hs;exact Am h2 H (fun e=>d e.symm) U
def NewDO (w:World) (l:List En) (e:Ending) (w':World):Prop:=∃g,e = .returned (.tuple #[.pointer (some ⟨g,0,none⟩),.int .i64 0])/\DicO w' w.heap.size g l/\Ext w w'
theorem Ls (A:Option Addr) (n c:Nat) (bs:List UInt8) (w:World) (l:List En) (h:In8 w A n c bs) (m0:OkEs l) (a1:bs=encEs l) (j5:n<=100000000) :
 Calls prog 76 #[.slice A n c] w fun e w'=>NewDO w l e w':=by
 obtain⟨m,hm⟩:=Ab l.length;have g5:m<=262144:=by rw[hm];exact m0.few
 have p0:bs=vb m++restE l 0:=by rw[a1,hm];exact Mi l
 have g0:n=(vb m++restE l 0).length:=by rw[<-p0];exact h.len
 obtain⟨g,hg⟩:=Ab w.heap.size;obtain⟨W0,y0⟩:=Ab (w.alloc (.cells #[.slice A n c,.bool false] 229));have j2:Ext w W0:=by rw[y0];exact(Ext.refl w).alloc _
 have Y:RdD w g (vb m++restE l 0) W0:=by
  refine⟨A,c,?_,by rw[<-g0,<-p0];exact h,j2⟩;rw[<-g0,y0,hg];exact Row.new w _ _
 have p2:=Aa (fun W q r z h1 h2 h3 h4=>DD w W g q r z h1 (by omega) h2 h3 h4);have e3:=Aa (fun W la x r h1 h2 h3 h4=>Lt w W g la x r h1 (by omega) h2 h3 h4);have o2:(restE l 0).length<=n:=by rw[g0,List.length_append];omega
 replace Y:=Aa Y;replace j2:=Aa j2;replace m0:=Aa m0;replace a1:=Aa a1;replace p0:=Aa p0;replace hm:=Aa hm;replace y0:=Aa y0;replace hg:=Aa hg;replace h:=Aa h;replace g0:=Aa g0;replace o2:=Aa o2
 go_in
 go_wp2_with fail;rw[<-y0.out,<-hg.out];refine(p2.out W0 m (restE l 0) 262144 Y.out (by omega) (by omega) (by rw[<-g0.out];omega)).mono ?_;rintro e w1 ⟨rfl,x2,m3⟩;replace x2:=Aa x2;replace m3:=Aa m3;go_wp2_with fail
 go_loopw [6,7,8] (fun s6 s7 s8 wr=>∃(i c6:Nat) (A6:Option Addr) (la:List UInt8),s6 = .slice A6 i c6/\s7 = .string ⟨la.toArray⟩/\s8 = .int .i64 (i:Int)/\i<=m/\Hid (i%16≠0->la=lastT l i)/\Hid (la.length<=65)/\Hid ((restE l i).length<=n)/\Hid (RdD w g (restE l i) wr)/\Hid (wr.ownsRow w.heap.size 195 4 (.slice A6 i c6) i (encells (l.take i)))) (fun _ _ s8 _=>m - (intOf s8).toNat)
 case atStart=>exact⟨0,0,none,[],rfl,rfl,rfl,by omega,Aa (fun h=>by omega),Aa (by simp),o2,x2,Aa (World.ownsRow_nil _ _ _ _)⟩
 case round =>
  obtain⟨i,c6,A6,la,rfl,rfl,rfl,him,i4,l3,p4,hS,k0⟩:=hrel;obtain⟨wv,rfl⟩:=Ab wr;obtain⟨B0,d0,r0,_,_⟩:=hS.out;have kb:=r0.cell 1 rfl;clear r0;by_cases f3:i<m
  ·obtain⟨x,t0⟩:∃x,l[i]? = some x:=⟨_,List.getElem?_eq_getElem (by rw[<-hm.out];exact f3)⟩
   have g4:=(m0.out.each x (List.mem_of_getElem? t0)).1;obtain⟨mo,i0⟩:=Ab (i%16);have h5:(i:Int)%16=(mo:Int):=by omega
   have r4:((mo:Int)==0)=decide (mo=0):=by rw[Bool.eq_iff_iff,beq_iff_eq,decide_eq_true_iff];omega
   replace i0:=Aa i0;replace t0:=Aa t0;go_upto_if 29 with (fail)
   go_cut [7] (fun s7 wx=>∃la2:List UInt8,s7 = .string ⟨la2.toArray⟩/\Hid (la2.length<=65)/\Hid ((midE l i la2).length<=n)/\Hid (RdD w g (midE l i la2) wx)/\Hid (wx.ownsRow w.heap.size 195 4 (.slice A6 i c6) i (encells (l.take i))))
   case first =>
    by_cases p3:mo=0
    ·obtain⟨q,hq,r3⟩:=Mh (l:=l) (by rw[<-i0.out];exact p3) (by rw[<-hm.out];exact f3);have y2:=hS.out;have o0:=p4.out;rw[hq]at y2 o0;have I:(midE l i []).length<=n:=by rw[List.length_append]at o0;omega
     have hc:=Aa (p2.out wv q _ (n:Int) y2 (by omega) (by omega) (by omega));replace hq:=Aa hq;replace r3:=Aa r3;replace I:=Aa I;clear y2 o0;go_wp2_with fail;refine hc.out.mono ?_;rintro e w3 ⟨rfl,G,k2⟩;have O:=k2.owns k0.out fun gb i2 e=>by
      obtain⟨B,d,q1,_,_⟩:=hS.out;exact Am k0.out q1 (by decide) (by rw[i2,e])
     replace G:=Aa G;replace O:=Aa O;replace k2:=Aa k2;go_wp2_with fail
     go_meet
     case rel=>exact⟨[],rfl,Aa (by simp),I,G,O⟩
    ·have n1:restE l i=midE l i la:=by
      unfold restE;rw[if_neg (by rw[<-i0.out];exact p3),i4.out (by rw[<-i0.out];exact p3)]
     have G:Hid (RdD w g (midE l i la) wv):=Aa (by rw[<-n1];exact hS.out);have I:Hid ((midE l i la).length<=n):=Aa (by rw[<-n1];exact p4.out);replace n1:=Aa n1;go_wp2_with fail
     go_meet
     case rel=>exact⟨la,rfl,l3,I,G,k0⟩
   case rest =>
    obtain⟨la2,rfl,i3,I,G,O⟩:=hcut;have k3:=N0 t0.out la2;have a2:=G.out;have f0:=I.out;rw[k3]at a2 f0;have p1:(restE l (i+1)).length<=n:=by rw[List.length_append]at f0;omega
    have hc:=Aa (e3.out _ la2 x _ a2 g4 i3.out (by omega));have i1:=Dp t0.out;have j3:encells (l.take (i+1))=encells (l.take i)++x.cells:=by
     rw[List.take_add_one,t0.out];unfold encells;rw[List.flatMap_append];simp
    obtain⟨t,off,len,nn⟩:=x;have j1:t.length<=65:=g4.1;simp only at i1;replace k3:=Aa k3;replace p1:=Aa p1;replace i1:=Aa i1;replace j3:=Aa j3;replace j1:=Aa j1;clear a2 f0;go_wp2_with fail;refine hc.out.mono ?_;rintro e w4 ⟨he,z3,t3⟩;have he:e = .returned (.agg #[.string ⟨t.toArray⟩,.int .i64 (off:Int),.int .i64 (len:Int),.int .i64 (nn:Int)]):=he;subst he;have h0:=t3.owns O.out fun gb i2 e=>by
     obtain⟨B,d,q1,_,_⟩:=G.out;exact Am O.out q1 (by decide) (by rw[i2,e])
    obtain⟨g9,c0⟩:=Ab w4.heap.size;obtain⟨W9,j0⟩:=Ab (w4.alloc (.cells #[.string ⟨t.toArray⟩,.int .i64 (off:Int),.int .i64 (len:Int),.int .i64 (nn:Int)] 195));have q4:Row W9 g9 195 #[.string ⟨t.toArray⟩,.int .i64 (off:Int),.int .i64 (len:Int),.int .i64 (nn:Int)]:=by rw[j0,c0];exact Row.new w4 _ _
    have a3:RdD w g (restE l (i+1)) W9:=by rw[j0];exact z3.ext ((Ext.refl w4).alloc _)
    have n0:W9.ownsRow w.heap.size 195 4 (.slice A6 i c6) i (encells (l.take i)):=by rw[j0];exact((Ext.refl w4).alloc _).owns h0
    have Z:=q4.ext (Ext.refl W9).drew;have q0:=a3.ext (Ext.refl W9).drew;have J:=(Ext.refl W9).drew.owns n0;have j4:w.heap.size<=W9.drew.heap.size:=by obtain⟨_,_,_,_,q⟩:=q0;exact q.size
    have b0:∀k,(Value.slice A6 i c6).ownBlock=some k->k<g9:=fun k hk=>by
     obtain⟨cs,o4,_⟩:=Ae h0 hk;rw[c0];exact o4.lt
    have d3:=Z.get;have Y:W9.drew.cell? ⟨g9,0,none⟩=some (.string ⟨t.toArray⟩)/\W9.drew.cell? ⟨g9,1,none⟩=some (.int .i64 (off:Int))/\W9.drew.cell? ⟨g9,2,none⟩=some (.int .i64 (len:Int))/\W9.drew.cell? ⟨g9,3,none⟩=some (.int .i64 (nn:Int)):=⟨Z.cell 0 rfl,Z.cell 1 rfl,Z.cell 2 rfl,Z.cell 3 rfl⟩
    have x0:Ext W9.drew (W9.drew.alloc (.cells #[.string ⟨t.toArray⟩,.int .i64 (off:Int),.int .i64 (len:Int),.int .i64 (nn:Int)] 195)):=(Ext.refl _).alloc _;have d2:(W9.drew.alloc (.cells #[.string ⟨t.toArray⟩,.int .i64 (off:Int),.int .i64 (len:Int),.int .i64 (nn:Int)] 195)).cell? ⟨g9,0,none⟩=some (.string ⟨t.toArray⟩)/\(W9.drew.alloc (.cells #[.string ⟨t.toArray⟩,.int .i64 (off:Int),.int .i64 (len:Int),.int .i64 (nn:Int)] 195)).cell? ⟨g9,1,none⟩=some (.int .i64 (off:Int))/\(W9.drew.alloc (.cells #[.string ⟨t.toArray⟩,.int .i64 (off:Int),.int .i64 (len:Int),.int .i64 (nn:Int)] 195)).cell? ⟨g9,2,none⟩=some (.int .i64 (len:Int))/\(W9.drew.alloc (.cells #[.string ⟨t.toArray⟩,.int .i64 (off:Int),.int .i64 (len:Int),.int .i64 (nn:Int)] 195)).cell? ⟨g9,3,none⟩=some (.int .i64 (nn:Int)):=⟨x0.cell Y.1,x0.cell Y.2.1,x0.cell Y.2.2.1,x0.cell Y.2.2.2⟩
    have l2:∀w8,W9.drew.grownBy w8 (Value.slice A6 i c6).ownBlock->w8.cell? ⟨g9,0,none⟩=some (.string ⟨t.toArray⟩)/\w8.cell? ⟨g9,1,none⟩=some (.int .i64 (off:Int))/\w8.cell? ⟨g9,2,none⟩=some (.int .i64 (len:Int))/\w8.cell? ⟨g9,3,none⟩=some (.int .i64 (nn:Int)):=fun w8 f1=>by
     have l1:=Row.grown (w:=W9.drew) Z f1 (fun e=>by
      have:=b0 _ e.symm;omega)
     exact⟨l1.cell 0 rfl,l1.cell 1 rfl,l1.cell 2 rfl,l1.cell 3 rfl⟩
    replace Z:=Aa Z;replace q0:=Aa q0;replace J:=Aa J;replace j0:=Aa j0;replace c0:=Aa c0;replace Y:=Aa Y;replace d2:=Aa d2;replace l2:=Aa l2;replace b0:=Aa b0;replace d3:=Aa d3;clear q4 a3 n0 h0 z3 t3 x0;go_wp2_with fail;rw[<-j0.out,<-c0.out]
    go_region_held3 (fun x=>x.cell? ⟨g9,0,none⟩=some (.string ⟨t.toArray⟩)/\x.cell? ⟨g9,1,none⟩=some (.int .i64 (off:Int))/\x.cell? ⟨g9,2,none⟩=some (.int .i64 (len:Int))/\x.cell? ⟨g9,3,none⟩=some (.int .i64 (nn:Int))) (first | exact Y.out | exact d2.out | exact l2.out _ ‹_›) (first | (refine OH (us:= [.string ⟨t.toArray⟩,.int .i64 (off:Int),.int .i64 (len:Int),.int .i64 (nn:Int)]) (m:=1) Pa rfl J.out rfl (.tmp 37) (.tmp 39) rfl rfl rfl rfl (Az rfl) (by omega) j4 (fun A8 c8 w8 l4 f1=>?_)))
    go_wp2_with fail;have a4:RdD w g (restE l (i+1)) w8:=by
     obtain⟨B,d,q1,q2,q3⟩:=q0.out;refine⟨B,d,q1.grown f1 fun e=>Am J.out q1 (by decide) e.symm,q2,q3.grown f1 fun k hk=>?_⟩;obtain⟨_,_,hb⟩:=Ae J.out hk;exact hb
    have o3:w8.ownsRow w.heap.size 195 4 (.slice A8 (i+1) c8) (i+1) (encells (l.take (i+1))):=by rw[j3.out];exact l4
    exact⟨⟨i+1,c8,A8,t,rfl,rfl,rfl,by omega,Aa (fun _=>i1.out.symm),j1,p1,Aa a4,Aa o3⟩,by simp only[intOf];omega⟩
  ·obtain rfl:i=m:=by omega
   have U:=k0.out;rw[List.take_of_length_le (by rw[<-hm.out];exact Nat.le_refl _)]at U;have e1:=BN U;have d1:=Cells.of_own U;have x1:Ext w wv:=by obtain⟨_,_,_,_,q⟩:=hS.out;exact q
   have d4:=Aa (fun W (hE:Ext wv W/\W.cell? ⟨g,1,none⟩=some (Value.bool false))=>(J3 l A6 i c6 W hm.out (d1.ext hE.1) m0.out).mono fun e W' ⟨he,v0⟩=>And.intro he (show Ext wv W'/\W'.cell? ⟨g,1,none⟩=some (Value.bool false)from⟨hE.1.trans v0,v0.cell hE.2⟩));have e2:=Aa (fun W (hE:Ext wv W/\W.cell? ⟨g,1,none⟩=some (Value.bool false))=>(GF l A6 i c6 W hm.out (d1.ext hE.1) e1.2 e1.1 m0.out).mono fun e W' (h:OwnB _ _ _ e W')=>show ∃A5 c5,e = .returned (.slice A5 (encEs l).length c5)/\Bs W' A5 (encEs l)/\Ext wv W'/\W'.cell? ⟨g,1,none⟩=some (Value.bool false)from by
    obtain⟨A5,c5,he,ho,v0⟩:=h;exact⟨A5,c5,he,ho.2.cells,hE.1.trans v0,v0.cell hE.2⟩)
   have Y:Ext wv wv.drew/\wv.drew.cell? ⟨g,1,none⟩=some (Value.bool false):=⟨(Ext.refl wv).drew,kb⟩
   have e4:∀W,(Ext wv W/\W.cell? ⟨g,1,none⟩=some (Value.bool false))->(convert 25 9 (.slice A n c)).run prog W = .ok (.string ⟨bs.toArray⟩) W:=fun W hE=>CT ((h.out.bytes.ext x1).ext hE.1) n c h.out.len;have p5:(bs==bs)=true:=beq_self_eq_true bs;obtain⟨nb,l0⟩:=Ab ((encEs l).length);rw[<-a1.out]at e2 l0;rw[<-l0]at e2;replace U:=Aa U;replace e1:=Aa e1;replace d1:=Aa d1;replace x1:=Aa x1;replace Y:=Aa Y;replace l0:=Aa l0;go_wp2_with fail;refine wp_region_held_drew (S:=(fun x=>Ext wv x/\x.cell? ⟨g,1,none⟩=some (Value.bool false))) (by kernel_rfl) Y.out (fun m2=>?_);refine wpAnyH_take (i:=0) (v:= .pointer (some ⟨g,0,none⟩)) rfl (by kernel_rfl) (by kernel_rfl) (by kernel_rfl) (fun _ _ _ h=>h) (Or.inl ⟨by rfl,?_⟩) (by assumption) ?_
   ·intro w' H
    (try dsimp only at H)
    go_simp
    try with_reducible rfl
    all_goals omega
   (try simp only[Act.put,Bv,Bw,By,CN,CO,CP])
   refine wpAnyH_take (i:=1) (v:= .pointer (some ⟨g,0,none⟩)) rfl (by kernel_rfl) (by kernel_rfl) (by kernel_rfl) (fun _ _ _ h=>h) (Or.inl ⟨by rfl,?_⟩) (by assumption) ?_
   ·intro w' H
    (try dsimp only at H)
    go_simp
    try with_reducible rfl
    all_goals omega
   (try simp only[Act.put,Bv,Bw,By,CN,CO,CP])
   refine wpAnyH_take (i:=2) (v:= .pointer (some ⟨g,1,none⟩)) rfl (by kernel_rfl) (by kernel_rfl) (by kernel_rfl) (fun _ _ _ h=>h) (Or.inl ⟨by rfl,?_⟩) (by assumption) ?_
   ·intro w' H
    (try dsimp only at H)
    go_simp
    try with_reducible rfl
    all_goals omega
   (try simp only[Act.put,Bv,Bw,By,CN,CO,CP])
   refine wpAnyH_take (i:=3) (v:= .bool false) rfl (by kernel_rfl) (by kernel_rfl) (by kernel_rfl) (fun _ _ _ h=>h) (Or.inl ⟨by rfl,?_⟩) (by assumption) ?_
   ·intro w' H
    (try dsimp only at H)
    obtain⟨_,q5⟩:=H;go_simp
    try with_reducible rfl
    all_goals omega
   (try simp only[Act.put,Bv,Bw,By,CN,CO,CP])
   refine wpAnyH_take (i:=4) (v:= .bool false) rfl (by kernel_rfl) (by kernel_rfl) (by kernel_rfl) (fun _ _ _ h=>h) (Or.inl ⟨by rfl,?_⟩) (by assumption) ?_
   ·intro w' H
    (try dsimp only at H)
    go_simp
    try with_reducible rfl
    all_goals omega
   (try simp only[Act.put,Bv,Bw,By,CN,CO,CP])
   refine wpAnyH_take (i:=5) (v:= .slice A6 i c6) rfl (by kernel_rfl) (by kernel_rfl) (by kernel_rfl) (fun _ _ _ h=>h) (Or.inl ⟨by rfl,?_⟩) (by assumption) ?_
   ·intro w' H
    (try dsimp only at H)
    go_simp
    try with_reducible rfl
    all_goals omega
   (try simp only[Act.put,Bv,Bw,By,CN,CO,CP])
   refine wpAnyH_ready (rs:= [6]) (by kernel_rfl) (by simp) ?_;refine AllReadyH.cons rfl (fun K hK=>?_) AllReadyH.nil
   (first | go_at_call 130 | (go_simp;go_at_call 130));(refine(d4.out _ ‹_›).mono ?_;rintro e w5 ⟨rfl,b3⟩)
   refine hK.out _ _ ?_ (fun m4=>?_)
   ·exact b3
   clear hK K
   (try simp only[Act.put,Bv,Bw,By,CN,CO,CP])
   refine wpAnyH_take (i:=7) (v:= .bool false) rfl (by kernel_rfl) (by kernel_rfl) (by kernel_rfl) (fun _ _ _ h=>h) (Or.inl ⟨by rfl,?_⟩) (by assumption) ?_
   ·intro w' H
    (try dsimp only at H)
    go_simp
    try with_reducible rfl
    all_goals omega
   (try simp only[Act.put,Bv,Bw,By,CN,CO,CP])
   refine wpAnyH_take (i:=8) (v:= .bool false) rfl (by kernel_rfl) (by kernel_rfl) (by kernel_rfl) (fun _ _ _ h=>h) (Or.inl ⟨by rfl,?_⟩) (by assumption) ?_
   ·intro w' H
    (try dsimp only at H)
    go_simp
    try with_reducible rfl
    all_goals omega
   (try simp only[Act.put,Bv,Bw,By,CN,CO,CP])
   refine wpAnyH_take (i:=9) (v:= .bool false) rfl (by kernel_rfl) (by kernel_rfl) (by kernel_rfl) (fun _ _ _ h=>h) (Or.inl ⟨by rfl,?_⟩) (by assumption) ?_
   ·intro w' H
    (try dsimp only at H)
    go_simp
    try with_reducible rfl
    all_goals omega
   (try simp only[Act.put,Bv,Bw,By,CN,CO,CP])
   refine wpAnyH_take (i:=10) (v:= .slice A6 i c6) rfl (by kernel_rfl) (by kernel_rfl) (by kernel_rfl) (fun _ _ _ h=>h) (Or.inl ⟨by rfl,?_⟩) (by assumption) ?_
   ·intro w' H
    (try dsimp only at H)
    go_simp
    try with_reducible rfl
    all_goals omega
   (try simp only[Act.put,Bv,Bw,By,CN,CO,CP])
   refine wpAnyH_take (i:=13) (v:= .slice A n c) rfl (by kernel_rfl) (by kernel_rfl) (by kernel_rfl) (fun _ _ _ h=>h) (Or.inl ⟨by rfl,?_⟩) (by assumption) ?_
   ·intro w' H
    (try dsimp only at H)
    go_simp
    try with_reducible rfl
    all_goals omega
   (try simp only[Act.put,Bv,Bw,By,CN,CO,CP])
   refine wpAnyH_take (i:=14) (v:= .string ⟨bs.toArray⟩) rfl (by kernel_rfl) (by kernel_rfl) (by kernel_rfl) (fun _ _ _ h=>h) (Or.inl ⟨by rfl,?_⟩) (by assumption) ?_
   ·intro w' H
    (try dsimp only at H)
    have f4:=e4 w' H;go_simp
    try with_reducible rfl
    all_goals omega
   (try simp only[Act.put,Bv,Bw,By,CN,CO,CP])
   refine wpAnyH_ready (rs:= [11]) (by kernel_rfl) (by simp) ?_;refine AllReadyH.cons rfl (fun K hK=>?_) AllReadyH.nil
   (first | go_at_call 131 | (go_simp;go_at_call 131));(refine(e2.out _ ‹_›).mono ?_;rintro e w6 ⟨A5,c5,rfl,b4,y1⟩)
   have f4:=CT b4 nb c5 l0.out;refine hK.out _ _ ?_ (fun t4=>?_)
   ·exact y1
   clear hK K
   (try simp only[Act.put,Bv,Bw,By,CN,CO,CP])
   refine wpAnyH_ready (rs:= [12]) (by kernel_rfl) (by simp) ?_;refine AllReadyH.cons rfl (fun K hK=>?_) AllReadyH.nil;go_simp;refine hK.out _ _ ?_ (fun v4=>?_)
   ·exact y1
   clear hK K
   (try simp only[Act.put,Bv,Bw,By,CN,CO,CP])
   refine wpAnyH_take (i:=15) (v:= .bool false) rfl (by kernel_rfl) (by kernel_rfl) (by kernel_rfl) (fun _ _ _ h=>h) (Or.inl ⟨by rfl,?_⟩) (by assumption) ?_
   ·intro w' H
    (try dsimp only at H)
    go_simp
    try with_reducible rfl
    all_goals omega
   (try simp only[Act.put,Bv,Bw,By,CN,CO,CP])
   refine wpAnyH_take (i:=16) (v:= .bool false) rfl (by kernel_rfl) (by kernel_rfl) (by kernel_rfl) (fun _ _ _ h=>h) (Or.inl ⟨by rfl,?_⟩) (by assumption) ?_
   ·intro w' H
    (try dsimp only at H)
    go_simp
    try with_reducible rfl
    all_goals omega
   (try simp only[Act.put,Bv,Bw,By,CN,CO,CP])
   refine wpAnyH_done (by kernel_rfl) ?_ _;have x3:=Aa y1.1;clear b3 y1 m2;go_wp2_with fail;go_ret2;refine⟨w6.heap.size,rfl,⟨A6,c6,?_,?_⟩,(x1.out.trans x3.out).alloc _⟩
   ·rw[<-hm.out];exact Row.new w6 _ _
   ·rw[<-hm.out];exact((Ext.refl w6).alloc _).owns (x3.out.owns U.out)
end
section
open Go.RowKit Go.Maps
def openD (b:List UInt8):Option (List Dc) :=
 if b.take 4 = [76,83,69,71] then
  if (splitF (b.drop 4)).2=0/\(splitF (b.drop 4)).1.length=6 then
   match decDs ((splitF (b.drop 4)).1.headD [])with
   | some P=>if 0<P.length/\segL P=b then some P else none
   | none=>none
  else none
 else none
def SegR (w:World) (g:Nat) (P:List Dc):Prop:=∃(ds:List DocC) (A:Option Addr) (c:Nat) (lo hi fi la:Int) (B:Option Addr) (cB gd gf:Nat),
 Row w g 160 #[.slice A ds.length c,.int .i64 0,.int .i64 0,.int .i64 lo,.int .i64 hi,.int .i64 fi,.int .i64 la,.int .i64 (ds.length:Int),.pointer (some ⟨gd,0,none⟩),.slice B (postB (rowsD P)).length cB,.pointer (some ⟨gf,0,none⟩)] /\
 dcs ds=P/\partD P = [lo,hi,fi,la,(ds.length:Int)]/\DocsOk w A ds/\DicR w gd (enOf 0 (rowsD P))/\In8 w B (postB (rowsD P)).length cB (postB (rowsD P))/\FilR w gf (ofB ((rowsD P).map (·.1)))
def SegRB (base:Nat) (w:World) (g:Nat) (P:List Dc):Prop:=∃(ds:List DocC) (A:Option Addr) (c:Nat) (lo hi fi la:Int) (B:Option Addr) (cB gd gf:Nat),
 Row w g 160 #[.slice A ds.length c,.int .i64 0,.int .i64 0,.int .i64 lo,.int .i64 hi,.int .i64 fi,.int .i64 la,.int .i64 (ds.length:Int),.pointer (some ⟨gd,0,none⟩),.slice B (postB (rowsD P)).length cB,.pointer (some ⟨gf,0,none⟩)] /\
 dcs ds=P/\partD P = [lo,hi,fi,la,(ds.length:Int)]/\DocsOwn w base A c ds/\DicO w base gd (enOf 0 (rowsD P))/\Buf w base 5 B (postB (rowsD P)).length cB ((postB (rowsD P)).map B8)/\FilO w base gf (ofB ((rowsD P).map (·.1)))
theorem SegRB.seg {P:List Dc} (h:SegRB base w g P):SegR w g P:=by
 obtain⟨ds,A,c,lo,hi,fi,la,B,cB,gd,gf,h1,h2,d,H,Y,J,U⟩:=h;exact⟨ds,A,c,lo,hi,fi,la,B,cB,gd,gf,h1,h2,d,H.ok,Y.dic,J.in8,U.fil⟩
theorem FilO.lower (h:FilO w base g f) (hb:b<=base):FilO w b g f:=by
 obtain⟨b1,c,cur,H,h1,d,h2⟩:=h;exact⟨b1,c,cur,H,Nat.le_trans hb h1,d,h2⟩
theorem DicO.lower {l:List En} (h:DicO w base g l) (hb:b<=base):DicO w b g l:=by
 obtain⟨A,c,h1,h2⟩:=h;exact⟨A,c,h1,AD h2 hb⟩
def SegOB (w:World) (b:List UInt8) (e:Ending) (w':World):Prop:=Ext w w'/\match openD b with
 | some P=>∃g,e = .returned (.tuple #[.pointer (some ⟨g,0,none⟩),.int .i64 0])/\SegRB w.heap.size w' g P
 | none=>e = .returned (.tuple #[.pointer none,.int .i64 130])
theorem SegOB.no {b:List UInt8} (d:Ext w w') (h:openD b=none):SegOB w b (.returned (.tuple #[.pointer none,.int .i64 130])) w':=by
 refine⟨d,?_⟩;rw[h]
def SegO (w:World) (b:List UInt8) (e:Ending) (w':World):Prop:=Ext w w'/\match openD b with
 | some P=>∃g,e = .returned (.tuple #[.pointer (some ⟨g,0,none⟩),.int .i64 0])/\SegR w' g P
 | none=>e = .returned (.tuple #[.pointer none,.int .i64 130])
theorem SegO.no {b:List UInt8} (d:Ext w w') (h:openD b=none):SegO w b (.returned (.tuple #[.pointer none,.int .i64 130])) w':=by
 refine⟨d,?_⟩;rw[h]
theorem Ik {p:Addr} (h:Cells w A xs) (d:w.cell? p=some u0) (H:∀v∈xs,v≠u0) (u:Value):Cells (w.setCell p u) A xs:=by
 rcases h with h | ⟨g,o,J,U⟩
 ·exact .inl h
 ·refine .inr ⟨g,o,J,fun i v Y=>?_⟩;have h1:=U i v Y;rw[World.cell?_setCell_other w p _ u (fun e=>by
   rw[e]at d;rw[h1]at d;injection d with d;exact H v (List.mem_of_getElem? Y) d)]
  exact h1
theorem Ly (l:List En):∀v∈encells l,v≠Value.pointer none:=fun v d e=>by
 unfold encells at d;obtain⟨x,_,h⟩:=List.mem_flatMap.1 d;unfold En.cells at h;simp only[List.mem_cons,List.not_mem_nil,or_false]at h;rcases h with rfl | rfl | rfl | rfl <;> cases e
theorem DicR.set {l:List En} (h:DicR w gd l) (d:Row w g 160 cs) (hi:cs[i]? = some (.pointer none)) (u:Value):DicR (w.setCell ⟨g,i,none⟩ u) gd l:=by
 obtain⟨A,c,h1,h2⟩:=h;exact⟨A,c,h1.away (h1.unlike d (by decide)) u,Ik h2 (d.cell i hi) (Ly l) u⟩
theorem FilO.set (h:FilO w b gf f) (d:Row w g 160 cs) (u:Value):FilO (w.setCell ⟨g,i,none⟩ u) b gf f:=by
 obtain⟨b1,c,cur,h1,hb,h2,H,Y,J⟩:=h;exact⟨b1,c,cur,h1.away (h1.unlike d (by decide)) u,hb,h2.away (h2.unlike d (by decide)) u,H,Y,J⟩
theorem EV {ds:List DocC} (h:DocsOk w A ds) (G:m=ds.length) (h0:0<m) (hs:SmP (dcs ds)):∀p∈framesD (dcs ds),p.length<=16777216:=by
 have Y:=hs.seg;have I:(vall (partD (dcs ds))).length<=16777216:=by
  obtain⟨x0,J⟩:∃x,ds[0]? = some x:=⟨_,List.getElem?_eq_getElem (by omega)⟩
  obtain⟨xl,U⟩:∃x,ds[m - 1]? = some x:=⟨_,List.getElem?_eq_getElem (by omega)⟩
  have h1:=C7 G J U;have H:∀d∈dcs ds,I64ok' d.2.at_:=fun d hd=>by
   unfold dcs at hd;obtain⟨x,O,rfl⟩:=List.mem_map.1 hd;exact(h.each x O).2.1
  have q0:=(h.each x0 (List.mem_of_getElem? J)).2;have ql:=(h.each xl (List.mem_of_getElem? U)).2;have hn:m<=65536:=by
   have:=Y.n;unfold dcs at this;rw[List.length_map]at this;omega
  rw[h1];have q1:=E5 (dcs ds) _ q0.1 H;have q2:=Ea (dcs ds) _ q0.1 H;have q5:I64ok' (m:Int):=by unfold I64ok';omega
  have h2:=De [lowD x0.e.at_ (dcs ds),highD x0.e.at_ (dcs ds),x0.seq,xl.seq,(m:Int)] (fun x O=>by
   simp only[List.mem_cons,List.not_mem_nil,or_false]at O;rcases O with rfl | rfl | rfl | rfl | rfl
   ·exact q1
   ·exact q2
   ·exact q0.2
   ·exact ql.2
   ·exact q5) 5
  exact Nat.le_trans h2 (by decide)
 intro p Z;unfold framesD at Z;simp only[List.mem_cons,List.not_mem_nil,or_false]at Z;rcases Z with rfl | rfl | rfl | rfl | rfl | rfl
 ·exact Y.docs
 ·exact Y.times
 ·exact Nat.le_trans Y.posts (by decide)
 ·exact Y.dic
 ·exact Nat.le_trans Y.bits.2 (by decide)
 ·exact I
theorem Ff (A:Option Addr) (n c:Nat) (b:List UInt8) (w:World) (h:In8 w A n c b) (d7:n<=1000000000) (q2:∀P,(splitF (b.drop 4)).2=0->decDs ((splitF (b.drop 4)).1.headD [])=some P->(blockD 0 P).length<=70000) :
 Calls prog 36 #[.slice A n c] w fun e w'=>SegOB w b e w':=by
 have j4:=h.len;obtain⟨k4,x4⟩:∃k:Nat,(k:Int)=min (n:Int) 4:=⟨min n 4,by omega⟩
 have h6:k4<=n:=by omega
 have g7:=fun(W:World)=>AQ (P:=prog) #[3,3] 3 x4 W;obtain⟨f7,h4⟩:=h.headk .i64 h6 (z:=(k4:Int)) rfl;have q4:=fun(W:World) (hE:Ext w W)=>CT (A:=A) (l:=b.take k4) (w:=W) (h4.bytes.ext hE) k4 c h4.len;have r4:b.take k4=b.take 4:=by
  by_cases p6:4<=n
  ·have:k4=4:=by omega
   rw[this]
  ·have:k4=n:=by omega
   rw[this,List.take_of_length_le (by omega),List.take_of_length_le (by omega)]
 have o5:=Tryz.strings_HasPrefix ⟨(b.take k4).toArray⟩ ⟨#[76,83,69,71]⟩ w;obtain⟨hp,j1⟩:=Ab (Lib.hasPrefix (b.take 4) [76,83,69,71]);have q1:Calls prog 71 #[.string ⟨(b.take k4).toArray⟩,.string ⟨#[76,83,69,71]⟩] w fun e w'=>e = .returned (.bool hp)/\w'=w:=by
  rw[j1,<-r4];simpa using o5
 have m1:hp=true↔b.take 4 = [76,83,69,71]:=by
  rw[j1];unfold Lib.hasPrefix;rw[List.isPrefixOf_iff_prefix];constructor
  ·intro t6;exact(t6.eq_of_length_le (by rw[List.length_take];simp;omega)).symm
  ·intro e;rw[e];exact List.prefix_refl _
 have h7:=q4 w (Ext.refl w);replace q1:=Aa q1;replace h:=Aa h;replace q2:=Aa q2;clear o5 q4 h4;have c5:=Aa j4;replace x4:=Aa x4;replace j1:=Aa j1;replace r4:=Aa r4;by_cases a4:hp=true
 ·have x1:=m1.1 a4;subst a4;have p6:4<=n:=by
   have:=congrArg List.length x1;rw[List.length_take]at this;simp at this;omega
  obtain⟨A4,c4,f6,o2⟩:=h.out.from_ (fr:=4) p6 (z:=4) rfl;have t3:=OC A4 (n - 4) c4 (b.drop 4) w o2 (by omega);clear j4;replace t3:=Aa t3;replace o2:=Aa o2;replace x1:=Aa x1;replace m1:=Aa m1
  go_in
  go_wp2_with fail;refine q1.out.mono ?_;rintro e w1 ⟨rfl,rfl⟩;go_wp2_with fail;refine t3.out.mono ?_;rintro e w2 ⟨L,cL,z,ps,rfl,g4,o1,n1,Z⟩;have Y:openD b=if (splitF (b.drop 4)).2=0/\ps.length=6 then (match decDs ((pays ps).headD [])with | some P=>if 0<P.length/\segL P=b then some P else none | none=>none) else none:=by
   unfold openD;rw[if_pos x1.out,<-o1];have:(pays ps).length=ps.length:=List.length_map ..;rw[this]
  have y0:=q2.out;rw[<-o1]at y0;obtain⟨sc,o4⟩:=Ab ((splitF (b.drop 4)).2);rw[<-o4]at Y y0 ⊢;have v0:∀p∈pays ps,p.length<=16777216:=fun p hp=>by rw[o1]at hp;exact(Fl hp).1
  replace o4:=Aa o4;replace y0:=Aa y0;replace v0:=Aa v0;obtain⟨np,i3⟩:=Ab ps.length;rw[<-i3]at Y ⊢;replace i3:=Aa i3;replace g4:=Aa g4;replace o1:=Aa o1;replace n1:=Aa n1;by_cases j3:sc=0
  ·by_cases j6:np=6
   ·subst j3;subst j6;rw[if_pos ⟨rfl,rfl⟩]at Y;obtain⟨⟨A0,k0,b0,z0⟩,⟨A1,k1,b1,z1⟩,⟨A2,k2,b2,z2⟩,⟨A3,k3,b3,z3⟩,⟨A4',k4',b4,z4⟩,⟨A5,k5,b5,z5⟩,v6⟩:∃p0 p1 p2 p3 p4 p5:Pay,ps = [p0,p1,p2,p3,p4,p5]:=by
     have:=i3.out
     match ps,this with
     | [p0,p1,p2,p3,p4,p5],_=>exact⟨p0,p1,p2,p3,p4,p5,rfl⟩
    subst v6;obtain⟨gl,ol,hL,y2⟩:=g4.out.at_ (by simp);subst hL;have l0:=y2 0 (.slice A0 b0.length k0) rfl;have l2:=y2 2 (.slice A2 b2.length k2) rfl;have l3:=y2 3 (.slice A3 b3.length k3) rfl;have l4:=y2 4 (.slice A4' b4.length k4') rfl;rw[Nat.add_zero]at l0;have i4:(pays [(A0,k0,b0,z0),(A1,k1,b1,z1),(A2,k2,b2,z2),(A3,k3,b3,z3),(A4',k4',b4,z4),(A5,k5,b5,z5)]).headD []=b0:=rfl;rw[i4]at Y;have r3:=fun P hP=>y0.out P rfl (by rw[i4];exact hP);have r5:In8 w2 A0 b0.length k0 b0:=by obtain⟨bb,hb⟩:=n1.out (A0,k0,b0,z0) (by simp);exact hb.in8
    have i6:=v0.out b0 (by simp[pays]);have g0:=JA A0 b0.length k0 b0 w2 r5 (by omega);obtain⟨D,hD⟩:=Ab (decDs b0);have r0:=fun P (h:decDs b0=some P)=>Iq h;rw[<-hD]at g0 Y r0;have m3:∀P,D=some P->(blockD 0 P).length<=70000:=fun P hP=>r3 P (by rw[<-hD];exact hP);obtain⟨n0,d4⟩:=Ab b0.length;rw[<-d4]at g0 l0;replace hD:=Aa hD;replace r0:=Aa r0;replace g0:=Aa g0;replace Y:=Aa Y;replace m3:=Aa m3;replace d4:=Aa d4;clear y2 r3 r5 i6 i4;go_wp2_with fail;refine g0.out.mono ?_;rintro e w3 ⟨q0,d1⟩;cases D with
    | none =>
     simp only at d1;subst d1;have d:openD b=none:=Y.out;replace d:=Aa d;go_wp2_with fail;go_ret2;exact SegOB.no (Z.trans q0) d.out
    | some P =>
     simp only at d1;obtain⟨ds,Ad,cd,i1,rfl,a1⟩:=d1;obtain⟨g6,b7⟩:=r0.out P rfl;have y6:=m3.out P rfl;have x5:P.length=ds.length:=by rw[<-i1];exact List.length_map ..
     have d2:=a1.ok;have G:=a1.cap;have o0:=Z.trans q0;have U:openD b=if 0<P.length/\segL P=b then some P else none:=Y.out;obtain⟨m,hm⟩:=Ab ds.length;rw[<-hm]at G x5 ⊢;rw[x5]at U;by_cases l6:m=0
     ·have d:openD b=none:=by rw[U,if_neg (fun e=>by omega)]
      subst l6;have t0:=Fe ds Ad 0 cd w3 hm d2 G.2 G.1 (by omega) (.inr rfl);replace t0:=Aa t0;replace d:=Aa d;replace hm:=Aa hm;clear U G a1 d2;go_wp2_with fail;refine t0.out.mono ?_;rintro e w4 ⟨rfl,H⟩;go_wp2_with fail;go_ret2;exact SegOB.no (o0.trans H) d.out
     ·have q2:SmP (dcs ds):=by rw[i1];exact⟨g6,y6⟩
      have t0:=CY ds Ad m cd w3 hm d2 G.2 G.1 q2 (by omega);rw[i1]at t0;have hB:=(SmP.mk g6 y6).seg;replace t0:=Aa t0;replace hm:=Aa hm;replace U:=Aa U;replace hB:=Aa hB;go_wp2_with fail;refine t0.out.mono ?_;rintro e w4 ⟨A9,c9,rfl,v5,H⟩;obtain⟨n9,e3⟩:=Ab ((segL P).length);rw[<-e3]at v5 ⊢;have x6:=CT (A:=A9) (l:=segL P) (w:=w4) v5.2.cells n9 c9 e3;have x7:=CT (A:=A) (l:=b) (w:=w4) ((h.out.ext (o0.trans H)).bytes) n c c5.out;replace e3:=Aa e3;by_cases e2:segL P=b
      ·rw[e2]at x6;have p7:=o0.trans H;have x3:openD b=some P:=by rw[U.out,if_pos ⟨by omega,e2⟩]
       obtain⟨x0,h5⟩:∃x,ds[0]? = some x:=⟨_,List.getElem?_eq_getElem (by have:=hm.out;omega)⟩
       obtain⟨xl,q5⟩:∃x,ds[m - 1]? = some x:=⟨_,List.getElem?_eq_getElem (by have:=hm.out;omega)⟩
       have q3:=C7 hm.out h5 q5;obtain⟨lo,y4⟩:∃z,z=lowD x0.e.at_ (dcs ds):=⟨_,rfl⟩
       obtain⟨i2,v4⟩:∃z,z=highD x0.e.at_ (dcs ds):=⟨_,rfl⟩
       rw[<-y4,<-v4]at q3;have o6:m<=1000000:=by have:=hB.out.n;omega
       have O:=fun X (hx:Ext w4 X)=>K4 ds Ad m cd X hm.out (d2.ext (H.trans hx)) o6 (by omega);rw[q3]at O;have m6:prtA [lo,i2,x0.seq,xl.seq,(m:Int)]=#[.int .i64 0,.int .i64 0,.int .i64 lo,.int .i64 i2,.int .i64 x0.seq,.int .i64 xl.seq,.int .i64 (m:Int)]:=rfl;rw[m6]at O;obtain⟨bb2,y5⟩:=n1.out (A2,k2,b2,z2) (by simp);simp only at y5;have m2:=y5.ext (q0.trans H);have q6:=v0.out b2 (by simp[pays]);obtain⟨n2,h3⟩:=Ab b2.length;rw[<-h3]at m2 l2 q6;have h0:=fun X (hx:Ext w4 X)=>Cr A2 n2 k2 b2 X h3 (m2.ext hx).cells (MN m2) (by omega);have lx2:=(q0.trans H).cell l2;replace q3:=Aa q3;replace y4:=Aa y4;replace v4:=Aa v4;replace h5:=Aa h5;replace q5:=Aa q5;replace O:=Aa O;replace h0:=Aa h0;replace h3:=Aa h3;replace x3:=Aa x3;clear m6;go_upto_region 12 with fail
       go_cut [10] (fun s10 wy=>∃g BC cC,s10 = .pointer (some ⟨g,0,none⟩)/\Hid (Row wy g 160 #[.slice Ad m cd,.int .i64 0,.int .i64 0,.int .i64 lo,.int .i64 i2,.int .i64 x0.seq,.int .i64 xl.seq,.int .i64 (m:Int),.pointer none,.slice BC n2 cC,.pointer none])/\Hid (Buf wy w4.heap.size 5 BC n2 cC (b2.map B8))/\Hid (Ext w4 wy)/\w4.heap.size<=g)
       case first =>
        have hX:Hid (Ext w4 w4):=Aa (Ext.refl w4)
        go_region_held3 (fun x=>x.cell? ⟨gl,ol+2,none⟩=some (.slice A2 n2 k2))
         (exact(hX.out.trans (by(first | with_reducible exact Ext.refl _ | with_reducible exact Ext.drew (Ext.refl _) | with_reducible exact Ext.alloc (Ext.refl _) _ | with_reducible exact Ext.drew (Ext.alloc (Ext.refl _) _) | with_reducible exact Ext.alloc (Ext.drew (Ext.refl _)) _ | with_reducible exact Ext.alloc (Ext.alloc (Ext.refl _) _) _ | with_reducible exact Ext.drew (Ext.alloc (Ext.alloc (Ext.refl _) _) _)))).cell lx2)
         (first
         | (go_at_call 74;refine(O.out _ (hX.out.trans (by(first | with_reducible exact Ext.refl _ | with_reducible exact Ext.drew (Ext.refl _) | with_reducible exact Ext.alloc (Ext.refl _) _ | with_reducible exact Ext.drew (Ext.alloc (Ext.refl _) _) | with_reducible exact Ext.alloc (Ext.drew (Ext.refl _)) _ | with_reducible exact Ext.alloc (Ext.alloc (Ext.refl _) _) _ | with_reducible exact Ext.drew (Ext.alloc (Ext.alloc (Ext.refl _) _) _))))).mono ?_;rintro e w9 ⟨rfl,e1⟩;(try replace c0:=Aa (c0.out.ext (Ext.trans (by(first | with_reducible exact Ext.refl _ | with_reducible exact Ext.drew (Ext.refl _) | with_reducible exact Ext.alloc (Ext.refl _) _ | with_reducible exact Ext.drew (Ext.alloc (Ext.refl _) _) | with_reducible exact Ext.alloc (Ext.drew (Ext.refl _)) _ | with_reducible exact Ext.alloc (Ext.alloc (Ext.refl _) _) _ | with_reducible exact Ext.drew (Ext.alloc (Ext.alloc (Ext.refl _) _) _))) e1)));replace hX:=Aa (hX.out.trans (Ext.trans (by(first | with_reducible exact Ext.refl _ | with_reducible exact Ext.drew (Ext.refl _) | with_reducible exact Ext.alloc (Ext.refl _) _ | with_reducible exact Ext.drew (Ext.alloc (Ext.refl _) _) | with_reducible exact Ext.alloc (Ext.drew (Ext.refl _)) _ | with_reducible exact Ext.alloc (Ext.alloc (Ext.refl _) _) _ | with_reducible exact Ext.drew (Ext.alloc (Ext.alloc (Ext.refl _) _) _))) e1));clear e1)
         | (go_at_call 75;refine(h0.out _ (hX.out.trans (by(first | with_reducible exact Ext.refl _ | with_reducible exact Ext.drew (Ext.refl _) | with_reducible exact Ext.alloc (Ext.refl _) _ | with_reducible exact Ext.drew (Ext.alloc (Ext.refl _) _) | with_reducible exact Ext.alloc (Ext.drew (Ext.refl _)) _ | with_reducible exact Ext.alloc (Ext.alloc (Ext.refl _) _) _ | with_reducible exact Ext.drew (Ext.alloc (Ext.alloc (Ext.refl _) _) _))))).mono ?_;rintro e w9 ⟨BC,cC,rfl,c0,e1⟩;have c0:=Aa (c0.lower (hX.out.trans (by(first | with_reducible exact Ext.refl _ | with_reducible exact Ext.drew (Ext.refl _) | with_reducible exact Ext.alloc (Ext.refl _) _ | with_reducible exact Ext.drew (Ext.alloc (Ext.refl _) _) | with_reducible exact Ext.alloc (Ext.drew (Ext.refl _)) _ | with_reducible exact Ext.alloc (Ext.alloc (Ext.refl _) _) _ | with_reducible exact Ext.drew (Ext.alloc (Ext.alloc (Ext.refl _) _) _)))).size);replace hX:=Aa (hX.out.trans (Ext.trans (by(first | with_reducible exact Ext.refl _ | with_reducible exact Ext.drew (Ext.refl _) | with_reducible exact Ext.alloc (Ext.refl _) _ | with_reducible exact Ext.drew (Ext.alloc (Ext.refl _) _) | with_reducible exact Ext.alloc (Ext.drew (Ext.refl _)) _ | with_reducible exact Ext.alloc (Ext.alloc (Ext.refl _) _) _ | with_reducible exact Ext.drew (Ext.alloc (Ext.alloc (Ext.refl _) _) _))) e1));clear e1))
        all_goals (go_wp2_with fail)
        all_goals go_meet
        all_goals (case rel=>exact⟨_,_,_,rfl,Aa (Row.new _ _ _),Aa (c0.out.ext ((Ext.refl _).alloc _)),Aa (hX.out.trans ((Ext.refl _).alloc _)),hX.out.size⟩)
       case rest =>
        obtain⟨g,BC,cC,rfl,w6,c0,t5,t4⟩:=hcut;have J : [b0,b1,b2,b3,b4,b5]=framesD P:=by
         have h1:=o1.out;rw[<-e2]at h1;have h2:(segL P).drop 4=joinL (framesD P):=rfl;rw[h2,CW _ (by rw[<-i1];exact EV d2 hm.out (by omega) q2)]at h1;exact h1
        unfold framesD at J;injection J with f0 J;injection J with f1 J;injection J with f2 J;injection J with f3 J;injection J with f4 J;have i0:=(q0.trans H).trans t5.out;have lx3:=i0.cell l3;obtain⟨bb3,a3⟩:=n1.out (A3,k3,b3,z3) (by simp);obtain⟨bb4,d3⟩:=n1.out (A4',k4',b4,z4) (by simp);simp only at a3 d3;have j7:gl<w4.heap.size:=by
         have h1:=World.block_lt_of_cell? w2 _ l3;have h2:=(q0.trans H).size;simp only at h1;omega
        have c7:b3.length<=16777216:=v0.out b3 (by simp[pays]);have y1:=Ls A3 b3.length k3 b3 wc (enOf 0 (rowsD P)) (a3.ext i0).in8 hB.out.ens f3 (by omega);have x2:8<=b4.length/\b4.length<=131072:=by rw[f4];exact hB.out.bits
        obtain⟨n3,e4⟩:=Ab b3.length;obtain⟨n4,I⟩:=Ab b4.length;rw[<-e4]at lx3 y1;have lx4:=i0.cell l4;rw[<-I]at lx4 x2;replace e4:=Aa e4;replace I:=Aa I;replace y1:=Aa y1;replace i0:=Aa i0;replace f2:=Aa f2;replace f3:=Aa f3;replace f4:=Aa f4;replace d3:=Aa d3;replace a3:=Aa a3;clear f0 f1 J l0 l2 l3 l4 lx2;go_wp2_with fail;refine y1.out.mono ?_;rintro e w5 ⟨gd,rfl,a2,d0⟩;have r1:=w6.out.ext d0;have y8:=r1.cell 8 rfl;have z8:=r1.free 8;have lx45:=d0.cell lx4;have e7:gl≠g:=by omega
        have t7:g≠gl:=by omega
        replace a2:=Aa a2;replace r1:=Aa r1;replace d0:=Aa d0;clear lx3 lx4;go_wp2_with fail;obtain⟨W6,j0⟩:=Ab (w5.setCell ⟨g,8,none⟩ (.pointer (some ⟨gd,0,none⟩)));rw[<-j0];have l5:w2.heap.size<=g:=Nat.le_trans (q0.trans H).size t4;have j2:Ext w2 W6:=by rw[j0];exact(i0.out.trans d0.out).setCell (p:=⟨g,8,none⟩) l5 _
        have m5:Ext w3 W6:=by rw[j0];exact((H.trans t5.out).trans d0.out).setCell (p:=⟨g,8,none⟩) (Nat.le_trans H.size t4) _
        have r6:Row W6 g 160 #[.slice Ad m cd,.int .i64 0,.int .i64 0,.int .i64 lo,.int .i64 i2,.int .i64 x0.seq,.int .i64 xl.seq,.int .i64 (m:Int),.pointer (some ⟨gd,0,none⟩),.slice BC n2 cC,.pointer none]:=by rw[j0];exact r1.out.put 8 _
        have d6:=Aa (show DicO W6 wc.heap.size gd (enOf 0 (rowsD P))by rw[j0];exact a2.out.chg (Chg.of_set (S:=fun q=>q=g) w5 _ rfl) (fun q e=>by subst e;exact⟨_,_,r1.out,by decide,by decide⟩));have a5:=c0.out.ext d0.out;have c6:Buf W6 w4.heap.size 5 BC n2 cC (b2.map B8):=by rw[j0];exact a5.setCell (a5.unlike r1.out (by decide)) _
        have m0:=NO A4' b4.length k4' b4 W6 (d3.out.ext j2).in8 (by rw[<-I.out];exact x2.1) (by rw[<-I.out];exact x2.2);rw[<-I.out]at m0;replace m0:=Aa m0;replace j0:=Aa j0;refine m0.out.mono ?_;rintro e w7 ⟨gf,rfl,_,m4,e0⟩;have r7:=r6.ext e0;have y10:=r7.cell 10 rfl;have z10:=r7.free 10;replace m4:=Aa m4;replace r7:=Aa r7;replace e0:=Aa e0;clear r1 r6 m0 y8 z8 lx45;go_wp2_with fail;go_ret2;have n5:=Nat.le_trans Z.size l5;have r8:=r7.out.put 10 (.pointer (some ⟨gf,0,none⟩));have d5:=c6.ext e0.out;have e5:=d5.setCell (p:=⟨g,10,none⟩) (d5.unlike r7.out (by decide)) (.pointer (some ⟨gf,0,none⟩));have e6:=(d6.out.ext e0.out).chg (Chg.of_set (S:=fun q=>q=g) w7 (a:=⟨g,10,none⟩) (.pointer (some ⟨gf,0,none⟩)) rfl) (fun q e=>by subst e;exact⟨_,_,r7.out,by decide,by decide⟩);have i5:=m4.out.set r7.out (i:=10) (.pointer (some ⟨gf,0,none⟩));have f5:=a1.ext ((m5.trans e0.out).setCell (p:=⟨g,10,none⟩) (Nat.le_trans H.size t4) (.pointer (some ⟨gf,0,none⟩)));refine⟨(Z.trans (j2.trans e0.out)).setCell (p:=⟨g,10,none⟩) n5 _,?_⟩;rw[x3.out];have n6:=hm.out;have o3:n2=(postB (rowsD P)).length:=by rw[h3.out,f2.out]
        rw[o3,f2.out]at e5;rw[f4.out]at i5;subst n6;rw[o3]at r8;refine⟨g,rfl,ds,Ad,cd,lo,i2,x0.seq,xl.seq,BC,cC,gd,gf,r8,i1,by rw[<-i1];exact q3.out,f5.lower Z.size,e6.lower ?b1,e5.lower ?b2,i5.lower ?b3⟩
        ·exact Nat.le_trans Z.size i0.out.size
        ·exact Nat.le_trans Z.size (q0.trans H).size
        ·exact Nat.le_trans Z.size j2.size
      ·have d:openD b=none:=by rw[U.out,if_neg (fun e=>e2 e.2)]
       have a7:(segL P==b)=false:=beq_eq_false_iff_ne.2 e2;replace d:=Aa d;go_wp2_with fail;go_ret2;exact SegOB.no (o0.trans H) d.out
   ·have d:openD b=none:=by rw[Y,if_neg (fun e=>j6 e.2)]
    have m7:((np:Int)==6)=false:=by simp;omega
    subst j3;replace d:=Aa d;clear Y;go_wp2_with fail;go_ret2;exact SegOB.no Z d.out
  ·have d:openD b=none:=by rw[Y,if_neg (fun e=>j3 e.1)]
   have v7:((sc:Int)==0)=false:=by simp;omega
   replace d:=Aa d;clear Y;go_wp2_with fail;go_ret2;exact SegOB.no Z d.out
 ·have d:openD b=none:=by
   unfold openD;rw[if_neg (fun e=>a4 (m1.2 e))]
  replace d:=Aa d;clear j4
  go_in
  go_wp2_with fail;refine q1.out.mono ?_;rintro e w1 ⟨rfl,rfl⟩;go_wp2_with fail;go_ret2;exact SegOB.no (Ext.refl _) d.out
theorem KW (A:Option Addr) (n c:Nat) (b:List UInt8) (w:World) (h:In8 w A n c b) (H:n<=1000000000) (Y:∀P,(splitF (b.drop 4)).2=0->decDs ((splitF (b.drop 4)).1.headD [])=some P->(blockD 0 P).length<=70000) :
 Calls prog 36 #[.slice A n c] w fun e w'=>SegO w b e w' :=
 (Ff A n c b w h H Y).mono fun e w' d=>by
  obtain⟨J,d⟩:=d;refine⟨J,?_⟩;split at d
  ·obtain⟨g,h1,h2⟩:=d;exact⟨g,h1,h2.seg⟩
  ·exact d
end
section
open Go.RowKit Go.Maps
theorem SegR.ext {P:List Dc} (h:SegR w g P) (d:Ext w w1):SegR w1 g P:=by
 obtain⟨ds,A,c,lo,hi,fi,la,B,cB,gd,gf,h1,h2,H,Y,J,U,O⟩:=h;exact⟨ds,A,c,lo,hi,fi,la,B,cB,gd,gf,h1.ext d,h2,H,Y.ext d,J.ext d,U.ext d,O.ext d⟩
theorem M5 (g n c:Nat) (A:Option Addr) (w:World) (h:w.cell? ⟨g,0,none⟩=some (.slice A n c)) (Y:0<n) (d:n<=1000000000):Calls prog 78 #[.pointer (some ⟨g,0,none⟩)] w fun e w'=>e = .returned (.bool false)/\w'=w:=by
 have H:((n:Int)==0)=false:=by simp;omega
 go_in
 go_wp2_with fail;go_ret;exact⟨by simp,rfl⟩
theorem Fh (g:Nat) (P:List Dc) (w:World) (h:SegR w g P) (Y:0<P.length) (d:P.length<=1000000000):Calls prog 79 #[.pointer (some ⟨g,0,none⟩)] w fun e w'=>e = .returned (.int .i64 (P.length:Int))/\w'=w:=by
 obtain⟨ds,A,c,lo,hi,fi,la,B,cB,gd,gf,h1,h2,_⟩:=h;have H:P.length=ds.length:=by rw[<-h2];exact List.length_map ..
 rw[H]at Y d ⊢;have k0:=h1.cell 0 rfl;have J:=Aa (M5 g ds.length c A w k0 Y d);replace h1:=Aa h1;replace H:=Aa H;replace h2:=Aa h2
 go_in
 go_wp2_with fail;refine J.out.mono ?_;rintro e w1 ⟨rfl,rfl⟩;go_wp2_with fail;go_ret;exact⟨rfl,rfl⟩
end
section
open Go.RowKit Go.Maps
structure SegP (P:List Dc):Prop where
  sm:SmP P
  ne:0<P.length
theorem SegP.few {P:List Dc} (h:SegP P):P.length<=1000000000:=by have:=h.sm.seg.n;omega
theorem SegR.none {P:List Dc} (h:SegR w g P) (d:SegP P):Calls prog 78 #[.pointer (some ⟨g,0,none⟩)] w fun e w'=>e = .returned (.bool false)/\w'=w:=by
 have H:=d.few;have J:=d.ne;obtain⟨ds,A,c,lo,hi,fi,la,B,cB,gd,gf,h1,h2,_⟩:=h;have Y:P.length=ds.length:=by rw[<-h2];exact List.length_map ..
 exact M5 g ds.length c A w (h1.cell 0 rfl) (by omega) (by omega)
theorem I8 (g:Nat) (P:List Dc) (w:World) (h:SegR w g P) (hP:SegP P):Calls prog 37 #[.pointer (some ⟨g,0,none⟩)] w fun e w'=>e = .returned (.agg (prtA (partD P)))/\Ext w w':=by
 have hn:=Aa (fun W (hE:Ext w W)=>(h.ext hE).none hP);obtain⟨ds,A,c,lo,hi,fi,la,B,cB,gd,gf,h1,h2,G,h4,h5,h6,h7⟩:=h;obtain⟨W,Z⟩:=Ab (w.alloc (Obj.cells #[.int .i64 0,.int .i64 0,.int .i64 0,.int .i64 0,.int .i64 0,.int .i64 0,.int .i64 0] 24));have O:Ext w W:=by rw[Z];exact(Ext.refl w).alloc _
 have H:Row W w.heap.size 24 #[.int .i64 0,.int .i64 0,.int .i64 0,.int .i64 0,.int .i64 0,.int .i64 0,.int .i64 0]:=by rw[Z];exact Row.new w _ _
 have d:=h1.ext O;have k1:=d.cell 1 rfl;have k2:=d.cell 2 rfl;have k3:=d.cell 3 rfl;have k4:=d.cell 4 rfl;have k5:=d.cell 5 rfl;have k6:=d.cell 6 rfl;have k7:=d.cell 7 rfl;have f0:=H.free 0;have f1:=H.free 1;have f2:=H.free 2;have f3:=H.free 3;have f4:=H.free 4;have f5:=H.free 5;have f6:=H.free 6;have c0:=H.cell 0 rfl;have c1:=H.cell 1 rfl;have c2:=H.cell 2 rfl;have c3:=H.cell 3 rfl;have c4:=H.cell 4 rfl;have c5:=H.cell 5 rfl;have c6:=H.cell 6 rfl;replace h1:=Aa h1;replace d:=Aa d;replace H:=Aa H;replace G:=Aa G;replace Z:=Aa Z;clear h4 h5 h6 h7;obtain⟨bg,J⟩:=Ab w.heap.size;rw[<-J]at H f0 f1 f2 f3 f4 f5 f6 c0 c1 c2 c3 c4 c5 c6;have Y:w.heap.size<=bg:=Nat.le_of_eq J.symm;replace J:=Aa J;obtain⟨nn,U⟩:=Ab ((ds.length:Int):Int);rw[<-U]at k7;replace U:=Aa U
 go_in
 go_wp2_with fail;rw[<-Z.out,<-J.out];refine(hn.out _ O).mono ?_;rintro e w1 ⟨rfl,q0⟩;subst q0;go_wp2_with fail;have h0:=((((((H.out.put 0 (.int .i64 0)).put 1 (.int .i64 0)).put 2 (.int .i64 lo)).put 3 (.int .i64 hi)).put 4 (.int .i64 fi)).put 5 (.int .i64 la)).put 6 (.int .i64 nn);have I:=((((((O.setCell (p:=⟨bg,0,none⟩) Y (.int .i64 0)).setCell (p:=⟨bg,1,none⟩) Y (.int .i64 0)).setCell (p:=⟨bg,2,none⟩) Y (.int .i64 lo)).setCell (p:=⟨bg,3,none⟩) Y (.int .i64 hi)).setCell (p:=⟨bg,4,none⟩) Y (.int .i64 fi)).setCell (p:=⟨bg,5,none⟩) Y (.int .i64 la)).setCell (p:=⟨bg,6,none⟩) Y (.int .i64 nn);refine bodyPost_ret (Fa rfl _ _ bg #[.int .i64 0,.int .i64 0,.int .i64 lo,.int .i64 hi,.int .i64 fi,.int .i64 la,.int .i64 nn] rfl (run_loadVar_row _ bg 24 24 _ (0,0) _ h0 underlying24 rfl (by kernel_rfl))) rfl ⟨?_,I⟩;rw[G.out,<-U.out];rfl
end
section
open Go.RowKit
theorem FI {P:List Dc} (h:SegP P) (H:∀p∈framesD P,p.length<=16777216) (J:∀d∈P,I64ok' d.2.at_):openD (segL P)=some P:=by
 have h1:(segL P).take 4 = [76,83,69,71]:=rfl;have h2:(segL P).drop 4=joinL (framesD P):=rfl;have Y:=J1 h.sm.ok J (by have:=h.sm.sz;omega);unfold openD;rw[if_pos h1,h2,CW _ H,if_pos ⟨rfl,rfl⟩];show (match decDs (encDs P)with | some Q=>if 0<Q.length/\segL Q=segL P then some Q else none | none=>none)=some P;rw[Y];show (if 0<P.length/\segL P=segL P then some P else none)=some P;rw[if_pos ⟨h.ne,rfl⟩]
theorem NJ {b:List UInt8} (hb:b.length<=60000) (P:List Dc) (h:decDs ((splitF (b.drop 4)).1.headD [])=some P):(blockD 0 P).length<=70000:=by
 have h1:=Iq h;have h2:((splitF (b.drop 4)).1.headD []).length<=b.length:=by
  cases hs:(splitF (b.drop 4)).1 with
  | nil=>simp
  | cons p t =>
   have:=(Fl (l:=b.drop 4) (p:=p) (by rw[hs];exact List.mem_cons_self ..)).2;rw[List.length_drop]at this;simp only[List.headD_cons];omega
 rw[<-h1.2]at h2;unfold encDs at h2;simp only[List.length_append]at h2;omega
end
section
open Go.RowKit Go.Maps
def NobP (w:World) (s:Value):Prop:=s = .pointer none\/∃g,s = .pointer (some ⟨g,0,none⟩)/\w.cell? ⟨g,0,none⟩=some .nilIface
theorem NobP.ext {s:Value} (h:NobP w s) (d:Ext w w1):NobP w1 s:=by
 rcases h with h | ⟨g,h,H⟩
 ·exact .inl h
 ·exact .inr ⟨g,h,d.cell H⟩
theorem C5 (s:Value) (w:World) (h:NobP w s):Calls prog 42 #[s] w fun e w'=>e = .returned (.bool true)/\w'=w:=by
 have d:∀W:World,(binOp .eql 58 .nilIface .nilIface).run prog W = .ok (.bool true) W:=fun _=>rfl;rcases h with rfl | ⟨g,rfl,H⟩
 ·go_in
  go_wp2_with fail;go_ret;exact⟨rfl,rfl⟩
 ·go_in
  go_wp2_with fail;go_ret;exact⟨rfl,rfl⟩
theorem U1 (s:Value) (w:World) (h:NobP w s):Calls prog 21 #[s] w fun e w'=>e = .returned (.int .i64 0)/\w'=w:=by
 have d:=Aa (C5 s w h)
 go_in
 go_wp2_with fail;refine d.out.mono ?_;rintro e w1 ⟨rfl,rfl⟩;go_wp2_with fail;go_ret;exact⟨rfl,rfl⟩
theorem P3 (s:Value) (t:ByteArray) (w:World) (h:NobP w s):Calls prog 18 #[s,.string t] w fun e w'=>e = .returned (.slice none 0 0)/\w'=w:=by
 have d:=Aa (C5 s w h)
 go_in
 go_wp2_with fail;refine d.out.mono ?_;rintro e w1 ⟨rfl,rfl⟩;go_wp2_with fail;go_ret;exact⟨rfl,rfl⟩
theorem Pl (s:Value) (t:ByteArray) (w:World) (h:NobP w s):Calls prog 19 #[s,.string t] w fun e w'=>e = .returned (.slice none 0 0)/\w'=w:=by
 have d:=Aa (C5 s w h)
 go_in
 go_wp2_with fail;refine d.out.mono ?_;rintro e w1 ⟨rfl,rfl⟩;go_wp2_with fail;go_ret;exact⟨rfl,rfl⟩
theorem UX (s:Value) (w:World) (h:NobP w s):Calls prog 14 #[s] w fun e w'=>e = .returned (.slice none 0 0)/\w'=w:=by
 have d:=Aa (C5 s w h)
 go_in
 go_wp2_with fail;refine d.out.mono ?_;rintro e w1 ⟨rfl,rfl⟩;go_wp2_with fail;go_ret;exact⟨rfl,rfl⟩
theorem UZ (s:Value) (w:World) (h:NobP w s):Calls prog 12 #[s] w fun e w'=>e = .returned (.agg #[.int .i64 0,.int .i64 0,.int .i64 0,.int .i64 0,.int .i64 0,.int .i64 0,.int .i64 0])/\Ext w w':=by
 have Y:=Aa (fun W (H:Ext w W)=>C5 s W (h.ext H));have d:Ext w (w.alloc (Obj.cells #[.int .i64 0,.int .i64 0,.int .i64 0,.int .i64 0,.int .i64 0,.int .i64 0,.int .i64 0] 24)):=(Ext.refl w).alloc _;have J:Row (w.alloc (Obj.cells #[.int .i64 0,.int .i64 0,.int .i64 0,.int .i64 0,.int .i64 0,.int .i64 0,.int .i64 0] 24)) w.heap.size 24 #[.int .i64 0,.int .i64 0,.int .i64 0,.int .i64 0,.int .i64 0,.int .i64 0,.int .i64 0]:=Row.new w _ _
 go_in
 go_wp2_with fail;refine(Y.out _ d).mono ?_;rintro e w1 ⟨rfl,rfl⟩;go_wp2_with fail;exact bodyPost_ret (Fa rfl _ _ w.heap.size #[.int .i64 0,.int .i64 0,.int .i64 0,.int .i64 0,.int .i64 0,.int .i64 0,.int .i64 0] rfl (run_loadVar_row _ w.heap.size 24 24 _ (0,0) _ J underlying24 rfl (by kernel_rfl))) rfl ⟨rfl,d⟩
theorem UY (s:Value) (k fa tb:Int) (w:World) (h:NobP w s):Calls prog 20 #[s,.agg #[.int .i64 k,.string ⟨#[]⟩,.slice none 0 0,.slice none 0 0],.int .i64 fa,.int .i64 tb] w fun e w'=>e = .returned (.slice none 0 0)/\Ext w w':=by
 have H:=Aa (fun W (d:Ext w W)=>C5 s W (h.ext d))
 go_in
 go_wp2_with fail;refine(H.out _ (by first | exact Ext.refl _ | exact(Ext.refl _).alloc _)).mono ?_;rintro e w1 ⟨rfl,rfl⟩;go_wp2_with fail;go_ret;exact⟨rfl,by first | exact Ext.refl _ | exact(Ext.refl _).alloc _⟩
theorem U2 (s:Value) (A:Option Addr) (n c:Nat) (l:List (List UInt8)) (w:World) (h:NobP w s) (Y:Cells w A (l.map strV)) (J:n=l.length) (O:n<=6):Calls prog 22 #[s,.slice A n c] w fun e w'=>e = .returned (.bool (decide (n=0)))/\w'=w:=by
 have d:=Aa (C5 s w h);have h1:0<n->∃g o u,A=some ⟨g,o,none⟩/\w.cell? ⟨g,o,none⟩=some u:=fun H=>by
  obtain⟨g,o,rfl,Z⟩:=Y.at_ (by rw[List.length_map];omega);obtain⟨u,U⟩:∃u,(l.map strV)[0]? = some u:=⟨_,List.getElem?_eq_getElem (by rw[List.length_map];omega)⟩
  exact⟨g,o,u,rfl,by simpa using Z 0 u U⟩
 clear Y;replace J:=Aa J
 go_in
 go_wp2_with fail
 go_loopw [9] (fun s9 wr=>s9 = .int .i64 0/\wr=w) (fun _ _=>0)
 case atStart=>exact⟨rfl,rfl⟩
 case round =>
  obtain⟨rfl,rfl⟩:=hrel;by_cases H:0<n
  ·obtain⟨g,o,u,rfl,U⟩:=h1 H;have hd:decide (n=0)=false:=decide_eq_false (by omega);replace hd:=Aa hd;go_wp2_with fail;refine d.out.mono ?_;rintro e w1 ⟨rfl,rfl⟩;go_wp2_with fail;go_ret;exact⟨by rw[hd.out];rfl,rfl⟩
  ·obtain rfl:n=0:=by omega
   go_wp2_with fail;go_ret;exact⟨rfl,rfl⟩
def NobI (w:World) (s:Value):Prop:=s = .pointer none\/∃g,s = .pointer (some ⟨g,0,none⟩)/\w.cell? ⟨g,4,none⟩=some (.map none)
theorem Ps (s:Value) (w:World) (h:NobI w s):Calls prog 54 #[s] w fun e w'=>e = .returned (.bool true)/\w'=w:=by
 have d:∀W:World,(binOp .eql 54 (.map none) (.map none)).run prog W = .ok (.bool true) W:=fun _=>rfl;rcases h with rfl | ⟨g,rfl,H⟩
 ·go_in
  go_wp2_with fail;go_ret;exact⟨rfl,rfl⟩
 ·go_in
  go_wp2_with fail;go_ret;exact⟨rfl,rfl⟩
theorem T2 (s:Value) (w:World) (h:NobI w s):Calls prog 45 #[s] w fun e w'=>e = .returned (.pointer none)/\w'=w:=by
 have d:=Aa (Ps s w h)
 go_in
 go_wp2_with fail;refine d.out.mono ?_;rintro e w1 ⟨rfl,rfl⟩;go_wp2_with fail;go_ret;exact⟨rfl,rfl⟩
theorem T1 (s:Value) (w:World) (h:NobI w s):Calls prog 16 #[s] w fun e w'=>e = .returned (.tuple #[.pointer none,.int .i64 4])/\w'=w:=by
 have d:=Aa (T2 s w h)
 go_in
 go_wp2_with fail;refine d.out.mono ?_;rintro e w1 ⟨rfl,rfl⟩;go_wp2_with fail;go_ret2;exact⟨rfl,rfl⟩
end
section
open Go.RowKit Go.Maps
theorem N4 (A:Option Addr) (n c:Nat) (l:List (List UInt8)) (w:World) (hc:Cells w A (l.map strV)) (hn:n=l.length) (f0:n<=9223372036854775807) (hs:∀s∈l,s.length<=9223372036854775807) :
 Calls prog 17 #[.slice A n c] w fun e w'=>∃(A2:Option Addr) (n2 c2:Nat) (l2:List (List UInt8)),e = .returned (.slice A2 n2 c2)/\n2=l2.length/\n2<=6/\Cells w' A2 (l2.map strV)/\Ext w w':=by
 replace hc:=Aa hc;replace hn:=Aa hn
 go_in
 go_wp2_with fail
 go_loopw [3,4] (fun s3 s4 wr=>∃(i cT:Nat) (TA:Option Addr) (L:List (List UInt8)),s4 = .int .i64 (i:Int)/\s3 = .slice TA i cT/\i<=6/\i<=n/\Hid (i=L.length)/\Hid (wr.ownsRow w.heap.size 9 1 (.slice TA i cT) i (L.map strV))/\Hid (Ext w wr)) (fun _ s4 _=>6 - (intOf s4).toNat)
 case atStart=>exact⟨0,0,none,[],rfl,rfl,by omega,by omega,Aa rfl,Aa (World.ownsRow_nil _ _ _ _),Aa (Ext.refl _)⟩
 case round =>
  obtain⟨i,cT,TA,L,rfl,rfl,j0,e0,hL,hT,hE⟩:=hrel;by_cases hr:i<n/\i<6
  ·obtain⟨d,c0⟩:=hr;obtain⟨x,hx⟩:∃x,l[i]? = some x:=⟨_,List.getElem?_eq_getElem (by rw[<-hn.out];exact d)⟩
   obtain⟨g,o,rfl,O⟩:=(hc.out.ext hE.out).at_ (by rw[List.length_map,<-hn.out];omega);have q:=O i (strV x) (by rw[List.getElem?_map,hx];rfl);unfold strV at q;have v0:=hs x (List.mem_of_getElem? hx);have m0:(⟨x.toArray⟩:ByteArray).size=x.length:=ByteArray.size_mk_toArray x;obtain⟨b,hb⟩:=Ab (⟨x.toArray⟩:ByteArray);obtain⟨y,I⟩:=Ab (if x.length<=80 then x else x.take 80);obtain⟨b2,h⟩:∃b:ByteArray,b=⟨y.toArray⟩:=⟨_,rfl⟩
   have c1:b.size<=80/\b2=b\/80<b.size/\∀W,(Instr.sliceAt 9 (.string b) none (some (.int .i64 80)) none).run prog W = .ok (.string b2) W:=by
    by_cases h8:x.length<=80
    ·rw[if_pos h8]at I;exact .inl ⟨by rw[hb];omega,by rw[h,hb,I]⟩
    ·rw[if_neg h8]at I;exact .inr ⟨by rw[hb];omega,fun W=>by rw[hb,h,I];exact CU x 80 (by omega) W⟩
   have d0:b.size<=9223372036854775807:=by rw[hb];omega
   rw[<-hb]at q;have U:=hT.out;have G:=hE.out.size;have Y:L.map strV ++ [.string b2]=(L ++ [y]).map strV:=by rw[h,List.map_append];rfl
   have H:i+1=(L ++ [y]).length:=by rw[List.length_append,<-hL.out];rfl
   replace Y:=Aa Y;replace H:=Aa H;clear O hx hb I h m0 v0;rcases c1 with ⟨c1,rfl⟩ | ⟨c1,e1⟩
   all_goals
    go_wp2_with (at_builtin;refine AS (us:= [.string b2]) (m:=1) ER U (by simp) (.tmp 25) (.tmp 27) rfl rfl rfl rfl rfl (by simp[Value.oneCell']) (by omega) G (fun A9 c9 w9 J Z g0=>?_);have p0:=Aa (CX U Z hE.out (Nat.le_refl _));replace J:=Aa J;clear Z g0);go_roundw
    case rel=>exact⟨i+1,c9,A9,_,by go_num,rfl,by omega,by omega,H,Aa (by rw[<-Y.out];exact J.out),p0⟩
    case measure=>simp only[intOf];omega
  ·by_cases d:i<n
   all_goals
    go_wp2_with fail;go_ret;exact⟨TA,i,cT,L,rfl,hL.out,j0,Cells.of_own hT.out,hE.out⟩
end
section
open Go.ChangeShapes Go.WideShapes Go.Deep Go.RowKit
structure AskC where
  q0:Value
  q1:Value
  q2:Value
  q3:Value
  fa:Int
  tb:Int
  A:Option Addr
  c:Nat
  ss:List (List UInt8)
def AskC.cells (a:AskC):List Value:= [a.q0,a.q1,a.q2,a.q3,.int .i64 a.fa,.int .i64 a.tb,.slice a.A a.ss.length a.c]
structure AskC.Ok (a:AskC) (w:World):Prop where
  terms:Cells w a.A (a.ss.map strV)
  n:a.ss.length<=9223372036854775807
  few:∀s∈a.ss,s.length<=9223372036854775807
section
variable {H:Type} {enc:TypeId×Value->H} {w:World} {base:Nat} {spare:Nat->Bool} {held:Bool}
theorem U3 {cs:List Value} {y:DataW H×List MemPlace} (d:cs.length=7) (h:DataW.trod enc prog w base spare held fuel 49 cs=some y) :
 ∃a:AskC,a.Ok w/\a.cells=cs:=by
 obtain⟨xs,n,_,_,_,U,Y⟩:=DataW.trod_struct underlying49 h;have J:xs.length=4:=U;have hi:prog.cellsOf 3=1:=by kernel_rfl
 have hs:prog.cellsOf 44=1:=by kernel_rfl
 match cs,d,xs,J with
 | [q0,q1,q2,q3,v4,v5,v6],_,[x0,x1,x2,x3],_ =>
  have h1:DataW.trod enc prog w base spare held n 3 [v4]=some x1:=by
   have h2:DataW.trod enc prog w base spare held n 3 ((([q0,q1,q2,q3,v4,v5,v6]:List Value).drop 4).take (prog.cellsOf 3))=some x1:=Y 1 _ rfl;rw[hi]at h2;exact h2
  have h2:DataW.trod enc prog w base spare held n 3 [v5]=some x2:=by
   have h2:DataW.trod enc prog w base spare held n 3 ((([q0,q1,q2,q3,v4,v5,v6]:List Value).drop 5).take (prog.cellsOf 3))=some x2:=Y 2 _ rfl;rw[hi]at h2;exact h2
  have O:DataW.trod enc prog w base spare held n 44 [v6]=some x3:=by
   have h2:DataW.trod enc prog w base spare held n 44 ((([q0,q1,q2,q3,v4,v5,v6]:List Value).drop 6).take (prog.cellsOf 44))=some x3:=Y 3 _ rfl;rw[hs]at h2;exact h2
  obtain⟨k1,e1,_,w1⟩:=DataW.trod_int underlying3 h1;obtain rfl:v4 = .int .i64 k1:=by simpa using e1
  obtain⟨k2,e2,_,w2⟩:=DataW.trod_int underlying3 h2;obtain rfl:v5 = .int .i64 k2:=by simpa using e2
  obtain⟨A,c,ss,rfl,r1,_,_,r4,r5⟩:=LO underlying44 underlying9 (by kernel_rfl) O;exact⟨⟨q0,q1,q2,q3,k1,k2,A,c,ss⟩,⟨r1,r4,r5⟩,rfl⟩
end
end
section
open Go.RowKit Go.Maps
theorem PF (w:World):(binOp .neq 24 (.agg #[.int .i64 0,.int .i64 0,.int .i64 0,.int .i64 0,.int .i64 0,.int .i64 0,.int .i64 0]) (.agg #[.int .i64 0,.int .i64 0,.int .i64 0,.int .i64 0,.int .i64 0,.int .i64 0,.int .i64 0])).run prog w = .ok (.bool false) w:=by kernel_rfl
theorem LL (a:AskC) (w:World) (ha:a.Ok w) (p0:∀W,Calls prog 15 #[] W fun e w'=>e = .returned (.bool true)/\Ext W w'):Calls prog 4 #[.agg a.cells.toArray] w fun e w'=>e = .returned (.bool true)/\Ext w w':=by
 have o1:=PF;obtain⟨q0,q1,q2,q3,fa,tb,A,c,ss⟩:=a;unfold AskC.cells;replace p0:=Aa p0;obtain⟨W0,G⟩:=Ab (w.alloc (Obj.cells #[q0,q1,q2,q3,.int .i64 fa,.int .i64 tb,.slice A ss.length c] 49));obtain⟨W1,I⟩:=Ab (W0.alloc (Obj.cells #[.int .i64 0,.int .i64 0,.int .i64 0,.slice none 0 0,.map none] 56));have j0:Ext w W0:=by rw[G];exact(Ext.refl w).alloc _
 have O:Ext W0 W1:=by rw[I];exact(Ext.refl W0).alloc _
 have c0:Row W0 w.heap.size 49 #[q0,q1,q2,q3,.int .i64 fa,.int .i64 tb,.slice A ss.length c]:=by rw[G];exact Row.new w _ _
 have x1:Row W1 W0.heap.size 56 #[.int .i64 0,.int .i64 0,.int .i64 0,.slice none 0 0,.map none]:=by rw[I];exact Row.new W0 _ _
 obtain⟨W2,Y⟩:=Ab ((W1.alloc (Obj.cells #[.nilIface,.int .i64 0,.int .i64 0,.int .i64 0,.int .i64 0,.int .i64 0,.int .i64 0,.int .i64 0,.slice none 0 0,.pointer none] 63)).alloc (Obj.cells #[.pointer none,.pointer (some ⟨W1.heap.size,0,none⟩)] 27));have Z:Ext W1 W2:=by rw[Y];exact((Ext.refl W1).alloc _).alloc _
 have hb:NobP W2 (.pointer (some ⟨W1.heap.size,0,none⟩)):= .inr ⟨_,rfl,by rw[Y];exact((Row.new W1 _ _).alloc _).cell 0 rfl⟩;have m1:Cells W2 (some ⟨W1.heap.size+1,0,none⟩) [.pointer none,.pointer (some ⟨W1.heap.size,0,none⟩)]:=by
  have h1:=AN (W1.alloc (Obj.cells #[.nilIface,.int .i64 0,.int .i64 0,.int .i64 0,.int .i64 0,.int .i64 0,.int .i64 0,.int .i64 0,.slice none 0 0,.pointer none] 63)) [.pointer none,.pointer (some ⟨W1.heap.size,0,none⟩)] 27;rw[World.size_alloc]at h1;rw[Y];exact h1
 have y0:∀k:Nat,k<2->∃s,W2.cell? ⟨W1.heap.size+1,k,none⟩=some s/\NobP W2 s:=fun k hk=>by
  rcases m1 with h | ⟨g,o,hA,hc⟩
  ·cases h
  ·cases hA
   match k,hk with
   | 0,_=>exact⟨_,by have:=hc 0 _ rfl;simpa using this,.inl rfl⟩
   | 1,_=>exact⟨_,by have:=hc 1 _ rfl;simpa using this,hb⟩
 have d0:=c0.ext (O.trans Z);have z4:=d0.cell 4 rfl;have z5:=d0.cell 5 rfl;have k6:=d0.cell 6 rfl;rw[Y]at k6;obtain⟨g2,b0⟩:=Ab (W1.heap.size+1);rw[<-b0]at y0;replace b0:=Aa b0;replace y0:=Aa y0;replace Y:=Aa Y;replace Z:=Aa Z;replace z4:=Aa z4;replace z5:=Aa z5;clear hb m1 d0;have h1:=Aa (T1 (.pointer none) W0 (.inl rfl));have h2:=Aa (T1 (.pointer (some ⟨W0.heap.size,0,none⟩)) W1 (.inr ⟨_,rfl,x1.cell 4 rfl⟩));have h3:=Aa fun W (hE:Ext w W)=>N4 A ss.length c ss W (ha.terms.ext hE) rfl ha.n ha.few;replace c0:=Aa c0;replace G:=Aa G;replace I:=Aa I;replace j0:=Aa j0;replace O:=Aa O;clear ha x1
 go_in
 go_wp2_with fail;rw[<-G.out];refine h1.out.mono ?_;rintro e w1 ⟨rfl,rfl⟩;go_wp2_with fail;rw[<-I.out];refine h2.out.mono ?_;rintro e w1 ⟨rfl,rfl⟩;go_wp2_with fail;rw[<-Y.out];refine(h3.out _ ((j0.out.trans O.out).trans Z.out)).mono ?_;rintro e w3 ⟨A2,n2,c2,l2,rfl,l0,n1,f0,g0⟩;have n0:=Aa (((j0.out.trans O.out).trans Z.out).trans g0);replace g0:=Aa g0;replace f0:=Aa f0;replace l0:=Aa l0;obtain⟨gb,i0⟩:=Ab w.heap.size;rw[<-i0]at z4 z5 ⊢;rw[<-b0.out];obtain⟨d,hd⟩:=Ab (decide (n2=0):Bool);have hz:((n2:Int)==0)=d:=by
  rw[hd];by_cases h0:n2=0
  ·simp[h0]
  ·simp[h0]
 replace hd:=Aa hd;replace i0:=Aa i0;clear h1 h2 h3 c0;go_wp2_with fail
 go_loopw [11,12] (fun s11 s12 wr=>∃(k:Nat) (v:Value),s11 = .int .i64 (k:Int)/\s12=v/\k<=2/\Hid (Ext w3 wr)) (fun s11 _ _=>2 - (intOf s11).toNat)
 case atStart=>exact⟨0,_,rfl,rfl,by omega,Aa (Ext.refl w3)⟩
 case round =>
  obtain⟨k,v,rfl,rfl,hk,m0⟩:=hrel;by_cases l1:k<2
  ·obtain⟨s,k0,hs⟩:=y0.out k l1;have hE:=g0.out.trans m0.out;have j1:=hE.cell k0;have x4:=hE.cell z4.out;have x5:=hE.cell z5.out;have H:=Aa fun W (hW:Ext wr W)=>hs.ext (hE.trans hW);have i1:=Aa fun W (hW:Ext wr W)=>f0.out.ext (m0.out.trans hW);have c1:Hid (∀x,(x.cell? ⟨g2,k,none⟩=some s/\x.cell? ⟨gb,4,none⟩=some (.int .i64 fa)/\x.cell? ⟨gb,5,none⟩=some (.int .i64 tb)/\Ext wr x)->Calls prog 18 #[s,.string ⟨#[109,115,103,58,97]⟩] x fun e w'=>e = .returned (.slice none 0 0)/\(w'.cell? ⟨g2,k,none⟩=some s/\w'.cell? ⟨gb,4,none⟩=some (.int .i64 fa)/\w'.cell? ⟨gb,5,none⟩=some (.int .i64 tb)/\Ext wr w')):=Aa fun x J=>(P3 s ⟨#[109,115,103,58,97]⟩ x (H.out x J.2.2.2)).mono (by rintro e w' ⟨rfl,rfl⟩;exact⟨rfl,J⟩);have c2:Hid (∀x,(x.cell? ⟨g2,k,none⟩=some s/\x.cell? ⟨gb,4,none⟩=some (.int .i64 fa)/\x.cell? ⟨gb,5,none⟩=some (.int .i64 tb)/\Ext wr x)->Calls prog 19 #[s,.string ⟨#[]⟩] x fun e w'=>e = .returned (.slice none 0 0)/\(w'.cell? ⟨g2,k,none⟩=some s/\w'.cell? ⟨gb,4,none⟩=some (.int .i64 fa)/\w'.cell? ⟨gb,5,none⟩=some (.int .i64 tb)/\Ext wr w')):=Aa fun x J=>(Pl s ⟨#[]⟩ x (H.out x J.2.2.2)).mono (by rintro e w' ⟨rfl,rfl⟩;exact⟨rfl,J⟩);have c3:Hid (∀x,(x.cell? ⟨g2,k,none⟩=some s/\x.cell? ⟨gb,4,none⟩=some (.int .i64 fa)/\x.cell? ⟨gb,5,none⟩=some (.int .i64 tb)/\Ext wr x)->Calls prog 14 #[s] x fun e w'=>e = .returned (.slice none 0 0)/\(w'.cell? ⟨g2,k,none⟩=some s/\w'.cell? ⟨gb,4,none⟩=some (.int .i64 fa)/\w'.cell? ⟨gb,5,none⟩=some (.int .i64 tb)/\Ext wr w')):=Aa fun x J=>(UX s x (H.out x J.2.2.2)).mono (by rintro e w' ⟨rfl,rfl⟩;exact⟨rfl,J⟩);have c4:Hid (∀x,(x.cell? ⟨g2,k,none⟩=some s/\x.cell? ⟨gb,4,none⟩=some (.int .i64 fa)/\x.cell? ⟨gb,5,none⟩=some (.int .i64 tb)/\Ext wr x)->Calls prog 20 #[s,.agg #[.int .i64 1,.string ⟨#[]⟩,.slice none 0 0,.slice none 0 0],.int .i64 fa,.int .i64 tb] x fun e w'=>e = .returned (.slice none 0 0)/\(w'.cell? ⟨g2,k,none⟩=some s/\w'.cell? ⟨gb,4,none⟩=some (.int .i64 fa)/\w'.cell? ⟨gb,5,none⟩=some (.int .i64 tb)/\Ext wr w')):=Aa fun x J=>(UY s 1 fa tb x (H.out x J.2.2.2)).mono (by rintro e w' ⟨rfl,h1⟩;exact⟨rfl,h1.cell J.1,h1.cell J.2.1,h1.cell J.2.2.1,J.2.2.2.trans h1⟩);have v0:(wr.cell? ⟨g2,k,none⟩=some s/\wr.cell? ⟨gb,4,none⟩=some (.int .i64 fa)/\wr.cell? ⟨gb,5,none⟩=some (.int .i64 tb)/\Ext wr wr):=⟨j1,x4,x5,Ext.refl _⟩
   have t0:(wr.drew.cell? ⟨g2,k,none⟩=some s/\wr.drew.cell? ⟨gb,4,none⟩=some (.int .i64 fa)/\wr.drew.cell? ⟨gb,5,none⟩=some (.int .i64 tb)/\Ext wr wr.drew):=⟨(Ext.refl wr).drew.cell j1,(Ext.refl wr).drew.cell x4,(Ext.refl wr).drew.cell x5,(Ext.refl wr).drew⟩
   replace t0:=Aa t0;replace v0:=Aa v0;replace hE:=Aa hE;clear hs k0;go_wp2_with fail
   go_cut [12] (fun s12 wy=>s12 = .int .i64 0/\Hid ((wy.cell? ⟨g2,k,none⟩=some s/\wy.cell? ⟨gb,4,none⟩=some (.int .i64 fa)/\wy.cell? ⟨gb,5,none⟩=some (.int .i64 tb)/\Ext wr wy)))
   case first =>
    go_region_held3 (fun x=>(x.cell? ⟨g2,k,none⟩=some s/\x.cell? ⟨gb,4,none⟩=some (.int .i64 fa)/\x.cell? ⟨gb,5,none⟩=some (.int .i64 tb)/\Ext wr x)) (first | exact t0.out | exact v0.out | exact ‹_›) (first | (go_at_call 18;refine(c1.out _ ‹_›).mono ?_;rintro e w4 ⟨rfl,x0⟩) | (go_at_call 19;refine(c2.out _ ‹_›).mono ?_;rintro e w4 ⟨rfl,x0⟩) | (go_at_call 14;refine(c3.out _ ‹_›).mono ?_;rintro e w4 ⟨rfl,x0⟩) | (go_at_call 20;refine(c4.out _ ‹_›).mono ?_;rintro e w4 ⟨rfl,x0⟩))
    all_goals
     go_wp2_with fail
     go_meet
     case rel=>exact⟨rfl,Aa x0⟩
   case rest =>
    obtain⟨rfl,p1⟩:=hcut;obtain⟨y1,y4,y5,r0⟩:=p1.out;have e1:=Aa (UZ s _ (H.out _ r0));clear p1 t0 v0 c1 c2 c3 c4 y4 y5;go_wp2_with fail;refine e1.out.mono ?_;rintro e w4 ⟨rfl,o0⟩;have U:=r0.trans o0;have z1:=o0.cell y1;have e2:=Aa (U1 s w4 (H.out w4 U));have e3:=U2 s A2 n2 c2 l2 w4 (H.out w4 U) (i1.out w4 U) l0.out n1;rw[<-hd.out]at e3;replace e3:=Aa e3;replace U:=Aa U;clear e1;go_wp2_with fail;refine e2.out.mono ?_;rintro e w5 ⟨rfl,rfl⟩;go_wp2_with fail;refine e3.out.mono ?_;rintro e w5 ⟨rfl,rfl⟩;go_wp2_with fail;go_roundw
    case rel=>exact⟨k+1,_,by go_num,rfl,by omega,Aa (m0.out.trans U.out)⟩
    case measure=>simp only[intOf];omega
  ·obtain rfl:k=2:=by omega
   replace p0:=Aa (p0.out wr);go_wp2_with fail;refine p0.out.mono ?_;rintro e w9 ⟨rfl,d1⟩;go_wp2_with fail;go_ret;exact⟨rfl,(n0.out.trans m0.out).trans d1⟩
end
section
open Go.RowKit
theorem CF (w:World) (t:TypeId):(w.alloc (.cells #[] t)).ownsRow w.heap.size t 2 (.slice (some ⟨w.heap.size,0,none⟩) 0 0) 0 [] :=
 ⟨rfl,.inr ⟨w.heap.size,0,#[],rfl,Nat.le_refl _,heap_alloc_new w _,Nat.le_refl _,by unfold maxLen;omega,rfl,rfl⟩⟩
section
variable {t e sz:Nat}
end
end
section
open Go.RowKit Go.Maps
theorem QT (c:Nat) (w:World):(binOp .eql 91 (.slice none 0 c) (.slice none 0 0)).run prog w = .ok (.bool true) w:=by kernel_rfl
theorem QU (a:Addr) (n c:Nat) (w:World):(binOp .eql 91 (.slice (some a) n c) (.slice none 0 0)).run prog w = .ok (.bool false) w:=by kernel_rfl
theorem LD (A:Option Addr) (n c:Nat) (l:List Fd) (w:World) (J:n=l.length) (I:Cells w A (fcells l)) (j0:n<=1073741824) :
 Calls prog 85 #[.slice A n c] w fun e w'=>∃A1 c1,e = .returned (.slice A1 n c1)/\w'.ownsRow w.heap.size 90 2 (.slice A1 n c1) n (fcells l)/\Ext w w':=by
 cases A with
 | none =>
  have h0:l = []:=by
   rcases I with h | ⟨_,_,h,_⟩
   ·have:=congrArg List.length h;rw[Dl,List.length_nil]at this;exact List.length_eq_zero_iff.1 (by omega)
   ·cases h
  subst h0;obtain rfl:n=0:=J;have hq:=QT c w
  go_in
  go_wp2_with fail;go_ret;exact⟨none,0,rfl,⟨rfl,.inl ⟨rfl,rfl⟩⟩,Ext.refl _⟩
 | some a =>
  have hq:=QU a n c w;have ho:=CF w 90;have d:Ext w (w.alloc (.cells #[] 90)):=(Ext.refl w).alloc _;have hb:=I.ext d;have H:(fcells l).length=n*2:=by rw[Dl,J]
  have U:∀u∈fcells l,u.oneCell'=true:=fun u hu=>by
   unfold fcells at hu;obtain⟨f,_,O⟩:=List.mem_flatMap.1 hu;unfold Fd.cells at O;simp only[List.mem_cons,List.not_mem_nil,or_false]at O;rcases O with rfl | rfl <;> rfl
  have G:w.heap.size<=(w.alloc (.cells #[] 90)).heap.size:=d.size;replace H:=Aa H;replace J:=Aa J
  go_in
  go_wp2_with (at_builtin;refine AV (m:=n) Lu ho hb (.tmp 5) (.tmp 6) rfl rfl rfl rfl rfl H.out U (by omega) G (fun A1 c1 w3 Y Z k0=>?_));go_ret;refine⟨A1,c1,rfl,?_,d.grown Z (fun k hk=>by cases hk;exact Nat.le_refl _)⟩;rw[Nat.zero_add]at Y;exact Y
theorem QZ (x:DocC) (w:World) (h:x.e.Ok w x.A) (U:x.e.fs.length<=20):Calls prog 80 #[.agg #[.int .i64 x.seq,.int .i64 x.e.at_,.slice x.A x.e.fs.length x.c]] w fun e w'=>∃A c,e = .returned (.agg #[.int .i64 x.seq,.int .i64 x.e.at_,.slice A x.e.fs.length c])/\x.e.Own w' w.heap.size A c/\Ext w w':=by
 obtain⟨sq,⟨at_,fs⟩,A,c⟩:=x;simp only at h U ⊢;have d:=h.long;simp only at d;obtain⟨n,O⟩:=Ab fs.length;rw[<-O]at U ⊢;have H:Ext w ((w.alloc (.cells #[.int .i64 sq,.int .i64 at_,.slice A n c] 109)).alloc (.cells #[.int .i64 0,.int .i64 0,.slice none 0 0] 109)):=((Ext.refl w).alloc _).alloc _;have r1:Row ((w.alloc (.cells #[.int .i64 sq,.int .i64 at_,.slice A n c] 109)).alloc (.cells #[.int .i64 0,.int .i64 0,.slice none 0 0] 109)) w.heap.size 109 #[.int .i64 sq,.int .i64 at_,.slice A n c]:=(Row.new w _ _).alloc _;have r2:Row ((w.alloc (.cells #[.int .i64 sq,.int .i64 at_,.slice A n c] 109)).alloc (.cells #[.int .i64 0,.int .i64 0,.slice none 0 0] 109)) (w.heap.size+1) 109 #[.int .i64 0,.int .i64 0,.slice none 0 0]:=by
  have h:=Row.new (w.alloc (.cells #[.int .i64 sq,.int .i64 at_,.slice A n c] 109)) 109 #[.int .i64 0,.int .i64 0,.slice none 0 0];simpa using h
 have p0:=Aa (LD A n c fs ((w.alloc (.cells #[.int .i64 sq,.int .i64 at_,.slice A n c] 109)).alloc (.cells #[.int .i64 0,.int .i64 0,.slice none 0 0] 109)) O (h.cells.ext H) (by omega));have k2:=r1.cell 2 rfl;have k0:=H.size;replace O:=Aa O;replace H:=Aa H;replace r1:=Aa r1;replace r2:=Aa r2;replace d:=Aa d;clear h
 go_in
 go_wp2_with fail;refine p0.out.mono ?_;rintro e w2 ⟨A1,c1,rfl,J,Y⟩;have q1:=r1.out.ext Y;have q2:=r2.out.ext Y;have z2:=q1.free 2;obtain⟨g,G⟩:=Ab w.heap.size;rw[<-G]at q1 q2 z2 ⊢;have p1:=q1.put 2 (.slice A1 n c1);have p2:=q2.away (p:=⟨g,2,none⟩) (by simp) (.slice A1 n c1);have y0:=p1.cell 0 rfl;have y1:=p1.cell 1 rfl;have y2:=p1.cell 2 rfl;have v0:=p2.cell 0 rfl;have v1:=p2.cell 1 rfl;have v2:=p2.cell 2 rfl;have u0:=p2.free 0;have u1:=p2.free 1;have u2:=p2.free 2;have s2:=q1.cell 2 rfl;replace q1:=Aa q1;replace J:=Aa J;replace Y:=Aa Y;replace G:=Aa G;replace p2:=Aa p2;replace p1:=Aa p1;replace q2:=Aa q2;clear k2;go_wp2_with fail;have pf:=((p2.out.put 0 (.int .i64 sq)).put 1 (.int .i64 at_)).put 2 (.slice A1 n c1);have m0:=G.out;have I:=(((H.out.trans Y.out).setCell (p:=⟨g,2,none⟩) (by simp only;omega) (.slice A1 n c1)).setCell (p:=⟨g+1,0,none⟩) (by simp only;omega) (.int .i64 sq)).setCell (p:=⟨g+1,1,none⟩) (by simp only;omega) (.int .i64 at_);have h0:=I.setCell (p:=⟨g+1,2,none⟩) (by simp only;omega) (.slice A1 n c1);have Z:=AD J.out k0;have hC:Chg (fun k=>k=g\/k=g+1) w2 ((((w2.setCell ⟨g,2,none⟩ (.slice A1 n c1)).setCell ⟨g+1,0,none⟩ (.int .i64 sq)).setCell ⟨g+1,1,none⟩ (.int .i64 at_)).setCell ⟨g+1,2,none⟩ (.slice A1 n c1)) :=
  (((Chg.of_set w2 _ (.inl rfl)).trans (Chg.of_set _ _ (.inr rfl)) fun _ _ h=>h).trans (Chg.of_set _ _ (.inr rfl)) fun _ _ h=>h).trans (Chg.of_set _ _ (.inr rfl)) fun _ _ h=>h
 have q0:=hC.owns Z fun k hk=>by
  obtain⟨cs,hr,_⟩:=Ae Z hk;rintro(rfl | rfl)
  ·exact Row.unlike hr q1.out (by decide) rfl
  ·exact Row.unlike hr q2.out (by decide) rfl
 refine bodyPost_ret (results_cell_row rfl _ _ (g+1) 109 #[.int .i64 sq,.int .i64 at_,.slice A1 n c1] (0,0) _ rfl pf underlying109 rfl (by kernel_rfl)) rfl ⟨A1,c1,rfl,⟨?_,d.out,?_⟩,h0⟩
 ·simp only;rw[<-O.out];exact q0
 ·simp only;rw[<-O.out];exact U
end
section
open Go.RowKit Go.Maps
theorem DocsOwn.push {base c c8:Nat} {B A8:Option Addr} {l:List DocC} {x:DocC} (h:DocsOwn w base B c l) (Z:x.e.Own w base x.A x.c) (hi:I64ok' x.e.at_/\I64ok' x.seq)
 (I:w8.ownsRow base 109 3 (.slice A8 (l.length+1) c8) (l.length+1) (dcells l++x.cells)) (G:w.grownBy w8 (Value.slice B l.length c).ownBlock):DocsOwn w8 base A8 c8 (l ++ [x]):=by
 have hlen:(l ++ [x]).length=l.length+1:=by simp
 have Y:Chg (fun k'=>(Value.slice B l.length c).ownBlock=some k') w w8:=Chg.of_grown G fun k' _ O=>O;have U:∀k cs,Row w k 90 cs->¬ (Value.slice B l.length c).ownBlock=some k:=fun k cs J=>Am h.own J (by decide);refine⟨by rw[hlen,FX];exact I,fun y d=>?_,fun y d=>?_⟩
 ·rcases List.mem_append.1 d with d | d
  ·exact⟨Y.owns (h.each y d).1 fun g' H=>by obtain⟨cs,J,_⟩:=Ae (h.each y d).1 H;exact U _ _ J,(h.each y d).2⟩
  ·rw[List.mem_singleton.1 d];exact⟨Y.owns Z.1 fun g' H=>by obtain⟨cs,J,_⟩:=Ae Z.1 H;exact U _ _ J,Z.2⟩
 ·rcases List.mem_append.1 d with d | d
  ·exact h.ints y d
  ·rw[List.mem_singleton.1 d];exact hi
def DocsA (P:List Dc) (w:World) (e:Ending) (w':World):Prop:=Ext w w'/\∃(l:List DocC) (A:Option Addr) (c:Nat),dcs l=P/\e = .returned (.slice A l.length c)/\DocsOwn w' w.heap.size A c l
theorem SegP.fields {P:List Dc} (h:SegP P) {d:Dc} (hd:d∈P):d.2.fs.length<=20:=by
 have h1:=h.sm.ok;unfold okDs at h1;rw[Bool.and_eq_true,Bool.and_eq_true,List.all_eq_true]at h1;have:=(AM (of_decide_eq_true (h1.2.2 d hd))).1;omega
theorem SS (g:Nat) (P:List Dc) (w:World) (h:SegR w g P) (hP:SegP P):Calls prog 38 #[.pointer (some ⟨g,0,none⟩)] w fun e w'=>DocsA P w e w':=by
 have hlen:=Fh g P w h hP.ne hP.few;have hf:=hP.few;obtain⟨ds,A,c,lo,hi,fi,la,B,cB,gd,gf,h1,h2,h3,h4,_⟩:=h;have y0:P.length=ds.length:=by rw[<-h2];exact List.length_map ..
 obtain⟨n,hn⟩:=Ab ds.length;rw[y0,<-hn]at hlen hf;rw[<-hn]at h1;have p0:∀x∈ds,x.e.fs.length<=20:=fun x hx=>hP.fields (d:=x.dc) (by rw[<-h2];exact List.mem_map.2 ⟨x,hx,rfl⟩);replace p0:=Aa p0;replace hlen:=Aa hlen;replace h1:=Aa h1;replace h4:=Aa h4;replace h2:=Aa h2;replace hn:=Aa hn;clear h3 y0
 go_in
 go_wp2_with fail;refine hlen.out.mono ?_;rintro e w1 ⟨rfl,rfl⟩;go_wp2_with fail
 go_loopw [3,7] (fun s3 s7 wr=>∃(i d:Nat) (B:Option Addr) (out:List DocC),s3 = .slice B i d/\s7 = .int .i64 (i:Int)/\i<=n/\Hid (out.length=i)/\Hid (dcs out=(dcs ds).take i)/\Hid (DocsOwn wr w1.heap.size B d out)/\Hid (Ext w1 wr)) (fun _ s7 _=>n - (intOf s7).toNat)
 case atStart=>exact⟨0,0,none,[],rfl,rfl,by omega,Aa rfl,Aa rfl,Aa (DocsOwn.nil _ _),Aa (Ext.refl _)⟩
 case round =>
  obtain⟨i,d,B,out,rfl,rfl,hi,O,e0,f0,hE⟩:=hrel;by_cases j1:i<n
  ·obtain⟨x,hx⟩:∃x,ds[i]? = some x:=⟨_,List.getElem?_eq_getElem (by rw[<-hn.out];exact j1)⟩
   have t0:=List.mem_of_getElem? hx;have r1:=h1.out.ext hE.out;have k0:=r1.cell 0 rfl;obtain⟨gA,oA,rfl,l0,l1,l2⟩:=AR (h4.out.cells.ext hE.out) hx;obtain⟨v0,G,I⟩:=h4.out.each x t0;have ho:=QZ x wr (v0.ext hE.out) (p0.out x t0);have H:dcs (out ++ [x])=(dcs ds).take (i+1):=by
    rw[BJ,e0.out];have:(dcs ds)[i]? = some x.dc:=by unfold dcs;rw[List.getElem?_map,hx];rfl
    rw[List.take_add_one,this];rfl
   rw[BJ]at H;obtain⟨sq,⟨at_,fs⟩,xA,xc⟩:=x;simp only at l0 l1 l2 ho G I;obtain⟨m,hm⟩:=Ab fs.length;rw[<-hm]at l2 ho;replace ho:=Aa ho;replace hm:=Aa hm;replace v0:=Aa v0;replace H:=Aa H;replace hx:=Aa hx;replace r1:=Aa r1;replace G:=Aa G;replace I:=Aa I;clear t0;go_wp2_with (fail);refine ho.out.mono ?_;rintro e w4 ⟨A4,c4,rfl,Y,U⟩;have J:=f0.out.ext U;have i0:w1.heap.size<=w4.heap.size:=(hE.out.trans U).size;have h0:w4.ownsRow w1.heap.size 109 3 (.slice B i d) i (dcells out):=by have:=J.own;rw[O.out]at this;exact this
   have p1:i+1<=4294967296:=by omega
   have b0:=hE.out.size;replace J:=Aa J;replace Y:=Aa Y;replace U:=Aa U;clear k0 l0 l1 l2;go_wp2_with (at_builtin;refine AS (us:= [.int .i64 sq,.int .i64 at_,.slice A4 m c4]) (m:=1) MQ h0 rfl (.tmp 10) (.tmp 20) rfl rfl rfl rfl rfl (Az rfl) p1 i0 (fun A8 c8 w8 j0 Z m1=>?_);replace j0:=Aa j0;replace Z:=Aa Z;clear m1);have c0:Ev.Own ⟨at_,fs⟩ w4 w1.heap.size A4 c4:=by
    have h:=Y.out;exact⟨AD h.1 b0,h.2⟩
   have g0:=DocsOwn.push (x:=⟨sq,⟨at_,fs⟩,A4,c4⟩) J.out c0 ⟨G.out,I.out⟩ (by rw[O.out];unfold DocC.cells;simp only;rw[<-hm.out];exact j0.out) (by rw[O.out];exact Z.out);have q1:Ext w1 w8:=(hE.out.trans U.out).grown Z.out fun k hk=>by obtain⟨_,_,hb⟩:=Ae h0 hk;exact hb
   refine⟨⟨i+1,c8,A8,_,rfl,by go_num,by omega,Aa (by rw[List.length_append,O.out];rfl),Aa (by rw[BJ];exact H.out),Aa g0,Aa q1⟩,by simp only[intOf];omega⟩
  ·obtain rfl:i=n:=by omega
   go_wp2_with fail;go_ret;refine⟨hE.out,out,B,d,?_,by rw[O.out];rfl,f0.out⟩;rw[e0.out,hn.out,<-h2.out];exact List.take_of_length_le (by unfold dcs;rw[List.length_map];exact Nat.le_refl _)
end
section
open Go.RowKit Go.Maps
def awB (P:List Dc):Bool:=okDs P&&decide ((blockD 0 P).length<=70000)&&decide (0<P.length)&&(framesD P).all (fun p=>decide (p.length<=16777216))&&decide ((segL P).length<=60000)&&P.all fun d=>decide (-9223372036854775808<=d.2.at_)&&decide (d.2.at_<=9223372036854775807)
structure AwP (P:List Dc):Prop where
  seg:SegP P
  opn:openD (segL P)=some P
  len:(segL P).length<=60000
theorem S2 {P:List Dc} (h:awB P=true):AwP P:=by
 unfold awB at h;simp only[Bool.and_eq_true,decide_eq_true_eq,List.all_eq_true]at h;obtain⟨⟨⟨⟨⟨h1,h2⟩,H⟩,Y⟩,J⟩,U⟩:=h;have hs:SegP P:=⟨⟨h1,h2⟩,H⟩
 exact⟨hs,FI hs Y fun d hd=>U d hd,J⟩
theorem L3 {fn:Func} {q p u:Tmp} (h:fn.results=#[.tmp q,.cell p ty,.tmp u]) (tmps:Array Value) (w:World) (g:Nat) (cs:Array Value)
 (d:tmps.getD p undef = .pointer (some ⟨g,0,none⟩)) (H:(loadVar ty ⟨g,0,none⟩).run P w = .ok (.agg cs) w) :
 (results fn tmps).run P w = .ok (.tuple #[tmps.getD q undef,.agg cs,tmps.getD u undef]) w:=by
 rw[Array.getD_eq_getD_getElem?]at d;simp only[results,h];simp[Sem.run_bind,Result.andThen,d,asAddr,H]
theorem Qs (id:Int) (ds:List DocC) (A:Option Addr) (n c:Nat) (lo hi fi la nn:Int) (w:World) (hn:n=ds.length) (b0:DocsOk w A ds) (hA:∀a,A=some a->a.spot=none) (c0:n<=c) (h0:0<n) (i1:1<=id) (i2:id<=99999999) (hP:AwP (dcs ds)) (hp:partD (dcs ds) = [lo,hi,fi,la,nn]) :
 Calls prog 27 #[.int .i64 id,.slice A n c] w fun e w'=>∃A1 c1,e = .returned (.tuple #[.slice A1 (segL (dcs ds)).length c1,.agg #[.int .i64 id,.int .i64 2,.int .i64 lo,.int .i64 hi,.int .i64 fi,.int .i64 la,.int .i64 nn],.int .i64 0])/\Own8 w' w.heap.size A1 (segL (dcs ds)).length c1 (segL (dcs ds))/\Ext w w':=by
 obtain⟨W,hW⟩:=Ab (w.alloc (Obj.cells #[.int .i64 0,.int .i64 0,.int .i64 0,.int .i64 0,.int .i64 0,.int .i64 0,.int .i64 0] 24));have x0:Ext w W:=by rw[hW];exact(Ext.refl w).alloc _
 have hr:Row W w.heap.size 24 #[.int .i64 0,.int .i64 0,.int .i64 0,.int .i64 0,.int .i64 0,.int .i64 0,.int .i64 0]:=by rw[hW];exact Row.new w _ _
 have o0:w.heap.size<W.heap.size:=by rw[hW,World.size_alloc];omega
 have O:=CY ds A n c W hn (b0.ext x0) hA c0 hP.seg.sm h0;obtain⟨P,y0⟩:=Ab (dcs ds);rw[<-y0]at O hP hp ⊢;replace O:=Aa O;clear b0 hn hA c0 h0 y0;obtain⟨bg,Y⟩:=Ab w.heap.size;rw[<-Y]at hr o0;replace hW:=Aa hW;replace Y:=Aa Y
 go_in
 go_wp2_with fail;rw[<-hW.out];refine O.out.mono ?_;rintro e w1 ⟨A1,c1,rfl,J,e0⟩;have q0:=Aa (fun W2 (hE:Ext w1 W2)=>(KW A1 _ c1 (segL P) W2 ((J.ext hE).2.in8) (by have:=hP.len;omega) (fun Q _ hQ=>NJ hP.len Q hQ)));obtain⟨k,hk⟩:=Ab ((segL P).length);rw[<-hk]at q0 ⊢;replace hk:=Aa hk;replace J:=Aa J;go_wp2_with fail;refine(q0.out w1 (Ext.refl w1)).mono ?_;rintro e w2 ⟨g0,d0⟩;rw[hP.opn]at d0;obtain⟨g,rfl,hs⟩:=d0;have G:=I8 g P w2 hs hP.seg;rw[hp,show prtA [lo,hi,fi,la,nn]=#[.int .i64 0,.int .i64 0,.int .i64 lo,.int .i64 hi,.int .i64 fi,.int .i64 la,.int .i64 nn] from rfl]at G;replace G:=Aa G;replace hs:=Aa hs;clear q0;go_wp2_with fail;refine G.out.mono ?_;rintro e w3 ⟨rfl,m0⟩;go_wp2_with fail;obtain⟨W5,H⟩:=Ab (w3.alloc (Obj.cells #[.int .i64 id,.int .i64 2,.int .i64 lo,.int .i64 hi,.int .i64 fi,.int .i64 la,.int .i64 nn] 24));have t0:Ext w3 W5:=by rw[H];exact(Ext.refl w3).alloc _
 have r5:Row W5 w3.heap.size 24 #[.int .i64 id,.int .i64 2,.int .i64 lo,.int .i64 hi,.int .i64 fi,.int .i64 la,.int .i64 nn]:=by rw[H];exact Row.new w3 _ _
 have I:=((e0.trans g0).trans m0).trans t0;have rr:=hr.ext I;obtain⟨g5,Z⟩:=Ab w3.heap.size;rw[<-H,<-Z,<-Y.out];rw[<-Z]at r5;have v0:=r5.cell 0 rfl;have v1:=r5.cell 1 rfl;have v2:=r5.cell 2 rfl;have v3:=r5.cell 3 rfl;have v4:=r5.cell 4 rfl;have v5:=r5.cell 5 rfl;have v6:=r5.cell 6 rfl;have u0':=rr.cell 0 rfl;have u1':=rr.cell 1 rfl;have u2':=rr.cell 2 rfl;have u3':=rr.cell 3 rfl;have u4':=rr.cell 4 rfl;have u5':=rr.cell 5 rfl;have u6':=rr.cell 6 rfl;have f0:=rr.free 0;have f1:=rr.free 1;have f2:=rr.free 2;have f3:=rr.free 3;have f4:=rr.free 4;have f5:=rr.free 5;have f6:=rr.free 6;have U:=J.out.ext (((Ext.refl w1).trans g0).trans (m0.trans t0));have i0:=x0.trans I;replace r5:=Aa r5;replace rr:=Aa rr;replace H:=Aa H;replace Z:=Aa Z;replace U:=Aa U;go_region;have h:w.heap.size<=bg:=Nat.le_of_eq Y.out.symm;have d:=U.out.2.unlike rr.out (by decide);have p0:Row ((((((((W5.setCell ⟨bg,0,none⟩ (.int .i64 id)).setCell ⟨bg,1,none⟩ (.int .i64 2)).setCell ⟨bg,2,none⟩ (.int .i64 lo)).setCell ⟨bg,3,none⟩ (.int .i64 hi)).setCell ⟨bg,4,none⟩ (.int .i64 fi)).setCell ⟨bg,5,none⟩ (.int .i64 la)).setCell ⟨bg,6,none⟩ (.int .i64 nn))).drew bg 24 #[.int .i64 id,.int .i64 2,.int .i64 lo,.int .i64 hi,.int .i64 fi,.int .i64 la,.int .i64 nn]:=by
  have h9:=(((((((rr.out.put 0 (.int .i64 id)).put 1 (.int .i64 2)).put 2 (.int .i64 lo)).put 3 (.int .i64 hi)).put 4 (.int .i64 fi)).put 5 (.int .i64 la)).put 6 (.int .i64 nn))
  simp only[List.setIfInBounds_toArray,List.set_cons_zero,List.set_cons_succ]at h9;exact h9.ext (Ext.drew (Ext.refl _))
 have l0:Ext w ((((((((W5.setCell ⟨bg,0,none⟩ (.int .i64 id)).setCell ⟨bg,1,none⟩ (.int .i64 2)).setCell ⟨bg,2,none⟩ (.int .i64 lo)).setCell ⟨bg,3,none⟩ (.int .i64 hi)).setCell ⟨bg,4,none⟩ (.int .i64 fi)).setCell ⟨bg,5,none⟩ (.int .i64 la)).setCell ⟨bg,6,none⟩ (.int .i64 nn))).drew:=(((((((i0.setCell (p:=⟨bg,0,none⟩) h (.int .i64 id)).setCell (p:=⟨bg,1,none⟩) h (.int .i64 2)).setCell (p:=⟨bg,2,none⟩) h (.int .i64 lo)).setCell (p:=⟨bg,3,none⟩) h (.int .i64 hi)).setCell (p:=⟨bg,4,none⟩) h (.int .i64 fi)).setCell (p:=⟨bg,5,none⟩) h (.int .i64 la)).setCell (p:=⟨bg,6,none⟩) h (.int .i64 nn)).drew;have n0:Own8 ((((((((W5.setCell ⟨bg,0,none⟩ (.int .i64 id)).setCell ⟨bg,1,none⟩ (.int .i64 2)).setCell ⟨bg,2,none⟩ (.int .i64 lo)).setCell ⟨bg,3,none⟩ (.int .i64 hi)).setCell ⟨bg,4,none⟩ (.int .i64 fi)).setCell ⟨bg,5,none⟩ (.int .i64 la)).setCell ⟨bg,6,none⟩ (.int .i64 nn))).drew w.heap.size A1 k c1 (segL P):=⟨hk.out,by
  have h1:=(((((((U.out.2.setCell (p:=⟨bg,0,none⟩) d (.int .i64 id)).setCell (p:=⟨bg,1,none⟩) d (.int .i64 2)).setCell (p:=⟨bg,2,none⟩) d (.int .i64 lo)).setCell (p:=⟨bg,3,none⟩) d (.int .i64 hi)).setCell (p:=⟨bg,4,none⟩) d (.int .i64 fi)).setCell (p:=⟨bg,5,none⟩) d (.int .i64 la)).setCell (p:=⟨bg,6,none⟩) d (.int .i64 nn)).drew;rw[<-hk.out]at h1;exact h1.lower (by omega)⟩
 replace p0:=Aa p0;clear u0' u1' u2' u3' u4' u5' u6' f0 f1 f2 f3 f4 f5 f6 v0 v1 v2 v3 v4 v5 v6;go_wp2_with fail;refine bodyPost_ret (L3 rfl _ _ bg #[.int .i64 id,.int .i64 2,.int .i64 lo,.int .i64 hi,.int .i64 fi,.int .i64 la,.int .i64 nn] rfl (run_loadVar_row _ bg 24 24 _ (0,0) _ p0.out underlying24 rfl (by kernel_rfl))) rfl ?_;rw[<-hk.out];exact⟨A1,c1,rfl,n0,l0⟩
end
section
open Go.RowKit Go.Maps
def PartR (w:World) (g s:Nat):Prop:=w.cell? ⟨g,0,none⟩=some (.iface 102 (.agg #[.pointer (some ⟨s,0,none⟩)]))
theorem Pg (id lo hi fi la nn:Int) (P:List Dc) (A:Option Addr) (n c:Nat) (w:World) (hb:Own8 w 0 A n c (segL P)) (hP:AwP P) (hp:partD P = [lo,hi,fi,la,nn]) (n0:∀W,(binOp .neq 24 (.agg #[.int .i64 id,.int .i64 2,.int .i64 lo,.int .i64 hi,.int .i64 fi,.int .i64 la,.int .i64 nn]) (.agg #[.int .i64 id,.int .i64 2,.int .i64 lo,.int .i64 hi,.int .i64 fi,.int .i64 la,.int .i64 nn])).run prog W = .ok (.bool false) W) :
 Calls prog 8 #[.agg #[.int .i64 id,.int .i64 2,.int .i64 lo,.int .i64 hi,.int .i64 fi,.int .i64 la,.int .i64 nn],.slice A n c] w fun e w'=>∃g s,e = .returned (.tuple #[.pointer (some ⟨g,0,none⟩),.int .i64 0])/\PartR w' g s/\SegR w' s P/\Ext w w':=by
 obtain⟨W,hW⟩:=Ab (w.alloc (Obj.cells #[.int .i64 id,.int .i64 2,.int .i64 lo,.int .i64 hi,.int .i64 fi,.int .i64 la,.int .i64 nn] 24));have m0:Ext w W:=by rw[hW];exact(Ext.refl w).alloc _
 have hr:Row W w.heap.size 24 #[.int .i64 id,.int .i64 2,.int .i64 lo,.int .i64 hi,.int .i64 fi,.int .i64 la,.int .i64 nn]:=by rw[hW];exact Row.new w _ _
 have hn:n=(segL P).length:=hb.1;have O:=KW A n c (segL P) W (hb.ext m0).2.in8 (by have:=hP.len;omega) (fun Q _ hQ=>NJ hP.len Q hQ);replace O:=Aa O;replace hn:=Aa hn;replace hW:=Aa hW;clear hb
 go_in
 go_wp2_with fail;rw[<-hW.out];refine O.out.mono ?_;rintro e w2 ⟨G,d0⟩;rw[hP.opn]at d0;obtain⟨g,rfl,hs⟩:=d0;have Z:=I8 g P w2 hs hP.seg;rw[hp,show prtA [lo,hi,fi,la,nn]=#[.int .i64 0,.int .i64 0,.int .i64 lo,.int .i64 hi,.int .i64 fi,.int .i64 la,.int .i64 nn] from rfl]at Z;replace Z:=Aa Z;replace hs:=Aa hs;clear O;go_wp2_with fail;refine Z.out.mono ?_;rintro e w3 ⟨rfl,Y⟩;go_wp2_with fail;obtain⟨W5,H⟩:=Ab (w3.alloc (Obj.cells #[.int .i64 0,.int .i64 0,.int .i64 lo,.int .i64 hi,.int .i64 fi,.int .i64 la,.int .i64 nn] 24));have j0:Ext w3 W5:=by rw[H];exact(Ext.refl w3).alloc _
 have r5:Row W5 w3.heap.size 24 #[.int .i64 0,.int .i64 0,.int .i64 lo,.int .i64 hi,.int .i64 fi,.int .i64 la,.int .i64 nn]:=by rw[H];exact Row.new w3 _ _
 have i0:w.heap.size<w3.heap.size:=by
  have h1:=(G.trans Y).size;rw[hW.out,World.size_alloc]at h1;omega
 have rb:=hr.ext ((G.trans Y).trans j0);obtain⟨g5,J⟩:=Ab w3.heap.size;obtain⟨gb,U⟩:=Ab w.heap.size;rw[<-H,<-J,<-U];rw[<-J]at r5 i0;rw[<-U]at rb i0;have j1:w.heap.size<=g5:=by omega
 have c0:w3.heap.size<=g5:=by omega
 have v0:=r5.cell 0 rfl;have v1:=r5.cell 1 rfl;have f0:=r5.free 0;have f1:=r5.free 1;have q0:=rb.cell 0 rfl;have q1:=rb.cell 1 rfl;have h:Ext w3 (((W5.setCell ⟨g5,0,none⟩ (.int .i64 id)).setCell ⟨g5,1,none⟩ (.int .i64 2)).drew):=((j0.setCell (p:=⟨g5,0,none⟩) c0 _).setCell (p:=⟨g5,1,none⟩) c0 _).drew;have r6:Row (((W5.setCell ⟨g5,0,none⟩ (.int .i64 id)).setCell ⟨g5,1,none⟩ (.int .i64 2)).drew) g5 24 #[.int .i64 id,.int .i64 2,.int .i64 lo,.int .i64 hi,.int .i64 fi,.int .i64 la,.int .i64 nn]:=(r5.put 0 _).put 1 _;have rb6:Row (((W5.setCell ⟨g5,0,none⟩ (.int .i64 id)).setCell ⟨g5,1,none⟩ (.int .i64 2)).drew) gb 24 #[.int .i64 id,.int .i64 2,.int .i64 lo,.int .i64 hi,.int .i64 fi,.int .i64 la,.int .i64 nn]:=(rb.away (p:=⟨g5,0,none⟩) (by show gb≠g5;omega) _).away (p:=⟨g5,1,none⟩) (by show gb≠g5;omega) _;replace r5:=Aa r5;replace rb:=Aa rb;replace r6:=Aa r6;replace rb6:=Aa rb6;replace h:=Aa h;replace H:=Aa H;replace J:=Aa J;replace U:=Aa U;go_region;obtain⟨W6,p0⟩:=Ab (((W5.setCell ⟨g5,0,none⟩ (.int .i64 id)).setCell ⟨g5,1,none⟩ (.int .i64 2)).drew);rw[<-p0]at r6 rb6 h ⊢;replace p0:=Aa p0;clear v0 v1 f0 f1 q0 q1;have a0:=r6.out.cell 0 rfl;have b0:=rb6.out.cell 0 rfl;have a1:=r6.out.cell 1 rfl;have b1:=rb6.out.cell 1 rfl;have a2:=r6.out.cell 2 rfl;have b2:=rb6.out.cell 2 rfl;have a3:=r6.out.cell 3 rfl;have b3:=rb6.out.cell 3 rfl;have a4:=r6.out.cell 4 rfl;have b4:=rb6.out.cell 4 rfl;have a5:=r6.out.cell 5 rfl;have b5:=rb6.out.cell 5 rfl;have a6:=r6.out.cell 6 rfl;have b6:=rb6.out.cell 6 rfl;have e0:=Aa (hs.out.ext (Y.trans h.out));have l0:Hid (∀x,(x.cell? ⟨gb,0,none⟩=some (.int .i64 id)/\x.cell? ⟨gb,1,none⟩=some (.int .i64 2)/\x.cell? ⟨gb,2,none⟩=some (.int .i64 lo)/\x.cell? ⟨gb,3,none⟩=some (.int .i64 hi)/\x.cell? ⟨gb,4,none⟩=some (.int .i64 fi)/\x.cell? ⟨gb,5,none⟩=some (.int .i64 la)/\x.cell? ⟨gb,6,none⟩=some (.int .i64 nn)/\Ext W6 x)->Calls prog 38 #[.pointer (some ⟨g,0,none⟩)] x fun e w'=>(∃B m d,e = .returned (.slice B m d))/\(w'.cell? ⟨gb,0,none⟩=some (.int .i64 id)/\w'.cell? ⟨gb,1,none⟩=some (.int .i64 2)/\w'.cell? ⟨gb,2,none⟩=some (.int .i64 lo)/\w'.cell? ⟨gb,3,none⟩=some (.int .i64 hi)/\w'.cell? ⟨gb,4,none⟩=some (.int .i64 fi)/\w'.cell? ⟨gb,5,none⟩=some (.int .i64 la)/\w'.cell? ⟨gb,6,none⟩=some (.int .i64 nn)/\Ext W6 w')):=Aa fun x hx=>(SS g P x (e0.out.ext hx.2.2.2.2.2.2.2) hP.seg).mono (by
  rintro e w' ⟨h1,l,B,d,_,rfl,_⟩;obtain⟨x0,x1,x2,x3,x4,x5,x6,x7⟩:=hx;exact⟨⟨_,_,_,rfl⟩,h1.cell x0,h1.cell x1,h1.cell x2,h1.cell x3,h1.cell x4,h1.cell x5,h1.cell x6,x7.trans h1⟩)
 have h0:(W6.cell? ⟨gb,0,none⟩=some (.int .i64 id)/\W6.cell? ⟨gb,1,none⟩=some (.int .i64 2)/\W6.cell? ⟨gb,2,none⟩=some (.int .i64 lo)/\W6.cell? ⟨gb,3,none⟩=some (.int .i64 hi)/\W6.cell? ⟨gb,4,none⟩=some (.int .i64 fi)/\W6.cell? ⟨gb,5,none⟩=some (.int .i64 la)/\W6.cell? ⟨gb,6,none⟩=some (.int .i64 nn)/\Ext W6 W6):=⟨b0,b1,b2,b3,b4,b5,b6,Ext.refl _⟩
 have I:(W6.drew.cell? ⟨gb,0,none⟩=some (.int .i64 id)/\W6.drew.cell? ⟨gb,1,none⟩=some (.int .i64 2)/\W6.drew.cell? ⟨gb,2,none⟩=some (.int .i64 lo)/\W6.drew.cell? ⟨gb,3,none⟩=some (.int .i64 hi)/\W6.drew.cell? ⟨gb,4,none⟩=some (.int .i64 fi)/\W6.drew.cell? ⟨gb,5,none⟩=some (.int .i64 la)/\W6.drew.cell? ⟨gb,6,none⟩=some (.int .i64 nn)/\Ext W6 W6.drew):=⟨(Ext.refl W6).drew.cell b0,(Ext.refl W6).drew.cell b1,(Ext.refl W6).drew.cell b2,(Ext.refl W6).drew.cell b3,(Ext.refl W6).drew.cell b4,(Ext.refl W6).drew.cell b5,(Ext.refl W6).drew.cell b6,(Ext.refl W6).drew⟩
 replace I:=Aa I;replace h0:=Aa h0;go_wp2_with fail
 go_region_with ((go_at_call 38;refine(l0.out _ (by first | exact h0.out | exact I.out)).mono ?_;rintro e w7 ⟨⟨B,m,d,rfl⟩,y0,y1,y2,y3,y4,y5,y6,g0⟩))
 all_goals
  go_wp2_with fail;go_ret2;refine⟨w7.heap.size,g,rfl,?_,?_,?_⟩
  ·exact(Row.new w7 _ _).cell 0 rfl
  ·exact e0.out.ext (g0.alloc _)
  ·exact(m0.trans (G.trans (Y.trans h.out))).trans (g0.alloc _)
end
section
open Go.RowKit Go.Maps
theorem U0 (g s:Nat) (w:World) (h:PartR w g s):Calls prog 42 #[.pointer (some ⟨g,0,none⟩)] w fun e w'=>e = .returned (.bool false)/\w'=w:=by
 have d:∀W:World,(binOp .eql 58 (.iface 102 (.agg #[.pointer (some ⟨s,0,none⟩)])) .nilIface).run prog W = .ok (.bool false) W:=fun _=>rfl;unfold PartR at h
 go_in
 go_wp2_with fail;go_ret;exact⟨rfl,rfl⟩
theorem H0 (s:Nat) (P:List Dc) (w:World) (h:SegR w s P) (H:0<P.length) (d:P.length<=1000000000):Calls prog 348 #[.agg #[.pointer (some ⟨s,0,none⟩)]] w fun e w'=>e = .returned (.int .i64 (P.length:Int))/\Ext w w':=by
 have Y:=Aa (Fh s P _ (h.ext ((Ext.refl w).alloc (Obj.cells #[.pointer (some ⟨s,0,none⟩)] 102))) H d)
 go_in
 go_wp2_with fail;refine Y.out.mono ?_;rintro e w1 ⟨rfl,rfl⟩;go_wp2_with fail;go_ret;exact⟨rfl,(Ext.refl w).alloc _⟩
end
section
open Go.RowKit Go.Maps
theorem P2 (g s:Nat) (P:List Dc) (w:World) (h:PartR w g s) (hs:SegR w s P) (Y:0<P.length) (d:P.length<=1000000000):Calls prog 21 #[.pointer (some ⟨g,0,none⟩)] w fun e w'=>e = .returned (.int .i64 (P.length:Int))/\Ext w w':=by
 have O:∀W:World,(method 58 102 (.agg #[.pointer (some ⟨s,0,none⟩)]) "Len").run prog W = .ok (348, .agg #[.pointer (some ⟨s, 0, none⟩)]) W := fun _ => by kernel_rfl
 have U:=Aa (U0 g s w h);have J:=Aa (H0 s P w hs Y d);unfold PartR at h;replace hs:=Aa hs
 go_in
 go_wp2_with fail;refine U.out.mono ?_;rintro e w1 ⟨rfl,rfl⟩;go_wp2_with fail;refine J.out.mono ?_;rintro e w2 ⟨rfl,H⟩;go_wp2_with fail;go_ret;exact⟨rfl,H⟩
end
section
open Go.RowKit Go.Maps
def awP22:List Dc:= [(1,⟨5,[]⟩)]
theorem H5:AwP awP22:=S2 (by kernel_rfl)
theorem GS:partD awP22 = [5,5,1,1,1]:=by kernel_rfl
theorem UW (W:World):(binOp .neq 24 (.agg #[.int .i64 7,.int .i64 2,.int .i64 5,.int .i64 5,.int .i64 1,.int .i64 1,.int .i64 1]) (.agg #[.int .i64 7,.int .i64 2,.int .i64 5,.int .i64 5,.int .i64 1,.int .i64 1,.int .i64 1])).run prog W = .ok (.bool false) W:=by kernel_rfl
theorem UV (W:World):(binOp .eql 24 (.agg #[.int .i64 7,.int .i64 2,.int .i64 5,.int .i64 5,.int .i64 1,.int .i64 1,.int .i64 1]) (.agg #[.int .i64 7,.int .i64 2,.int .i64 5,.int .i64 5,.int .i64 1,.int .i64 1,.int .i64 1])).run prog W = .ok (.bool true) W:=by kernel_rfl
theorem KE (w : World) : Calls prog 15 #[] w fun e w' => e = .returned (.bool true) ∧ Ext w w' := by
  obtain ⟨W, I⟩ := Ab (w.alloc (Obj.cells #[.int .i64 1, .int .i64 5, .slice none 0 0] 109))
  have j0 : Ext w W := by rw [I]; exact (Ext.refl w).alloc _
  have h0 : DocsOk W (some ⟨w.heap.size, 0, none⟩) [⟨1, ⟨5, []⟩, none, 0⟩] := ⟨by rw [I]; exact AN w [.int .i64 1, .int .i64 5, .slice none 0 0] _, fun x hx => by
    rw [List.mem_singleton.1 hx]
    exact ⟨⟨.inl rfl, by show (0 : Nat) ≤ _; omega, fun f hf => by cases hf⟩, ⟨by show _ ≤ (5 : Int); omega, by show (5 : Int) ≤ _; omega⟩, ⟨by show _ ≤ (1 : Int); omega, by show (1 : Int) ≤ _; omega⟩⟩⟩
  have Z := Qs 7 [⟨1, ⟨5, []⟩, none, 0⟩] (some ⟨w.heap.size, 0, none⟩) 1 1 5 5 1 1 1 W rfl h0 (fun a ha => by cases ha; rfl) (by omega) (by omega) (by omega) (by omega) H5 GS
  replace Z := Aa Z
  replace I := Aa I
  clear h0
  go_in
  go_wp2_with fail
  rw [← I.out]
  refine Z.out.mono ?_
  rintro e w1 ⟨A1, c1, rfl, U, p0⟩
  obtain ⟨W1, d⟩ := Ab (w1.alloc (Obj.cells #[.int .i64 7, .int .i64 2, .int .i64 5, .int .i64 5, .int .i64 1, .int .i64 1, .int .i64 1] 24))
  have J : Ext w1 W1 := by rw [d]; exact (Ext.refl w1).alloc _
  have hr : Row W1 w1.heap.size 24 #[.int .i64 7, .int .i64 2, .int .i64 5, .int .i64 5, .int .i64 1, .int .i64 1, .int .i64 1] := by rw [d]; exact Row.new w1 _ _
  have Y := Pg 7 5 5 1 1 1 awP22 A1 _ c1 W1 ⟨rfl, (U.2.lower (Nat.zero_le _)).ext J⟩ H5 GS UW
  rw [show segL (dcs [⟨1, ⟨5, []⟩, none, 0⟩]) = segL awP22 from rfl]
  obtain ⟨n1, O⟩ := Ab ((segL awP22).length)
  rw [← O] at Y ⊢
  obtain ⟨g1, H⟩ := Ab w1.heap.size
  rw [← H] at hr
  replace Y := Aa Y
  replace O := Aa O
  replace U := Aa U
  replace d := Aa d
  replace H := Aa H
  go_wp2_with fail
  rw [← d.out, ← H.out]
  refine Y.out.mono ?_
  rintro e w2 ⟨g, s, rfl, hp, hs, G⟩
  have hl := Aa (P2 g s awP22 w2 hp hs (by decide) (by decide))
  have t0 := UV
  have h := hr.ext G
  have v0 := h.cell 0 rfl
  have v1 := h.cell 1 rfl
  have v2 := h.cell 2 rfl
  have v3 := h.cell 3 rfl
  have v4 := h.cell 4 rfl
  have v5 := h.cell 5 rfl
  have v6 := h.cell 6 rfl
  replace hr := Aa hr
  replace h := Aa h
  replace hp := Aa hp
  replace hs := Aa hs
  go_wp2_with fail
  refine hl.out.mono ?_
  rintro e w3 ⟨rfl, k0⟩
  go_wp2_with fail
  go_ret
  exact ⟨rfl, (((j0.trans p0).trans J).trans G).trans k0⟩
end
end Go.Proofs.YtpnlihgcboepeaaGreat
