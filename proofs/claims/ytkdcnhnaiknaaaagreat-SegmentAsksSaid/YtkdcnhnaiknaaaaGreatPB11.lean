/- Texts of one proof, joined. -/
import Derived.Test.YtkdcnhnaiknaaaaGreatPB10
import Derived.Test.YtkdcnhnaiknaaaaGreatPB06
import Derived.Test.YtkdcnhnaiknaaaaGreatPB03
import Derived.Test.YtkdcnhnaiknaaaaGreatPB09
import Derived.Test.YtkdcnhnaiknaaaaGreatPB05
import Derived.Test.YtkdcnhnaiknaaaaGreatPB01
import Derived.Test.YtkdcnhnaiknaaaaGreatPB07
import Derived.Test.YtkdcnhnaiknaaaaGreatPB04
import Derived.Test.YtkdcnhnaiknaaaaGreatPB02
set_option linter.unusedSimpArgs false
set_option linter.unusedVariables false
set_option maxRecDepth 100000
set_option maxHeartbeats 16000000
namespace Go.Proofs.YtkdcnhnaiknaaaaGreat
section
open Go.RowKit Go.Maps
def openD (b:List UInt8):Option (List Dc) :=
 if b.take 4 = [76,83,69,71] then
  if (splitF (b.drop 4)).2=0/\(splitF (b.drop 4)).1.length=6 then
   match decDs ((splitF (b.drop 4)).1.headD [])with
   | some P=>if 0<P.length/\segL P=b then some P else none
   | none=>none
  else none
 else none
def SegR (w:World) (g:Nat) (P:List Dc):Prop:=∃(ds:List DocC) (A:Option Addr) (c:Nat) (lo hi fi la:Int) (B:Option Addr) (cB gd gf:Nat),
 Row w g 87 #[.slice A ds.length c,.int .i64 0,.int .i64 0,.int .i64 lo,.int .i64 hi,.int .i64 fi,.int .i64 la,.int .i64 (ds.length:Int),.pointer (some ⟨gd,0,none⟩),.slice B (postB (rowsD P)).length cB,.pointer (some ⟨gf,0,none⟩)] /\
 dcs ds=P/\partD P = [lo,hi,fi,la,(ds.length:Int)]/\DocsOk w A ds/\DicR w gd (enOf 0 (rowsD P))/\In8 w B (postB (rowsD P)).length cB (postB (rowsD P))/\FilR w gf (ofB ((rowsD P).map (·.1)))
def SegRB (base:Nat) (w:World) (g:Nat) (P:List Dc):Prop:=∃(ds:List DocC) (A:Option Addr) (c:Nat) (lo hi fi la:Int) (B:Option Addr) (cB gd gf:Nat),
 Row w g 87 #[.slice A ds.length c,.int .i64 0,.int .i64 0,.int .i64 lo,.int .i64 hi,.int .i64 fi,.int .i64 la,.int .i64 (ds.length:Int),.pointer (some ⟨gd,0,none⟩),.slice B (postB (rowsD P)).length cB,.pointer (some ⟨gf,0,none⟩)] /\
 dcs ds=P/\partD P = [lo,hi,fi,la,(ds.length:Int)]/\DocsOwn w base A c ds/\DicO w base gd (enOf 0 (rowsD P))/\Buf w base 5 B (postB (rowsD P)).length cB ((postB (rowsD P)).map B8)/\FilO w base gf (ofB ((rowsD P).map (·.1)))
theorem SegRB.seg {base:Nat} {w:World} {g:Nat} {P:List Dc} (h:SegRB base w g P):SegR w g P:=by
 obtain⟨ds,A,c,lo,hi,fi,la,B,cB,gd,gf,h1,h2,h3,h4,h5,h6,h7⟩:=h;exact⟨ds,A,c,lo,hi,fi,la,B,cB,gd,gf,h1,h2,h3,h4.ok,h5.dic,h6.in8,h7.fil⟩
theorem FilO.lower {w:World} {base b g:Nat} {f:List UInt8} (h:FilO w base g f) (hb:b<=base):FilO w b g f:=by
 obtain⟨b1,c,cur,hr,h1,h0,h2⟩:=h;exact⟨b1,c,cur,hr,Nat.le_trans hb h1,h0,h2⟩
theorem DicO.lower {w:World} {base b g:Nat} {l:List En} (h:DicO w base g l) (hb:b<=base):DicO w b g l:=by
 obtain⟨A,c,h1,h2⟩:=h;exact⟨A,c,h1,ZN h2 hb⟩
def SegOB (w:World) (b:List UInt8) (e:Ending) (w':World):Prop:=Ext w w'/\match openD b with
 | some P=>∃g,e = .returned (.tuple #[.pointer (some ⟨g,0,none⟩),.int .i64 0])/\SegRB w.heap.size w' g P
 | none=>e = .returned (.tuple #[.pointer none,.int .i64 130])
theorem SegOB.no {w w':World} {b:List UInt8} (hE:Ext w w') (h:openD b=none):SegOB w b (.returned (.tuple #[.pointer none,.int .i64 130])) w':=by
 refine⟨hE,?_⟩;rw[h]
def SegO (w:World) (b:List UInt8) (e:Ending) (w':World):Prop:=Ext w w'/\match openD b with
 | some P=>∃g,e = .returned (.tuple #[.pointer (some ⟨g,0,none⟩),.int .i64 0])/\SegR w' g P
 | none=>e = .returned (.tuple #[.pointer none,.int .i64 130])
theorem SegO.no {w w':World} {b:List UInt8} (hE:Ext w w') (h:openD b=none):SegO w b (.returned (.tuple #[.pointer none,.int .i64 130])) w':=by
 refine⟨hE,?_⟩;rw[h]
theorem ZGS {w:World} {A:Option Addr} {xs:List Value} {p:Addr} {u0:Value} (h:Cells w A xs) (hp:w.cell? p=some u0) (h0:∀v∈xs,v≠u0) (u:Value):Cells (w.setCell p u) A xs:=by
 rcases h with h | ⟨g,o,hA,hc⟩
 ·exact .inl h
 ·refine .inr ⟨g,o,hA,fun i v hv=>?_⟩;have h1:=hc i v hv;rw[World.cell?_setCell_other w p _ u (fun e=>by
   rw[e]at hp;rw[h1]at hp;injection hp with hp;exact h0 v (List.mem_of_getElem? hv) hp)]
  exact h1
theorem ZIn (l:List En):∀v∈encells l,v≠Value.pointer none:=fun v hv e=>by
 unfold encells at hv;obtain⟨x,_,hx⟩:=List.mem_flatMap.1 hv;unfold En.cells at hx;simp only[List.mem_cons,List.not_mem_nil,or_false]at hx;rcases hx with rfl | rfl | rfl | rfl <;> cases e
theorem DicR.set {w:World} {gd g i:Nat} {l:List En} {cs:Array Value} (h:DicR w gd l) (hr:Row w g 87 cs) (hi:cs[i]? = some (.pointer none)) (u:Value):DicR (w.setCell ⟨g,i,none⟩ u) gd l:=by
 obtain⟨A,c,h1,h2⟩:=h;exact⟨A,c,h1.away (h1.unlike hr (by decide)) u,ZGS h2 (hr.cell i hi) (ZIn l) u⟩
theorem FilO.set {w:World} {b gf g i:Nat} {f:List UInt8} {cs:Array Value} (h:FilO w b gf f) (hr:Row w g 87 cs) (u:Value):FilO (w.setCell ⟨g,i,none⟩ u) b gf f:=by
 obtain⟨b1,c,cur,h1,hb,h2,h3,h4,h5⟩:=h;exact⟨b1,c,cur,h1.away (h1.unlike hr (by decide)) u,hb,h2.away (h2.unlike hr (by decide)) u,h3,h4,h5⟩
theorem ZGV {ds:List DocC} {m:Nat} {w:World} {A:Option Addr} (h:DocsOk w A ds) (hm:m=ds.length) (h0:0<m) (hs:SmP (dcs ds)):∀p∈framesD (dcs ds),p.length<=16777216:=by
 have hB:=hs.seg;have hv:(vall (partD (dcs ds))).length<=16777216:=by
  obtain⟨x0,k0⟩:∃x,ds[0]? = some x:=⟨_,List.getElem?_eq_getElem (by omega)⟩
  obtain⟨xl,j0⟩:∃x,ds[m - 1]? = some x:=⟨_,List.getElem?_eq_getElem (by omega)⟩
  have h1:=ZBa hm k0 j0;have p0:∀d∈dcs ds,I64ok' d.2.at_:=fun d hd=>by
   unfold dcs at hd;obtain⟨x,hx,rfl⟩:=List.mem_map.1 hd;exact(h.each x hx).2.1
  have q0:=(h.each x0 (List.mem_of_getElem? k0)).2;have ql:=(h.each xl (List.mem_of_getElem? j0)).2;have hn:m<=65536:=by
   have:=hB.n;unfold dcs at this;rw[List.length_map]at this;omega
  rw[h1];have q1:=ZCr (dcs ds) _ q0.1 p0;have q2:=ZCB (dcs ds) _ q0.1 p0;have q5:I64ok' (m:Int):=by unfold I64ok';omega
  have h2:=ZBE [lowD x0.e.at_ (dcs ds),highD x0.e.at_ (dcs ds),x0.seq,xl.seq,(m:Int)] (fun x hx=>by
   simp only[List.mem_cons,List.not_mem_nil,or_false]at hx;rcases hx with rfl | rfl | rfl | rfl | rfl
   ·exact q1
   ·exact q2
   ·exact q0.2
   ·exact ql.2
   ·exact q5) 5
  exact Nat.le_trans h2 (by decide)
 intro p hp;unfold framesD at hp;simp only[List.mem_cons,List.not_mem_nil,or_false]at hp;rcases hp with rfl | rfl | rfl | rfl | rfl | rfl
 ·exact hB.docs
 ·exact hB.times
 ·exact Nat.le_trans hB.posts (by decide)
 ·exact hB.dic
 ·exact Nat.le_trans hB.bits.2 (by decide)
 ·exact hv
theorem ZO4 (A:Option Addr) (n c:Nat) (b:List UInt8) (w:World) (h:In8 w A n c b) (u6:n<=1000000000) (x2:∀P,(splitF (b.drop 4)).2=0->decDs ((splitF (b.drop 4)).1.headD [])=some P->(blockD 0 P).length<=70000) :
 Calls Tryz.prog 11 #[.slice A n c] w fun e w'=>SegOB w b e w':=by
 have t3:=h.len;obtain⟨k4,e3⟩:∃k:Nat,(k:Int)=min (n:Int) 4:=⟨min n 4,by omega⟩
 have i3:k4<=n:=by omega
 have h6:=fun(W:World)=>Zf (P:=Tryz.prog) #[3,3] 3 e3 W;obtain⟨y6,h4⟩:=h.headk .i64 i3 (z:=(k4:Int)) rfl;have s2:=fun(W:World) (hE:Ext w W)=>Zr (A:=A) (l:=b.take k4) (w:=W) (h4.bytes.ext hE) k4 c h4.len;have x4:b.take k4=b.take 4:=by
  by_cases v5:4<=n
  ·have:k4=4:=by omega
   rw[this]
  ·have:k4=n:=by omega
   rw[this,List.take_of_length_le (by omega),List.take_of_length_le (by omega)]
 have m5:=Tryz.strings_HasPrefix ⟨(b.take k4).toArray⟩ ⟨#[76,83,69,71]⟩ w;obtain⟨hp,w0⟩:∃hp,hp=Lib.hasPrefix (b.take 4) [76,83,69,71]:=⟨_,rfl⟩
 have s0:Calls Tryz.prog 48 #[.string ⟨(b.take k4).toArray⟩,.string ⟨#[76,83,69,71]⟩] w fun e w'=>e = .returned (.bool hp)/\w'=w:=by
  rw[w0,<-x4];simpa using m5
 have q1:hp=true↔b.take 4 = [76,83,69,71]:=by
  rw[w0];unfold Lib.hasPrefix;rw[List.isPrefixOf_iff_prefix];constructor
  ·intro m4;exact(m4.eq_of_length_le (by rw[List.length_take];simp;omega)).symm
  ·intro e;rw[e];exact List.prefix_refl _
 have a5:=s2 w (Ext.refl w);replace s0:=ZA s0;replace h:=ZA h;replace x2:=ZA x2;clear m5 s2 h4;have v3:=ZA t3;replace e3:=ZA e3;replace w0:=ZA w0;replace x4:=ZA x4;by_cases s3:hp=true
 ·have j1:=q1.1 s3;subst s3;have v5:4<=n:=by
   have:=congrArg List.length j1;rw[List.length_take]at this;simp at this;omega
  obtain⟨A4,c4,j5,o1⟩:=h.out.from_ (fr:=4) v5 (z:=4) rfl;have j2:=ZKH A4 (n - 4) c4 (b.drop 4) w o1 (by omega);clear t3;replace j2:=ZA j2;replace o1:=ZA o1;replace j1:=ZA j1;replace q1:=ZA q1;go_enter Tryz.func11,Tryz.ntmps11;go_wp2_with fail;refine s0.out.mono ?_;rintro e w1 ⟨rfl,rfl⟩;go_wp2_with fail;refine j2.out.mono ?_;rintro e w2 ⟨L,cL,z,ps,rfl,u3,u2,v2,i0⟩;have u0:openD b=if (splitF (b.drop 4)).2=0/\ps.length=6 then (match decDs ((pays ps).headD [])with | some P=>if 0<P.length/\segL P=b then some P else none | none=>none) else none:=by
   unfold openD;rw[if_pos j1.out,<-u2];have:(pays ps).length=ps.length:=List.length_map ..;rw[this]
  have e0:=x2.out;rw[<-u2]at e0;obtain⟨sc,v4⟩:∃sc,sc=(splitF (b.drop 4)).2:=⟨_,rfl⟩
  rw[<-v4]at u0 e0 ⊢;have d0:∀p∈pays ps,p.length<=16777216:=fun p hp=>by rw[u2]at hp;exact(ZCm hp).1
  replace v4:=ZA v4;replace e0:=ZA e0;replace d0:=ZA d0;obtain⟨np,g3⟩:∃np,np=ps.length:=⟨_,rfl⟩
  rw[<-g3]at u0 ⊢;replace g3:=ZA g3;replace u3:=ZA u3;replace u2:=ZA u2;replace v2:=ZA v2;by_cases s1:sc=0
  ·by_cases u5:np=6
   ·subst s1;subst u5;rw[if_pos ⟨rfl,rfl⟩]at u0;obtain⟨⟨A0,k0,b0,z0⟩,⟨A1,k1,b1,z1⟩,⟨A2,k2,b2,z2⟩,⟨A3,k3,b3,z3⟩,⟨A4',k4',b4,z4⟩,⟨A5,k5,b5,z5⟩,t4⟩:∃p0 p1 p2 p3 p4 p5:Pay,ps = [p0,p1,p2,p3,p4,p5]:=by
     have:=g3.out
     match ps,this with
     | [p0,p1,p2,p3,p4,p5],_=>exact⟨p0,p1,p2,p3,p4,p5,rfl⟩
    subst t4;obtain⟨gl,ol,hL,y2⟩:=u3.out.at_ (by simp);subst hL;have l0:=y2 0 (.slice A0 b0.length k0) rfl;have l2:=y2 2 (.slice A2 b2.length k2) rfl;have l3:=y2 3 (.slice A3 b3.length k3) rfl;have l4:=y2 4 (.slice A4' b4.length k4') rfl;rw[Nat.add_zero]at l0;have g4:(pays [(A0,k0,b0,z0),(A1,k1,b1,z1),(A2,k2,b2,z2),(A3,k3,b3,z3),(A4',k4',b4,z4),(A5,k5,b5,z5)]).headD []=b0:=rfl;rw[g4]at u0;have r2:=fun P hP=>e0.out P rfl (by rw[g4];exact hP);have t5:In8 w2 A0 b0.length k0 b0:=by obtain⟨bb,hb⟩:=v2.out (A0,k0,b0,z0) (by simp);exact hb.in8
    have n5:=d0.out b0 (by simp[pays]);have a0:=ZFx A0 b0.length k0 b0 w2 t5 (by omega);obtain⟨D,hD⟩:∃D,D=decDs b0:=⟨_,rfl⟩
    have r0:=fun P (h:decDs b0=some P)=>ZAV h;rw[<-hD]at a0 u0 r0;have q2:∀P,D=some P->(blockD 0 P).length<=70000:=fun P hP=>r2 P (by rw[<-hD];exact hP);obtain⟨n0,q4⟩:∃n0,n0=b0.length:=⟨_,rfl⟩
    rw[<-q4]at a0 l0;replace hD:=ZA hD;replace r0:=ZA r0;replace a0:=ZA a0;replace u0:=ZA u0;replace q2:=ZA q2;replace q4:=ZA q4;clear y2 r2 t5 n5 g4;go_wp2_with fail;refine a0.out.mono ?_;rintro e w3 ⟨v1,t1⟩;cases D with
    | none =>
     simp only at t1;subst t1;have h0:openD b=none:=u0.out;replace h0:=ZA h0;go_wp2_with fail;go_ret2;exact SegOB.no (i0.trans v1) h0.out
    | some P =>
     simp only at t1;obtain⟨ds,Ad,cd,t2,rfl,m1⟩:=t1;obtain⟨x5,t6⟩:=r0.out P rfl;have c5:=q2.out P rfl;have i4:P.length=ds.length:=by rw[<-t2];exact List.length_map ..
     have a2:=m1.ok;have t0:=m1.cap;have o0:=i0.trans v1;have m0:openD b=if 0<P.length/\segL P=b then some P else none:=u0.out;obtain⟨m,hm⟩:∃m,m=ds.length:=⟨_,rfl⟩
     rw[<-hm]at t0 i4 ⊢;rw[i4]at m0;by_cases o5:m=0
     ·have h0:openD b=none:=by rw[m0,if_neg (fun e=>by omega)]
      subst o5;have x1:=ZBM ds Ad 0 cd w3 hm a2 t0.2 t0.1 (by omega) (.inr rfl);replace x1:=ZA x1;replace h0:=ZA h0;replace hm:=ZA hm;clear m0 t0 m1 a2;go_wp2_with fail;refine x1.out.mono ?_;rintro e w4 ⟨rfl,j0⟩;go_wp2_with fail;go_ret2;exact SegOB.no (o0.trans j0) h0.out
     ·have x2:SmP (dcs ds):=by rw[t2];exact⟨x5,c5⟩
      have x1:=ZAM ds Ad m cd w3 hm a2 t0.2 t0.1 x2 (by omega);rw[t2]at x1;have hB:=(SmP.mk x5 c5).seg;replace x1:=ZA x1;replace hm:=ZA hm;replace m0:=ZA m0;replace hB:=ZA hB;go_wp2_with fail;refine x1.out.mono ?_;rintro e w4 ⟨A9,c9,rfl,e4,j0⟩;obtain⟨n9,j3⟩:∃n9,n9=(segL P).length:=⟨_,rfl⟩
      rw[<-j3]at e4 ⊢;have u4:=Zr (A:=A9) (l:=segL P) (w:=w4) e4.2.cells n9 c9 j3;have g6:=Zr (A:=A) (l:=b) (w:=w4) ((h.out.ext (o0.trans j0)).bytes) n c v3.out;replace j3:=ZA j3;by_cases c2:segL P=b
      ·rw[c2]at u4;have d5:=o0.trans j0;have g2:openD b=some P:=by rw[m0.out,if_pos ⟨by omega,c2⟩]
       obtain⟨x0,y4⟩:∃x,ds[0]? = some x:=⟨_,List.getElem?_eq_getElem (by have:=hm.out;omega)⟩
       obtain⟨xl,a4⟩:∃x,ds[m - 1]? = some x:=⟨_,List.getElem?_eq_getElem (by have:=hm.out;omega)⟩
       have o2:=ZBa hm.out y4 a4;obtain⟨lo,r3⟩:∃z,z=lowD x0.e.at_ (dcs ds):=⟨_,rfl⟩
       obtain⟨d2,d3⟩:∃z,z=highD x0.e.at_ (dcs ds):=⟨_,rfl⟩
       rw[<-r3,<-d3]at o2;have s5:m<=1000000:=by have:=hB.out.n;omega
       have q0:=fun X (hx:Ext w4 X)=>ZIK ds Ad m cd X hm.out (a2.ext (j0.trans hx)) s5 (by omega);rw[o2]at q0;have y5:prtA [lo,d2,x0.seq,xl.seq,(m:Int)]=#[.int .i64 0,.int .i64 0,.int .i64 lo,.int .i64 d2,.int .i64 x0.seq,.int .i64 xl.seq,.int .i64 (m:Int)]:=rfl;rw[y5]at q0;obtain⟨bb2,o4⟩:=v2.out (A2,k2,b2,z2) (by simp);simp only at o4;have i1:=o4.ext (v1.trans j0);have o3:=d0.out b2 (by simp[pays]);obtain⟨n2,e2⟩:∃n2,n2=b2.length:=⟨_,rfl⟩
       rw[<-e2]at i1 l2 o3;have g0:=fun X (hx:Ext w4 X)=>ZAq A2 n2 k2 b2 X e2 (i1.ext hx).cells (ZLH i1) (by omega);have lx2:=(v1.trans j0).cell l2;replace o2:=ZA o2;replace r3:=ZA r3;replace d3:=ZA d3;replace y4:=ZA y4;replace a4:=ZA a4;replace q0:=ZA q0;replace g0:=ZA g0;replace e2:=ZA e2;replace g2:=ZA g2;clear y5;go_upto_region 12 with fail
       go_cut [10] (fun s10 wy=>∃g BC cC,s10 = .pointer (some ⟨g,0,none⟩)/\Hid (Row wy g 87 #[.slice Ad m cd,.int .i64 0,.int .i64 0,.int .i64 lo,.int .i64 d2,.int .i64 x0.seq,.int .i64 xl.seq,.int .i64 (m:Int),.pointer none,.slice BC n2 cC,.pointer none])/\Hid (Buf wy w4.heap.size 5 BC n2 cC (b2.map B8))/\Hid (Ext w4 wy)/\w4.heap.size<=g)
       case first =>
        have hX:Hid (Ext w4 w4):=ZA (Ext.refl w4)
        go_region_held3 (fun x=>x.cell? ⟨gl,ol+2,none⟩=some (.slice A2 n2 k2))
         (exact(hX.out.trans (by(first | with_reducible exact Ext.refl _ | with_reducible exact Ext.drew (Ext.refl _) | with_reducible exact Ext.alloc (Ext.refl _) _ | with_reducible exact Ext.drew (Ext.alloc (Ext.refl _) _) | with_reducible exact Ext.alloc (Ext.drew (Ext.refl _)) _ | with_reducible exact Ext.alloc (Ext.alloc (Ext.refl _) _) _ | with_reducible exact Ext.drew (Ext.alloc (Ext.alloc (Ext.refl _) _) _)))).cell lx2)
         (first
         | (go_at_call 42;refine(q0.out _ (hX.out.trans (by(first | with_reducible exact Ext.refl _ | with_reducible exact Ext.drew (Ext.refl _) | with_reducible exact Ext.alloc (Ext.refl _) _ | with_reducible exact Ext.drew (Ext.alloc (Ext.refl _) _) | with_reducible exact Ext.alloc (Ext.drew (Ext.refl _)) _ | with_reducible exact Ext.alloc (Ext.alloc (Ext.refl _) _) _ | with_reducible exact Ext.drew (Ext.alloc (Ext.alloc (Ext.refl _) _) _))))).mono ?_;rintro e w9 ⟨rfl,m2⟩;(try replace y1:=ZA (y1.out.ext (Ext.trans (by(first | with_reducible exact Ext.refl _ | with_reducible exact Ext.drew (Ext.refl _) | with_reducible exact Ext.alloc (Ext.refl _) _ | with_reducible exact Ext.drew (Ext.alloc (Ext.refl _) _) | with_reducible exact Ext.alloc (Ext.drew (Ext.refl _)) _ | with_reducible exact Ext.alloc (Ext.alloc (Ext.refl _) _) _ | with_reducible exact Ext.drew (Ext.alloc (Ext.alloc (Ext.refl _) _) _))) m2)));replace hX:=ZA (hX.out.trans (Ext.trans (by(first | with_reducible exact Ext.refl _ | with_reducible exact Ext.drew (Ext.refl _) | with_reducible exact Ext.alloc (Ext.refl _) _ | with_reducible exact Ext.drew (Ext.alloc (Ext.refl _) _) | with_reducible exact Ext.alloc (Ext.drew (Ext.refl _)) _ | with_reducible exact Ext.alloc (Ext.alloc (Ext.refl _) _) _ | with_reducible exact Ext.drew (Ext.alloc (Ext.alloc (Ext.refl _) _) _))) m2));clear m2)
         | (go_at_call 51;refine(g0.out _ (hX.out.trans (by(first | with_reducible exact Ext.refl _ | with_reducible exact Ext.drew (Ext.refl _) | with_reducible exact Ext.alloc (Ext.refl _) _ | with_reducible exact Ext.drew (Ext.alloc (Ext.refl _) _) | with_reducible exact Ext.alloc (Ext.drew (Ext.refl _)) _ | with_reducible exact Ext.alloc (Ext.alloc (Ext.refl _) _) _ | with_reducible exact Ext.drew (Ext.alloc (Ext.alloc (Ext.refl _) _) _))))).mono ?_;rintro e w9 ⟨BC,cC,rfl,y1,m2⟩;have y1:=ZA (y1.lower (hX.out.trans (by(first | with_reducible exact Ext.refl _ | with_reducible exact Ext.drew (Ext.refl _) | with_reducible exact Ext.alloc (Ext.refl _) _ | with_reducible exact Ext.drew (Ext.alloc (Ext.refl _) _) | with_reducible exact Ext.alloc (Ext.drew (Ext.refl _)) _ | with_reducible exact Ext.alloc (Ext.alloc (Ext.refl _) _) _ | with_reducible exact Ext.drew (Ext.alloc (Ext.alloc (Ext.refl _) _) _)))).size);replace hX:=ZA (hX.out.trans (Ext.trans (by(first | with_reducible exact Ext.refl _ | with_reducible exact Ext.drew (Ext.refl _) | with_reducible exact Ext.alloc (Ext.refl _) _ | with_reducible exact Ext.drew (Ext.alloc (Ext.refl _) _) | with_reducible exact Ext.alloc (Ext.drew (Ext.refl _)) _ | with_reducible exact Ext.alloc (Ext.alloc (Ext.refl _) _) _ | with_reducible exact Ext.drew (Ext.alloc (Ext.alloc (Ext.refl _) _) _))) m2));clear m2))
        all_goals (go_wp2_with fail)
        all_goals go_meet
        all_goals (case rel=>exact⟨_,_,_,rfl,ZA (Row.new _ _ _),ZA (y1.out.ext ((Ext.refl _).alloc _)),ZA (hX.out.trans ((Ext.refl _).alloc _)),hX.out.size⟩)
       case rest =>
        obtain⟨g,BC,cC,rfl,k6,y1,d4,a3⟩:=hcut;have y0 : [b0,b1,b2,b3,b4,b5]=framesD P:=by
         have h1:=u2.out;rw[<-c2]at h1;have h2:(segL P).drop 4=joinL (framesD P):=rfl;rw[h2,ZBy _ (by rw[<-t2];exact ZGV a2 hm.out (by omega) x2)]at h1;exact h1
        unfold framesD at y0;injection y0 with f0 y0;injection y0 with f1 y0;injection y0 with f2 y0;injection y0 with f3 y0;injection y0 with f4 y0;have e1:=(v1.trans j0).trans d4.out;have lx3:=e1.cell l3;obtain⟨bb3,h3⟩:=v2.out (A3,k3,b3,z3) (by simp);obtain⟨bb4,q3⟩:=v2.out (A4',k4',b4,z4) (by simp);simp only at h3 q3;have l5:gl<w4.heap.size:=by
         have h1:=World.block_lt_of_cell? w2 _ l3;have h2:=(v1.trans j0).size;simp only at h1;omega
        have v6:b3.length<=16777216:=d0.out b3 (by simp[pays]);have g1:=ZO5 A3 b3.length k3 b3 wc (enOf 0 (rowsD P)) (h3.ext e1).in8 hB.out.ens f3 (by omega);have l1:8<=b4.length/\b4.length<=131072:=by rw[f4];exact hB.out.bits
        obtain⟨n3,j4⟩:∃n3,n3=b3.length:=⟨_,rfl⟩
        obtain⟨n4,v0⟩:∃n4,n4=b4.length:=⟨_,rfl⟩
        rw[<-j4]at lx3 g1;have lx4:=e1.cell l4;rw[<-v0]at lx4 l1;replace j4:=ZA j4;replace v0:=ZA v0;replace g1:=ZA g1;replace e1:=ZA e1;replace f2:=ZA f2;replace f3:=ZA f3;replace f4:=ZA f4;replace q3:=ZA q3;replace h3:=ZA h3;clear f0 f1 y0 l0 l2 l3 l4 lx2;go_wp2_with fail;refine g1.out.mono ?_;rintro e w5 ⟨gd,rfl,n1,c1⟩;have r1:=k6.out.ext c1;have y8:=r1.cell 8 rfl;have z8:=r1.free 8;have lx45:=c1.cell lx4;have x6:gl≠g:=by omega
        have p6:g≠gl:=by omega
        replace n1:=ZA n1;replace r1:=ZA r1;replace c1:=ZA c1;clear lx3 lx4;go_wp2_with fail;obtain⟨W6,u1⟩:∃W6,W6=w5.setCell ⟨g,8,none⟩ (.pointer (some ⟨gd,0,none⟩)):=⟨_,rfl⟩
        rw[<-u1];have g5:w2.heap.size<=g:=Nat.le_trans (v1.trans j0).size a3;have a1:Ext w2 W6:=by rw[u1];exact(e1.out.trans c1.out).setCell (p:=⟨g,8,none⟩) g5 _
        have m3:Ext w3 W6:=by rw[u1];exact((j0.trans d4.out).trans c1.out).setCell (p:=⟨g,8,none⟩) (Nat.le_trans j0.size a3) _
        have r6:Row W6 g 87 #[.slice Ad m cd,.int .i64 0,.int .i64 0,.int .i64 lo,.int .i64 d2,.int .i64 x0.seq,.int .i64 xl.seq,.int .i64 (m:Int),.pointer (some ⟨gd,0,none⟩),.slice BC n2 cC,.pointer none]:=by rw[u1];exact r1.out.put 8 _
        have f5:=ZA (show DicO W6 wc.heap.size gd (enOf 0 (rowsD P))by rw[u1];exact n1.out.chg (Chg.of_set (S:=fun q=>q=g) w5 _ rfl) (fun q e=>by subst e;exact⟨_,_,r1.out,by decide,by decide⟩));have r4:=y1.out.ext c1.out;have e5:Buf W6 w4.heap.size 5 BC n2 cC (b2.map B8):=by rw[u1];exact r4.setCell (r4.unlike r1.out (by decide)) _
        have c0:=ZKh A4' b4.length k4' b4 W6 (q3.out.ext a1).in8 (by rw[<-v0.out];exact l1.1) (by rw[<-v0.out];exact l1.2);rw[<-v0.out]at c0;replace c0:=ZA c0;replace u1:=ZA u1;refine c0.out.mono ?_;rintro e w7 ⟨gf,rfl,_,y3,d1⟩;have r7:=r6.ext d1;have y10:=r7.cell 10 rfl;have z10:=r7.free 10;replace y3:=ZA y3;replace r7:=ZA r7;replace d1:=ZA d1;clear r1 r6 c0 y8 z8 lx45;go_wp2_with fail;go_ret2;have c3:=Nat.le_trans i0.size g5;have r8:=r7.out.put 10 (.pointer (some ⟨gf,0,none⟩));have s4:=e5.ext d1.out;have h5:=s4.setCell (p:=⟨g,10,none⟩) (s4.unlike r7.out (by decide)) (.pointer (some ⟨gf,0,none⟩));have i5:=(f5.out.ext d1.out).chg (Chg.of_set (S:=fun q=>q=g) w7 (a:=⟨g,10,none⟩) (.pointer (some ⟨gf,0,none⟩)) rfl) (fun q e=>by subst e;exact⟨_,_,r7.out,by decide,by decide⟩);have q5:=y3.out.set r7.out (i:=10) (.pointer (some ⟨gf,0,none⟩));have x3:=m1.ext ((m3.trans d1.out).setCell (p:=⟨g,10,none⟩) (Nat.le_trans j0.size a3) (.pointer (some ⟨gf,0,none⟩)));refine⟨(i0.trans (a1.trans d1.out)).setCell (p:=⟨g,10,none⟩) c3 _,?_⟩;rw[g2.out];have r5:=hm.out;have i2:n2=(postB (rowsD P)).length:=by rw[e2.out,f2.out]
        rw[i2,f2.out]at h5;rw[f4.out]at q5;subst r5;rw[i2]at r8;refine⟨g,rfl,ds,Ad,cd,lo,d2,x0.seq,xl.seq,BC,cC,gd,gf,r8,t2,by rw[<-t2];exact o2.out,x3.lower i0.size,i5.lower ?b1,h5.lower ?b2,q5.lower ?b3⟩
        ·exact Nat.le_trans i0.size e1.out.size
        ·exact Nat.le_trans i0.size (v1.trans j0).size
        ·exact Nat.le_trans i0.size a1.size
      ·have h0:openD b=none:=by rw[m0.out,if_neg (fun e=>c2 e.2)]
       have m6:(segL P==b)=false:=beq_eq_false_iff_ne.2 c2;replace h0:=ZA h0;go_wp2_with fail;go_ret2;exact SegOB.no (o0.trans j0) h0.out
   ·have h0:openD b=none:=by rw[u0,if_neg (fun e=>u5 e.2)]
    have q6:((np:Int)==6)=false:=by simp;omega
    subst s1;replace h0:=ZA h0;clear u0;go_wp2_with fail;go_ret2;exact SegOB.no i0 h0.out
  ·have h0:openD b=none:=by rw[u0,if_neg (fun e=>s1 e.1)]
   have j6:((sc:Int)==0)=false:=by simp;omega
   replace h0:=ZA h0;clear u0;go_wp2_with fail;go_ret2;exact SegOB.no i0 h0.out
 ·have h0:openD b=none:=by
   unfold openD;rw[if_neg (fun e=>s3 (q1.2 e))]
  replace h0:=ZA h0;clear t3;go_enter Tryz.func11,Tryz.ntmps11;go_wp2_with fail;refine s0.out.mono ?_;rintro e w1 ⟨rfl,rfl⟩;go_wp2_with fail;go_ret2;exact SegOB.no (Ext.refl _) h0.out
theorem ZD6 (A:Option Addr) (n c:Nat) (b:List UInt8) (w:World) (h:In8 w A n c b) (h0:n<=1000000000) (q0:∀P,(splitF (b.drop 4)).2=0->decDs ((splitF (b.drop 4)).1.headD [])=some P->(blockD 0 P).length<=70000) :
 Calls Tryz.prog 11 #[.slice A n c] w fun e w'=>SegO w b e w' :=
 (ZO4 A n c b w h h0 q0).mono fun e w' hr=>by
  obtain⟨hE,hr⟩:=hr;refine⟨hE,?_⟩;split at hr
  ·obtain⟨g,h1,h2⟩:=hr;exact⟨g,h1,h2.seg⟩
  ·exact hr
end
section
open Go.RowKit
theorem ZMr (g:Nat) (l:List En) (w:World) (h:DicR w g l):Calls Tryz.prog 129 #[.pointer (some ⟨g,0,none⟩)] w fun e w'=>e = .returned (.bool false)/\w'=w:=by
 obtain⟨A,c,hr,_⟩:=h;have k1:=hr.cell 1 rfl;replace hr:=ZA hr;go_enter Tryz.func129,Tryz.ntmps129;go_wp2_with fail;go_ret;exact⟨rfl,rfl⟩
theorem ZFZ (g:Nat) (l:List En) (w:World) (h:DicR w g l):Calls Tryz.prog 76 #[.pointer (some ⟨g,0,none⟩)] w fun e w'=>e = .returned (.int .i64 (l.length:Int))/\w'=w:=by
 have h0:=ZA (ZMr g l w h);obtain⟨A,c,hr,_⟩:=h;have k0:=hr.cell 0 rfl;obtain⟨n,hn⟩:∃n,n=l.length:=⟨_,rfl⟩
 rw[<-hn]at k0 ⊢;replace hn:=ZA hn;replace hr:=ZA hr;go_enter Tryz.func76,Tryz.ntmps76;go_wp2_with fail;refine h0.out.mono ?_;rintro e w1 ⟨rfl,hw⟩;obtain rfl:=hw.symm;go_wp2_with fail;go_ret;exact⟨rfl,rfl⟩
def SeaP (n:Nat) (p:Nat->Bool) (w:World) (e:Ending) (w':World):Prop:=∃k:Nat,e = .returned (.int .i64 (k:Int))/\k<=n/\(∀i,i<k->p i=false)/\(∀i,k<=i->i<n->p i=true)/\Ext w w'
theorem ZJJ (n cf:Nat) (c1 c2:Value) (p:Nat->Bool) (w:World) (hn:n<=1000000000) (x0:cf=160)
 (j0:∀W i,Ext w W->i<n->Calls Tryz.prog cf #[.int .i64 (i:Int),c1,c2] W fun e W'=>e = .returned (.bool (p i))/\Ext W W') (k0:∀i j,i<=j->j<n->p i=true->p j=true) :
 Calls Tryz.prog 159 #[.int .i64 (n:Int),.func (.func cf) #[] #[c1,c2]] w fun e w'=>SeaP n p w e w':=by
 subst x0;replace j0:=ZA j0;replace k0:=ZA k0;go_enter Tryz.func159,Tryz.ntmps159;go_wp2_with fail
 go_loopw [5,6] (fun s5 s6 wr=>∃i j:Nat,s5 = .int .i64 (i:Int)/\s6 = .int .i64 (j:Int)/\i<=j/\j<=n/\Hid (∀k,k<i->p k=false)/\Hid (∀k,j<=k->k<n->p k=true)/\Hid (Ext w wr)) (fun s5 s6 _=>(intOf s6).toNat - (intOf s5).toNat)
 case atStart=>exact⟨0,n,rfl,rfl,by omega,by omega,ZA (fun k hk=>by omega),ZA (fun k h1 h2=>by omega),ZA (Ext.refl w)⟩
 case round =>
  obtain⟨i,j,rfl,rfl,d0,m0,t0,g0,hE⟩:=hrel;by_cases e0:i<j
  ·obtain⟨m,hm⟩:∃m,m=(i+j) / 2:=⟨_,rfl⟩
   have him:i<=m:=by omega
   have f0:m<j:=by omega
   have hc:=ZA (j0.out wr m hE.out (by omega));obtain⟨v,hv⟩:∃v,v=p m:=⟨_,rfl⟩
   rw[<-hv]at hc;obtain⟨sm,v0⟩:∃sm,sm=i+j:=⟨_,rfl⟩
   have u0:(i:Int)+(j:Int)=(sm:Int):=by omega
   have z0:sm<=2000000000:=by omega
   have i0:IntKind.u64.wrap (sm:Int)=(sm:Int):=ZX (by omega);have c0:(sm:Int) / 2=(m:Int):=by omega
   have q0:v=false->∀k,k<m+1->p k=false:=fun a0 k hk=>by
    cases y0:p k with
    | false=>rfl
    | true =>
     have:=k0.out k m (by omega) (by omega) y0;rw[<-hv,a0]at this;cases this
   have h0:v=true->∀k,m<=k->k<n->p k=true:=fun b0 k h1 h2=>k0.out m k h1 h2 (by rw[<-hv,b0]);replace hm:=ZA hm;replace hv:=ZA hv;replace v0:=ZA v0;replace q0:=ZA q0;replace h0:=ZA h0;cases v with
   | false =>
    replace q0:=ZA (q0.out rfl);go_wp2_with fail;refine hc.out.mono ?_;rintro e w3 ⟨rfl,p0⟩;replace p0:=ZA (hE.out.trans p0);go_wp2_with fail;exact⟨⟨m+1,j,by congr 1,rfl,by omega,m0,q0,g0,p0⟩,by simp only[intOf];omega⟩
   | true =>
    replace h0:=ZA (h0.out rfl);go_wp2_with fail;refine hc.out.mono ?_;rintro e w3 ⟨rfl,p0⟩;replace p0:=ZA (hE.out.trans p0);go_wp2_with fail;exact⟨⟨i,m,rfl,rfl,him,by omega,t0,h0,p0⟩,by simp only[intOf];omega⟩
  ·obtain rfl:i=j:=by omega
   go_wp2_with fail;go_ret;exact⟨i,rfl,m0,t0.out,g0.out,hE.out⟩
structure FloP (l:List En) (t:List UInt8) (k:Nat):Prop where
  le:k<=l.length
  iff:∀i x,l[i]? = some x->(i<k↔x.t<t)
def FloR (l:List En) (t:List UInt8) (w:World) (e:Ending) (w':World):Prop:=∃k:Nat,e = .returned (.int .i64 (k:Int))/\FloP l t k/\Ext w w'
theorem ZJi (i g b1 b2:Nat) (l:List En) (t:List UInt8) (x:En) (w:World) (h:DicR w g l) (h1:Row w b1 82 #[.pointer (some ⟨g,0,none⟩)]) (h2:Row w b2 9 #[.string ⟨t.toArray⟩]) (hx:l[i]? = some x) (hl:l.length<=1000000000) :
 Calls Tryz.prog 160 #[.int .i64 (i:Int),.pointer (some ⟨b1,0,none⟩),.pointer (some ⟨b2,0,none⟩)] w fun e w'=>e = .returned (.bool (!decide (x.t<t)))/\Ext w w':=by
 obtain⟨A,c,hr,hc⟩:=h;obtain⟨ga,o,rfl,x0,_⟩:=Z0 hc hx;have h0:=(List.getElem?_eq_some_iff.1 hx).1;have k0:=hr.cell 0 rfl;have k1:=h1.cell 0 rfl;have k2:=h2.cell 0 rfl;obtain⟨n,hn⟩:∃n,n=l.length:=⟨_,rfl⟩
 rw[<-hn]at k0 h0 hl;have hb:=Z1 x.t t;obtain⟨v,hv⟩:∃v,v=decide (x.t<t):=⟨_,rfl⟩
 rw[<-hv]at hb ⊢;obtain⟨s,hs⟩:∃s,s=x.t:=⟨_,rfl⟩
 rw[<-hs]at hb x0;replace hn:=ZA hn;replace hv:=ZA hv;replace hs:=ZA hs;replace hr:=ZA hr;replace h1:=ZA h1;replace h2:=ZA h2;replace hx:=ZA hx;replace hc:=ZA hc;go_enter Tryz.func160,Tryz.ntmps160;go_wp2_with fail;refine ZPw (fun K hK=>?_);go_wp2_with fail;refine⟨by kernel_rfl,?_⟩;go_wp2_with fail;go_ret;exact⟨rfl,(Ext.refl w).drew⟩
theorem ZJ6 (g : Nat) (l : List En) (t : List UInt8) (w : World) (h : DicR w g l) (g0 : OkEs l) :
    Calls Tryz.prog 105 #[.pointer (some ⟨g, 0, none⟩), .string ⟨t.toArray⟩] w fun e w' => FloR l t w e w' := by
  obtain ⟨W2, q0⟩ : ∃ W2, W2 = (w.alloc (.cells #[.pointer (some ⟨g, 0, none⟩)] 82)).alloc (.cells #[.string ⟨t.toArray⟩] 9) := ⟨_, rfl⟩
  obtain ⟨b1, p0⟩ : ∃ b1, b1 = w.heap.size := ⟨_, rfl⟩
  have r1 : Row W2 b1 82 #[.pointer (some ⟨g, 0, none⟩)] := by rw [q0, p0]; exact (Row.new w _ _).alloc _
  have r2 : Row W2 (b1 + 1) 9 #[.string ⟨t.toArray⟩] := by
    have := Row.new (w.alloc (.cells #[.pointer (some ⟨g, 0, none⟩)] 82)) 9 #[.string ⟨t.toArray⟩]
    rw [World.size_alloc, ← p0] at this
    rw [q0]; exact this
  have j0 : Ext w W2 := by rw [q0]; exact ((Ext.refl w).alloc _).alloc _
  have k0 := h.ext j0
  have hlen := ZA (ZFZ g l W2 k0)
  obtain ⟨n, hn⟩ : ∃ n, n = l.length := ⟨_, rfl⟩
  have c0 : n ≤ 262144 := by rw [hn]; exact g0.few
  have h0 : ∀ i j, i ≤ j → j < n → (!decide ((l[i]?.getD ⟨[], 0, 0, 0⟩).t < t)) = true → (!decide ((l[j]?.getD ⟨[], 0, 0, 0⟩).t < t)) = true := by
    intro i j u0 hj
    rw [hn] at hj
    rw [List.getElem?_eq_getElem hj, List.getElem?_eq_getElem (Nat.lt_of_le_of_lt u0 hj)]
    simp only [Option.getD_some, Bool.not_eq_true', decide_eq_false_iff_not]
    intro hi y0
    rcases Nat.lt_or_eq_of_le u0 with a0 | rfl
    · exact hi (List.lt_trans (List.pairwise_iff_getElem.1 g0.up i j _ hj a0) y0)
    · exact hi y0
  have t0 := ZA (ZJJ n 160 (.pointer (some ⟨b1, 0, none⟩)) (.pointer (some ⟨b1 + 1, 0, none⟩)) (fun i => !decide ((l[i]?.getD ⟨[], 0, 0, 0⟩).t < t)) W2 (by omega) rfl
    (fun W i hE hi => by
      obtain ⟨x, hx⟩ : ∃ x, l[i]? = some x := ⟨_, List.getElem?_eq_getElem (by rw [← hn]; exact hi)⟩
      have := ZJi i g b1 (b1 + 1) l t x W (k0.ext hE) (r1.ext hE) (r2.ext hE) hx (by omega)
      rw [hx]
      exact this) h0)
  rw [← hn] at hlen
  have k1 := r1.cell 0 rfl
  replace hn := ZA hn
  replace p0 := ZA p0
  replace q0 := ZA q0
  replace j0 := ZA j0
  replace k0 := ZA k0
  replace r1 := ZA r1
  replace r2 := ZA r2
  replace h := ZA h
  replace g0 := ZA g0
  clear h0
  go_enter Tryz.func105, Tryz.ntmps105
  go_wp2_with fail
  rw [← q0.out, ← p0.out]
  refine hlen.out.mono ?_
  rintro e w1 ⟨rfl, hw⟩
  obtain rfl := hw.symm
  go_wp2_with fail
  refine t0.out.mono ?_
  rintro e w3 ⟨k, rfl, hk, z0, v0, hE⟩
  have m0 : FloP l t k := by
    refine ⟨by rw [← hn.out]; exact hk, fun i x hx => ?_⟩
    have hi := (List.getElem?_eq_some_iff.1 hx).1
    constructor
    · intro x0
      have := z0 i x0
      dsimp only at this
      rw [hx] at this
      simpa using this
    · intro b0
      apply Decidable.byContradiction
      intro x0
      have := v0 i (by omega) (by rw [hn.out]; exact hi)
      dsimp only at this
      rw [hx] at this
      simp only [Option.getD_some, Bool.not_eq_true', decide_eq_false_iff_not] at this
      exact this b0
  replace m0 := ZA m0
  replace hE := ZA (j0.out.trans hE)
  clear z0 v0
  go_wp2_with fail
  go_ret
  exact ⟨k, rfl, m0.out, hE.out⟩
def noEn:Value:= .agg #[.string ⟨#[]⟩,.int .i64 0,.int .i64 0,.int .i64 0]
theorem ZT {fn:Func} {p u:Tmp} {ty:TypeId} {P:Program} (h:fn.results=#[.cell p ty,.tmp u]) (tmps:Array Value) (w:World) (g:Nat) (cs:Array Value)
 (hp:tmps.getD p undef = .pointer (some ⟨g,0,none⟩)) (hl:(loadVar ty ⟨g,0,none⟩).run P w = .ok (.agg cs) w) :
 (results fn tmps).run P w = .ok (.tuple #[.agg cs,tmps.getD u undef]) w:=by
 rw[results_cell_tmp h,hp];simp[asAddr,hl,Result.andThen]
theorem ZDq {w:World} {g:Nat} {cs:Array Value} (h:Row w g 97 cs) (hs:cs.size=4):(loadVar 97 ⟨g,0,none⟩).run Tryz.prog w = .ok (.agg cs) w :=
 run_loadVar_row w g 97 97 cs (0,0) _ h Tryz.underlying97 rfl (by rw[hs];kernel_rfl)
def AtR (l:List En) (k:Nat) (w:World) (e:Ending) (w':World):Prop:=e = .returned (.tuple #[match l[k]? with | some x=> .agg x.cells.toArray | none=>noEn,.bool (l[k]?).isSome])/\Ext w w'
theorem ZNU (g k:Nat) (l:List En) (w:World) (h:DicR w g l) (hl:l.length<=1000000000) :
 Calls Tryz.prog 104 #[.pointer (some ⟨g,0,none⟩),.int .i64 (k:Int)] w fun e w'=>AtR l k w e w':=by
 obtain⟨W4,j0⟩:∃W4,W4=w.alloc (.cells #[.string ⟨#[]⟩,.int .i64 0,.int .i64 0,.int .i64 0] 97):=⟨_,rfl⟩
 obtain⟨g4,g0⟩:∃g4,g4=w.heap.size:=⟨_,rfl⟩
 have r4:Row W4 g4 97 #[.string ⟨#[]⟩,.int .i64 0,.int .i64 0,.int .i64 0]:=by rw[j0,g0];exact Row.new w _ _
 have p0:Ext w W4:=by rw[j0];exact(Ext.refl w).alloc _
 have h0:w.heap.size<=g4:=by omega
 have hlen:=ZA (ZFZ g l W4 (h.ext p0));have h4:=h.ext p0;obtain⟨A,c,hr,hc⟩:=h4;have k0:=hr.cell 0 rfl;have q0:=r4.cell 0 rfl;have q1:=r4.cell 1 rfl;have q2:=r4.cell 2 rfl;have q3:=r4.cell 3 rfl;have qf:=r4.free;obtain⟨n,hn⟩:∃n,n=l.length:=⟨_,rfl⟩
 rw[<-hn]at hlen k0 hl;replace hn:=ZA hn;replace h:=ZA h;replace hr:=ZA hr;replace r4:=ZA r4;replace p0:=ZA p0;replace j0:=ZA j0;replace g0:=ZA g0;by_cases hk:k<n
 ·obtain⟨x,hx⟩:∃x,l[k]? = some x:=⟨_,List.getElem?_eq_getElem (by rw[<-hn.out];exact hk)⟩
  obtain⟨ga,o,hA,x0,x1,x2,x3⟩:=Z0 hc hx;subst hA;obtain⟨t,off,len,nn⟩:=x;simp only at x0 x1 x2 x3;replace hx:=ZA hx;replace hc:=ZA hc;go_enter Tryz.func104,Tryz.ntmps104;go_wp2_with fail;rw[<-j0.out,<-g0.out];refine hlen.out.mono ?_;rintro e w1 ⟨rfl,hw⟩;obtain rfl:=hw.symm;go_wp2_with fail;have t0:=(((r4.out.put 0 (.string ⟨t.toArray⟩)).put 1 (.int .i64 (off:Int))).put 2 (.int .i64 (len:Int))).put 3 (.int .i64 (nn:Int));have m0:=(((p0.out.setCell (p:=⟨g4,0,none⟩) h0 (.string ⟨t.toArray⟩)).setCell (p:=⟨g4,1,none⟩) h0 (.int .i64 (off:Int))).setCell (p:=⟨g4,2,none⟩) h0 (.int .i64 (len:Int))).setCell (p:=⟨g4,3,none⟩) h0 (.int .i64 (nn:Int));refine bodyPost_ret (ZT rfl _ _ g4 #[.string ⟨t.toArray⟩,.int .i64 (off:Int),.int .i64 (len:Int),.int .i64 (nn:Int)] rfl (ZDq t0 rfl)) rfl ⟨?_,m0⟩;rw[hx.out];rfl
 ·have hx:l[k]? = none:=List.getElem?_eq_none (by rw[<-hn.out];omega);replace hx:=ZA hx;replace hc:=ZA hc;go_enter Tryz.func104,Tryz.ntmps104;go_wp2_with fail;rw[<-j0.out,<-g0.out];refine hlen.out.mono ?_;rintro e w1 ⟨rfl,hw⟩;obtain rfl:=hw.symm;go_wp2_with fail;have t0:=(((r4.out.put 0 (.string ⟨#[]⟩)).put 1 (.int .i64 0)).put 2 (.int .i64 0)).put 3 (.int .i64 0);have m0:=(((p0.out.setCell (p:=⟨g4,0,none⟩) h0 (.string ⟨#[]⟩)).setCell (p:=⟨g4,1,none⟩) h0 (.int .i64 0)).setCell (p:=⟨g4,2,none⟩) h0 (.int .i64 0)).setCell (p:=⟨g4,3,none⟩) h0 (.int .i64 0);refine bodyPost_ret (ZT rfl _ _ g4 #[.string ⟨#[]⟩,.int .i64 0,.int .i64 0,.int .i64 0] rfl (ZDq t0 rfl)) rfl ⟨?_,m0⟩;rw[hx.out];rfl
def GetR (l:List En) (t:List UInt8) (w:World) (e:Ending) (w':World):Prop:=Ext w w'/\((∃x∈l,x.t=t/\e = .returned (.tuple #[.agg #[.string ⟨x.t.toArray⟩,.int .i64 (x.off:Int),.int .i64 (x.len:Int),.int .i64 (x.n:Int)],.bool true]))\/((∀x∈l,x.t≠t)/\e = .returned (.tuple #[noEn,.bool false])))
theorem ZML (g:Nat) (l:List En) (t:List UInt8) (w:World) (h:DicR w g l) (u0:OkEs l) :
 Calls Tryz.prog 58 #[.pointer (some ⟨g,0,none⟩),.string ⟨t.toArray⟩] w fun e w'=>GetR l t w e w':=by
 obtain⟨W4,v0⟩:∃W4,W4=w.alloc (.cells #[.string ⟨#[]⟩,.int .i64 0,.int .i64 0,.int .i64 0] 97):=⟨_,rfl⟩
 obtain⟨g4,z0⟩:∃g4,g4=w.heap.size:=⟨_,rfl⟩
 have r4:Row W4 g4 97 #[.string ⟨#[]⟩,.int .i64 0,.int .i64 0,.int .i64 0]:=by rw[v0,z0];exact Row.new w _ _
 have y0:Ext w W4:=by rw[v0];exact(Ext.refl w).alloc _
 have h0:w.heap.size<=g4:=by omega
 have a0:=ZA (ZJ6 g l t W4 (h.ext y0) u0);have c0:=ZA (fun k W (hE:Ext w W)=>ZNU g k l W (h.ext hE) (by have:=u0.few;omega));replace u0:=ZA u0;replace h:=ZA h;replace r4:=ZA r4;replace y0:=ZA y0;replace v0:=ZA v0;replace z0:=ZA z0;go_enter Tryz.func58,Tryz.ntmps58;go_wp2_with fail;rw[<-v0.out,<-z0.out];refine a0.out.mono ?_;rintro e w1 ⟨k,rfl,k0,m0⟩;have r41:=ZA (r4.out.ext m0);replace m0:=ZA (y0.out.trans m0);go_wp2_with fail;refine(c0.out k w1 m0.out).mono ?_;rintro e w2 ⟨he,q0⟩;have r42:=r41.out.ext q0;replace q0:=m0.out.trans q0;have qg:=r42.get;have qf:=r42.free;have f0:w.heap.size<=w2.heap.size:=q0.size;have d0:g4<w2.heap.size:=r42.lt;cases hx:l[k]? with
 | none =>
  rw[hx]at he;have he:e = .returned (.tuple #[noEn,.bool false]):=he;unfold noEn at he;subst he;have j0:∀x∈l,x.t≠t:=fun x hm e=>by
   obtain⟨i,hi,rfl⟩:=List.getElem_of_mem hm;have:=(k0.iff i _ (List.getElem?_eq_getElem hi)).1 (by
    have:=k0.le;have h2:=List.getElem?_eq_none_iff.1 hx;omega)
   rw[e]at this;exact List.lt_irrefl _ this
  replace j0:=ZA j0;replace k0:=ZA k0;replace hx:=ZA hx;replace r42:=ZA r42;replace q0:=ZA q0;go_wp2_with fail;have x0:=((((r42.out.put 0 (.string ⟨#[]⟩)).put 1 (.int .i64 0)).put 2 (.int .i64 0)).put 3 (.int .i64 0)).alloc (.cells #[.string ⟨#[]⟩,.int .i64 0,.int .i64 0,.int .i64 0] 97);have t0:=((((q0.out.setCell (p:=⟨g4,0,none⟩) h0 (.string ⟨#[]⟩)).setCell (p:=⟨g4,1,none⟩) h0 (.int .i64 0)).setCell (p:=⟨g4,2,none⟩) h0 (.int .i64 0)).setCell (p:=⟨g4,3,none⟩) h0 (.int .i64 0)).alloc (.cells #[.string ⟨#[]⟩,.int .i64 0,.int .i64 0,.int .i64 0] 97);exact bodyPost_ret (ZT rfl _ _ g4 #[.string ⟨#[]⟩,.int .i64 0,.int .i64 0,.int .i64 0] rfl (ZDq x0 rfl)) rfl ⟨t0,.inr ⟨j0.out,rfl⟩⟩
 | some x =>
  rw[hx]at he;have he:e = .returned (.tuple #[.agg #[.string ⟨x.t.toArray⟩,.int .i64 (x.off:Int),.int .i64 (x.len:Int),.int .i64 (x.n:Int)],.bool true]):=he;subst he;have p0:=List.mem_of_getElem? hx;have j0:x.t≠t->∀y∈l,y.t≠t:=fun e0 y hm e=>by
   obtain⟨i,hi,rfl⟩:=List.getElem_of_mem hm;have b0:=(List.getElem?_eq_some_iff.1 hx)
   have h1:=(k0.iff k x hx)
   have h2:=k0.iff i _ (List.getElem?_eq_getElem hi);rw[e]at h2;have h3:¬ i<k:=fun h=>List.lt_irrefl _ (h2.1 h);rcases Nat.lt_or_eq_of_le (Nat.le_of_not_lt h3)with h4 | h4
   ·have h5:=List.pairwise_iff_getElem.1 u0.out.up k i b0.1 hi h4;rw[b0.2,e]at h5;have:=h1.2 h5;omega
   ·subst h4;exact e0 (by rw[<-b0.2];exact e)
  obtain⟨s,off,len,nn⟩:=x;simp only at j0;by_cases g0:s=t
  ·have q1:(s==t)=true:=by rw[g0];exact beq_self_eq_true t
   have q2:(s != t)=false:=by rw[g0];simp
   replace j0:=ZA j0;replace k0:=ZA k0;replace hx:=ZA hx;replace p0:=ZA p0;replace g0:=ZA g0;replace r42:=ZA r42;replace q0:=ZA q0;go_wp2_with fail;have x0:=((((r42.out.put 0 (.string ⟨s.toArray⟩)).put 1 (.int .i64 (off:Int))).put 2 (.int .i64 (len:Int))).put 3 (.int .i64 (nn:Int))).alloc (.cells #[.string ⟨s.toArray⟩,.int .i64 (off:Int),.int .i64 (len:Int),.int .i64 (nn:Int)] 97);have t0:=((((q0.out.setCell (p:=⟨g4,0,none⟩) h0 (.string ⟨s.toArray⟩)).setCell (p:=⟨g4,1,none⟩) h0 (.int .i64 (off:Int))).setCell (p:=⟨g4,2,none⟩) h0 (.int .i64 (len:Int))).setCell (p:=⟨g4,3,none⟩) h0 (.int .i64 (nn:Int))).alloc (.cells #[.string ⟨s.toArray⟩,.int .i64 (off:Int),.int .i64 (len:Int),.int .i64 (nn:Int)] 97);exact bodyPost_ret (ZT rfl _ _ g4 #[.string ⟨s.toArray⟩,.int .i64 (off:Int),.int .i64 (len:Int),.int .i64 (nn:Int)] rfl (ZDq x0 rfl)) rfl ⟨t0,.inl ⟨_,p0.out,g0.out,rfl⟩⟩
  ·have q1:(s==t)=false:=beq_eq_false_iff_ne.2 g0;have q2:(s != t)=true:=bne_iff_ne.2 g0;replace j0:=ZA (j0 g0);replace k0:=ZA k0;replace hx:=ZA hx;replace p0:=ZA p0;replace g0:=ZA g0;replace r42:=ZA r42;replace q0:=ZA q0;go_wp2_with fail;have x0:=((((r42.out.put 0 (.string ⟨#[]⟩)).put 1 (.int .i64 0)).put 2 (.int .i64 0)).put 3 (.int .i64 0)).alloc (.cells #[.string ⟨s.toArray⟩,.int .i64 (off:Int),.int .i64 (len:Int),.int .i64 (nn:Int)] 97);have t0:=((((q0.out.setCell (p:=⟨g4,0,none⟩) h0 (.string ⟨#[]⟩)).setCell (p:=⟨g4,1,none⟩) h0 (.int .i64 0)).setCell (p:=⟨g4,2,none⟩) h0 (.int .i64 0)).setCell (p:=⟨g4,3,none⟩) h0 (.int .i64 0)).alloc (.cells #[.string ⟨s.toArray⟩,.int .i64 (off:Int),.int .i64 (len:Int),.int .i64 (nn:Int)] 97);exact bodyPost_ret (ZT rfl _ _ g4 #[.string ⟨#[]⟩,.int .i64 0,.int .i64 0,.int .i64 0] rfl (ZDq x0 rfl)) rfl ⟨t0,.inr ⟨j0.out,rfl⟩⟩
end
section
open Go.RowKit Go.Maps
theorem SegR.ext {w w1:World} {g:Nat} {P:List Dc} (h:SegR w g P) (hE:Ext w w1):SegR w1 g P:=by
 obtain⟨ds,A,c,lo,hi,fi,la,B,cB,gd,gf,h1,h2,h3,h4,h5,h6,h7⟩:=h;exact⟨ds,A,c,lo,hi,fi,la,B,cB,gd,gf,h1.ext hE,h2,h3,h4.ext hE,h5.ext hE,h6.ext hE,h7.ext hE⟩
theorem ZKT (g n c:Nat) (A:Option Addr) (w:World) (h:w.cell? ⟨g,0,none⟩=some (.slice A n c)) (hn:0<n) (h0:n<=1000000000):Calls Tryz.prog 57 #[.pointer (some ⟨g,0,none⟩)] w fun e w'=>e = .returned (.bool false)/\w'=w:=by
 have q0:((n:Int)==0)=false:=by simp;omega
 go_enter Tryz.func57,Tryz.ntmps57;go_wp2_with fail;go_ret;exact⟨by simp,rfl⟩
theorem ZH2 (g:Nat) (P:List Dc) (w:World) (h:SegR w g P) (hP:0<P.length) (h0:P.length<=1000000000):Calls Tryz.prog 31 #[.pointer (some ⟨g,0,none⟩)] w fun e w'=>e = .returned (.int .i64 (P.length:Int))/\w'=w:=by
 obtain⟨ds,A,c,lo,hi,fi,la,B,cB,gd,gf,h1,h2,_⟩:=h;have hl:P.length=ds.length:=by rw[<-h2];exact List.length_map ..
 rw[hl]at hP h0 ⊢;have k0:=h1.cell 0 rfl;have hn:=ZA (ZKT g ds.length c A w k0 hP h0);replace h1:=ZA h1;replace hl:=ZA hl;replace h2:=ZA h2;go_enter Tryz.func31,Tryz.ntmps31;go_wp2_with fail;refine hn.out.mono ?_;rintro e w1 ⟨rfl,rfl⟩;go_wp2_with fail;go_ret;exact⟨rfl,rfl⟩
end
section
open Go.RowKit Go.Maps
structure SegP (P:List Dc):Prop where
  sm:SmP P
  ne:0<P.length
theorem SegP.few {P:List Dc} (h:SegP P):P.length<=1000000000:=by have:=h.sm.seg.n;omega
theorem SegR.none {w:World} {g:Nat} {P:List Dc} (h:SegR w g P) (hP:SegP P):Calls Tryz.prog 57 #[.pointer (some ⟨g,0,none⟩)] w fun e w'=>e = .returned (.bool false)/\w'=w:=by
 have hf:=hP.few;have hn:=hP.ne;obtain⟨ds,A,c,lo,hi,fi,la,B,cB,gd,gf,h1,h2,_⟩:=h;have hl:P.length=ds.length:=by rw[<-h2];exact List.length_map ..
 exact ZKT g ds.length c A w (h1.cell 0 rfl) (by omega) (by omega)
theorem ZJV (g:Nat) (P:List Dc) (w:World) (h:SegR w g P) (hP:SegP P):Calls Tryz.prog 34 #[.pointer (some ⟨g,0,none⟩)] w fun e w'=>e = .returned (.int .i64 ((rowsD P).length:Int))/\w'=w:=by
 have hn:=ZA (h.none hP);obtain⟨ds,A,c,lo,hi,fi,la,B,cB,gd,gf,h1,h2,h3,h4,h5,_⟩:=h;have k8:=h1.cell 8 rfl;have hd:=ZFZ gd _ w h5;rw[ZA5]at hd;replace hd:=ZA hd;replace h1:=ZA h1;clear h2 h3 h4 h5;go_enter Tryz.func34,Tryz.ntmps34;go_wp2_with fail;refine hn.out.mono ?_;rintro e w1 ⟨rfl,rfl⟩;go_wp2_with fail;refine hd.out.mono ?_;rintro e w2 ⟨rfl,rfl⟩;go_wp2_with fail;go_ret;exact⟨rfl,rfl⟩
theorem ZIB (g:Nat) (P:List Dc) (t:List UInt8) (w:World) (h:SegR w g P) (hP:SegP P) (ht:t.length<=1000000000):Calls Tryz.prog 16 #[.pointer (some ⟨g,0,none⟩),.string ⟨t.toArray⟩] w fun e w'=>e = .returned (.bool (mayB (ofB ((rowsD P).map (·.1))) t))/\Ext w w':=by
 have hn:=ZA (h.none hP);have hb:=hP.sm.seg.bits;obtain⟨ds,A,c,lo,hi,fi,la,B,cB,gd,gf,h1,h2,h3,h4,h5,h6,h7⟩:=h;have k10:=h1.cell 10 rfl;have hm:=ZA (ZNa gf _ t w h7 (Nat.lt_of_lt_of_le (by decide) hb.1) hb.2 ht);obtain⟨mb,h0⟩:∃mb,mb=mayB (ofB ((rowsD P).map (·.1))) t:=⟨_,rfl⟩
 rw[<-h0]at hm ⊢;replace h0:=ZA h0;replace h1:=ZA h1;clear h2 h3 h4 h5 h6 h7 hb;go_enter Tryz.func16,Tryz.ntmps16;go_wp2_with fail;refine hn.out.mono ?_;rintro e w1 ⟨rfl,rfl⟩;go_wp2_with fail;refine hm.out.mono ?_;rintro e w2 ⟨rfl,hE⟩;go_wp2_with fail;go_ret;exact⟨rfl,hE⟩
theorem ZLY (g:Nat) (P:List Dc) (w:World) (h:SegR w g P) (hP:SegP P):Calls Tryz.prog 32 #[.pointer (some ⟨g,0,none⟩)] w fun e w'=>e = .returned (.agg (prtA (partD P)))/\Ext w w':=by
 have hn:=ZA (fun W (hE:Ext w W)=>(h.ext hE).none hP);obtain⟨ds,A,c,lo,hi,fi,la,B,cB,gd,gf,h1,h2,h3,h4,h5,h6,h7⟩:=h;obtain⟨W,hW⟩:∃W,W=w.alloc (Obj.cells #[.int .i64 0,.int .i64 0,.int .i64 0,.int .i64 0,.int .i64 0,.int .i64 0,.int .i64 0] 74):=⟨_,rfl⟩
 have j0:Ext w W:=by rw[hW];exact(Ext.refl w).alloc _
 have hr:Row W w.heap.size 74 #[.int .i64 0,.int .i64 0,.int .i64 0,.int .i64 0,.int .i64 0,.int .i64 0,.int .i64 0]:=by rw[hW];exact Row.new w _ _
 have h0:=h1.ext j0;have k1:=h0.cell 1 rfl;have k2:=h0.cell 2 rfl;have k3:=h0.cell 3 rfl;have k4:=h0.cell 4 rfl;have k5:=h0.cell 5 rfl;have k6:=h0.cell 6 rfl;have k7:=h0.cell 7 rfl;have f0:=hr.free 0;have f1:=hr.free 1;have f2:=hr.free 2;have f3:=hr.free 3;have f4:=hr.free 4;have f5:=hr.free 5;have f6:=hr.free 6;have c0:=hr.cell 0 rfl;have c1:=hr.cell 1 rfl;have c2:=hr.cell 2 rfl;have c3:=hr.cell 3 rfl;have c4:=hr.cell 4 rfl;have c5:=hr.cell 5 rfl;have c6:=hr.cell 6 rfl;replace h1:=ZA h1;replace h0:=ZA h0;replace hr:=ZA hr;replace h3:=ZA h3;replace hW:=ZA hW;clear h4 h5 h6 h7;obtain⟨bg,p0⟩:∃bg,bg=w.heap.size:=⟨_,rfl⟩
 rw[<-p0]at hr f0 f1 f2 f3 f4 f5 f6 c0 c1 c2 c3 c4 c5 c6;have q0:w.heap.size<=bg:=Nat.le_of_eq p0.symm;replace p0:=ZA p0;obtain⟨nn,k0⟩:∃nn:Int,nn=(ds.length:Int):=⟨_,rfl⟩
 rw[<-k0]at k7;replace k0:=ZA k0;go_enter Tryz.func32,Tryz.ntmps32;go_wp2_with fail;rw[<-hW.out,<-p0.out];refine(hn.out _ j0).mono ?_;rintro e w1 ⟨rfl,t0⟩;subst t0;go_wp2_with fail;have m0:=((((((hr.out.put 0 (.int .i64 0)).put 1 (.int .i64 0)).put 2 (.int .i64 lo)).put 3 (.int .i64 hi)).put 4 (.int .i64 fi)).put 5 (.int .i64 la)).put 6 (.int .i64 nn);have g0:=((((((j0.setCell (p:=⟨bg,0,none⟩) q0 (.int .i64 0)).setCell (p:=⟨bg,1,none⟩) q0 (.int .i64 0)).setCell (p:=⟨bg,2,none⟩) q0 (.int .i64 lo)).setCell (p:=⟨bg,3,none⟩) q0 (.int .i64 hi)).setCell (p:=⟨bg,4,none⟩) q0 (.int .i64 fi)).setCell (p:=⟨bg,5,none⟩) q0 (.int .i64 la)).setCell (p:=⟨bg,6,none⟩) q0 (.int .i64 nn);refine bodyPost_ret (ZCf rfl _ _ bg #[.int .i64 0,.int .i64 0,.int .i64 lo,.int .i64 hi,.int .i64 fi,.int .i64 la,.int .i64 nn] rfl (run_loadVar_row _ bg 74 74 _ (0,0) _ m0 Tryz.underlying74 rfl (by kernel_rfl))) rfl ⟨?_,g0⟩;rw[h3.out,<-k0.out];rfl
end
section
open Go.RowKit
theorem ZAo (w:World) (t:TypeId):(w.alloc (.cells #[] t)).ownsRow w.heap.size t 2 (.slice (some ⟨w.heap.size,0,none⟩) 0 0) 0 [] :=
 ⟨rfl,.inr ⟨w.heap.size,0,#[],rfl,Nat.le_refl _,heap_alloc_new w _,Nat.le_refl _,by unfold maxLen;omega,rfl,rfl⟩⟩
section
variable {t e sz:Nat}
theorem ZFo (ht:Tryz.prog.underlying t=some (.slice e)) (hs:∀W:World,(sizeOf e).run Tryz.prog W = .ok sz W) {n c k:Nat} {A:Option Addr} (h:k<=c) (hA:∀a,A=some a->a.spot=none) {z:Int} (hz:z=(k:Int)) (W:World) :
 (Instr.sliceAt t (.slice A n c) none (some (.int .i64 z)) none).run Tryz.prog W = .ok (.slice A k c) W:=by
 subst hz;have he:Tryz.prog.elem t=e:=by unfold Program.elem;rw[ht]
 rw[run_sliceAt_slice W _ _ _ _ _ (by rw[ht,he]),run_slice_h W _ A n c (by rw[ht,he]) .i64 k (by omega) (by omega),he,hs];simp only[Result.andThen_ok];congr 1;unfold sliced;have:(if c=0 then A else A.map fun x=>x.add (0*sz))=A:=by
  cases A with
  | none=>simp
  | some a =>
   obtain⟨b,o,sp⟩:=a;obtain rfl:sp=none:=hA _ rfl;simp[Addr.add_lit]
 rw[this];simp
theorem ZGu (ht:Tryz.prog.underlying t=some (.slice e)) (hs:∀W:World,(sizeOf e).run Tryz.prog W = .ok sz W) {n c k:Nat} {A:Option Addr} (hk:k<=n) (hc:n<=c) (hA:∀a,A=some a->a.spot=none) {z:Int} (hz:z=(k:Int)) :
 ∃A',(∀W:World,(Instr.sliceAt t (.slice A n c) (some (.int .i64 z)) none none).run Tryz.prog W = .ok (.slice A' (n - k) (c - k)) W)/\(∀(w:World) (xs:List Value),xs.length=n*sz->Cells w A xs->Cells w A' (xs.drop (k*sz)))/\∀a,A'=some a->a.spot=none:=by
 subst hz;have he:Tryz.prog.elem t=e:=by unfold Program.elem;rw[ht]
 have h0:∀W:World,(Instr.sliceAt t (.slice A n c) (some (.int .i64 k)) none none).run Tryz.prog W = .ok (sliced A k n c sz) W:=by
  intro W;rw[run_sliceAt_slice W _ _ _ _ _ (by rw[ht,he]),run_slice_l W _ A n c (by rw[ht,he]) .i64 k (by omega) (by omega),he,hs];simp only[Result.andThen_ok];congr 1
 refine⟨_,h0,fun w xs hx p0=>?_,fun a ha=>?_⟩
 ·rcases p0 with hb | ⟨g,o,rfl,hb⟩
  ·left;rw[hb];simp
  ·by_cases q0:c=k
   ·left;obtain rfl:n=k:=by omega
    rw[<-hx];exact List.drop_length
   ·refine .inr ⟨g,o+k*sz,by rw[if_neg q0];simp[Addr.add_lit],fun i v hv=>?_⟩;rw[Nat.add_assoc];refine hb (k*sz+i) v ?_;rw[List.getElem?_drop]at hv;exact hv
 ·cases A with
  | none=>split at ha <;> cases ha
  | some a0 =>
   obtain⟨b,o,sp⟩:=a0;obtain rfl:sp=none:=hA _ rfl;split at ha
   ·cases ha;rfl
   ·rw[Option.map_some,Addr.add_lit]at ha;cases ha;rfl
end
end
section
open Go.RowKit Go.Maps
theorem ZNv (c:Nat) (w:World):(binOp .eql 35 (.slice none 0 c) (.slice none 0 0)).run Tryz.prog w = .ok (.bool true) w:=by kernel_rfl
theorem ZNy (a:Addr) (n c:Nat) (w:World):(binOp .eql 35 (.slice (some a) n c) (.slice none 0 0)).run Tryz.prog w = .ok (.bool false) w:=by kernel_rfl
theorem ZJE (A:Option Addr) (n c:Nat) (l:List Fd) (w:World) (hn:n=l.length) (hl:Cells w A (fcells l)) (v0:n<=1073741824) :
 Calls Tryz.prog 127 #[.slice A n c] w fun e w'=>∃A1 c1,e = .returned (.slice A1 n c1)/\w'.ownsRow w.heap.size 105 2 (.slice A1 n c1) n (fcells l)/\Ext w w':=by
 cases A with
 | none =>
  have h0:l = []:=by
   rcases hl with h | ⟨_,_,h,_⟩
   ·have:=congrArg List.length h;rw[ZBZ,List.length_nil]at this;exact List.length_eq_zero_iff.1 (by omega)
   ·cases h
  subst h0;obtain rfl:n=0:=hn;have hq:=ZNv c w;go_enter Tryz.func127,Tryz.ntmps127;go_wp2_with fail;go_ret;exact⟨none,0,rfl,⟨rfl,.inl ⟨rfl,rfl⟩⟩,Ext.refl _⟩
 | some a =>
  have hq:=ZNy a n c w;have ho:=ZAo w 105;have q0:Ext w (w.alloc (.cells #[] 105)):=(Ext.refl w).alloc _;have hb:=hl.ext q0;have p0:(fcells l).length=n*2:=by rw[ZBZ,hn]
  have j0:∀u∈fcells l,u.oneCell'=true:=fun u hu=>by
   unfold fcells at hu;obtain⟨f,_,hf⟩:=List.mem_flatMap.1 hu;unfold Fd.cells at hf;simp only[List.mem_cons,List.not_mem_nil,or_false]at hf;rcases hf with rfl | rfl <;> rfl
  have m0:w.heap.size<=(w.alloc (.cells #[] 105)).heap.size:=q0.size;replace p0:=ZA p0;replace hn:=ZA hn;go_enter Tryz.func127,Tryz.ntmps127;go_wp2_with (at_builtin;refine Zh (m:=n) ZIZ ho hb (.tmp 5) (.tmp 6) rfl rfl rfl rfl rfl p0.out j0 (by omega) m0 (fun A1 c1 w3 k0 g0 t0=>?_));go_ret;refine⟨A1,c1,rfl,?_,q0.grown g0 (fun k hk=>by cases hk;exact Nat.le_refl _)⟩;rw[Nat.zero_add]at k0;exact k0
theorem ZNx (x:DocC) (w:World) (h:x.e.Ok w x.A) (j0:x.e.fs.length<=20):Calls Tryz.prog 71 #[.agg #[.int .i64 x.seq,.int .i64 x.e.at_,.slice x.A x.e.fs.length x.c]] w fun e w'=>∃A c,e = .returned (.agg #[.int .i64 x.seq,.int .i64 x.e.at_,.slice A x.e.fs.length c])/\x.e.Own w' w.heap.size A c/\Ext w w':=by
 obtain⟨sq,⟨at_,fs⟩,A,c⟩:=x;simp only at h j0 ⊢;have h0:=h.long;simp only at h0;obtain⟨n,hn⟩:∃n,n=fs.length:=⟨_,rfl⟩
 rw[<-hn]at j0 ⊢;have p0:Ext w ((w.alloc (.cells #[.int .i64 sq,.int .i64 at_,.slice A n c] 39)).alloc (.cells #[.int .i64 0,.int .i64 0,.slice none 0 0] 39)):=((Ext.refl w).alloc _).alloc _;have r1:Row ((w.alloc (.cells #[.int .i64 sq,.int .i64 at_,.slice A n c] 39)).alloc (.cells #[.int .i64 0,.int .i64 0,.slice none 0 0] 39)) w.heap.size 39 #[.int .i64 sq,.int .i64 at_,.slice A n c]:=(Row.new w _ _).alloc _;have r2:Row ((w.alloc (.cells #[.int .i64 sq,.int .i64 at_,.slice A n c] 39)).alloc (.cells #[.int .i64 0,.int .i64 0,.slice none 0 0] 39)) (w.heap.size+1) 39 #[.int .i64 0,.int .i64 0,.slice none 0 0]:=by
  have h:=Row.new (w.alloc (.cells #[.int .i64 sq,.int .i64 at_,.slice A n c] 39)) 39 #[.int .i64 0,.int .i64 0,.slice none 0 0];simpa using h
 have z0:=ZA (ZJE A n c fs ((w.alloc (.cells #[.int .i64 sq,.int .i64 at_,.slice A n c] 39)).alloc (.cells #[.int .i64 0,.int .i64 0,.slice none 0 0] 39)) hn (h.cells.ext p0) (by omega));have k2:=r1.cell 2 rfl;have a0:=p0.size;replace hn:=ZA hn;replace p0:=ZA p0;replace r1:=ZA r1;replace r2:=ZA r2;replace h0:=ZA h0;clear h;go_enter Tryz.func71,Tryz.ntmps71;go_wp2_with fail;refine z0.out.mono ?_;rintro e w2 ⟨A1,c1,rfl,q0,k0⟩;have q1:=r1.out.ext k0;have q2:=r2.out.ext k0;have z2:=q1.free 2;obtain⟨g,hg⟩:∃g,g=w.heap.size:=⟨_,rfl⟩
 rw[<-hg]at q1 q2 z2 ⊢;have p1:=q1.put 2 (.slice A1 n c1);have p2:=q2.away (p:=⟨g,2,none⟩) (by simp) (.slice A1 n c1);have y0:=p1.cell 0 rfl;have y1:=p1.cell 1 rfl;have y2:=p1.cell 2 rfl;have v0:=p2.cell 0 rfl;have v1:=p2.cell 1 rfl;have v2:=p2.cell 2 rfl;have u0:=p2.free 0;have u1:=p2.free 1;have u2:=p2.free 2;have s2:=q1.cell 2 rfl;replace q1:=ZA q1;replace q0:=ZA q0;replace k0:=ZA k0;replace hg:=ZA hg;replace p2:=ZA p2;replace p1:=ZA p1;replace q2:=ZA q2;clear k2;go_wp2_with fail;have pf:=((p2.out.put 0 (.int .i64 sq)).put 1 (.int .i64 at_)).put 2 (.slice A1 n c1);have b0:=hg.out;have m0:=(((p0.out.trans k0.out).setCell (p:=⟨g,2,none⟩) (by simp only;omega) (.slice A1 n c1)).setCell (p:=⟨g+1,0,none⟩) (by simp only;omega) (.int .i64 sq)).setCell (p:=⟨g+1,1,none⟩) (by simp only;omega) (.int .i64 at_);have t0:=m0.setCell (p:=⟨g+1,2,none⟩) (by simp only;omega) (.slice A1 n c1);have g0:=ZN q0.out a0;have hC:Chg (fun k=>k=g\/k=g+1) w2 ((((w2.setCell ⟨g,2,none⟩ (.slice A1 n c1)).setCell ⟨g+1,0,none⟩ (.int .i64 sq)).setCell ⟨g+1,1,none⟩ (.int .i64 at_)).setCell ⟨g+1,2,none⟩ (.slice A1 n c1)) :=
  (((Chg.of_set w2 _ (.inl rfl)).trans (Chg.of_set _ _ (.inr rfl)) fun _ _ h=>h).trans (Chg.of_set _ _ (.inr rfl)) fun _ _ h=>h).trans (Chg.of_set _ _ (.inr rfl)) fun _ _ h=>h
 have x0:=hC.owns g0 fun k hk=>by
  obtain⟨cs,hr,_⟩:=ZC g0 hk;rintro(rfl | rfl)
  ·exact Row.unlike hr q1.out (by decide) rfl
  ·exact Row.unlike hr q2.out (by decide) rfl
 refine bodyPost_ret (results_cell_row rfl _ _ (g+1) 39 #[.int .i64 sq,.int .i64 at_,.slice A1 n c1] (0,0) _ rfl pf Tryz.underlying39 rfl (by kernel_rfl)) rfl ⟨A1,c1,rfl,⟨?_,h0.out,?_⟩,t0⟩
 ·simp only;rw[<-hn.out];exact x0
 ·simp only;rw[<-hn.out];exact j0
end
section
open Go.RowKit Go.Maps
theorem DocsOwn.push {w w8:World} {base c c8:Nat} {B A8:Option Addr} {l:List DocC} {x:DocC} (h:DocsOwn w base B c l) (hx:x.e.Own w base x.A x.c) (hi:I64ok' x.e.at_/\I64ok' x.seq)
 (ho:w8.ownsRow base 39 3 (.slice A8 (l.length+1) c8) (l.length+1) (dcells l++x.cells)) (hg:w.grownBy w8 (Value.slice B l.length c).ownBlock):DocsOwn w8 base A8 c8 (l ++ [x]):=by
 have hlen:(l ++ [x]).length=l.length+1:=by simp
 have q0:Chg (fun k'=>(Value.slice B l.length c).ownBlock=some k') w w8:=Chg.of_grown hg fun k' _ k0=>k0;have p0:∀k cs,Row w k 105 cs->¬ (Value.slice B l.length c).ownBlock=some k:=fun k cs hr=>ZJ h.own hr (by decide);refine⟨by rw[hlen,ZBs];exact ho,fun y hy=>?_,fun y hy=>?_⟩
 ·rcases List.mem_append.1 hy with hy | hy
  ·exact⟨q0.owns (h.each y hy).1 fun g' h0=>by obtain⟨cs,hr,_⟩:=ZC (h.each y hy).1 h0;exact p0 _ _ hr,(h.each y hy).2⟩
  ·rw[List.mem_singleton.1 hy];exact⟨q0.owns hx.1 fun g' h0=>by obtain⟨cs,hr,_⟩:=ZC hx.1 h0;exact p0 _ _ hr,hx.2⟩
 ·rcases List.mem_append.1 hy with hy | hy
  ·exact h.ints y hy
  ·rw[List.mem_singleton.1 hy];exact hi
def DocsA (P:List Dc) (w:World) (e:Ending) (w':World):Prop:=Ext w w'/\∃(l:List DocC) (A:Option Addr) (c:Nat),dcs l=P/\e = .returned (.slice A l.length c)/\DocsOwn w' w.heap.size A c l
theorem SegP.fields {P:List Dc} (h:SegP P) {d:Dc} (hd:d∈P):d.2.fs.length<=20:=by
 have h1:=h.sm.ok;unfold okDs at h1;rw[Bool.and_eq_true,Bool.and_eq_true,List.all_eq_true]at h1;have:=(Zd (of_decide_eq_true (h1.2.2 d hd))).1;omega
end
section
open Go.RowKit Go.Maps
def few1 (d:Dc):Dc:=(d.1,fewE d.2)
def fewF (fs:List Fd):List Fd:=fs.map fun f=>(f.1,f.2.take 300)
structure FwJ (wo wi:World) (bk k dd:Nat) (sq at_:Int) (C:Option Addr) (xs:List Fd):Prop where
  row:Row wi bk 39 #[.int .i64 sq,.int .i64 at_,.slice C k dd]
  evs:wi.ownsRow wo.heap.size 105 2 (.slice C k dd) k (fcells xs)
  len:xs.length=k
  long:∀f∈xs,f.1.length<=9223372036854775807/\f.2.length<=9223372036854775807
  low:wo.heap.size<=bk
  ext:Ext wo wi
theorem FwJ.start (w:World) (sq at_:Int):FwJ w (w.alloc (.cells #[.int .i64 sq,.int .i64 at_,.slice none 0 0] 39)) w.heap.size 0 0 sq at_ none [] :=
 ⟨Row.new w _ _,⟨rfl,.inl ⟨rfl,rfl⟩⟩,rfl,nofun,Nat.le_refl _,(Ext.refl w).alloc _⟩
theorem FwJ.mid {wo wi w5 w8:World} {bk k dd:Nat} {sq at_:Int} {C:Option Addr} {xs:List Fd} (h:FwJ wo wi bk k dd sq at_ C xs) (h0:Ext wi w5) (q0:w5.grownBy w8 (Value.slice C k dd).ownBlock):Row w8 bk 39 #[.int .i64 sq,.int .i64 at_,.slice C k dd]:=by
 refine Row.grown (h.row.ext h0) q0 fun e=>?_;obtain⟨cs,hr,_⟩:=ZC h.evs e.symm;exact Row.unlike h.row hr (by decide) rfl
theorem FwJ.step {wo wi w5 w8:World} {bk k dd c8:Nat} {sq at_:Int} {C A8:Option Addr} {xs:List Fd} {y:Fd} (h:FwJ wo wi bk k dd sq at_ C xs) (h0:Ext wi w5) (hy:y.1.length<=9223372036854775807/\y.2.length<=9223372036854775807)
 (p0:w8.ownsRow wo.heap.size 105 2 (.slice A8 (k+1) c8) (k+1) (fcells xs++y.cells)) (q0:w5.grownBy w8 (Value.slice C k dd).ownBlock) :
 FwJ wo (w8.setCell ⟨bk,2,none⟩ (.slice A8 (k+1) c8)) bk (k+1) c8 sq at_ A8 (xs ++ [y]):=by
 have k0:=h.mid h0 q0;have j0:Chg (fun g=>g=bk) w8 (w8.setCell ⟨bk,2,none⟩ (.slice A8 (k+1) c8)):=Chg.of_set w8 _ rfl;refine⟨?_,?_,by rw[List.length_append,h.len];rfl,fun z hz=>?_,h.low,?_⟩
 ·have:=Row.put k0 2 (.slice A8 (k+1) c8);simpa using this
 ·rw[ZBi];refine j0.owns p0 fun g hg g0=>?_;obtain⟨cs,hr,_⟩:=ZC p0 hg;subst g0;exact Row.unlike hr k0 (by decide) rfl
 ·rcases List.mem_append.1 hz with hz | hz
  ·exact h.long z hz
  ·rw[List.mem_singleton.1 hz];exact hy
 ·exact((h.ext.trans h0).grown q0 fun g m0=>(by obtain⟨_,_,hb⟩:=ZC h.evs m0;exact hb)).setCell h.low _
theorem ZKf (A0:Option Addr) (c0 n:Nat) (ds:List DocC) (w:World) (hn:n=ds.length) (h:DocsOk w A0 ds) :
 Calls Tryz.prog 37 #[.slice A0 n c0] w fun e w'=>DocsA (fewD (dcs ds)) w e w':=by
 replace hn:=ZA hn;replace h:=ZA h;go_enter Tryz.func37,Tryz.ntmps37;go_wp2_with fail
 go_loopw [3,4] (fun s3 s4 wr=>∃(i d:Nat) (B:Option Addr) (outs:List DocC),s3 = .slice B i d/\s4 = .int .i64 (i:Int)/\i<=n/\i<=40/\Hid (outs.length=i)/\Hid (dcs outs=((dcs ds).take i).map few1)/\Hid (DocsOwn wr w.heap.size B d outs)/\Hid (Ext w wr)) (fun _ s4 _=>40 - (intOf s4).toNat)
 case atStart=>exact⟨0,0,none,[],rfl,rfl,by omega,by omega,ZA rfl,ZA rfl,ZA (DocsOwn.nil _ _),ZA (Ext.refl _)⟩
 case round =>
  obtain⟨i,d,B,outs,rfl,rfl,hi,x1,n0,h2,q2,hE⟩:=hrel;by_cases o1:i<n/\i<40
  ·obtain⟨s1,f2⟩:=o1;have r1:(i:Int)<40:=by omega
   obtain⟨x,hx⟩:∃x,ds[i]? = some x:=⟨_,List.getElem?_eq_getElem (by rw[<-hn.out];exact s1)⟩
   obtain⟨h1,g1,m1⟩:=h.out.each x (List.mem_of_getElem? hx);obtain⟨g,o,hA,l0,l1,l2⟩:=ZU (h.out.cells) hx;have q0:dcs (outs ++ [(⟨x.seq,fewE x.e,x.A,x.c⟩:DocC)])=((dcs ds).take (i+1)).map few1:=by
    rw[Z6,h2.out];have:(dcs ds)[i]? = some x.dc:=by unfold dcs;rw[List.getElem?_map,hx];rfl
    rw[List.take_add_one,this,List.map_append];rfl
   rw[Z6]at q0;obtain⟨sq,⟨at_,fs⟩,fA,fc⟩:=x;simp only at l0 l1 l2 h1 g1 m1 q0;obtain⟨fn,e0⟩:∃fn,fn=fs.length:=⟨_,rfl⟩
   rw[<-e0]at l2;have k0:=hE.out.cell l0;have k1:=hE.out.cell l1;have k2:=hE.out.cell l2;have j2:=ZA (FwJ.start wr sq at_);have a2:=ZA (fun W (hE:Ext w W)=>hE.cell l2);subst hA;replace e0:=ZA e0;replace h1:=ZA h1;replace g1:=ZA g1;replace m1:=ZA m1;replace q0:=ZA q0;clear hx l0 l1 l2;go_wp2_with fail;clear k0 k1 k2;obtain⟨wo,rfl⟩:∃wo,wo=wr:=⟨_,rfl⟩
   go_loopw [6] (fun s6 wi=>∃(k dd:Nat) (C:Option Addr),s6 = .int .i64 (k:Int)/\k<=8/\k<=fn/\Hid (FwJ wo wi wo.heap.size k dd sq at_ C (fewF (fs.take k)))) (fun s6 _=>8 - (intOf s6).toNat)
   case atStart=>exact⟨0,0,none,rfl,by omega,by omega,j2⟩
   case round =>
    clear j2;obtain⟨k,dd,C,rfl,i2,n2,p0⟩:=hrel;have t1:=ZA p0.out.ext;have m0:=ZA (hE.out.trans t1.out);obtain⟨bk,v1⟩:∃bk,bk=wo.heap.size:=⟨_,rfl⟩
    rw[<-v1]at p0 ⊢;have d2:=p0.out.row.lt;replace v1:=ZA v1;have q1:=a2.out wr m0.out;by_cases y2:k<fn/\k<8
    ·obtain⟨w1,z1⟩:=y2;have z2:(k:Int)<8:=by omega
     obtain⟨f,hf⟩:∃f,fs[k]? = some f:=⟨_,List.getElem?_eq_getElem (by rw[<-e0.out];exact w1)⟩
     have n1:=h1.out.long f (List.mem_of_getElem? hf);obtain⟨g2,o2,u2,j0,j1⟩:=Zu (h1.out.cells.ext m0.out) hf;have s0:fewF (fs.take (k+1))=fewF (fs.take k) ++ [(f.1,f.2.take 300)]:=by
      rw[List.take_add_one,hf];unfold fewF;rw[List.map_append];rfl
     obtain⟨nm,tx⟩:=f;simp only at n1 j0 j1 s0;unfold strV at j0 j1;obtain⟨u1,x2⟩:=n1;obtain⟨mm,c1⟩:∃mm:Nat,mm=min tx.length 300:=⟨_,rfl⟩
     have c2:=Zf (P:=Tryz.prog) #[3,3] 3 (x:=(tx.length:Int)) (y:=300) (m:=(mm:Int)) (by omega);have p2:=ZDK tx mm (by omega);have m2:tx.take mm=tx.take 300:=by
      rw[c1];rcases Nat.le_total tx.length 300 with h3 | h3
      ·rw[Nat.min_eq_left h3,List.take_length,List.take_of_length_le h3]
      ·rw[Nat.min_eq_right h3]
     rw[m2]at p2;have t2:(tx.take 300).length<=9223372036854775807:=by rw[List.length_take];omega
     obtain⟨tt,i1⟩:∃tt,tt=tx.take 300:=⟨_,rfl⟩
     rw[<-i1]at p2 s0 t2;subst u2;replace c1:=ZA c1;replace i1:=ZA i1;replace s0:=ZA s0;clear hf m2;obtain⟨w5,i0⟩:∃w5,w5=wr.alloc (.cells #[.string ⟨nm.toArray⟩,.string ⟨tt.toArray⟩] 105):=⟨_,rfl⟩
     have p1:Row w5 wr.heap.size 105 #[.string ⟨nm.toArray⟩,.string ⟨tt.toArray⟩]:=by rw[i0];exact Row.new wr _ _
     have a0:Ext wr w5:=by rw[i0];exact(Ext.refl wr).alloc _
     have y0:=p1.cell 0 rfl;have y1:=p1.cell 1 rfl;have b2:=(p0.out.row.ext a0).cell 2 rfl;have u0:=a0.owns p0.out.evs;have w0:=(t1.out.trans a0).size;have z0:=w0;have g0:=u0;rw[i0]at y0 y1 b2 g0 z0;replace i0:=ZA i0;replace p1:=ZA p1;replace a0:=ZA a0;clear u0 w0;go_wp2_with (at_builtin;refine ZR (us:= [.string ⟨nm.toArray⟩,.string ⟨tt.toArray⟩]) (m:=1) ZIZ g0 (by simp) (.tmp 58) (.tmp 60) rfl rfl rfl rfl rfl (ZS rfl) (by omega) z0 (fun A8 c8 w8 f0 t0 a1=>?_);rw[<-i0.out]at t0;have e1:=p0.out.mid a0.out t0;have q4:w8.cell? ⟨bk,2,none⟩=some (.slice C k dd):=e1.cell 2 rfl;have qf:=e1.free 2;have x0:=ZA (FwJ.step (y:=(nm,tt)) p0.out a0.out ⟨u1,t2⟩ f0 t0);clear f0 t0 a1 e1 y0 y1 b2);rw[<-s0.out]at x0;go_roundw
     case rel=>exact⟨k+1,c8,A8,by go_num,by omega,by omega,x0⟩
     case measure=>simp[intOf];omega
    ·have h0:fewF (fs.take k)=(fewE ⟨at_,fs⟩).fs:=by
      unfold fewF fewE;simp only;rcases Nat.lt_or_ge k fn with h7 | h7
      ·have:k=8:=by omega
       rw[this]
      ·rw[List.take_of_length_le (by rw[<-e0.out];exact h7),List.take_of_length_le (by rw[<-e0.out];omega)]
     have o0:=ZA (q2.out.ext t1.out);have f1:w.heap.size<=wr.heap.size:=m0.out.size;have v0:wr.ownsRow w.heap.size 39 3 (.slice B i d) i (dcells outs):=by have:=o0.out.own;rw[n0.out]at this;exact this
     have b0:=p0.out.row.cell 0 rfl;have b1:=p0.out.row.cell 1 rfl;have b2:=p0.out.row.cell 2 rfl;replace h0:=ZA h0;by_cases w1:k<fn
     case' pos=>have z1:¬ (k:Int)<8:=by omega
     all_goals
      go_wp2_with (at_builtin;refine ZR (us:= [.int .i64 sq,.int .i64 at_,.slice C k dd]) (m:=1) ZFO v0 rfl (.tmp 64) (.tmp 66) rfl rfl rfl rfl rfl (ZS rfl) (by omega) f1 (fun A8 c8 w8 f0 t0 a1=>?_);replace f0:=ZA f0;replace t0:=ZA t0;clear a1 b0 b1 b2);have hlen:=p0.out.len;have d1:Ev.Own (fewE ⟨at_,fs⟩) wr w.heap.size C dd:=by
       refine⟨?_,?_,?_⟩
       ·rw[<-h0.out,hlen];exact ZN p0.out.evs hE.out.size
       ·rw[<-h0.out];exact p0.out.long
       ·rw[<-h0.out,hlen];omega
      have r0:=DocsOwn.push (x:=⟨sq,fewE ⟨at_,fs⟩,C,dd⟩) o0.out d1 ⟨g1.out,m1.out⟩ (by rw[n0.out];unfold DocC.cells;simp only;rw[<-h0.out,hlen];exact f0.out) (by rw[n0.out];exact t0.out);have v2:Ext w w8:=m0.out.grown t0.out fun k hk=>by obtain⟨_,_,hb⟩:=ZC v0 hk;exact hb
      go_roundw
      case rel=>exact⟨i+1,c8,A8,_,rfl,by go_num,by omega,by omega,ZA (by rw[List.length_append,n0.out];rfl),ZA (by rw[Z6];exact q0.out),ZA r0,ZA v2⟩
      case measure=>simp[intOf];omega
  ·have d0:dcs outs=fewD (dcs ds):=by
    rw[h2.out];unfold fewD;show ((dcs ds).take i).map few1=((dcs ds).take 40).map few1;have e2:(dcs ds).length=n:=by unfold dcs;rw[List.length_map,hn.out]
    rcases Nat.lt_or_ge i n with h7 | h7
    ·have:i=40:=by omega
     rw[this]
    ·rw[List.take_of_length_le (by omega),List.take_of_length_le (by omega)]
   replace d0:=ZA d0;by_cases s1:i<n
   case' pos=>have x1:¬ (i:Int)<40:=by omega
   all_goals
    clear o1;go_wp2_with fail;go_ret;exact⟨hE.out,outs,B,d,d0.out,by rw[n0.out];rfl,q2.out⟩
end
section
open Go.RowKit
theorem ZGe (l m:List DocC) (A B:Option Addr) (c c2:Nat) (w:World) (hl:DocsOk w A l) (hm:DocsOk w B m) (j0:dcs l=dcs m) (hb:l.length<=1000000000) :
 Calls Tryz.prog 20 #[.slice A l.length c,.slice B m.length c2] w fun en w'=>en = .returned (.bool true)/\Ext w w':=by
 have hlen:m.length=l.length:=by
  have:=congrArg List.length j0;unfold dcs at this;rw[List.length_map,List.length_map]at this;exact this.symm
 obtain⟨n,hn⟩:∃n,n=l.length:=⟨_,rfl⟩
 rw[hlen,<-hn];rw[<-hn]at hb hlen;replace hn:=ZA hn;replace hlen:=ZA hlen;replace j0:=ZA j0;go_enter Tryz.func20,Tryz.ntmps20;go_wp2_with fail
 go_loopw [5] (fun s5 wr=>∃i:Nat,s5 = .int .i64 (i:Int)/\i<=n/\Hid (Ext w wr)) (fun s5 _=>n - (intOf s5).toNat)
 case atStart=>exact⟨0,rfl,by omega,ZA (Ext.refl w)⟩
 case round =>
  obtain⟨i,rfl,hi,hE⟩:=hrel;by_cases y0:i<n
  ·obtain⟨x,hx⟩:∃x,l[i]? = some x:=⟨_,List.getElem?_eq_getElem (by rw[<-hn.out];exact y0)⟩
   obtain⟨y,hy⟩:∃y,m[i]? = some y:=⟨_,List.getElem?_eq_getElem (by rw[hlen.out];exact y0)⟩
   have z0:x.dc=y.dc:=by
    have h1:(dcs l)[i]? = some x.dc:=by unfold dcs;rw[List.getElem?_map,hx];rfl
    have h2:(dcs m)[i]? = some y.dc:=by unfold dcs;rw[List.getElem?_map,hy];rfl
    rw[j0.out,h2]at h1;exact(Option.some.inj h1).symm
   obtain⟨g,o,hA,k0,k1,k2⟩:=ZU (hl.cells.ext hE.out) hx;obtain⟨g2,o2,hB,k3,k4,k5⟩:=ZU (hm.cells.ext hE.out) hy;have v0:=(hl.each x (List.mem_of_getElem? hx)).1;have x0:=(hm.each y (List.mem_of_getElem? hy)).1;obtain⟨sq,⟨at_,fs⟩,C,d⟩:=x;obtain⟨sq2,e2,D,d2⟩:=y;unfold DocC.dc at z0;injection z0 with h1 h2;simp only at h1 h2 k0 k1 k2 k3 k4 k5 v0 x0;subst h1 h2 hA hB;have p0:=fun W (hE:Ext w W)=>ZJP ⟨at_,fs⟩ ⟨at_,fs⟩ C D d d2 W (v0.ext hE) (x0.ext hE);rw[show sameE ⟨at_,fs⟩ ⟨at_,fs⟩=true from decide_eq_true ⟨rfl,rfl⟩]at p0;unfold Ev.val at p0;simp only at p0 k4 k5;obtain⟨k,hk⟩:∃k,k=fs.length:=⟨_,rfl⟩
   rw[<-hk]at p0 k2 k5;have t0:∀x,(x.cell? ⟨g,o+i*3,none⟩=some (.int .i64 sq)/\x.cell? ⟨g,o+i*3+1,none⟩=some (.int .i64 at_)/\x.cell? ⟨g,o+i*3+2,none⟩=some (.slice C k d)/\x.cell? ⟨g2,o2+i*3,none⟩=some (.int .i64 sq)/\x.cell? ⟨g2,o2+i*3+1,none⟩=some (.int .i64 at_)/\x.cell? ⟨g2,o2+i*3+2,none⟩=some (.slice D k d2)/\Ext w x)->Calls Tryz.prog 70 #[.agg #[.int .i64 at_,.slice C k d],.agg #[.int .i64 at_,.slice D k d2]] x fun e y=>e = .returned (.bool true)/\(y.cell? ⟨g,o+i*3,none⟩=some (.int .i64 sq)/\y.cell? ⟨g,o+i*3+1,none⟩=some (.int .i64 at_)/\y.cell? ⟨g,o+i*3+2,none⟩=some (.slice C k d)/\y.cell? ⟨g2,o2+i*3,none⟩=some (.int .i64 sq)/\y.cell? ⟨g2,o2+i*3+1,none⟩=some (.int .i64 at_)/\y.cell? ⟨g2,o2+i*3+2,none⟩=some (.slice D k d2)/\Ext w y):=fun x ⟨h0,h1,h2,h3,h4,h5,hE⟩ =>
    (p0 x hE).mono fun e y ⟨he,q0⟩=>⟨he,q0.cell h0,q0.cell h1,q0.cell h2,q0.cell h3,q0.cell h4,q0.cell h5,hE.trans q0⟩
   have g0:wr.cell? ⟨g,o+i*3,none⟩=some (.int .i64 sq)/\wr.cell? ⟨g,o+i*3+1,none⟩=some (.int .i64 at_)/\wr.cell? ⟨g,o+i*3+2,none⟩=some (.slice C k d)/\wr.cell? ⟨g2,o2+i*3,none⟩=some (.int .i64 sq)/\wr.cell? ⟨g2,o2+i*3+1,none⟩=some (.int .i64 at_)/\wr.cell? ⟨g2,o2+i*3+2,none⟩=some (.slice D k d2)/\Ext w wr:=⟨k0,k1,k2,k3,k4,k5,hE.out⟩
   have m0:wr.drew.cell? ⟨g,o+i*3,none⟩=some (.int .i64 sq)/\wr.drew.cell? ⟨g,o+i*3+1,none⟩=some (.int .i64 at_)/\wr.drew.cell? ⟨g,o+i*3+2,none⟩=some (.slice C k d)/\wr.drew.cell? ⟨g2,o2+i*3,none⟩=some (.int .i64 sq)/\wr.drew.cell? ⟨g2,o2+i*3+1,none⟩=some (.int .i64 at_)/\wr.drew.cell? ⟨g2,o2+i*3+2,none⟩=some (.slice D k d2)/\Ext w wr.drew:=⟨k0,k1,k2,k3,k4,k5,hE.out.drew⟩
   have u0:∀x,(x.cell? ⟨g,o+i*3,none⟩=some (.int .i64 sq)/\x.cell? ⟨g,o+i*3+1,none⟩=some (.int .i64 at_)/\x.cell? ⟨g,o+i*3+2,none⟩=some (.slice C k d)/\x.cell? ⟨g2,o2+i*3,none⟩=some (.int .i64 sq)/\x.cell? ⟨g2,o2+i*3+1,none⟩=some (.int .i64 at_)/\x.cell? ⟨g2,o2+i*3+2,none⟩=some (.slice D k d2)/\Ext w x)->Ext w x:=fun x h=>h.2.2.2.2.2.2;have c0:(0:Int)<=i:=by omega
   have hi1:(i:Int)<n:=by omega
   replace t0:=ZA t0;replace g0:=ZA g0;replace m0:=ZA m0;replace u0:=ZA u0;clear hx hy v0 x0 p0 hk;go_wp2_with fail
   go_region_held3 (fun x=>x.cell? ⟨g,o+i*3,none⟩=some (.int .i64 sq)/\x.cell? ⟨g,o+i*3+1,none⟩=some (.int .i64 at_)/\x.cell? ⟨g,o+i*3+2,none⟩=some (.slice C k d)/\x.cell? ⟨g2,o2+i*3,none⟩=some (.int .i64 sq)/\x.cell? ⟨g2,o2+i*3+1,none⟩=some (.int .i64 at_)/\x.cell? ⟨g2,o2+i*3+2,none⟩=some (.slice D k d2)/\Ext w x) (first | exact m0.out | exact g0.out | exact ‹_›) (first | (go_at_call 70;refine(t0.out _ ‹_›).mono ?_;rintro e w3 ⟨rfl,b0⟩))
   go_wp2_with fail;have a0:=ZA (u0.out _ ‹_›);go_roundw
   case rel=>exact⟨i+1,by go_num,by omega,a0⟩
   case measure=>simp[intOf];omega
  ·go_wp2_with fail;go_ret;exact⟨rfl,hE.out⟩
end
section
open Go.RowKit Go.Maps
theorem ZKD:∀(rs:List (List UInt8×List Po)) (pre:List (List UInt8×List Po)) (e:En),e∈enOf (postB pre).length rs->∃r∈rs,e.t=r.1/\e.len=(encPs r.2).length/\e.off+e.len<=(postB (pre++rs)).length/\((postB (pre++rs)).drop e.off).take e.len=encPs r.2
 | [],pre,e,h=>by cases h
 | r::t,pre,e,h=>by
  unfold enOf at h;have h0:postB (pre++r::t)=postB pre++(encPs r.2++postB t):=by rw[ZAm];rfl
  rcases List.mem_cons.1 h with rfl | h
  ·refine⟨r,List.mem_cons_self ..,rfl,rfl,by rw[h0];simp only[List.length_append];omega,?_⟩;simp only[h0];rw[List.drop_left,List.take_left]
  ·have q0:(postB (pre ++ [r])).length=(postB pre).length+(encPs r.2).length:=by rw[ZAm,List.length_append];congr 1;unfold postB;simp
   rw[<-q0]at h;obtain⟨r',p0,h1,h2,h3,h4⟩:=ZKD t (pre ++ [r]) e h;rw[List.append_assoc,List.singleton_append]at h3 h4;exact⟨r',List.mem_cons_of_mem _ p0,h1,h2,h3,h4⟩
def PostsR (P:List Dc) (t:List UInt8) (w:World) (e:Ending) (w':World):Prop:=Ext w w'/\((∃r∈rowsD P,r.1=t/\∃(ps:List PoC) (A:Option Addr) (c:Nat),psP ps=r.2/\e = .returned (.slice A r.2.length c)/\PosOk w' A ps)\/((∀r∈rowsD P,r.1≠t)/\e = .returned (.slice none 0 0)))
theorem ZJA (g:Nat) (P:List Dc) (t:List UInt8) (w:World) (h:SegR w g P) (hP:SegP P):Calls Tryz.prog 14 #[.pointer (some ⟨g,0,none⟩),.string ⟨t.toArray⟩] w fun e w'=>PostsR P t w e w':=by
 have hn:=ZA (h.none hP);have hB:=hP.sm.seg;obtain⟨ds,A,c,lo,hi,fi,la,B,cB,gd,gf,h1,h2,h3,h4,h5,h6,h7⟩:=h;have k8:=h1.cell 8 rfl;have hg:=ZA (ZML gd _ t w h5 hB.ens);obtain⟨nB,k0⟩:∃nB,nB=(postB (rowsD P)).length:=⟨_,rfl⟩
 rw[<-k0]at h1 h6;have r0:=hB.posts;rw[<-k0]at r0;replace h1:=ZA h1;replace h6:=ZA h6;replace k0:=ZA k0;replace hB:=ZA hB;clear h2 h3 h4 h5 h7;go_enter Tryz.func14,Tryz.ntmps14;go_wp2_with fail;refine hn.out.mono ?_;rintro e w1 ⟨rfl,rfl⟩;go_wp2_with fail;refine hg.out.mono ?_;rintro e w2 ⟨g0,b0⟩;rcases b0 with ⟨x,hx,f0,rfl⟩ | ⟨i0,rfl⟩
 ·obtain⟨r,hr,a0,l0,v0,u0⟩:=ZKD (rowsD P) [] x hx;rw[List.nil_append]at v0 u0;rw[<-k0.out]at v0;obtain⟨xo,d0⟩:∃xo,xo=x.off:=⟨_,rfl⟩
  obtain⟨xn,c0⟩:∃xn,xn=x.len:=⟨_,rfl⟩
  rw[<-d0,<-c0]at v0 u0 ⊢;have m0:=hB.out.each r hr;obtain⟨A5,c5,q1,t0⟩:=(h6.out.ext g0).subk .i64 .i64 (fr:=xo) (k:=xn) v0 (z0:=(xo:Int)) (z:=(xo:Int)+(xn:Int)) rfl rfl;rw[u0]at t0;have h0:=fun W (hE:Ext w2 W)=>ZGJ A5 xn c5 (encPs r.2) W r.2 (t0.ext hE) m0.1 rfl m0.2.2.2.1;have p1:wrap64 ((xo:Int)+(xn:Int))=(xo:Int)+(xn:Int):=by unfold wrap64;omega
  replace d0:=ZA d0;replace c0:=ZA c0;replace h0:=ZA h0;replace m0:=ZA m0;replace t0:=ZA t0;replace hr:=ZA hr;have j0:=h1.out.ext g0;have k9:=j0.cell 9 rfl;have o0:=j0.lt;replace j0:=ZA j0;clear u0 hx;replace f0:=ZA f0;replace a0:=ZA a0;replace l0:=ZA l0;go_wp2_with fail;obtain⟨W5,p0⟩:∃W5,W5=w2.alloc (Obj.cells #[.string ⟨x.t.toArray⟩,.int .i64 (xo:Int),.int .i64 (xn:Int),.int .i64 (x.n:Int)] 97):=⟨_,rfl⟩
  rw[<-p0];have x0:Ext w2 W5:=by rw[p0];exact(Ext.refl w2).alloc _
  have r5:Row W5 w2.heap.size 97 #[.string ⟨x.t.toArray⟩,.int .i64 (xo:Int),.int .i64 (xn:Int),.int .i64 (x.n:Int)]:=by rw[p0];exact Row.new w2 _ _
  obtain⟨g5,y0⟩:∃g5,g5=w2.heap.size:=⟨_,rfl⟩
  rw[<-y0]at r5 ⊢;have y1:=r5.cell 1 rfl;have y2:=r5.cell 2 rfl;have k95:=x0.cell k9;replace r5:=ZA r5;replace p0:=ZA p0;replace y0:=ZA y0;refine ZPw (fun K hK=>?_);go_wp2_with fail;refine(h0.out W5.drew x0.drew).mono ?_;rintro e w6 ⟨ps,A6,c6,w0,rfl,s0,_,_,n0⟩;go_wp2_with fail;refine⟨by kernel_rfl,?_⟩;go_wp2_with fail;go_ret;exact⟨g0.trans (x0.drew.trans n0),.inl ⟨r,hr.out,a0.out.symm.trans f0.out,ps,A6,c6,w0,rfl,s0⟩⟩
 ·have q0:∀r∈rowsD P,r.1≠t:=fun r hr e=>by
   have key:∀(rs:List (List UInt8×List Po)) (o:Nat),r∈rs->∃x∈enOf o rs,x.t=r.1:=by
    intro rs
    induction rs with
    | nil=>intro o h;cases h
    | cons q qs ih =>
     intro o h;unfold enOf;rcases List.mem_cons.1 h with rfl | h
     ·exact⟨_,List.mem_cons_self ..,rfl⟩
     ·obtain⟨x,hx,e0⟩:=ih _ h;exact⟨x,List.mem_cons_of_mem _ hx,e0⟩
   obtain⟨x,hx,e0⟩:=key _ 0 hr;exact i0 x hx (e0.trans e)
  unfold noEn;replace q0:=ZA q0;clear i0;go_wp2_with fail;go_ret;exact⟨g0.alloc _,.inr ⟨q0.out,rfl⟩⟩
end
section
open Go.RowKit
theorem ZDp {P:List Dc} (hP:SegP P) (h0:∀p∈framesD P,p.length<=16777216) (ha:∀d∈P,I64ok' d.2.at_):openD (segL P)=some P:=by
 have h1:(segL P).take 4 = [76,83,69,71]:=rfl;have h2:(segL P).drop 4=joinL (framesD P):=rfl;have h3:=ZIL hP.sm.ok ha (by have:=hP.sm.sz;omega);unfold openD;rw[if_pos h1,h2,ZBy _ h0,if_pos ⟨rfl,rfl⟩];show (match decDs (encDs P)with | some Q=>if 0<Q.length/\segL Q=segL P then some Q else none | none=>none)=some P;rw[h3];show (if 0<P.length/\segL P=segL P then some P else none)=some P;rw[if_pos ⟨hP.ne,rfl⟩]
theorem ZC5 {b:List UInt8} (hb:b.length<=60000) (P:List Dc) (h:decDs ((splitF (b.drop 4)).1.headD [])=some P):(blockD 0 P).length<=70000:=by
 have h1:=ZAV h;have h2:((splitF (b.drop 4)).1.headD []).length<=b.length:=by
  cases hs:(splitF (b.drop 4)).1 with
  | nil=>simp
  | cons p t =>
   have:=(ZCm (l:=b.drop 4) (p:=p) (by rw[hs];exact List.mem_cons_self ..)).2;rw[List.length_drop]at this;simp only[List.headD_cons];omega
 rw[<-h1.2]at h2;unfold encDs at h2;simp only[List.length_append]at h2;omega
def aw1:List Dc:= [(1,⟨7,[([109,115,103],[120])]⟩)]
def aw2:List Dc:= [(4,⟨0,[]⟩)]
theorem ZOI:okDs aw1=true:=by kernel_rfl
theorem ZOR:okDs aw2=true:=by kernel_rfl
theorem ZNZ:(blockD 0 aw1).length=9:=by kernel_rfl
theorem ZN3:(blockD 0 aw2).length=3:=by kernel_rfl
theorem ZIF:rowsD aw1 = [([109,115,103,58,120],[(0,[0])])]:=by kernel_rfl
theorem ZIU:rowsD aw2 = []:=by kernel_rfl
theorem ZCd:SegP aw1:=⟨⟨ZOI,by rw[ZNZ];decide⟩,by decide⟩
theorem ZDm:SegP aw2:=⟨⟨ZOR,by rw[ZN3];decide⟩,by decide⟩
theorem ZMs:partD aw1 = [7,7,1,1,1]:=by kernel_rfl
theorem ZNk:mayB (ofB ((rowsD aw1).map (·.1))) [109,115,103,58,120]=true:=by
 rw[ZIF]
 kernel_rfl
theorem ZNL:mayB (ofB ((rowsD aw2).map (·.1))) [109,115,103,58,120]=false:=by
 rw[ZIU]
 kernel_rfl
theorem ZON:(framesD aw1).all (fun p=>decide (p.length<=16777216))=true:=by kernel_rfl
theorem ZOB:(framesD aw2).all (fun p=>decide (p.length<=16777216))=true:=by kernel_rfl
theorem ZOO:decide ((segL aw1).length<=60000)=true:=by kernel_rfl
theorem ZOG:decide ((segL aw2).length<=60000)=true:=by kernel_rfl
theorem ZL0:openD (segL aw1)=some aw1:=ZDp ZCd (fun p hp=>of_decide_eq_true (List.all_eq_true.1 ZON p hp)) (fun d hd=>by
 unfold aw1 at hd;rw[List.mem_singleton.1 hd];unfold I64ok';decide)
theorem ZMv:openD (segL aw2)=some aw2:=ZDp ZDm (fun p hp=>of_decide_eq_true (List.all_eq_true.1 ZOB p hp)) (fun d hd=>by
 unfold aw2 at hd;rw[List.mem_singleton.1 hd];unfold I64ok';decide)
end
section
open Go.RowKit Go.Maps
theorem ZME (W:World):(Instr.field 74 (.agg #[.int .i64 0,.int .i64 0,.int .i64 7,.int .i64 7,.int .i64 1,.int .i64 1,.int .i64 1]) 2).run Tryz.prog W = .ok (.int .i64 7) W:=by
 unfold Instr.field;simp only[Sem.run_bind,run_underlying Tryz.underlying74,Result.andThen_ok]
 kernel_rfl
theorem ZIM (P:List Dc) (hP:SegP P) (ho:openD (segL P)=some P) (hl:(segL P).length<=60000) (A:Option Addr) (c:Nat) (w:World) (h:Own8 w 0 A (segL P).length c (segL P)) :
 Calls Tryz.prog 11 #[.slice A (segL P).length c] w fun e w'=>∃g,e = .returned (.tuple #[.pointer (some ⟨g,0,none⟩),.int .i64 0])/\SegR w' g P/\Ext w w':=by
 refine(ZD6 A _ c (segL P) w h.2.in8 (by omega) (fun Q _ hQ=>ZC5 hl Q hQ)).mono ?_;rintro e w' ⟨hE,hr⟩;rw[ho]at hr;obtain⟨g,rfl,hs⟩:=hr;exact⟨g,rfl,hs,hE⟩
theorem ZHq (w : World) : Calls Tryz.prog 10 #[] w fun e w' => e = .returned (.bool true) ∧ Ext w w' := by
  obtain ⟨W, hW⟩ : ∃ W, W = (w.alloc (Obj.cells #[.string ⟨#[109, 115, 103]⟩, .string ⟨#[120]⟩] 105)).alloc (Obj.cells #[.int .i64 1, .int .i64 7, .slice (some ⟨w.heap.size, 0, none⟩) 1 1] 39) := ⟨_, rfl⟩
  have b1 : Ext w W := by rw [hW]; exact ((Ext.refl w).alloc _).alloc _
  have p1 : Cells W (some ⟨w.heap.size, 0, none⟩) (fcells [([109, 115, 103], [120])]) := by
    rw [hW]
    exact (Zg w [.string ⟨#[109, 115, 103]⟩, .string ⟨#[120]⟩] _).ext ((Ext.refl _).alloc _)
  have k1 : Cells W (some ⟨w.heap.size + 1, 0, none⟩) (dcells [⟨1, ⟨7, [([109, 115, 103], [120])]⟩, some ⟨w.heap.size, 0, none⟩, 1⟩]) := by
    have h1 := Zg (w.alloc (Obj.cells #[.string ⟨#[109, 115, 103]⟩, .string ⟨#[120]⟩] 105)) [.int .i64 1, .int .i64 7, .slice (some ⟨w.heap.size, 0, none⟩) 1 1] 39
    rw [World.size_alloc] at h1
    rw [hW]
    exact h1
  have j1 : DocsOk W (some ⟨w.heap.size + 1, 0, none⟩) [⟨1, ⟨7, [([109, 115, 103], [120])]⟩, some ⟨w.heap.size, 0, none⟩, 1⟩] := ⟨k1, fun x hx => by
    rw [List.mem_singleton.1 hx]
    exact ⟨⟨p1, by show (1 : Nat) ≤ _; omega, fun f hf => by
      rw [List.mem_singleton.1 hf]
      exact ⟨by show (3 : Nat) ≤ _; omega, by show (1 : Nat) ≤ _; omega⟩⟩, ⟨by show _ ≤ (7 : Int); omega, by show (7 : Int) ≤ _; omega⟩, ⟨by show _ ≤ (1 : Int); omega, by show (1 : Int) ≤ _; omega⟩⟩⟩
  have f0 := ZAM [⟨1, ⟨7, [([109, 115, 103], [120])]⟩, some ⟨w.heap.size, 0, none⟩, 1⟩] (some ⟨w.heap.size + 1, 0, none⟩) 1 1 W rfl j1 (fun a ha => by cases ha; rfl) (by omega) ZCd.sm (by omega)
  replace f0 := ZA f0
  replace hW := ZA hW
  clear p1 k1 j1
  go_enter Tryz.func10, Tryz.ntmps10
  go_wp2_with fail
  rw [← hW.out]
  refine f0.out.mono ?_
  rintro e w1 ⟨A1, c1, rfl, d1, y1⟩
  have z0 := ZIM aw1 ZCd ZL0 (of_decide_eq_true ZOO) A1 c1 w1 ⟨rfl, d1.2.lower (Nat.zero_le _)⟩
  have r1 : segL (dcs [⟨1, ⟨7, [([109, 115, 103], [120])]⟩, some ⟨w.heap.size, 0, none⟩, 1⟩]) = segL aw1 := rfl
  rw [r1]
  obtain ⟨n1, i0⟩ : ∃ n1, n1 = (segL aw1).length := ⟨_, rfl⟩
  rw [← i0] at z0 ⊢
  replace z0 := ZA z0
  replace i0 := ZA i0
  go_wp2_with fail
  refine z0.out.mono ?_
  rintro e w2 ⟨g1, rfl, o1, z1⟩
  go_wp2_with fail
  obtain ⟨W2, v0⟩ : ∃ W2, W2 = w2.alloc (Obj.cells #[.int .i64 4, .int .i64 0, .slice none 0 0] 39) := ⟨_, rfl⟩
  rw [← v0]
  have t0 : Ext w2 W2 := by rw [v0]; exact (Ext.refl w2).alloc _
  have u0 : DocsOk W2 (some ⟨w2.heap.size, 0, none⟩) [⟨4, ⟨0, []⟩, none, 0⟩] := ⟨by rw [v0]; exact Zg w2 [.int .i64 4, .int .i64 0, .slice none 0 0] _, fun x hx => by
    rw [List.mem_singleton.1 hx]
    exact ⟨⟨.inl rfl, by show (0 : Nat) ≤ _; omega, fun f hf => by cases hf⟩, ⟨by show _ ≤ (0 : Int); omega, by show (0 : Int) ≤ _; omega⟩, ⟨by show _ ≤ (4 : Int); omega, by show (4 : Int) ≤ _; omega⟩⟩⟩
  have j0 := ZAM [⟨4, ⟨0, []⟩, none, 0⟩] (some ⟨w2.heap.size, 0, none⟩) 1 1 W2 rfl u0 (fun a ha => by cases ha; rfl) (by omega) ZDm.sm (by omega)
  replace j0 := ZA j0
  replace v0 := ZA v0
  clear u0
  refine j0.out.mono ?_
  rintro e w3 ⟨A3, c3, rfl, e1, s0⟩
  have k0 := ZIM aw2 ZDm ZMv (of_decide_eq_true ZOG) A3 c3 w3 ⟨rfl, e1.2.lower (Nat.zero_le _)⟩
  have r0 : segL (dcs [⟨4, ⟨0, []⟩, none, 0⟩]) = segL aw2 := rfl
  rw [r0]
  obtain ⟨n3, l0⟩ : ∃ n3, n3 = (segL aw2).length := ⟨_, rfl⟩
  rw [← l0] at k0 ⊢
  replace k0 := ZA k0
  replace l0 := ZA l0
  go_wp2_with fail
  refine k0.out.mono ?_
  rintro e w4 ⟨g2, rfl, b0, w0⟩
  have p0 := o1.ext ((t0.trans s0).trans w0)
  have c0 := ((b1.trans y1).trans z1).trans ((t0.trans s0).trans w0)
  have o0 := ZJA g1 aw1 [109, 115, 103, 58, 120] w4 p0 ZCd
  replace o0 := ZA o0
  replace p0 := ZA p0
  replace b0 := ZA b0
  go_wp2_with fail
  refine o0.out.mono ?_
  rintro e w5 ⟨a1, y0⟩
  rw [ZIF] at y0
  rcases y0 with ⟨r, hr, p2, ps, A5, c5, a0, rfl, n0⟩ | ⟨i1, _⟩
  · rw [List.mem_singleton.1 hr] at a0 ⊢
    obtain ⟨x0, s1, h2⟩ : ∃ x0 : PoC, ps = [x0] ∧ x0.doc = 0 := by
      cases ps with
      | nil => cases a0
      | cons x0 t =>
        cases t with
        | nil =>
          refine ⟨x0, rfl, ?_⟩
          have h1 : [x0.po] = [((0 : Int), [(0 : Int)])] := a0
          injection h1 with h1
          exact congrArg Prod.fst h1
        | cons y u => exact absurd (congrArg List.length a0) (by simp [psP])
    subst s1
    obtain ⟨gp, op, x1, q0, _⟩ := Z5 n0.cells (i := 0) (x := x0) rfl
    subst x1
    rw [h2, Nat.zero_mul, Nat.add_zero] at q0
    have v1 := ZA (fun W (hE : Ext w4 W) => ZLY g1 aw1 W (p0.out.ext hE) ZCd)
    have f1 := ZA (fun W (hE : Ext w4 W) => ZH2 g1 aw1 W (p0.out.ext hE) (by decide) (by decide))
    have m1 := ZA (fun W (hE : Ext w4 W) => ZIB g1 aw1 [109, 115, 103, 58, 120] W (p0.out.ext hE) ZCd (by decide))
    have u1 := ZA (fun W (hE : Ext w4 W) => ZJV g2 aw2 W (b0.out.ext hE) ZDm)
    have t1 := ZA (fun W (hE : Ext w4 W) => ZIB g2 aw2 [109, 115, 103, 58, 120] W (b0.out.ext hE) ZDm (by decide))
    have l1 : prtA [7, 7, 1, 1, 1] = #[.int .i64 0, .int .i64 0, .int .i64 7, .int .i64 7, .int .i64 1, .int .i64 1, .int .i64 1] := rfl
    rw [ZMs, l1] at v1
    rw [ZNk] at m1
    rw [ZNL] at t1
    rw [ZIU] at u1
    have g0 := ZBM [] none 0 0 w5 rfl ⟨.inl rfl, nofun⟩ (fun a ha => by cases ha) (by omega) (by omega) (.inr rfl)
    replace g0 := ZA g0
    go_wp2_with fail
    refine g0.out.mono ?_
    rintro e w6 ⟨rfl, q1⟩
    have h0 := a1.trans q1
    have q06 := q1.cell q0
    replace n0 := ZA n0
    go_wp2_with fail
    refine (v1.out w6 h0).mono ?_
    rintro e w7 ⟨rfl, m0⟩
    have q2 := ZME w7
    go_wp2_with fail
    refine (f1.out w7 (h0.trans m0)).mono ?_
    rintro e w8 ⟨rfl, rfl⟩
    go_wp2_with fail
    refine (m1.out w8 (h0.trans m0)).mono ?_
    rintro e w9 ⟨rfl, e0⟩
    go_wp2_with fail
    refine (u1.out w9 ((h0.trans m0).trans e0)).mono ?_
    rintro e w10 ⟨rfl, rfl⟩
    go_wp2_with fail
    refine (t1.out w10 ((h0.trans m0).trans e0)).mono ?_
    rintro e w11 ⟨rfl, d0⟩
    go_wp2_with fail
    go_ret
    exact ⟨rfl, c0.trans (((h0.trans m0).trans e0).trans d0)⟩
  · exact absurd rfl (i1 _ (List.mem_singleton.2 rfl))
end
section
open Go.RowKit Go.Maps
theorem ZKX {n c k:Nat} {A:Option Addr} (h:k<=c) :
 ∃A',(∀W:World,(Instr.sliceAt 22 (.slice A n c) none (some (.int .i64 k)) none).run Tryz.prog W = .ok (.slice A' k c) W)/\((∀a,A=some a->a.spot=none)->A'=A):=by
 have ht:=Tryz.underlying22;have he:Tryz.prog.elem 22=39:=by unfold Program.elem;rw[ht]
 have hs:∀W:World,(sizeOf 39).run Tryz.prog W = .ok 3 W:=fun W=>by kernel_rfl
 refine⟨if c=0 then A else A.map fun x=>x.add (0*3),fun W=>?_,fun hA=>?_⟩
 ·rw[run_sliceAt_slice W _ _ _ _ _ (by rw[ht,he]),run_slice_h W _ A n c (by rw[ht,he]) .i64 k (by omega) (by omega),he,hs];simp only[Result.andThen_ok];congr 1
 ·cases A with
  | none=>simp
  | some a =>
   obtain⟨b,o,sp⟩:=a;obtain rfl:sp=none:=hA _ rfl;simp[Addr.add_lit]
theorem DocsOk.take {w:World} {A A':Option Addr} {ds:List DocC} (h:DocsOk w A ds) (k:Nat) (hA:ds ≠ []->A'=A):DocsOk w A' (ds.take k):=by
 refine⟨?_,fun x hx=>h.each x (List.mem_of_mem_take hx)⟩;by_cases q0:ds = []
 ·left;rw[q0];simp[dcells]
 ·rw[hA q0];rcases h.cells with hc | ⟨g,o,hg,hc⟩
  ·left;have h0:ds.length=0:=by
    have:=congrArg List.length hc;rw[ZEc,List.length_nil]at this;omega
   exact absurd (List.length_eq_zero_iff.1 h0) q0
  ·refine .inr ⟨g,o,hg,fun i v hv=>hc i v ?_⟩;unfold dcells at hv ⊢;rw[Z4 (f:=DocC.cells) (k:=3) (fun _=>rfl),List.getElem?_take]at hv;split at hv
   ·exact hv
   ·cases hv
theorem ZKG (A:Option Addr) (n c:Nat) (ds:List DocC) (w:World) (hn:n=ds.length) (hc:n<=c) (h:DocsOk w A ds) (k0:ds ≠ []->∀a,A=some a->a.spot=none) :
 Calls Tryz.prog 8 #[.slice A n c] w fun e w'=>DocsA (fewD ((dcs ds).take 25)) w e w':=by
 obtain⟨k,hk⟩:∃k,k=min n 25:=⟨_,rfl⟩
 have j0:=Zf (P:=Tryz.prog) #[3,3] 3 (x:=(n:Int)) (y:=25) (m:=(k:Int)) (by omega);obtain⟨A',m0,hA⟩:=ZKX (n:=n) (c:=c) (k:=k) (A:=A) (by omega);have hd:=h.take (A':=A') 25 (fun g0=>hA (k0 g0));have hlen:k=(ds.take 25).length:=by rw[List.length_take,<-hn];omega
 have h0:=ZKf A' c k (ds.take 25) w hlen hd;have p0:dcs (ds.take 25)=(dcs ds).take 25:=by unfold dcs;rw[List.map_take]
 rw[p0]at h0;obtain⟨PF,q0⟩:∃PF,PF=fewD ((dcs ds).take 25):=⟨_,rfl⟩
 rw[<-q0]at h0 ⊢;replace h0:=ZA h0;replace hk:=ZA hk;replace hn:=ZA hn;clear hd hlen p0 q0 h k0 hA;go_enter Tryz.func8,Tryz.ntmps8;go_wp2_with fail;refine h0.out.mono ?_;rintro e w1 ⟨hE,l,B,d,hl,rfl,ho⟩;go_wp2_with fail;go_ret;exact⟨hE,l,B,d,hl,rfl,ho⟩
end
section
open Go.RowKit
theorem ZMc (x y:UInt8) (a b:List UInt8):decide (x::a<y::b)=if x=y then decide (a<b) else decide (x.toNat<y.toNat):=by
 by_cases h:x=y
 ·rw[if_pos h];subst h;congr 1;apply propext;rw[List.cons_lt_cons_iff];constructor
  ·rintro(h | ⟨_,h⟩)
   ·exact(UInt8.lt_irrefl _ h).elim
   ·exact h
  ·exact fun h=> .inr ⟨rfl,h⟩
 ·rw[if_neg h];congr 1;apply propext;rw[List.cons_lt_cons_iff];constructor
  ·rintro(h1 | ⟨h1,_⟩)
   ·exact h1
   ·exact(h h1).elim
  ·exact fun h1=> .inl h1
theorem ZKr (s t:List UInt8) (w:World) (hs:s.length<=9223372036854775807) (ht:t.length<=9223372036854775807) :
 Calls Tryz.prog 103 #[.string ⟨s.toArray⟩,.string ⟨t.toArray⟩] w fun e w'=>e = .returned (.bool (decide (s<t)))/\Ext w w':=by
 obtain⟨n,hn⟩:∃n,n=s.length:=⟨_,rfl⟩
 obtain⟨m,hm⟩:∃m,m=t.length:=⟨_,rfl⟩
 have v0:(⟨s.toArray⟩:ByteArray).size=n:=by rw[hn];exact ByteArray.size_mk_toArray s
 have u0:(⟨t.toArray⟩:ByteArray).size=m:=by rw[hm];exact ByteArray.size_mk_toArray t
 rw[<-hn]at hs;rw[<-hm]at ht;obtain⟨b,hb⟩:∃b,b=decide (s<t):=⟨_,rfl⟩
 rw[<-hb];replace hn:=ZA hn;replace hm:=ZA hm;replace hb:=ZA hb;go_enter Tryz.func103,Tryz.ntmps103;go_wp2_with fail
 go_loopw [5] (fun s5 wr=>∃i:Nat,s5 = .int .i64 i/\i<=n/\i<=m/\Hid (b=decide (s.drop i<t.drop i))/\Ext w wr) (fun s5 _=>n - (intOf s5).toNat)
 case atStart=>exact⟨0,rfl,by omega,by omega,hb,Ext.refl w⟩
 case round =>
  obtain⟨i,rfl,hi,hi2,j0,hE⟩:=hrel;by_cases m0:i<n
  ·by_cases him:i<m
   ·have t0:i<s.length:=by rw[<-hn.out];exact m0
    have g0:i<t.length:=by rw[<-hm.out];exact him
    obtain⟨x,hx⟩:∃x,x=s[i]:=⟨_,rfl⟩
    obtain⟨y,hy⟩:∃y,y=t[i]:=⟨_,rfl⟩
    have h0:b=if x=y then decide (s.drop (i+1)<t.drop (i+1)) else decide (x.toNat<y.toNat):=by
     rw[j0.out,List.drop_eq_getElem_cons t0,List.drop_eq_getElem_cons g0,ZMc,hx,hy]
    obtain⟨c,hc⟩:∃c,c=x.toNat:=⟨_,rfl⟩
    obtain⟨e,he⟩:∃e,e=y.toNat:=⟨_,rfl⟩
    have x0:((⟨s.toArray⟩:ByteArray)[i]'(by rw[v0];exact m0)).toNat=c:=by rw[hc,hx];rfl
    have y0:((⟨t.toArray⟩:ByteArray)[i]'(by rw[u0];exact him)).toNat=e:=by rw[he,hy];rfl
    have k0:x=y↔c=e:=by rw[hc,he];exact⟨fun h=>by rw[h],fun h=>UInt8.toNat_inj.1 h⟩
    rw[<-hc,<-he]at h0;replace h0:=ZA h0;replace hx:=ZA hx;replace hy:=ZA hy;replace hc:=ZA hc;replace he:=ZA he;replace k0:=ZA k0;by_cases q0:c=e
    ·have p0:Hid (b=decide (s.drop (i+1)<t.drop (i+1))):=ZA (by rw[h0.out,if_pos (k0.out.2 q0)]);have q1:((c:Int)==e)=true:=by rw[q0];exact beq_self_eq_true _
     have q2:((c:Int) != e)=false:=by rw[q0];simp
     replace q0:=ZA q0;go_wp2_with fail;refine ZPw (fun K hK=>?_);go_wp2_with fail;refine⟨by kernel_rfl,?_⟩;go_wp2_with fail;go_roundw
     case rel=>exact⟨i+1,by go_num,by omega,by omega,p0,hE.drew⟩
     case measure=>simp[intOf];omega
    ·have p0:Hid (b=decide (c<e)):=ZA (by rw[h0.out,if_neg fun h=>q0 (k0.out.1 h)]);have q1:((c:Int)==e)=false:=beq_eq_false_iff_ne.2 (by omega);have q2:((c:Int) != e)=true:=by simp[bne,q1]
     replace q0:=ZA q0;go_wp2_with fail;refine ZPw (fun K hK=>?_);go_wp2_with fail;refine⟨by kernel_rfl,?_⟩;go_wp2_with fail;refine ZPw (fun K hK=>?_);go_wp2_with fail;refine⟨by kernel_rfl,?_⟩;go_wp2_with fail;go_ret;rw[p0.out];exact⟨Zw (by first | rfl | (simp;done) | (simp;omega)),hE.drew.drew⟩
   ·have p0:Hid (b=decide (n<m)):=ZA (by
     rw[j0.out,List.drop_eq_nil_of_le (show t.length<=i by rw[<-hm.out];omega)];rw[decide_eq_false (show ¬ n<m by omega),decide_eq_false (List.not_lt_nil _)])
    have q1:decide (n<m)=false:=decide_eq_false (by omega);go_wp2_with fail;go_ret;rw[p0.out];exact⟨Zw (by first | rfl | (simp;done) | (simp;omega)),hE⟩
  ·have p0:Hid (b=decide (n<m)):=ZA (by
    rw[j0.out,List.drop_eq_nil_of_le (show s.length<=i by rw[<-hn.out];omega)];by_cases h:n<m
    ·rw[decide_eq_true h];apply decide_eq_true;have:i<t.length:=by rw[<-hm.out];omega
     rw[List.drop_eq_getElem_cons this];exact List.nil_lt_cons _ _
    ·rw[decide_eq_false h];apply decide_eq_false;rw[List.drop_eq_nil_of_le (show t.length<=i by rw[<-hm.out];omega)];exact List.not_lt_nil _)
   go_wp2_with fail;go_ret;rw[p0.out];exact⟨Zw (by first | rfl | (simp;done) | (simp;omega)),hE⟩
end
section
open Go.RowKit Go.Maps
structure TmC where
  s:List UInt8
  pos:List Int
  A:Option Addr
  c:Nat
def TmC.cells (x:TmC):List Value:= [.string ⟨x.s.toArray⟩,.slice x.A x.pos.length x.c]
def TmC.tm (x:TmC):List UInt8×List Int:=(x.s,x.pos)
def tmcells (l:List TmC):List Value:=l.flatMap TmC.cells
def tmR (l:List TmC):List (List UInt8×List Int):=l.map TmC.tm
theorem ZAW (l:List TmC):(tmcells l).length=l.length*2:=Ze (cellsA:=TmC.cells) (k:=2) (fun _=>rfl) l
theorem ZAx (l:List TmC) (i:Nat):tmcells (l.take i)=(tmcells l).take (i*2):=Z4 (f:=TmC.cells) (k:=2) (fun _=>rfl) l i
theorem Z2 (l:List TmC) (i:Nat):tmcells (l.drop i)=(tmcells l).drop (i*2):=ZAE (f:=TmC.cells) (k:=2) (fun _=>rfl) l i
theorem ZAA (l:List TmC):∀u∈tmcells l,u.oneCell'=true:=fun u hu=>by
 unfold tmcells at hu;obtain⟨x,_,hx⟩:=List.mem_flatMap.1 hu;unfold TmC.cells at hx;simp only[List.mem_cons,List.not_mem_nil,or_false]at hx;rcases hx with rfl | rfl <;> rfl
theorem ZDI {l:List TmC} {i:Nat} {x:TmC} (h:l[i]? = some x) {j:Nat} (hj:j<2):(tmcells l)[i*2+j]? = x.cells[j]? :=Zj (cellsA:=TmC.cells) (k:=2) (fun _=>rfl) l i x j h hj
theorem ZEK {w:World} {A:Option Addr} {l:List TmC} (h:Cells w A (tmcells l)) {i:Nat} {x:TmC} (hx:l[i]? = some x):∃g o,A=some ⟨g,o,none⟩/\∀W,Ext w W->W.cell? ⟨g,o+i*2,none⟩=some (.string ⟨x.s.toArray⟩)/\W.cell? ⟨g,o+i*2+1,none⟩=some (.slice x.A x.pos.length x.c):=by
 obtain⟨g,o,hA,hc⟩:=h.at_ (by rw[ZAW];have:=(List.getElem?_eq_some_iff.1 hx).1;omega);refine⟨g,o,hA,fun W hE=>⟨?_,?_⟩⟩
 ·have:=hE.cell (hc (i*2+0) _ (by rw[ZDI hx (by omega)];rfl));exact this
 ·have:=hE.cell (hc (i*2+1) _ (by rw[ZDI hx (by omega)];rfl));exact this
structure TmsR (w:World) (A:Option Addr) (n c:Nat) (l:List TmC):Prop where
  len:n=l.length
  cells:Cells w A (tmcells l)
  cap:n<=c
  spot:∀a,A=some a->a.spot=none
  each:∀x∈l,Buf w 0 3 x.A x.pos.length x.c (x.pos.map IV)/\x.s.length<=9223372036854775807
  typ:∀a,A=some a->∃cs,Row w a.block 46 cs
theorem TmsR.ext {w w1:World} {A:Option Addr} {n c:Nat} {l:List TmC} (h:TmsR w A n c l) (hE:Ext w w1):TmsR w1 A n c l:=⟨h.len,h.cells.ext hE,h.cap,h.spot,fun x hx=>⟨(h.each x hx).1.ext hE,(h.each x hx).2⟩,fun a ha=>by obtain⟨cs,hr⟩:=h.typ a ha;exact⟨cs,hr.ext hE⟩⟩
theorem TmsR.nil (w:World):TmsR w none 0 0 []:=⟨rfl,.inl rfl,Nat.le_refl _,nofun,nofun,nofun⟩
theorem TmsR.chg {w w1:World} {A:Option Addr} {n c:Nat} {l:List TmC} {S:Nat->Prop} (h:TmsR w A n c l) (hC:Chg S w w1) (hS:∀g,S g->∃t cs,Row w g t cs/\t≠46/\t≠3):TmsR w1 A n c l:=by
 have hA:∀a,A=some a->¬ S a.block:=fun a ha hs=>by
  obtain⟨cs,hr⟩:=h.typ a ha;obtain⟨t,cs2,h0,h1,_⟩:=hS _ hs;exact Row.unlike h0 hr h1 rfl
 refine⟨h.len,hC.cells h.cells hA,h.cap,h.spot,fun x hx=>⟨(h.each x hx).1.chg hC fun a ha hs=>?_,(h.each x hx).2⟩,fun a ha=>?_⟩
 ·obtain⟨t,cs2,h0,_,h2⟩:=hS _ hs;exact(h.each x hx).1.unlike h0 (fun e=>h2 e.symm) a ha rfl
 ·obtain⟨cs,hr⟩:=h.typ a ha;exact⟨cs,hr.keep (hC.block _ hr.lt (hA a ha))⟩
theorem ZB6:Elem Tryz.prog 33 46 2 40:=⟨Tryz.underlying33,⟨_,_,rfl,rfl,rfl,rfl,rfl⟩,by omega,by omega⟩
section
variable {β:Type} (p:List UInt8×β) {R:List (List UInt8×List β)} {k:Nat} {r:List UInt8×List β} (h:R[k]? = some r)
include h
theorem ZJv (hl:r.1<p.1):R.take k++addG p (R.drop k)=R.take (k+1)++addG p (R.drop (k+1)):=by
 obtain⟨hk,rfl⟩:=List.getElem?_eq_some_iff.1 h;rw[List.drop_eq_getElem_cons hk,List.take_succ_eq_append_getElem hk,List.append_assoc]
 conv=>lhs;rw[addG]
 rw[if_pos hl];rfl
theorem ZLb (hl:¬ r.1<p.1) (he:r.1=p.1):addG p (R.drop k)=(r.1,r.2 ++ [p.2])::R.drop (k+1):=by
 obtain⟨hk,rfl⟩:=List.getElem?_eq_some_iff.1 h;rw[List.drop_eq_getElem_cons hk,addG,if_neg hl,if_pos he]
theorem ZLN (hl:¬ r.1<p.1) (he:¬ r.1=p.1):addG p (R.drop k)=(p.1,[p.2])::R.drop k:=by
 obtain⟨hk,rfl⟩:=List.getElem?_eq_some_iff.1 h;rw[List.drop_eq_getElem_cons hk,addG,if_neg hl,if_neg he]
end
theorem ZA0 {w:World} {A:Option Addr} {xs:List Value} (h:Cells w A xs) (k:Nat):Cells w A (xs.take k):=by
 rcases h with h | ⟨g,o,hA,hc⟩
 ·left;rw[h];exact List.take_nil
 ·refine .inr ⟨g,o,hA,fun i v hv=>hc i v ?_⟩;rw[List.getElem?_take]at hv;split at hv
  ·exact hv
  ·cases hv
theorem ZOW (l:List Int):∀u∈l.map IV,u.oneCell'=true:=fun u hu=>by
 obtain⟨x,_,rfl⟩:=List.mem_map.1 hu;rfl
theorem ZBl (a b:List TmC) (x:TmC):tmcells (a++x::b)=(tmcells a++x.cells)++tmcells b:=by
 unfold tmcells;rw[List.flatMap_append,List.flatMap_cons,List.append_assoc]
theorem ZGy (D:List TmC) (i j:Nat) (x:TmC):tmR (D.take i++x::D.drop j)=(tmR D).take i++x.tm::(tmR D).drop j:=by
 unfold tmR;rw[List.map_append,List.map_cons,List.map_take,List.map_drop]
def AddA (w:World) (R:List (List UInt8×List Int)) (e:Ending) (w':World):Prop:=∃(D:List TmC) (A:Option Addr) (n c:Nat),e = .returned (.slice A n c)/\tmR D=R/\TmsR w' A n c D/\Ext w w'
end
end Go.Proofs.YtkdcnhnaiknaaaaGreat
