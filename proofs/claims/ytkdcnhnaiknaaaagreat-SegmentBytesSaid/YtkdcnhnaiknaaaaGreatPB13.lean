/- Texts of one proof, joined. -/
import Derived.Test.YtkdcnhnaiknaaaaGreatPB12
import Derived.Test.YtkdcnhnaiknaaaaGreatPB07
import Derived.Test.YtkdcnhnaiknaaaaGreatPB03
import Derived.Test.YtkdcnhnaiknaaaaGreatPB11
import Derived.Test.YtkdcnhnaiknaaaaGreatPB10
import Derived.Test.YtkdcnhnaiknaaaaGreatPB02
import Derived.Test.YtkdcnhnaiknaaaaGreatPB08
import Derived.Test.YtkdcnhnaiknaaaaGreatPB04
import Derived.BigQuiet
import Derived.Test.YtkdcnhnaiknaaaaGreatPB01
set_option linter.unusedSimpArgs false
set_option linter.unusedVariables false
set_option maxRecDepth 100000
set_option maxHeartbeats 16000000
namespace Go.Proofs.YtkdcnhnaiknaaaaGreat
section
open Go.RowKit Go.Maps
def openD (b:List UInt8):Option (List Dc) :=
 if b.take 4 = [76,83,69,71] then
  if (splitF (b.drop 4)).2=0/\(splitF (b.drop 4)).1.length=6 then
   match decDs ((splitF (b.drop 4)).1.headD [])with
   | some P=>if 0<P.length/\segL P=b then some P else none
   | none=>none
  else none
 else none
def SegR (w:World) (g:Nat) (P:List Dc):Prop:=∃(ds:List DocC) (A:Option Addr) (c:Nat) (lo hi fi la:Int) (B:Option Addr) (cB gd gf:Nat),
 Row w g 87 #[.slice A ds.length c,.int .i64 0,.int .i64 0,.int .i64 lo,.int .i64 hi,.int .i64 fi,.int .i64 la,.int .i64 (ds.length:Int),.pointer (some ⟨gd,0,none⟩),.slice B (postB (rowsD P)).length cB,.pointer (some ⟨gf,0,none⟩)] /\
 dcs ds=P/\partD P = [lo,hi,fi,la,(ds.length:Int)]/\DocsOk w A ds/\DicR w gd (enOf 0 (rowsD P))/\In8 w B (postB (rowsD P)).length cB (postB (rowsD P))/\FilR w gf (ofB ((rowsD P).map (·.1)))
def SegRB (base:Nat) (w:World) (g:Nat) (P:List Dc):Prop:=∃(ds:List DocC) (A:Option Addr) (c:Nat) (lo hi fi la:Int) (B:Option Addr) (cB gd gf:Nat),
 Row w g 87 #[.slice A ds.length c,.int .i64 0,.int .i64 0,.int .i64 lo,.int .i64 hi,.int .i64 fi,.int .i64 la,.int .i64 (ds.length:Int),.pointer (some ⟨gd,0,none⟩),.slice B (postB (rowsD P)).length cB,.pointer (some ⟨gf,0,none⟩)] /\
 dcs ds=P/\partD P = [lo,hi,fi,la,(ds.length:Int)]/\DocsOwn w base A c ds/\DicO w base gd (enOf 0 (rowsD P))/\Buf w base 5 B (postB (rowsD P)).length cB ((postB (rowsD P)).map B8)/\FilO w base gf (ofB ((rowsD P).map (·.1)))
theorem SegRB.seg {base:Nat} {w:World} {g:Nat} {P:List Dc} (h:SegRB base w g P):SegR w g P:=by
 obtain⟨ds,A,c,lo,hi,fi,la,B,cB,gd,gf,h1,h2,h3,h4,h5,h6,h7⟩:=h;exact⟨ds,A,c,lo,hi,fi,la,B,cB,gd,gf,h1,h2,h3,h4.ok,h5.dic,h6.in8,h7.fil⟩
theorem FilO.lower {w:World} {base b g:Nat} {f:List UInt8} (h:FilO w base g f) (hb:b<=base):FilO w b g f:=by
 obtain⟨b1,c,cur,hr,h1,h0,h2⟩:=h;exact⟨b1,c,cur,hr,Nat.le_trans hb h1,h0,h2⟩
theorem DicO.lower {w:World} {base b g:Nat} {l:List En} (h:DicO w base g l) (hb:b<=base):DicO w b g l:=by
 obtain⟨A,c,h1,h2⟩:=h;exact⟨A,c,h1,ZN h2 hb⟩
def SegOB (w:World) (b:List UInt8) (e:Ending) (w':World):Prop:=Ext w w'/\match openD b with
 | some P=>∃g,e = .returned (.tuple #[.pointer (some ⟨g,0,none⟩),.int .i64 0])/\SegRB w.heap.size w' g P
 | none=>e = .returned (.tuple #[.pointer none,.int .i64 130])
theorem SegOB.no {w w':World} {b:List UInt8} (hE:Ext w w') (h:openD b=none):SegOB w b (.returned (.tuple #[.pointer none,.int .i64 130])) w':=by
 refine⟨hE,?_⟩;rw[h]
def SegO (w:World) (b:List UInt8) (e:Ending) (w':World):Prop:=Ext w w'/\match openD b with
 | some P=>∃g,e = .returned (.tuple #[.pointer (some ⟨g,0,none⟩),.int .i64 0])/\SegR w' g P
 | none=>e = .returned (.tuple #[.pointer none,.int .i64 130])
theorem SegO.no {w w':World} {b:List UInt8} (hE:Ext w w') (h:openD b=none):SegO w b (.returned (.tuple #[.pointer none,.int .i64 130])) w':=by
 refine⟨hE,?_⟩;rw[h]
theorem ZGS {w:World} {A:Option Addr} {xs:List Value} {p:Addr} {u0:Value} (h:Cells w A xs) (hp:w.cell? p=some u0) (h0:∀v∈xs,v≠u0) (u:Value):Cells (w.setCell p u) A xs:=by
 rcases h with h | ⟨g,o,hA,hc⟩
 ·exact .inl h
 ·refine .inr ⟨g,o,hA,fun i v hv=>?_⟩;have h1:=hc i v hv;rw[World.cell?_setCell_other w p _ u (fun e=>by
   rw[e]at hp;rw[h1]at hp;injection hp with hp;exact h0 v (List.mem_of_getElem? hv) hp)]
  exact h1
theorem ZIn (l:List En):∀v∈encells l,v≠Value.pointer none:=fun v hv e=>by
 unfold encells at hv;obtain⟨x,_,hx⟩:=List.mem_flatMap.1 hv;unfold En.cells at hx;simp only[List.mem_cons,List.not_mem_nil,or_false]at hx;rcases hx with rfl | rfl | rfl | rfl <;> cases e
theorem DicR.set {w:World} {gd g i:Nat} {l:List En} {cs:Array Value} (h:DicR w gd l) (hr:Row w g 87 cs) (hi:cs[i]? = some (.pointer none)) (u:Value):DicR (w.setCell ⟨g,i,none⟩ u) gd l:=by
 obtain⟨A,c,h1,h2⟩:=h;exact⟨A,c,h1.away (h1.unlike hr (by decide)) u,ZGS h2 (hr.cell i hi) (ZIn l) u⟩
theorem FilO.set {w:World} {b gf g i:Nat} {f:List UInt8} {cs:Array Value} (h:FilO w b gf f) (hr:Row w g 87 cs) (u:Value):FilO (w.setCell ⟨g,i,none⟩ u) b gf f:=by
 obtain⟨b1,c,cur,h1,hb,h2,h3,h4,h5⟩:=h;exact⟨b1,c,cur,h1.away (h1.unlike hr (by decide)) u,hb,h2.away (h2.unlike hr (by decide)) u,h3,h4,h5⟩
theorem ZGV {ds:List DocC} {m:Nat} {w:World} {A:Option Addr} (h:DocsOk w A ds) (hm:m=ds.length) (h0:0<m) (hs:SmP (dcs ds)):∀p∈framesD (dcs ds),p.length<=16777216:=by
 have hB:=hs.seg;have hv:(vall (partD (dcs ds))).length<=16777216:=by
  obtain⟨x0,k0⟩:∃x,ds[0]? = some x:=⟨_,List.getElem?_eq_getElem (by omega)⟩
  obtain⟨xl,j0⟩:∃x,ds[m - 1]? = some x:=⟨_,List.getElem?_eq_getElem (by omega)⟩
  have h1:=ZBa hm k0 j0;have p0:∀d∈dcs ds,I64ok' d.2.at_:=fun d hd=>by
   unfold dcs at hd;obtain⟨x,hx,rfl⟩:=List.mem_map.1 hd;exact(h.each x hx).2.1
  have q0:=(h.each x0 (List.mem_of_getElem? k0)).2;have ql:=(h.each xl (List.mem_of_getElem? j0)).2;have hn:m<=65536:=by
   have:=hB.n;unfold dcs at this;rw[List.length_map]at this;omega
  rw[h1];have q1:=ZCr (dcs ds) _ q0.1 p0;have q2:=ZCB (dcs ds) _ q0.1 p0;have q5:I64ok' (m:Int):=by unfold I64ok';omega
  have h2:=ZBE [lowD x0.e.at_ (dcs ds),highD x0.e.at_ (dcs ds),x0.seq,xl.seq,(m:Int)] (fun x hx=>by
   simp only[List.mem_cons,List.not_mem_nil,or_false]at hx;rcases hx with rfl | rfl | rfl | rfl | rfl
   ·exact q1
   ·exact q2
   ·exact q0.2
   ·exact ql.2
   ·exact q5) 5
  exact Nat.le_trans h2 (by decide)
 intro p hp;unfold framesD at hp;simp only[List.mem_cons,List.not_mem_nil,or_false]at hp;rcases hp with rfl | rfl | rfl | rfl | rfl | rfl
 ·exact hB.docs
 ·exact hB.times
 ·exact Nat.le_trans hB.posts (by decide)
 ·exact hB.dic
 ·exact Nat.le_trans hB.bits.2 (by decide)
 ·exact hv
theorem ZO4 (A:Option Addr) (n c:Nat) (b:List UInt8) (w:World) (h:In8 w A n c b) (u6:n<=1000000000) (x2:∀P,(splitF (b.drop 4)).2=0->decDs ((splitF (b.drop 4)).1.headD [])=some P->(blockD 0 P).length<=70000) :
 Calls Tryz.prog 11 #[.slice A n c] w fun e w'=>SegOB w b e w':=by
 have t3:=h.len;obtain⟨k4,e3⟩:∃k:Nat,(k:Int)=min (n:Int) 4:=⟨min n 4,by omega⟩
 have i3:k4<=n:=by omega
 have h6:=fun(W:World)=>Zf (P:=Tryz.prog) #[3,3] 3 e3 W;obtain⟨y6,h4⟩:=h.headk .i64 i3 (z:=(k4:Int)) rfl;have s2:=fun(W:World) (hE:Ext w W)=>Zr (A:=A) (l:=b.take k4) (w:=W) (h4.bytes.ext hE) k4 c h4.len;have x4:b.take k4=b.take 4:=by
  by_cases v5:4<=n
  ·have:k4=4:=by omega
   rw[this]
  ·have:k4=n:=by omega
   rw[this,List.take_of_length_le (by omega),List.take_of_length_le (by omega)]
 have m5:=Tryz.strings_HasPrefix ⟨(b.take k4).toArray⟩ ⟨#[76,83,69,71]⟩ w;obtain⟨hp,w0⟩:∃hp,hp=Lib.hasPrefix (b.take 4) [76,83,69,71]:=⟨_,rfl⟩
 have s0:Calls Tryz.prog 48 #[.string ⟨(b.take k4).toArray⟩,.string ⟨#[76,83,69,71]⟩] w fun e w'=>e = .returned (.bool hp)/\w'=w:=by
  rw[w0,<-x4];simpa using m5
 have q1:hp=true↔b.take 4 = [76,83,69,71]:=by
  rw[w0];unfold Lib.hasPrefix;rw[List.isPrefixOf_iff_prefix];constructor
  ·intro m4;exact(m4.eq_of_length_le (by rw[List.length_take];simp;omega)).symm
  ·intro e;rw[e];exact List.prefix_refl _
 have a5:=s2 w (Ext.refl w);replace s0:=ZA s0;replace h:=ZA h;replace x2:=ZA x2;clear m5 s2 h4;have v3:=ZA t3;replace e3:=ZA e3;replace w0:=ZA w0;replace x4:=ZA x4;by_cases s3:hp=true
 ·have j1:=q1.1 s3;subst s3;have v5:4<=n:=by
   have:=congrArg List.length j1;rw[List.length_take]at this;simp at this;omega
  obtain⟨A4,c4,j5,o1⟩:=h.out.from_ (fr:=4) v5 (z:=4) rfl;have j2:=ZKH A4 (n - 4) c4 (b.drop 4) w o1 (by omega);clear t3;replace j2:=ZA j2;replace o1:=ZA o1;replace j1:=ZA j1;replace q1:=ZA q1;go_enter Tryz.func11,Tryz.ntmps11;go_wp2_with fail;refine s0.out.mono ?_;rintro e w1 ⟨rfl,rfl⟩;go_wp2_with fail;refine j2.out.mono ?_;rintro e w2 ⟨L,cL,z,ps,rfl,u3,u2,v2,i0⟩;have u0:openD b=if (splitF (b.drop 4)).2=0/\ps.length=6 then (match decDs ((pays ps).headD [])with | some P=>if 0<P.length/\segL P=b then some P else none | none=>none) else none:=by
   unfold openD;rw[if_pos j1.out,<-u2];have:(pays ps).length=ps.length:=List.length_map ..;rw[this]
  have e0:=x2.out;rw[<-u2]at e0;obtain⟨sc,v4⟩:∃sc,sc=(splitF (b.drop 4)).2:=⟨_,rfl⟩
  rw[<-v4]at u0 e0 ⊢;have d0:∀p∈pays ps,p.length<=16777216:=fun p hp=>by rw[u2]at hp;exact(ZCm hp).1
  replace v4:=ZA v4;replace e0:=ZA e0;replace d0:=ZA d0;obtain⟨np,g3⟩:∃np,np=ps.length:=⟨_,rfl⟩
  rw[<-g3]at u0 ⊢;replace g3:=ZA g3;replace u3:=ZA u3;replace u2:=ZA u2;replace v2:=ZA v2;by_cases s1:sc=0
  ·by_cases u5:np=6
   ·subst s1;subst u5;rw[if_pos ⟨rfl,rfl⟩]at u0;obtain⟨⟨A0,k0,b0,z0⟩,⟨A1,k1,b1,z1⟩,⟨A2,k2,b2,z2⟩,⟨A3,k3,b3,z3⟩,⟨A4',k4',b4,z4⟩,⟨A5,k5,b5,z5⟩,t4⟩:∃p0 p1 p2 p3 p4 p5:Pay,ps = [p0,p1,p2,p3,p4,p5]:=by
     have:=g3.out
     match ps,this with
     | [p0,p1,p2,p3,p4,p5],_=>exact⟨p0,p1,p2,p3,p4,p5,rfl⟩
    subst t4;obtain⟨gl,ol,hL,y2⟩:=u3.out.at_ (by simp);subst hL;have l0:=y2 0 (.slice A0 b0.length k0) rfl;have l2:=y2 2 (.slice A2 b2.length k2) rfl;have l3:=y2 3 (.slice A3 b3.length k3) rfl;have l4:=y2 4 (.slice A4' b4.length k4') rfl;rw[Nat.add_zero]at l0;have g4:(pays [(A0,k0,b0,z0),(A1,k1,b1,z1),(A2,k2,b2,z2),(A3,k3,b3,z3),(A4',k4',b4,z4),(A5,k5,b5,z5)]).headD []=b0:=rfl;rw[g4]at u0;have r2:=fun P hP=>e0.out P rfl (by rw[g4];exact hP);have t5:In8 w2 A0 b0.length k0 b0:=by obtain⟨bb,hb⟩:=v2.out (A0,k0,b0,z0) (by simp);exact hb.in8
    have n5:=d0.out b0 (by simp[pays]);have a0:=ZFx A0 b0.length k0 b0 w2 t5 (by omega);obtain⟨D,hD⟩:∃D,D=decDs b0:=⟨_,rfl⟩
    have r0:=fun P (h:decDs b0=some P)=>ZAV h;rw[<-hD]at a0 u0 r0;have q2:∀P,D=some P->(blockD 0 P).length<=70000:=fun P hP=>r2 P (by rw[<-hD];exact hP);obtain⟨n0,q4⟩:∃n0,n0=b0.length:=⟨_,rfl⟩
    rw[<-q4]at a0 l0;replace hD:=ZA hD;replace r0:=ZA r0;replace a0:=ZA a0;replace u0:=ZA u0;replace q2:=ZA q2;replace q4:=ZA q4;clear y2 r2 t5 n5 g4;go_wp2_with fail;refine a0.out.mono ?_;rintro e w3 ⟨v1,t1⟩;cases D with
    | none =>
     simp only at t1;subst t1;have h0:openD b=none:=u0.out;replace h0:=ZA h0;go_wp2_with fail;go_ret2;exact SegOB.no (i0.trans v1) h0.out
    | some P =>
     simp only at t1;obtain⟨ds,Ad,cd,t2,rfl,m1⟩:=t1;obtain⟨x5,t6⟩:=r0.out P rfl;have c5:=q2.out P rfl;have i4:P.length=ds.length:=by rw[<-t2];exact List.length_map ..
     have a2:=m1.ok;have t0:=m1.cap;have o0:=i0.trans v1;have m0:openD b=if 0<P.length/\segL P=b then some P else none:=u0.out;obtain⟨m,hm⟩:∃m,m=ds.length:=⟨_,rfl⟩
     rw[<-hm]at t0 i4 ⊢;rw[i4]at m0;by_cases o5:m=0
     ·have h0:openD b=none:=by rw[m0,if_neg (fun e=>by omega)]
      subst o5;have x1:=ZBM ds Ad 0 cd w3 hm a2 t0.2 t0.1 (by omega) (.inr rfl);replace x1:=ZA x1;replace h0:=ZA h0;replace hm:=ZA hm;clear m0 t0 m1 a2;go_wp2_with fail;refine x1.out.mono ?_;rintro e w4 ⟨rfl,j0⟩;go_wp2_with fail;go_ret2;exact SegOB.no (o0.trans j0) h0.out
     ·have x2:SmP (dcs ds):=by rw[t2];exact⟨x5,c5⟩
      have x1:=ZAM ds Ad m cd w3 hm a2 t0.2 t0.1 x2 (by omega);rw[t2]at x1;have hB:=(SmP.mk x5 c5).seg;replace x1:=ZA x1;replace hm:=ZA hm;replace m0:=ZA m0;replace hB:=ZA hB;go_wp2_with fail;refine x1.out.mono ?_;rintro e w4 ⟨A9,c9,rfl,e4,j0⟩;obtain⟨n9,j3⟩:∃n9,n9=(segL P).length:=⟨_,rfl⟩
      rw[<-j3]at e4 ⊢;have u4:=Zr (A:=A9) (l:=segL P) (w:=w4) e4.2.cells n9 c9 j3;have g6:=Zr (A:=A) (l:=b) (w:=w4) ((h.out.ext (o0.trans j0)).bytes) n c v3.out;replace j3:=ZA j3;by_cases c2:segL P=b
      ·rw[c2]at u4;have d5:=o0.trans j0;have g2:openD b=some P:=by rw[m0.out,if_pos ⟨by omega,c2⟩]
       obtain⟨x0,y4⟩:∃x,ds[0]? = some x:=⟨_,List.getElem?_eq_getElem (by have:=hm.out;omega)⟩
       obtain⟨xl,a4⟩:∃x,ds[m - 1]? = some x:=⟨_,List.getElem?_eq_getElem (by have:=hm.out;omega)⟩
       have o2:=ZBa hm.out y4 a4;obtain⟨lo,r3⟩:∃z,z=lowD x0.e.at_ (dcs ds):=⟨_,rfl⟩
       obtain⟨d2,d3⟩:∃z,z=highD x0.e.at_ (dcs ds):=⟨_,rfl⟩
       rw[<-r3,<-d3]at o2;have s5:m<=1000000:=by have:=hB.out.n;omega
       have q0:=fun X (hx:Ext w4 X)=>ZIK ds Ad m cd X hm.out (a2.ext (j0.trans hx)) s5 (by omega);rw[o2]at q0;have y5:prtA [lo,d2,x0.seq,xl.seq,(m:Int)]=#[.int .i64 0,.int .i64 0,.int .i64 lo,.int .i64 d2,.int .i64 x0.seq,.int .i64 xl.seq,.int .i64 (m:Int)]:=rfl;rw[y5]at q0;obtain⟨bb2,o4⟩:=v2.out (A2,k2,b2,z2) (by simp);simp only at o4;have i1:=o4.ext (v1.trans j0);have o3:=d0.out b2 (by simp[pays]);obtain⟨n2,e2⟩:∃n2,n2=b2.length:=⟨_,rfl⟩
       rw[<-e2]at i1 l2 o3;have g0:=fun X (hx:Ext w4 X)=>ZAq A2 n2 k2 b2 X e2 (i1.ext hx).cells (ZLH i1) (by omega);have lx2:=(v1.trans j0).cell l2;replace o2:=ZA o2;replace r3:=ZA r3;replace d3:=ZA d3;replace y4:=ZA y4;replace a4:=ZA a4;replace q0:=ZA q0;replace g0:=ZA g0;replace e2:=ZA e2;replace g2:=ZA g2;clear y5;go_upto_region 12 with fail
       go_cut [10] (fun s10 wy=>∃g BC cC,s10 = .pointer (some ⟨g,0,none⟩)/\Hid (Row wy g 87 #[.slice Ad m cd,.int .i64 0,.int .i64 0,.int .i64 lo,.int .i64 d2,.int .i64 x0.seq,.int .i64 xl.seq,.int .i64 (m:Int),.pointer none,.slice BC n2 cC,.pointer none])/\Hid (Buf wy w4.heap.size 5 BC n2 cC (b2.map B8))/\Hid (Ext w4 wy)/\w4.heap.size<=g)
       case first =>
        have hX:Hid (Ext w4 w4):=ZA (Ext.refl w4)
        go_region_held3 (fun x=>x.cell? ⟨gl,ol+2,none⟩=some (.slice A2 n2 k2))
         (exact(hX.out.trans (by(first | with_reducible exact Ext.refl _ | with_reducible exact Ext.drew (Ext.refl _) | with_reducible exact Ext.alloc (Ext.refl _) _ | with_reducible exact Ext.drew (Ext.alloc (Ext.refl _) _) | with_reducible exact Ext.alloc (Ext.drew (Ext.refl _)) _ | with_reducible exact Ext.alloc (Ext.alloc (Ext.refl _) _) _ | with_reducible exact Ext.drew (Ext.alloc (Ext.alloc (Ext.refl _) _) _)))).cell lx2)
         (first
         | (go_at_call 42;refine(q0.out _ (hX.out.trans (by(first | with_reducible exact Ext.refl _ | with_reducible exact Ext.drew (Ext.refl _) | with_reducible exact Ext.alloc (Ext.refl _) _ | with_reducible exact Ext.drew (Ext.alloc (Ext.refl _) _) | with_reducible exact Ext.alloc (Ext.drew (Ext.refl _)) _ | with_reducible exact Ext.alloc (Ext.alloc (Ext.refl _) _) _ | with_reducible exact Ext.drew (Ext.alloc (Ext.alloc (Ext.refl _) _) _))))).mono ?_;rintro e w9 ⟨rfl,m2⟩;(try replace y1:=ZA (y1.out.ext (Ext.trans (by(first | with_reducible exact Ext.refl _ | with_reducible exact Ext.drew (Ext.refl _) | with_reducible exact Ext.alloc (Ext.refl _) _ | with_reducible exact Ext.drew (Ext.alloc (Ext.refl _) _) | with_reducible exact Ext.alloc (Ext.drew (Ext.refl _)) _ | with_reducible exact Ext.alloc (Ext.alloc (Ext.refl _) _) _ | with_reducible exact Ext.drew (Ext.alloc (Ext.alloc (Ext.refl _) _) _))) m2)));replace hX:=ZA (hX.out.trans (Ext.trans (by(first | with_reducible exact Ext.refl _ | with_reducible exact Ext.drew (Ext.refl _) | with_reducible exact Ext.alloc (Ext.refl _) _ | with_reducible exact Ext.drew (Ext.alloc (Ext.refl _) _) | with_reducible exact Ext.alloc (Ext.drew (Ext.refl _)) _ | with_reducible exact Ext.alloc (Ext.alloc (Ext.refl _) _) _ | with_reducible exact Ext.drew (Ext.alloc (Ext.alloc (Ext.refl _) _) _))) m2));clear m2)
         | (go_at_call 51;refine(g0.out _ (hX.out.trans (by(first | with_reducible exact Ext.refl _ | with_reducible exact Ext.drew (Ext.refl _) | with_reducible exact Ext.alloc (Ext.refl _) _ | with_reducible exact Ext.drew (Ext.alloc (Ext.refl _) _) | with_reducible exact Ext.alloc (Ext.drew (Ext.refl _)) _ | with_reducible exact Ext.alloc (Ext.alloc (Ext.refl _) _) _ | with_reducible exact Ext.drew (Ext.alloc (Ext.alloc (Ext.refl _) _) _))))).mono ?_;rintro e w9 ⟨BC,cC,rfl,y1,m2⟩;have y1:=ZA (y1.lower (hX.out.trans (by(first | with_reducible exact Ext.refl _ | with_reducible exact Ext.drew (Ext.refl _) | with_reducible exact Ext.alloc (Ext.refl _) _ | with_reducible exact Ext.drew (Ext.alloc (Ext.refl _) _) | with_reducible exact Ext.alloc (Ext.drew (Ext.refl _)) _ | with_reducible exact Ext.alloc (Ext.alloc (Ext.refl _) _) _ | with_reducible exact Ext.drew (Ext.alloc (Ext.alloc (Ext.refl _) _) _)))).size);replace hX:=ZA (hX.out.trans (Ext.trans (by(first | with_reducible exact Ext.refl _ | with_reducible exact Ext.drew (Ext.refl _) | with_reducible exact Ext.alloc (Ext.refl _) _ | with_reducible exact Ext.drew (Ext.alloc (Ext.refl _) _) | with_reducible exact Ext.alloc (Ext.drew (Ext.refl _)) _ | with_reducible exact Ext.alloc (Ext.alloc (Ext.refl _) _) _ | with_reducible exact Ext.drew (Ext.alloc (Ext.alloc (Ext.refl _) _) _))) m2));clear m2))
        all_goals (go_wp2_with fail)
        all_goals go_meet
        all_goals (case rel=>exact⟨_,_,_,rfl,ZA (Row.new _ _ _),ZA (y1.out.ext ((Ext.refl _).alloc _)),ZA (hX.out.trans ((Ext.refl _).alloc _)),hX.out.size⟩)
       case rest =>
        obtain⟨g,BC,cC,rfl,k6,y1,d4,a3⟩:=hcut;have y0 : [b0,b1,b2,b3,b4,b5]=framesD P:=by
         have h1:=u2.out;rw[<-c2]at h1;have h2:(segL P).drop 4=joinL (framesD P):=rfl;rw[h2,ZBy _ (by rw[<-t2];exact ZGV a2 hm.out (by omega) x2)]at h1;exact h1
        unfold framesD at y0;injection y0 with f0 y0;injection y0 with f1 y0;injection y0 with f2 y0;injection y0 with f3 y0;injection y0 with f4 y0;have e1:=(v1.trans j0).trans d4.out;have lx3:=e1.cell l3;obtain⟨bb3,h3⟩:=v2.out (A3,k3,b3,z3) (by simp);obtain⟨bb4,q3⟩:=v2.out (A4',k4',b4,z4) (by simp);simp only at h3 q3;have l5:gl<w4.heap.size:=by
         have h1:=World.block_lt_of_cell? w2 _ l3;have h2:=(v1.trans j0).size;simp only at h1;omega
        have v6:b3.length<=16777216:=d0.out b3 (by simp[pays]);have g1:=ZO5 A3 b3.length k3 b3 wc (enOf 0 (rowsD P)) (h3.ext e1).in8 hB.out.ens f3 (by omega);have l1:8<=b4.length/\b4.length<=131072:=by rw[f4];exact hB.out.bits
        obtain⟨n3,j4⟩:∃n3,n3=b3.length:=⟨_,rfl⟩
        obtain⟨n4,v0⟩:∃n4,n4=b4.length:=⟨_,rfl⟩
        rw[<-j4]at lx3 g1;have lx4:=e1.cell l4;rw[<-v0]at lx4 l1;replace j4:=ZA j4;replace v0:=ZA v0;replace g1:=ZA g1;replace e1:=ZA e1;replace f2:=ZA f2;replace f3:=ZA f3;replace f4:=ZA f4;replace q3:=ZA q3;replace h3:=ZA h3;clear f0 f1 y0 l0 l2 l3 l4 lx2;go_wp2_with fail;refine g1.out.mono ?_;rintro e w5 ⟨gd,rfl,n1,c1⟩;have r1:=k6.out.ext c1;have y8:=r1.cell 8 rfl;have z8:=r1.free 8;have lx45:=c1.cell lx4;have x6:gl≠g:=by omega
        have p6:g≠gl:=by omega
        replace n1:=ZA n1;replace r1:=ZA r1;replace c1:=ZA c1;clear lx3 lx4;go_wp2_with fail;obtain⟨W6,u1⟩:∃W6,W6=w5.setCell ⟨g,8,none⟩ (.pointer (some ⟨gd,0,none⟩)):=⟨_,rfl⟩
        rw[<-u1];have g5:w2.heap.size<=g:=Nat.le_trans (v1.trans j0).size a3;have a1:Ext w2 W6:=by rw[u1];exact(e1.out.trans c1.out).setCell (p:=⟨g,8,none⟩) g5 _
        have m3:Ext w3 W6:=by rw[u1];exact((j0.trans d4.out).trans c1.out).setCell (p:=⟨g,8,none⟩) (Nat.le_trans j0.size a3) _
        have r6:Row W6 g 87 #[.slice Ad m cd,.int .i64 0,.int .i64 0,.int .i64 lo,.int .i64 d2,.int .i64 x0.seq,.int .i64 xl.seq,.int .i64 (m:Int),.pointer (some ⟨gd,0,none⟩),.slice BC n2 cC,.pointer none]:=by rw[u1];exact r1.out.put 8 _
        have f5:=ZA (show DicO W6 wc.heap.size gd (enOf 0 (rowsD P))by rw[u1];exact n1.out.chg (Chg.of_set (S:=fun q=>q=g) w5 _ rfl) (fun q e=>by subst e;exact⟨_,_,r1.out,by decide,by decide⟩));have r4:=y1.out.ext c1.out;have e5:Buf W6 w4.heap.size 5 BC n2 cC (b2.map B8):=by rw[u1];exact r4.setCell (r4.unlike r1.out (by decide)) _
        have c0:=ZKh A4' b4.length k4' b4 W6 (q3.out.ext a1).in8 (by rw[<-v0.out];exact l1.1) (by rw[<-v0.out];exact l1.2);rw[<-v0.out]at c0;replace c0:=ZA c0;replace u1:=ZA u1;refine c0.out.mono ?_;rintro e w7 ⟨gf,rfl,_,y3,d1⟩;have r7:=r6.ext d1;have y10:=r7.cell 10 rfl;have z10:=r7.free 10;replace y3:=ZA y3;replace r7:=ZA r7;replace d1:=ZA d1;clear r1 r6 c0 y8 z8 lx45;go_wp2_with fail;go_ret2;have c3:=Nat.le_trans i0.size g5;have r8:=r7.out.put 10 (.pointer (some ⟨gf,0,none⟩));have s4:=e5.ext d1.out;have h5:=s4.setCell (p:=⟨g,10,none⟩) (s4.unlike r7.out (by decide)) (.pointer (some ⟨gf,0,none⟩));have i5:=(f5.out.ext d1.out).chg (Chg.of_set (S:=fun q=>q=g) w7 (a:=⟨g,10,none⟩) (.pointer (some ⟨gf,0,none⟩)) rfl) (fun q e=>by subst e;exact⟨_,_,r7.out,by decide,by decide⟩);have q5:=y3.out.set r7.out (i:=10) (.pointer (some ⟨gf,0,none⟩));have x3:=m1.ext ((m3.trans d1.out).setCell (p:=⟨g,10,none⟩) (Nat.le_trans j0.size a3) (.pointer (some ⟨gf,0,none⟩)));refine⟨(i0.trans (a1.trans d1.out)).setCell (p:=⟨g,10,none⟩) c3 _,?_⟩;rw[g2.out];have r5:=hm.out;have i2:n2=(postB (rowsD P)).length:=by rw[e2.out,f2.out]
        rw[i2,f2.out]at h5;rw[f4.out]at q5;subst r5;rw[i2]at r8;refine⟨g,rfl,ds,Ad,cd,lo,d2,x0.seq,xl.seq,BC,cC,gd,gf,r8,t2,by rw[<-t2];exact o2.out,x3.lower i0.size,i5.lower ?b1,h5.lower ?b2,q5.lower ?b3⟩
        ·exact Nat.le_trans i0.size e1.out.size
        ·exact Nat.le_trans i0.size (v1.trans j0).size
        ·exact Nat.le_trans i0.size a1.size
      ·have h0:openD b=none:=by rw[m0.out,if_neg (fun e=>c2 e.2)]
       have m6:(segL P==b)=false:=beq_eq_false_iff_ne.2 c2;replace h0:=ZA h0;go_wp2_with fail;go_ret2;exact SegOB.no (o0.trans j0) h0.out
   ·have h0:openD b=none:=by rw[u0,if_neg (fun e=>u5 e.2)]
    have q6:((np:Int)==6)=false:=by simp;omega
    subst s1;replace h0:=ZA h0;clear u0;go_wp2_with fail;go_ret2;exact SegOB.no i0 h0.out
  ·have h0:openD b=none:=by rw[u0,if_neg (fun e=>s1 e.1)]
   have j6:((sc:Int)==0)=false:=by simp;omega
   replace h0:=ZA h0;clear u0;go_wp2_with fail;go_ret2;exact SegOB.no i0 h0.out
 ·have h0:openD b=none:=by
   unfold openD;rw[if_neg (fun e=>s3 (q1.2 e))]
  replace h0:=ZA h0;clear t3;go_enter Tryz.func11,Tryz.ntmps11;go_wp2_with fail;refine s0.out.mono ?_;rintro e w1 ⟨rfl,rfl⟩;go_wp2_with fail;go_ret2;exact SegOB.no (Ext.refl _) h0.out
theorem ZD6 (A:Option Addr) (n c:Nat) (b:List UInt8) (w:World) (h:In8 w A n c b) (h0:n<=1000000000) (q0:∀P,(splitF (b.drop 4)).2=0->decDs ((splitF (b.drop 4)).1.headD [])=some P->(blockD 0 P).length<=70000) :
 Calls Tryz.prog 11 #[.slice A n c] w fun e w'=>SegO w b e w' :=
 (ZO4 A n c b w h h0 q0).mono fun e w' hr=>by
  obtain⟨hE,hr⟩:=hr;refine⟨hE,?_⟩;split at hr
  ·obtain⟨g,h1,h2⟩:=hr;exact⟨g,h1,h2.seg⟩
  ·exact hr
end
section
open Go.RowKit
theorem ZMr (g:Nat) (l:List En) (w:World) (h:DicR w g l):Calls Tryz.prog 129 #[.pointer (some ⟨g,0,none⟩)] w fun e w'=>e = .returned (.bool false)/\w'=w:=by
 obtain⟨A,c,hr,_⟩:=h;have k1:=hr.cell 1 rfl;replace hr:=ZA hr;go_enter Tryz.func129,Tryz.ntmps129;go_wp2_with fail;go_ret;exact⟨rfl,rfl⟩
theorem ZFZ (g:Nat) (l:List En) (w:World) (h:DicR w g l):Calls Tryz.prog 76 #[.pointer (some ⟨g,0,none⟩)] w fun e w'=>e = .returned (.int .i64 (l.length:Int))/\w'=w:=by
 have h0:=ZA (ZMr g l w h);obtain⟨A,c,hr,_⟩:=h;have k0:=hr.cell 0 rfl;obtain⟨n,hn⟩:∃n,n=l.length:=⟨_,rfl⟩
 rw[<-hn]at k0 ⊢;replace hn:=ZA hn;replace hr:=ZA hr;go_enter Tryz.func76,Tryz.ntmps76;go_wp2_with fail;refine h0.out.mono ?_;rintro e w1 ⟨rfl,hw⟩;obtain rfl:=hw.symm;go_wp2_with fail;go_ret;exact⟨rfl,rfl⟩
def SeaP (n:Nat) (p:Nat->Bool) (w:World) (e:Ending) (w':World):Prop:=∃k:Nat,e = .returned (.int .i64 (k:Int))/\k<=n/\(∀i,i<k->p i=false)/\(∀i,k<=i->i<n->p i=true)/\Ext w w'
theorem ZJJ (n cf:Nat) (c1 c2:Value) (p:Nat->Bool) (w:World) (hn:n<=1000000000) (x0:cf=160)
 (j0:∀W i,Ext w W->i<n->Calls Tryz.prog cf #[.int .i64 (i:Int),c1,c2] W fun e W'=>e = .returned (.bool (p i))/\Ext W W') (k0:∀i j,i<=j->j<n->p i=true->p j=true) :
 Calls Tryz.prog 159 #[.int .i64 (n:Int),.func (.func cf) #[] #[c1,c2]] w fun e w'=>SeaP n p w e w':=by
 subst x0;replace j0:=ZA j0;replace k0:=ZA k0;go_enter Tryz.func159,Tryz.ntmps159;go_wp2_with fail
 go_loopw [5,6] (fun s5 s6 wr=>∃i j:Nat,s5 = .int .i64 (i:Int)/\s6 = .int .i64 (j:Int)/\i<=j/\j<=n/\Hid (∀k,k<i->p k=false)/\Hid (∀k,j<=k->k<n->p k=true)/\Hid (Ext w wr)) (fun s5 s6 _=>(intOf s6).toNat - (intOf s5).toNat)
 case atStart=>exact⟨0,n,rfl,rfl,by omega,by omega,ZA (fun k hk=>by omega),ZA (fun k h1 h2=>by omega),ZA (Ext.refl w)⟩
 case round =>
  obtain⟨i,j,rfl,rfl,d0,m0,t0,g0,hE⟩:=hrel;by_cases e0:i<j
  ·obtain⟨m,hm⟩:∃m,m=(i+j) / 2:=⟨_,rfl⟩
   have him:i<=m:=by omega
   have f0:m<j:=by omega
   have hc:=ZA (j0.out wr m hE.out (by omega));obtain⟨v,hv⟩:∃v,v=p m:=⟨_,rfl⟩
   rw[<-hv]at hc;obtain⟨sm,v0⟩:∃sm,sm=i+j:=⟨_,rfl⟩
   have u0:(i:Int)+(j:Int)=(sm:Int):=by omega
   have z0:sm<=2000000000:=by omega
   have i0:IntKind.u64.wrap (sm:Int)=(sm:Int):=ZX (by omega);have c0:(sm:Int) / 2=(m:Int):=by omega
   have q0:v=false->∀k,k<m+1->p k=false:=fun a0 k hk=>by
    cases y0:p k with
    | false=>rfl
    | true =>
     have:=k0.out k m (by omega) (by omega) y0;rw[<-hv,a0]at this;cases this
   have h0:v=true->∀k,m<=k->k<n->p k=true:=fun b0 k h1 h2=>k0.out m k h1 h2 (by rw[<-hv,b0]);replace hm:=ZA hm;replace hv:=ZA hv;replace v0:=ZA v0;replace q0:=ZA q0;replace h0:=ZA h0;cases v with
   | false =>
    replace q0:=ZA (q0.out rfl);go_wp2_with fail;refine hc.out.mono ?_;rintro e w3 ⟨rfl,p0⟩;replace p0:=ZA (hE.out.trans p0);go_wp2_with fail;exact⟨⟨m+1,j,by congr 1,rfl,by omega,m0,q0,g0,p0⟩,by simp only[intOf];omega⟩
   | true =>
    replace h0:=ZA (h0.out rfl);go_wp2_with fail;refine hc.out.mono ?_;rintro e w3 ⟨rfl,p0⟩;replace p0:=ZA (hE.out.trans p0);go_wp2_with fail;exact⟨⟨i,m,rfl,rfl,him,by omega,t0,h0,p0⟩,by simp only[intOf];omega⟩
  ·obtain rfl:i=j:=by omega
   go_wp2_with fail;go_ret;exact⟨i,rfl,m0,t0.out,g0.out,hE.out⟩
structure FloP (l:List En) (t:List UInt8) (k:Nat):Prop where
  le:k<=l.length
  iff:∀i x,l[i]? = some x->(i<k↔x.t<t)
def FloR (l:List En) (t:List UInt8) (w:World) (e:Ending) (w':World):Prop:=∃k:Nat,e = .returned (.int .i64 (k:Int))/\FloP l t k/\Ext w w'
theorem ZJi (i g b1 b2:Nat) (l:List En) (t:List UInt8) (x:En) (w:World) (h:DicR w g l) (h1:Row w b1 82 #[.pointer (some ⟨g,0,none⟩)]) (h2:Row w b2 9 #[.string ⟨t.toArray⟩]) (hx:l[i]? = some x) (hl:l.length<=1000000000) :
 Calls Tryz.prog 160 #[.int .i64 (i:Int),.pointer (some ⟨b1,0,none⟩),.pointer (some ⟨b2,0,none⟩)] w fun e w'=>e = .returned (.bool (!decide (x.t<t)))/\Ext w w':=by
 obtain⟨A,c,hr,hc⟩:=h;obtain⟨ga,o,rfl,x0,_⟩:=Z0 hc hx;have h0:=(List.getElem?_eq_some_iff.1 hx).1;have k0:=hr.cell 0 rfl;have k1:=h1.cell 0 rfl;have k2:=h2.cell 0 rfl;obtain⟨n,hn⟩:∃n,n=l.length:=⟨_,rfl⟩
 rw[<-hn]at k0 h0 hl;have hb:=Z1 x.t t;obtain⟨v,hv⟩:∃v,v=decide (x.t<t):=⟨_,rfl⟩
 rw[<-hv]at hb ⊢;obtain⟨s,hs⟩:∃s,s=x.t:=⟨_,rfl⟩
 rw[<-hs]at hb x0;replace hn:=ZA hn;replace hv:=ZA hv;replace hs:=ZA hs;replace hr:=ZA hr;replace h1:=ZA h1;replace h2:=ZA h2;replace hx:=ZA hx;replace hc:=ZA hc;go_enter Tryz.func160,Tryz.ntmps160;go_wp2_with fail;refine ZB follows (by kernel_rfl) (by kernel_rfl) (fun K hK=>?_);go_wp2_with fail;refine⟨by kernel_rfl,?_⟩;go_wp2_with fail;go_ret;exact⟨rfl,(Ext.refl w).drew⟩
theorem ZJ6 (g : Nat) (l : List En) (t : List UInt8) (w : World) (h : DicR w g l) (g0 : OkEs l) :
    Calls Tryz.prog 105 #[.pointer (some ⟨g, 0, none⟩), .string ⟨t.toArray⟩] w fun e w' => FloR l t w e w' := by
  obtain ⟨W2, q0⟩ : ∃ W2, W2 = (w.alloc (.cells #[.pointer (some ⟨g, 0, none⟩)] 82)).alloc (.cells #[.string ⟨t.toArray⟩] 9) := ⟨_, rfl⟩
  obtain ⟨b1, p0⟩ : ∃ b1, b1 = w.heap.size := ⟨_, rfl⟩
  have r1 : Row W2 b1 82 #[.pointer (some ⟨g, 0, none⟩)] := by rw [q0, p0]; exact (Row.new w _ _).alloc _
  have r2 : Row W2 (b1 + 1) 9 #[.string ⟨t.toArray⟩] := by
    have := Row.new (w.alloc (.cells #[.pointer (some ⟨g, 0, none⟩)] 82)) 9 #[.string ⟨t.toArray⟩]
    rw [World.size_alloc, ← p0] at this
    rw [q0]; exact this
  have j0 : Ext w W2 := by rw [q0]; exact ((Ext.refl w).alloc _).alloc _
  have k0 := h.ext j0
  have hlen := ZA (ZFZ g l W2 k0)
  obtain ⟨n, hn⟩ : ∃ n, n = l.length := ⟨_, rfl⟩
  have c0 : n ≤ 262144 := by rw [hn]; exact g0.few
  have h0 : ∀ i j, i ≤ j → j < n → (!decide ((l[i]?.getD ⟨[], 0, 0, 0⟩).t < t)) = true → (!decide ((l[j]?.getD ⟨[], 0, 0, 0⟩).t < t)) = true := by
    intro i j u0 hj
    rw [hn] at hj
    rw [List.getElem?_eq_getElem hj, List.getElem?_eq_getElem (Nat.lt_of_le_of_lt u0 hj)]
    simp only [Option.getD_some, Bool.not_eq_true', decide_eq_false_iff_not]
    intro hi y0
    rcases Nat.lt_or_eq_of_le u0 with a0 | rfl
    · exact hi (List.lt_trans (List.pairwise_iff_getElem.1 g0.up i j _ hj a0) y0)
    · exact hi y0
  have t0 := ZA (ZJJ n 160 (.pointer (some ⟨b1, 0, none⟩)) (.pointer (some ⟨b1 + 1, 0, none⟩)) (fun i => !decide ((l[i]?.getD ⟨[], 0, 0, 0⟩).t < t)) W2 (by omega) rfl
    (fun W i hE hi => by
      obtain ⟨x, hx⟩ : ∃ x, l[i]? = some x := ⟨_, List.getElem?_eq_getElem (by rw [← hn]; exact hi)⟩
      have := ZJi i g b1 (b1 + 1) l t x W (k0.ext hE) (r1.ext hE) (r2.ext hE) hx (by omega)
      rw [hx]
      exact this) h0)
  rw [← hn] at hlen
  have k1 := r1.cell 0 rfl
  replace hn := ZA hn
  replace p0 := ZA p0
  replace q0 := ZA q0
  replace j0 := ZA j0
  replace k0 := ZA k0
  replace r1 := ZA r1
  replace r2 := ZA r2
  replace h := ZA h
  replace g0 := ZA g0
  clear h0
  go_enter Tryz.func105, Tryz.ntmps105
  go_wp2_with fail
  rw [← q0.out, ← p0.out]
  refine hlen.out.mono ?_
  rintro e w1 ⟨rfl, hw⟩
  obtain rfl := hw.symm
  go_wp2_with fail
  refine t0.out.mono ?_
  rintro e w3 ⟨k, rfl, hk, z0, v0, hE⟩
  have m0 : FloP l t k := by
    refine ⟨by rw [← hn.out]; exact hk, fun i x hx => ?_⟩
    have hi := (List.getElem?_eq_some_iff.1 hx).1
    constructor
    · intro x0
      have := z0 i x0
      dsimp only at this
      rw [hx] at this
      simpa using this
    · intro b0
      apply Decidable.byContradiction
      intro x0
      have := v0 i (by omega) (by rw [hn.out]; exact hi)
      dsimp only at this
      rw [hx] at this
      simp only [Option.getD_some, Bool.not_eq_true', decide_eq_false_iff_not] at this
      exact this b0
  replace m0 := ZA m0
  replace hE := ZA (j0.out.trans hE)
  clear z0 v0
  go_wp2_with fail
  go_ret
  exact ⟨k, rfl, m0.out, hE.out⟩
def noEn:Value:= .agg #[.string ⟨#[]⟩,.int .i64 0,.int .i64 0,.int .i64 0]
theorem ZT {fn:Func} {p u:Tmp} {ty:TypeId} {P:Program} (h:fn.results=#[.cell p ty,.tmp u]) (tmps:Array Value) (w:World) (g:Nat) (cs:Array Value)
 (hp:tmps.getD p undef = .pointer (some ⟨g,0,none⟩)) (hl:(loadVar ty ⟨g,0,none⟩).run P w = .ok (.agg cs) w) :
 (results fn tmps).run P w = .ok (.tuple #[.agg cs,tmps.getD u undef]) w:=by
 rw[results_cell_tmp h,hp];simp[asAddr,hl,Result.andThen]
theorem ZDq {w:World} {g:Nat} {cs:Array Value} (h:Row w g 97 cs) (hs:cs.size=4):(loadVar 97 ⟨g,0,none⟩).run Tryz.prog w = .ok (.agg cs) w :=
 run_loadVar_row w g 97 97 cs (0,0) _ h Tryz.underlying97 rfl (by rw[hs];kernel_rfl)
def AtR (l:List En) (k:Nat) (w:World) (e:Ending) (w':World):Prop:=e = .returned (.tuple #[match l[k]? with | some x=> .agg x.cells.toArray | none=>noEn,.bool (l[k]?).isSome])/\Ext w w'
theorem ZNU (g k:Nat) (l:List En) (w:World) (h:DicR w g l) (hl:l.length<=1000000000) :
 Calls Tryz.prog 104 #[.pointer (some ⟨g,0,none⟩),.int .i64 (k:Int)] w fun e w'=>AtR l k w e w':=by
 obtain⟨W4,j0⟩:∃W4,W4=w.alloc (.cells #[.string ⟨#[]⟩,.int .i64 0,.int .i64 0,.int .i64 0] 97):=⟨_,rfl⟩
 obtain⟨g4,g0⟩:∃g4,g4=w.heap.size:=⟨_,rfl⟩
 have r4:Row W4 g4 97 #[.string ⟨#[]⟩,.int .i64 0,.int .i64 0,.int .i64 0]:=by rw[j0,g0];exact Row.new w _ _
 have p0:Ext w W4:=by rw[j0];exact(Ext.refl w).alloc _
 have h0:w.heap.size<=g4:=by omega
 have hlen:=ZA (ZFZ g l W4 (h.ext p0));have h4:=h.ext p0;obtain⟨A,c,hr,hc⟩:=h4;have k0:=hr.cell 0 rfl;have q0:=r4.cell 0 rfl;have q1:=r4.cell 1 rfl;have q2:=r4.cell 2 rfl;have q3:=r4.cell 3 rfl;have qf:=r4.free;obtain⟨n,hn⟩:∃n,n=l.length:=⟨_,rfl⟩
 rw[<-hn]at hlen k0 hl;replace hn:=ZA hn;replace h:=ZA h;replace hr:=ZA hr;replace r4:=ZA r4;replace p0:=ZA p0;replace j0:=ZA j0;replace g0:=ZA g0;by_cases hk:k<n
 ·obtain⟨x,hx⟩:∃x,l[k]? = some x:=⟨_,List.getElem?_eq_getElem (by rw[<-hn.out];exact hk)⟩
  obtain⟨ga,o,hA,x0,x1,x2,x3⟩:=Z0 hc hx;subst hA;obtain⟨t,off,len,nn⟩:=x;simp only at x0 x1 x2 x3;replace hx:=ZA hx;replace hc:=ZA hc;go_enter Tryz.func104,Tryz.ntmps104;go_wp2_with fail;rw[<-j0.out,<-g0.out];refine hlen.out.mono ?_;rintro e w1 ⟨rfl,hw⟩;obtain rfl:=hw.symm;go_wp2_with fail;have t0:=(((r4.out.put 0 (.string ⟨t.toArray⟩)).put 1 (.int .i64 (off:Int))).put 2 (.int .i64 (len:Int))).put 3 (.int .i64 (nn:Int));have m0:=(((p0.out.setCell (p:=⟨g4,0,none⟩) h0 (.string ⟨t.toArray⟩)).setCell (p:=⟨g4,1,none⟩) h0 (.int .i64 (off:Int))).setCell (p:=⟨g4,2,none⟩) h0 (.int .i64 (len:Int))).setCell (p:=⟨g4,3,none⟩) h0 (.int .i64 (nn:Int));refine bodyPost_ret (ZT rfl _ _ g4 #[.string ⟨t.toArray⟩,.int .i64 (off:Int),.int .i64 (len:Int),.int .i64 (nn:Int)] rfl (ZDq t0 rfl)) rfl ⟨?_,m0⟩;rw[hx.out];rfl
 ·have hx:l[k]? = none:=List.getElem?_eq_none (by rw[<-hn.out];omega);replace hx:=ZA hx;replace hc:=ZA hc;go_enter Tryz.func104,Tryz.ntmps104;go_wp2_with fail;rw[<-j0.out,<-g0.out];refine hlen.out.mono ?_;rintro e w1 ⟨rfl,hw⟩;obtain rfl:=hw.symm;go_wp2_with fail;have t0:=(((r4.out.put 0 (.string ⟨#[]⟩)).put 1 (.int .i64 0)).put 2 (.int .i64 0)).put 3 (.int .i64 0);have m0:=(((p0.out.setCell (p:=⟨g4,0,none⟩) h0 (.string ⟨#[]⟩)).setCell (p:=⟨g4,1,none⟩) h0 (.int .i64 0)).setCell (p:=⟨g4,2,none⟩) h0 (.int .i64 0)).setCell (p:=⟨g4,3,none⟩) h0 (.int .i64 0);refine bodyPost_ret (ZT rfl _ _ g4 #[.string ⟨#[]⟩,.int .i64 0,.int .i64 0,.int .i64 0] rfl (ZDq t0 rfl)) rfl ⟨?_,m0⟩;rw[hx.out];rfl
def GetR (l:List En) (t:List UInt8) (w:World) (e:Ending) (w':World):Prop:=Ext w w'/\((∃x∈l,x.t=t/\e = .returned (.tuple #[.agg #[.string ⟨x.t.toArray⟩,.int .i64 (x.off:Int),.int .i64 (x.len:Int),.int .i64 (x.n:Int)],.bool true]))\/((∀x∈l,x.t≠t)/\e = .returned (.tuple #[noEn,.bool false])))
theorem ZML (g:Nat) (l:List En) (t:List UInt8) (w:World) (h:DicR w g l) (u0:OkEs l) :
 Calls Tryz.prog 58 #[.pointer (some ⟨g,0,none⟩),.string ⟨t.toArray⟩] w fun e w'=>GetR l t w e w':=by
 obtain⟨W4,v0⟩:∃W4,W4=w.alloc (.cells #[.string ⟨#[]⟩,.int .i64 0,.int .i64 0,.int .i64 0] 97):=⟨_,rfl⟩
 obtain⟨g4,z0⟩:∃g4,g4=w.heap.size:=⟨_,rfl⟩
 have r4:Row W4 g4 97 #[.string ⟨#[]⟩,.int .i64 0,.int .i64 0,.int .i64 0]:=by rw[v0,z0];exact Row.new w _ _
 have y0:Ext w W4:=by rw[v0];exact(Ext.refl w).alloc _
 have h0:w.heap.size<=g4:=by omega
 have a0:=ZA (ZJ6 g l t W4 (h.ext y0) u0);have c0:=ZA (fun k W (hE:Ext w W)=>ZNU g k l W (h.ext hE) (by have:=u0.few;omega));replace u0:=ZA u0;replace h:=ZA h;replace r4:=ZA r4;replace y0:=ZA y0;replace v0:=ZA v0;replace z0:=ZA z0;go_enter Tryz.func58,Tryz.ntmps58;go_wp2_with fail;rw[<-v0.out,<-z0.out];refine a0.out.mono ?_;rintro e w1 ⟨k,rfl,k0,m0⟩;have r41:=ZA (r4.out.ext m0);replace m0:=ZA (y0.out.trans m0);go_wp2_with fail;refine(c0.out k w1 m0.out).mono ?_;rintro e w2 ⟨he,q0⟩;have r42:=r41.out.ext q0;replace q0:=m0.out.trans q0;have qg:=r42.get;have qf:=r42.free;have f0:w.heap.size<=w2.heap.size:=q0.size;have d0:g4<w2.heap.size:=r42.lt;cases hx:l[k]? with
 | none =>
  rw[hx]at he;have he:e = .returned (.tuple #[noEn,.bool false]):=he;unfold noEn at he;subst he;have j0:∀x∈l,x.t≠t:=fun x hm e=>by
   obtain⟨i,hi,rfl⟩:=List.getElem_of_mem hm;have:=(k0.iff i _ (List.getElem?_eq_getElem hi)).1 (by
    have:=k0.le;have h2:=List.getElem?_eq_none_iff.1 hx;omega)
   rw[e]at this;exact List.lt_irrefl _ this
  replace j0:=ZA j0;replace k0:=ZA k0;replace hx:=ZA hx;replace r42:=ZA r42;replace q0:=ZA q0;go_wp2_with fail;have x0:=((((r42.out.put 0 (.string ⟨#[]⟩)).put 1 (.int .i64 0)).put 2 (.int .i64 0)).put 3 (.int .i64 0)).alloc (.cells #[.string ⟨#[]⟩,.int .i64 0,.int .i64 0,.int .i64 0] 97);have t0:=((((q0.out.setCell (p:=⟨g4,0,none⟩) h0 (.string ⟨#[]⟩)).setCell (p:=⟨g4,1,none⟩) h0 (.int .i64 0)).setCell (p:=⟨g4,2,none⟩) h0 (.int .i64 0)).setCell (p:=⟨g4,3,none⟩) h0 (.int .i64 0)).alloc (.cells #[.string ⟨#[]⟩,.int .i64 0,.int .i64 0,.int .i64 0] 97);exact bodyPost_ret (ZT rfl _ _ g4 #[.string ⟨#[]⟩,.int .i64 0,.int .i64 0,.int .i64 0] rfl (ZDq x0 rfl)) rfl ⟨t0,.inr ⟨j0.out,rfl⟩⟩
 | some x =>
  rw[hx]at he;have he:e = .returned (.tuple #[.agg #[.string ⟨x.t.toArray⟩,.int .i64 (x.off:Int),.int .i64 (x.len:Int),.int .i64 (x.n:Int)],.bool true]):=he;subst he;have p0:=List.mem_of_getElem? hx;have j0:x.t≠t->∀y∈l,y.t≠t:=fun e0 y hm e=>by
   obtain⟨i,hi,rfl⟩:=List.getElem_of_mem hm;have b0:=(List.getElem?_eq_some_iff.1 hx)
   have h1:=(k0.iff k x hx)
   have h2:=k0.iff i _ (List.getElem?_eq_getElem hi);rw[e]at h2;have h3:¬ i<k:=fun h=>List.lt_irrefl _ (h2.1 h);rcases Nat.lt_or_eq_of_le (Nat.le_of_not_lt h3)with h4 | h4
   ·have h5:=List.pairwise_iff_getElem.1 u0.out.up k i b0.1 hi h4;rw[b0.2,e]at h5;have:=h1.2 h5;omega
   ·subst h4;exact e0 (by rw[<-b0.2];exact e)
  obtain⟨s,off,len,nn⟩:=x;simp only at j0;by_cases g0:s=t
  ·have q1:(s==t)=true:=by rw[g0];exact beq_self_eq_true t
   have q2:(s != t)=false:=by rw[g0];simp
   replace j0:=ZA j0;replace k0:=ZA k0;replace hx:=ZA hx;replace p0:=ZA p0;replace g0:=ZA g0;replace r42:=ZA r42;replace q0:=ZA q0;go_wp2_with fail;have x0:=((((r42.out.put 0 (.string ⟨s.toArray⟩)).put 1 (.int .i64 (off:Int))).put 2 (.int .i64 (len:Int))).put 3 (.int .i64 (nn:Int))).alloc (.cells #[.string ⟨s.toArray⟩,.int .i64 (off:Int),.int .i64 (len:Int),.int .i64 (nn:Int)] 97);have t0:=((((q0.out.setCell (p:=⟨g4,0,none⟩) h0 (.string ⟨s.toArray⟩)).setCell (p:=⟨g4,1,none⟩) h0 (.int .i64 (off:Int))).setCell (p:=⟨g4,2,none⟩) h0 (.int .i64 (len:Int))).setCell (p:=⟨g4,3,none⟩) h0 (.int .i64 (nn:Int))).alloc (.cells #[.string ⟨s.toArray⟩,.int .i64 (off:Int),.int .i64 (len:Int),.int .i64 (nn:Int)] 97);exact bodyPost_ret (ZT rfl _ _ g4 #[.string ⟨s.toArray⟩,.int .i64 (off:Int),.int .i64 (len:Int),.int .i64 (nn:Int)] rfl (ZDq x0 rfl)) rfl ⟨t0,.inl ⟨_,p0.out,g0.out,rfl⟩⟩
  ·have q1:(s==t)=false:=beq_eq_false_iff_ne.2 g0;have q2:(s != t)=true:=bne_iff_ne.2 g0;replace j0:=ZA (j0 g0);replace k0:=ZA k0;replace hx:=ZA hx;replace p0:=ZA p0;replace g0:=ZA g0;replace r42:=ZA r42;replace q0:=ZA q0;go_wp2_with fail;have x0:=((((r42.out.put 0 (.string ⟨#[]⟩)).put 1 (.int .i64 0)).put 2 (.int .i64 0)).put 3 (.int .i64 0)).alloc (.cells #[.string ⟨s.toArray⟩,.int .i64 (off:Int),.int .i64 (len:Int),.int .i64 (nn:Int)] 97);have t0:=((((q0.out.setCell (p:=⟨g4,0,none⟩) h0 (.string ⟨#[]⟩)).setCell (p:=⟨g4,1,none⟩) h0 (.int .i64 0)).setCell (p:=⟨g4,2,none⟩) h0 (.int .i64 0)).setCell (p:=⟨g4,3,none⟩) h0 (.int .i64 0)).alloc (.cells #[.string ⟨s.toArray⟩,.int .i64 (off:Int),.int .i64 (len:Int),.int .i64 (nn:Int)] 97);exact bodyPost_ret (ZT rfl _ _ g4 #[.string ⟨#[]⟩,.int .i64 0,.int .i64 0,.int .i64 0] rfl (ZDq x0 rfl)) rfl ⟨t0,.inr ⟨j0.out,rfl⟩⟩
end
section
open Go.RowKit Go.Maps
theorem SegR.ext {w w1:World} {g:Nat} {P:List Dc} (h:SegR w g P) (hE:Ext w w1):SegR w1 g P:=by
 obtain⟨ds,A,c,lo,hi,fi,la,B,cB,gd,gf,h1,h2,h3,h4,h5,h6,h7⟩:=h;exact⟨ds,A,c,lo,hi,fi,la,B,cB,gd,gf,h1.ext hE,h2,h3,h4.ext hE,h5.ext hE,h6.ext hE,h7.ext hE⟩
theorem ZKT (g n c:Nat) (A:Option Addr) (w:World) (h:w.cell? ⟨g,0,none⟩=some (.slice A n c)) (hn:0<n) (h0:n<=1000000000):Calls Tryz.prog 57 #[.pointer (some ⟨g,0,none⟩)] w fun e w'=>e = .returned (.bool false)/\w'=w:=by
 have q0:((n:Int)==0)=false:=by simp;omega
 go_enter Tryz.func57,Tryz.ntmps57;go_wp2_with fail;go_ret;exact⟨by simp,rfl⟩
theorem ZH2 (g:Nat) (P:List Dc) (w:World) (h:SegR w g P) (hP:0<P.length) (h0:P.length<=1000000000):Calls Tryz.prog 31 #[.pointer (some ⟨g,0,none⟩)] w fun e w'=>e = .returned (.int .i64 (P.length:Int))/\w'=w:=by
 obtain⟨ds,A,c,lo,hi,fi,la,B,cB,gd,gf,h1,h2,_⟩:=h;have hl:P.length=ds.length:=by rw[<-h2];exact List.length_map ..
 rw[hl]at hP h0 ⊢;have k0:=h1.cell 0 rfl;have hn:=ZA (ZKT g ds.length c A w k0 hP h0);replace h1:=ZA h1;replace hl:=ZA hl;replace h2:=ZA h2;go_enter Tryz.func31,Tryz.ntmps31;go_wp2_with fail;refine hn.out.mono ?_;rintro e w1 ⟨rfl,rfl⟩;go_wp2_with fail;go_ret;exact⟨rfl,rfl⟩
end
section
open Go.RowKit Go.Maps
structure SegP (P:List Dc):Prop where
  sm:SmP P
  ne:0<P.length
theorem SegP.few {P:List Dc} (h:SegP P):P.length<=1000000000:=by have:=h.sm.seg.n;omega
theorem SegR.none {w:World} {g:Nat} {P:List Dc} (h:SegR w g P) (hP:SegP P):Calls Tryz.prog 57 #[.pointer (some ⟨g,0,none⟩)] w fun e w'=>e = .returned (.bool false)/\w'=w:=by
 have hf:=hP.few;have hn:=hP.ne;obtain⟨ds,A,c,lo,hi,fi,la,B,cB,gd,gf,h1,h2,_⟩:=h;have hl:P.length=ds.length:=by rw[<-h2];exact List.length_map ..
 exact ZKT g ds.length c A w (h1.cell 0 rfl) (by omega) (by omega)
theorem ZJV (g:Nat) (P:List Dc) (w:World) (h:SegR w g P) (hP:SegP P):Calls Tryz.prog 34 #[.pointer (some ⟨g,0,none⟩)] w fun e w'=>e = .returned (.int .i64 ((rowsD P).length:Int))/\w'=w:=by
 have hn:=ZA (h.none hP);obtain⟨ds,A,c,lo,hi,fi,la,B,cB,gd,gf,h1,h2,h3,h4,h5,_⟩:=h;have k8:=h1.cell 8 rfl;have hd:=ZFZ gd _ w h5;rw[ZA5]at hd;replace hd:=ZA hd;replace h1:=ZA h1;clear h2 h3 h4 h5;go_enter Tryz.func34,Tryz.ntmps34;go_wp2_with fail;refine hn.out.mono ?_;rintro e w1 ⟨rfl,rfl⟩;go_wp2_with fail;refine hd.out.mono ?_;rintro e w2 ⟨rfl,rfl⟩;go_wp2_with fail;go_ret;exact⟨rfl,rfl⟩
theorem ZIB (g:Nat) (P:List Dc) (t:List UInt8) (w:World) (h:SegR w g P) (hP:SegP P) (ht:t.length<=1000000000):Calls Tryz.prog 16 #[.pointer (some ⟨g,0,none⟩),.string ⟨t.toArray⟩] w fun e w'=>e = .returned (.bool (mayB (ofB ((rowsD P).map (·.1))) t))/\Ext w w':=by
 have hn:=ZA (h.none hP);have hb:=hP.sm.seg.bits;obtain⟨ds,A,c,lo,hi,fi,la,B,cB,gd,gf,h1,h2,h3,h4,h5,h6,h7⟩:=h;have k10:=h1.cell 10 rfl;have hm:=ZA (ZNa gf _ t w h7 (Nat.lt_of_lt_of_le (by decide) hb.1) hb.2 ht);obtain⟨mb,h0⟩:∃mb,mb=mayB (ofB ((rowsD P).map (·.1))) t:=⟨_,rfl⟩
 rw[<-h0]at hm ⊢;replace h0:=ZA h0;replace h1:=ZA h1;clear h2 h3 h4 h5 h6 h7 hb;go_enter Tryz.func16,Tryz.ntmps16;go_wp2_with fail;refine hn.out.mono ?_;rintro e w1 ⟨rfl,rfl⟩;go_wp2_with fail;refine hm.out.mono ?_;rintro e w2 ⟨rfl,hE⟩;go_wp2_with fail;go_ret;exact⟨rfl,hE⟩
theorem ZLY (g:Nat) (P:List Dc) (w:World) (h:SegR w g P) (hP:SegP P):Calls Tryz.prog 32 #[.pointer (some ⟨g,0,none⟩)] w fun e w'=>e = .returned (.agg (prtA (partD P)))/\Ext w w':=by
 have hn:=ZA (fun W (hE:Ext w W)=>(h.ext hE).none hP);obtain⟨ds,A,c,lo,hi,fi,la,B,cB,gd,gf,h1,h2,h3,h4,h5,h6,h7⟩:=h;obtain⟨W,hW⟩:∃W,W=w.alloc (Obj.cells #[.int .i64 0,.int .i64 0,.int .i64 0,.int .i64 0,.int .i64 0,.int .i64 0,.int .i64 0] 74):=⟨_,rfl⟩
 have j0:Ext w W:=by rw[hW];exact(Ext.refl w).alloc _
 have hr:Row W w.heap.size 74 #[.int .i64 0,.int .i64 0,.int .i64 0,.int .i64 0,.int .i64 0,.int .i64 0,.int .i64 0]:=by rw[hW];exact Row.new w _ _
 have h0:=h1.ext j0;have k1:=h0.cell 1 rfl;have k2:=h0.cell 2 rfl;have k3:=h0.cell 3 rfl;have k4:=h0.cell 4 rfl;have k5:=h0.cell 5 rfl;have k6:=h0.cell 6 rfl;have k7:=h0.cell 7 rfl;have f0:=hr.free 0;have f1:=hr.free 1;have f2:=hr.free 2;have f3:=hr.free 3;have f4:=hr.free 4;have f5:=hr.free 5;have f6:=hr.free 6;have c0:=hr.cell 0 rfl;have c1:=hr.cell 1 rfl;have c2:=hr.cell 2 rfl;have c3:=hr.cell 3 rfl;have c4:=hr.cell 4 rfl;have c5:=hr.cell 5 rfl;have c6:=hr.cell 6 rfl;replace h1:=ZA h1;replace h0:=ZA h0;replace hr:=ZA hr;replace h3:=ZA h3;replace hW:=ZA hW;clear h4 h5 h6 h7;obtain⟨bg,p0⟩:∃bg,bg=w.heap.size:=⟨_,rfl⟩
 rw[<-p0]at hr f0 f1 f2 f3 f4 f5 f6 c0 c1 c2 c3 c4 c5 c6;have q0:w.heap.size<=bg:=Nat.le_of_eq p0.symm;replace p0:=ZA p0;obtain⟨nn,k0⟩:∃nn:Int,nn=(ds.length:Int):=⟨_,rfl⟩
 rw[<-k0]at k7;replace k0:=ZA k0;go_enter Tryz.func32,Tryz.ntmps32;go_wp2_with fail;rw[<-hW.out,<-p0.out];refine(hn.out _ j0).mono ?_;rintro e w1 ⟨rfl,t0⟩;subst t0;go_wp2_with fail;have m0:=((((((hr.out.put 0 (.int .i64 0)).put 1 (.int .i64 0)).put 2 (.int .i64 lo)).put 3 (.int .i64 hi)).put 4 (.int .i64 fi)).put 5 (.int .i64 la)).put 6 (.int .i64 nn);have g0:=((((((j0.setCell (p:=⟨bg,0,none⟩) q0 (.int .i64 0)).setCell (p:=⟨bg,1,none⟩) q0 (.int .i64 0)).setCell (p:=⟨bg,2,none⟩) q0 (.int .i64 lo)).setCell (p:=⟨bg,3,none⟩) q0 (.int .i64 hi)).setCell (p:=⟨bg,4,none⟩) q0 (.int .i64 fi)).setCell (p:=⟨bg,5,none⟩) q0 (.int .i64 la)).setCell (p:=⟨bg,6,none⟩) q0 (.int .i64 nn);refine bodyPost_ret (ZCf rfl _ _ bg #[.int .i64 0,.int .i64 0,.int .i64 lo,.int .i64 hi,.int .i64 fi,.int .i64 la,.int .i64 nn] rfl (run_loadVar_row _ bg 74 74 _ (0,0) _ m0 Tryz.underlying74 rfl (by kernel_rfl))) rfl ⟨?_,g0⟩;rw[h3.out,<-k0.out];rfl
end
section
open Go.RowKit Go.Maps
theorem ZJb (ds:List DocC) (A:Option Addr) (m c:Nat) (w:World) (hm:m=ds.length) (h:DocsOk w A ds) (w0:m<=1000000) :
 Calls Tryz.prog 66 #[.slice A m c] w fun e w'=>NewB w (timesD 0 (dcs ds)) e w':=by
 have n0:=ZA (fun x W (h1 : -9223372036854775808<=x) (h2:x<=9223372036854775807)=>ZE6 x W h1 h2);have a0:∀i,(timesD 0 (dcs (ds.take i))).length<=10*i:=fun i=>by
  have:=ZBb (dcs (ds.take i)) 0;have h2:(dcs (ds.take i)).length<=i:=by unfold dcs;rw[List.length_map,List.length_take];omega
  omega
 replace a0:=ZA a0;replace h:=ZA h;replace hm:=ZA hm;go_enter Tryz.func66,Tryz.ntmps66;go_wp2_with fail
 go_loopw [3,4,5] (fun s3 s4 s5 wr=>∃(i n:Nat) (B:Option Addr) (k:Nat) (a:Int),s5 = .int .i64 (i:Int)/\s3 = .slice B n k/\s4 = .int .i64 a/\i<=m/\n<=10*i/\Hid (a=lastAt 0 (dcs (ds.take i)))/\Hid (n=(timesD 0 (dcs (ds.take i))).length)/\Hid (Buf wr w.heap.size 5 B n k ((timesD 0 (dcs (ds.take i))).map B8))/\Hid (Ext w wr)) (fun _ _ s5 _=>m - (intOf s5).toNat)
 case atStart=>exact⟨0,0,none,0,0,rfl,rfl,rfl,by omega,by omega,ZA rfl,ZA rfl,ZA (Buf.nil _ _ _),ZA (Ext.refl _)⟩
 case round =>
  obtain⟨i,n,B,k,a,rfl,rfl,rfl,hi,q1,ha,hn,hb,hE⟩:=hrel;by_cases him:i<m
  ·obtain⟨x,hx⟩:∃x,ds[i]? = some x:=⟨_,List.getElem?_eq_getElem (by rw[<-hm.out];exact him)⟩
   obtain⟨g,o,hA,l0,l1,l2⟩:=ZU h.out.cells hx;have p0:∀W,Ext w W->W.cell? ⟨g,o+i*3+1,none⟩=some (.int .i64 x.e.at_):=fun W c0=>c0.cell l1;have s0:=(h.out.each x (List.mem_of_getElem? hx)).2.1;have x0:dcs (ds.take (i+1))=dcs (ds.take i) ++ [x.dc]:=by
    rw[List.take_add_one,hx];exact Z6 _ _
   have k0:timesD 0 (dcs (ds.take (i+1)))=timesD 0 (dcs (ds.take i))++vb (zig (wrap64 (x.e.at_ - a))):=by
    rw[x0,ZCQ,<-ha.out];show _++(_ ++ [])=_;rw[List.append_nil];rfl
   have m0:lastAt 0 (dcs (ds.take (i+1)))=x.e.at_:=by rw[x0,ZCL];rfl
   have q0:=ZC1 (x.e.at_ - a);have hv:=ZD (ZBB q0.1 q0.2);obtain⟨at_,v0⟩:∃at_,at_=x.e.at_:=⟨_,rfl⟩
   rw[<-v0]at l1 p0 k0 m0 q0 hv;have hc:=n0.out (wrap64 (at_ - a)) wr q0.1 q0.2;obtain⟨V,hV⟩:∃V,V=vb (zig (wrap64 (at_ - a))):=⟨_,rfl⟩
   rw[<-hV]at hc k0 hv;obtain⟨nv,g0⟩:∃nv,nv=V.length:=⟨_,rfl⟩
   unfold NewB at hc;rw[<-g0]at hc hv;have d0:(V.map B8).length=nv:=by rw[List.length_map,g0]
   subst hA;replace hc:=ZA hc;replace k0:=ZA k0;replace m0:=ZA m0;replace p0:=ZA p0;replace hV:=ZA hV;replace g0:=ZA g0;replace v0:=ZA v0;replace q0:=ZA q0;clear hx x0 l0 l1 l2 ha s0;have l1:=p0.out wr hE.out;go_wp2_with fail;refine hc.out.mono ?_;rintro e w2 ⟨A2,c2,rfl,z0,t0⟩;have e0:=hb.out.ext t0;have f0:=z0.cells;have h0:=ZA (hE.out.trans t0);have o0:=h0.out.size;have l1:=p0.out w2 h0.out;clear t0 z0 hc;go_wp2_with (at_builtin;refine ZG ZV e0 f0 (.tmp 12) (.tmp 21) rfl rfl rfl rfl rfl d0 (ZF _) (by omega) o0 (fun B6 d6 w6 u0 i0 y0 b0=>?_);replace u0:=ZA u0;have j0:=y0 w h0.out (Nat.le_refl _);have l1:=p0.out w6 j0;clear i0 y0 b0);refine⟨⟨i+1,n+nv,B6,d6,at_,by go_num,rfl,rfl,by omega,by omega,ZA m0.out.symm,ZA (by rw[k0.out,List.length_append,<-hn.out,<-g0.out]),ZA (by rw[k0.out,List.map_append];exact u0.out),ZA j0⟩,by simp only[intOf];omega⟩
  ·obtain rfl:i=m:=by omega
   have r0:ds.take i=ds:=List.take_of_length_le (by rw[<-hm.out];exact Nat.le_refl _);rw[r0]at hn hb;go_wp2_with fail;go_ret;have hl:=hn.out;subst hl;exact⟨B,k,rfl,hb.out,hE.out⟩
end
section
open Go.RowKit
theorem ZEr {P:Program} {md:Region.Mode} {ops:Array Oper} {Q:Exit->Act->World->Prop} {S:World->Prop} {base:Array Bool} {a0:Act} {w0:World} (hk:KnowOps md ops base a0.tmps.size) (V:Nat->Value) (I:(Nat->Bool)->World->Prop) (hS:∀w,S w)
 (v0:∀i o,ops[i]? = some o->base.getD i true=false->∀(L:Nat->Bool) a w,KnowB md ops base a0 w0 i a w ->
  (∀e∈o.after,Region.binds md e=true->base.getD e.on true=false->∀d,dstOf ops e.on=some d->a.tmps.getD d undef=V e.on)->(∀j,base.getD j true=false->(aboveK md ops base i).contains j=true->L j=false)->I L w ->
  Region.wanted o (yielded ops a.tmps)=true/\Oper.wp P o a w (fun a' w'=>a'=a.put o.dst (V i)/\I (fun j=>if j=i then true else L j) w'/\Ext w0 w') Q)
 (z0:∀a w,KnowA ops base a0 w0 a w->(∀j d,base.getD j true=false->dstOf ops j=some d->a.tmps.getD d undef=V j)->I (fun _=>true) w->Q .normal a w) :
 ∀(fuel:Nat) (listed:Array Bool) (a:Act) (w:World),listed.size=ops.size->(lack ops listed).length<=fuel->(∀j,base.getD j true=true->listed.getD j true=true)->KnowC md ops base a0 w0 listed a w ->
  (∀j d,base.getD j true=false->listed.getD j true=true->dstOf ops j=some d->a.tmps.getD d undef=V j)->I (fun j=>listed.getD j true) w->wpAnyH P md ops Q S fuel listed a w:=by
 have j0:∀(listed:Array Bool) (a:Act) (w:World),lack ops listed = []->listed.size=ops.size->KnowC md ops base a0 w0 listed a w ->
  (∀j d,base.getD j true=false->listed.getD j true=true->dstOf ops j=some d->a.tmps.getD d undef=V j)->I (fun j=>listed.getD j true) w->Q .normal a w:=fun listed a w hl hs ha hh hI=>by
  have k0:∀j,listed.getD j true=true:=fun j=>by
   apply Decidable.byContradiction;intro hn;have hj:j<ops.size:=by
    apply Decidable.byContradiction;intro h;rw[Array.getD_eq_getD_getElem?,Array.getElem?_eq_none (by omega)]at hn;simp at hn
   have:j∈lack ops listed:=List.mem_filter.2 ⟨List.mem_range.2 hj,by simpa using hn⟩;rw[hl]at this;cases this
  have he:(fun j=>listed.getD j true)=fun _=>true:=funext k0;rw[he]at hI;exact z0 a w ha.a (fun j d hb hd=>hh j d hb (k0 j) hd) hI
 intro fuel
 induction fuel with
 | zero =>
  intro listed a w hs hf hb ha hh hI;have h0:lack ops listed = []:=List.length_eq_zero_iff.1 (by omega);refine⟨?_,j0 listed a w h0 hs ha hh hI⟩;cases hr:Region.ready md ops listed with
  | nil=>rfl
  | cons i t =>
   have:=(ZAQ (md:=md) (ops:=ops) (listed:=listed) (i:=i) (by rw[hr];exact List.mem_cons_self ..)).1;rw[h0]at this;cases this
 | succ fuel ih =>
  intro listed a w hs hf hb ha hh hI;refine⟨fun h0=>j0 listed a w (ZCP hk hs h0) hs ha hh hI,fun i hi=>?_⟩;obtain⟨b0,o,ho,x0⟩:=ZAQ hi;have d0:=(List.mem_filter.1 b0).2;have c0:i<listed.size:=by rw[hs];exact List.mem_range.1 (List.mem_filter.1 b0).1
  have n0:listed.getD i true=false:=by simpa using d0
  have i0:base.getD i true=false:=by
   apply Decidable.byContradiction;intro hn;have:=hb i (by simpa using hn);rw[this]at d0;cases d0
  have l0:∀e∈o.after,Region.binds md e=true->listed.getD e.on true=true:=fun e he q0=>by
   have h1:=x0 e he q0;rw[Array.getD_eq_getD_getElem?]at h1 ⊢;cases hx:listed[e.on]? with
   | none=>simp
   | some b=>rw[hx]at h1;simpa using h1
  obtain⟨u1,o0⟩:=v0 i o ho i0 (fun j=>listed.getD j true) a w (ha.b n0) (fun e he q0 q1 d hd=>hh e.on d q1 (l0 e he q0) hd) (fun j u0 hj=>by
   apply Decidable.byContradiction;intro hn;have:=ZCD ha.closed j (by simpa using hj) (by simpa using hn);rw[n0]at this;cases this) hI
  have p0:∀j,j≠i->(listed.setIfInBounds i true).getD j true=listed.getD j true:=fun j hj=>by
   rw[Array.getD_eq_getD_getElem?,Array.getElem?_setIfInBounds_ne (fun h=>hj h.symm),<-Array.getD_eq_getD_getElem?]
  have g0:(listed.setIfInBounds i true).getD i true=true:=by
   rw[Array.getD_eq_getD_getElem?,Array.getElem?_setIfInBounds,if_pos rfl,if_pos c0];rfl
  have k1:(fun j=>if j=i then true else listed.getD j true)=fun j=>(listed.setIfInBounds i true).getD j true:=funext fun j=>by
   by_cases e:j=i
   ·subst e;rw[if_pos rfl,g0]
   ·rw[if_neg e,p0 j e]
  rw[k1]at o0;have t0:∀v d,o.dst≠some d->(a.put o.dst v).tmps[d]? = a.tmps[d]? :=fun v d hd=>by
   unfold Act.put;cases t1:o.dst with
   | none=>rfl
   | some d' =>
    simp only;rw[Array.getElem?_setIfInBounds_ne];intro e;exact hd (by rw[t1,e])
  have v1:∀v,(a.put o.dst v).tmps.size=a.tmps.size:=fun v=>by
   unfold Act.put;cases o.dst with
   | none=>rfl
   | some d'=>simp
  have p1:∀v,(a.put o.dst v).defers=a.defers:=fun v=>by
   unfold Act.put;cases o.dst <;> rfl
  have y0:dstOf ops i=o.dst:=by unfold dstOf;rw[ho];rfl
  unfold wpOp;rw[ho];simp only;rw[if_pos u1];refine .inl (Oper.wp_mono (fun a' w' ⟨he,s0,r0⟩=>?_) o0);subst he;refine⟨hS _,ih _ _ _ (by simpa using hs) (by have:=ZE9 b0;omega) (fun j hj=>?_) ⟨by rw[v1];exact ha.size,by rw[p1];exact ha.defers,fun d hd=>?_,r0,fun j u0 m0 o' e0 e he q0=>?_⟩ (fun j d u0 m0 hd=>?_) s0⟩
  ·have:=hb j hj;by_cases e:j=i
   ·subst e;exact g0
   ·rw[p0 j e];exact this
  ·rw[t0 _ d (by
    rw[<-y0];exact hd i i0 g0)]
   exact ha.same d fun j hb hl=>hd j hb (by
    by_cases e:j=i
    ·subst e;exact g0
    ·rw[p0 j e];exact hl)
  ·have j1:∀e∈o'.after,Region.binds md e=true->listed.getD e.on true=true:=fun e he q0=>by
    by_cases e1:j=i
    ·subst e1;rw[ho]at e0;cases e0;exact l0 e he q0
    ·rw[p0 j e1]at m0;exact ha.closed j u0 m0 o' e0 e he q0
   by_cases e2:e.on=i
   ·rw[e2];exact g0
   ·rw[p0 _ e2];exact j1 e he q0
  ·by_cases e:j=i
   ·subst e;have x1:=hd;rw[y0]at hd;have g1:d<a.tmps.size:=by
     have f0:=hk.bound;rw[List.all_eq_true]at f0;have:=f0 o (by simpa using Array.mem_of_getElem? ho);rw[hd]at this;rw[ha.size];exact of_decide_eq_true this
    unfold Act.put;rw[hd,Array.getD_eq_getD_getElem?,Array.getElem?_setIfInBounds,if_pos rfl,if_pos g1];rfl
   ·have m1:o.dst≠some d:=fun h=>e (ZC8 hk.nodup hd (y0.trans h));rw[p0 j e]at m0;rw[Array.getD_eq_getD_getElem?,t0 _ d m1,<-Array.getD_eq_getD_getElem?];exact hh j d u0 m0 hd
def IGoal (P:Program) (ops:Array Oper) (Q:Exit->Act->World->Prop) (w0:World) (V:Nat->Value) (I:(Nat->Bool)->World->Prop) (L:Nat->Bool) (i:Nat) (o:Oper) (a:Act) (w:World):Prop :=
 Region.wanted o (yielded ops a.tmps)=true/\Oper.wp P o a w (fun a' w'=>a'=a.put o.dst (V i)/\I (fun j=>if j=i then true else L j) w'/\Ext w0 w') Q
def IStep (P:Program) (md:Region.Mode) (ops:Array Oper) (Q:Exit->Act->World->Prop) (base:Array Bool) (a0:Act) (w0:World) (V:Nat->Value) (I:(Nat->Bool)->World->Prop) (i:Nat) (o:Oper):Prop :=
 ∀L a w,KnowB md ops base a0 w0 i a w->(∀j d,(o.after.any fun e=>e.on==j&&Region.binds md e)=true->base.getD j true=false->dstOf ops j=some d->a.tmps.getD d undef=V j)->(∀j,base.getD j true=false->(aboveK md ops base i).contains j=true->L j=false)->I L w->IGoal P ops Q w0 V I L i o a w
def ISteps (P:Program) (md:Region.Mode) (ops:Array Oper) (Q:Exit->Act->World->Prop) (base:Array Bool) (a0:Act) (w0:World) (V:Nat->Value) (I:(Nat->Bool)->World->Prop) (l:List Nat):Prop :=
 ∀i∈l,∀o,ops[i]? = some o->IStep P md ops Q base a0 w0 V I i o
section
variable {P:Program} {md:Region.Mode} {ops:Array Oper} {Q:Exit->Act->World->Prop} {base:Array Bool} {a0:Act} {w0:World} {V:Nat->Value} {I:(Nat->Bool)->World->Prop}
theorem ISteps.nil:ISteps P md ops Q base a0 w0 V I []:=nofun
theorem ISteps.cons {i:Nat} {o:Oper} {l:List Nat} (h0:ops[i]? = some o) (h:IStep P md ops Q base a0 w0 V I i o) (hs:ISteps P md ops Q base a0 w0 V I l):ISteps P md ops Q base a0 w0 V I (i::l):=fun j hj o' q0=>by
 rcases List.mem_cons.1 hj with rfl | hj
 ·rw[h0]at q0;cases q0;exact h
 ·exact hs j hj o' q0
theorem ISteps.all {l:List Nat} (hs:ISteps P md ops Q base a0 w0 V I l) (hl:(List.range ops.size).all (fun i=>base.getD i true || l.contains i)=true) :
 ∀i o,ops[i]? = some o->base.getD i true=false->∀(L:Nat->Bool) a w,KnowB md ops base a0 w0 i a w ->
  (∀e∈o.after,Region.binds md e=true->base.getD e.on true=false->∀d,dstOf ops e.on=some d->a.tmps.getD d undef=V e.on)->(∀j,base.getD j true=false->(aboveK md ops base i).contains j=true->L j=false)->I L w ->
  Region.wanted o (yielded ops a.tmps)=true/\Oper.wp P o a w (fun a' w'=>a'=a.put o.dst (V i)/\I (fun j=>if j=i then true else L j) w'/\Ext w0 w') Q:=fun i o ho hb L a w ha hd hab hI=>by
 rw[List.all_eq_true]at hl;have h1:=hl i (List.mem_range.2 (Array.getElem?_eq_some_iff.1 ho).1);rw[hb,Bool.false_or]at h1;refine hs i (by simpa using h1) o ho L a w ha (fun j d hj q0 p0=>?_) hab hI;rw[Array.any_eq_true']at hj;obtain⟨e,he,h0⟩:=hj;rw[Bool.and_eq_true]at h0;have k0:e.on=j:=by simpa using h0.1
 subst k0;exact hd e he h0.2 q0 d p0
variable {o:Oper} {a:Act} {w:World} {i:Nat} {L:Nat->Bool}
theorem ZK (hE:Ext w0 w) (hI:I (fun j=>if j=i then true else L j) w) (hr:(execOp a.eval o).run P w = .ok (.value (V i)) w) (h0:o.guard=none) :
 IGoal P ops Q w0 V I L i o a w:=by
 unfold IGoal;refine⟨by simp[Region.wanted,h0],?_⟩;unfold Oper.wp;rw[hr,Oper.upon_value];exact⟨rfl,hI,hE⟩
theorem ZBN {t:TypeId} {x y:Operand} {q v:Value} {w':World} (ho:o.op = .store t x y) (h0:o.guard=none) (hx:a.eval x=q) (hy:a.eval y=v) (hr:(Instr.storeAt t q v).run P w = .ok () w') (hV:V i=undef) (hI:I (fun j=>if j=i then true else L j) w') (hE:Ext w0 w') :
 IGoal P ops Q w0 V I L i o a w:=by
 unfold IGoal;refine⟨by simp[Region.wanted,h0],?_⟩;have he:(execOp a.eval o).run P w = .ok .skip w':=by
  unfold execOp;simp[ho,hx,hy,hr,Result.andThen]
 unfold Oper.wp;rw[he,Oper.upon_skip,hV];exact⟨rfl,hI,hE⟩
theorem ZOS {xs:Array Operand} {ts:Array TypeId} {x y m:Int} (ho:o.op = .call { callee:= .builtin .min,args:=xs,argTypes:=ts }) (hx:xs.map a.eval=#[.int .i64 x,.int .i64 y]) (hm:m=min x y):(execOp a.eval o).run P w = .ok (.value (.int .i64 m)) w:=by
 unfold execOp;have:=Zf (P:=P) ts o.type hm w;simp only[ho,resolve,invoke,builtin,Sem.run_bind,Sem.run_pure,Result.andThen_ok,hx,this]
theorem ZOJ {xs:Array Operand} {ts:Array TypeId} {x y m:Int} (ho:o.op = .call { callee:= .builtin .max,args:=xs,argTypes:=ts }) (hx:xs.map a.eval=#[.int .i64 x,.int .i64 y]) (hm:m=max x y):(execOp a.eval o).run P w = .ok (.value (.int .i64 m)) w:=by
 unfold execOp;have:=ZBH (P:=P) ts o.type hm w;simp only[ho,resolve,invoke,builtin,Sem.run_bind,Sem.run_pure,Result.andThen_ok,hx,this]
end
end
section
open Go.RowKit Go.Maps
def FtI (ds:List DocC) (x0:DocC) (i:Nat) (lo hi fi la:Int):Prop:=(i=0->lo=0/\hi=0/\fi=0/\la=0)/\(0<i->lo=lowD x0.e.at_ (dcs (ds.take i))/\hi=highD x0.e.at_ (dcs (ds.take i))/\fi=x0.seq/\∀x,ds[i - 1]? = some x->la=x.seq)
theorem FtI.step {ds:List DocC} {x0 x:DocC} {i:Nat} {lo hi fi la lo1 hi1 fi1 lo2 hi2:Int} (h:FtI ds x0 i lo hi fi la) (h0:ds[0]? = some x0) (hx:ds[i]? = some x) (e0:i=0->lo1=x.e.at_/\hi1=x.e.at_/\fi1=x.seq) (e1:0<i->lo1=lo/\hi1=hi/\fi1=fi) (h1:lo2=min lo1 x.e.at_) (h2:hi2=max hi1 x.e.at_):FtI ds x0 (i+1) lo2 hi2 fi1 x.seq:=by
 refine⟨fun h=>absurd h (Nat.succ_ne_zero i),fun _=>?_⟩;have k0:dcs (ds.take (i+1))=dcs (ds.take i) ++ [x.dc]:=by rw[List.take_add_one,hx];exact Z6 _ _
 have hl:∀y,ds[i+1 - 1]? = some y->x.seq=y.seq:=fun y hy=>by
  rw[Nat.add_sub_cancel,hx]at hy;rw[Option.some.inj hy]
 rw[k0,ZE2,ZD4];rcases Nat.eq_zero_or_pos i with q0 | p0
 ·obtain⟨q1,q2,q3⟩:=e0 q0;subst q0;rw[h0]at hx;obtain rfl:=Option.some.inj hx;refine⟨?_,?_,q3,hl⟩
  ·rw[h1,q1];rfl
  ·rw[h2,q2];rfl
 ·obtain⟨q1,q2,q3⟩:=e1 p0;obtain⟨r1,r2,r3,_⟩:=h.2 p0;refine⟨?_,?_,by rw[q3,r3],hl⟩
  ·rw[h1,q1,r1];rfl
  ·rw[h2,q2,r2];rfl
def kF6 (ga g5:Nat) (sq at_:Int) (u:Value) (L:Nat->Bool) (w:World):Prop:=Row w ga 74 #[.int .i64 0,.int .i64 0,.int .i64 0,.int .i64 0,.int .i64 0,.int .i64 0,.int .i64 0]/\Row w g5 39 #[.int .i64 sq,.int .i64 at_,u]/\Row w (ga+1) 74 #[.int .i64 0,.int .i64 0,.int .i64 (if L 9 then at_ else 0),.int .i64 (if L 11 then at_ else 0),.int .i64 (if L 13 then sq else 0),.int .i64 0,.int .i64 0]
def kF8 (ga g5:Nat) (sq at_:Int) (u:Value) (lo lo2 hi hi2 fi la i:Int) (L:Nat->Bool) (w:World):Prop:=Row w ga 74 #[.int .i64 0,.int .i64 0,.int .i64 0,.int .i64 0,.int .i64 0,.int .i64 0,.int .i64 0]/\Row w g5 39 #[.int .i64 sq,.int .i64 at_,u]/\Row w (ga+1) 74 #[.int .i64 0,.int .i64 0,.int .i64 (if L 15 then lo2 else lo),.int .i64 (if L 17 then hi2 else hi),.int .i64 fi,.int .i64 (if L 19 then sq else la),.int .i64 i]
theorem ZCV (w:World) (g:Nat):(Instr.fieldAt 39 (.pointer (some ⟨g,0,none⟩)) 0).run Tryz.prog w = .ok (.pointer (some ⟨g,0,none⟩)) w/\(Instr.fieldAt 39 (.pointer (some ⟨g,0,none⟩)) 1).run Tryz.prog w = .ok (.pointer (some ⟨g,1,none⟩)) w:=by
 refine⟨?_,?_⟩ <;> go_simp
theorem ZH3 (w:World) (g:Nat):(Instr.fieldAt 37 (.pointer (some ⟨g,1,none⟩)) 0).run Tryz.prog w = .ok (.pointer (some ⟨g,1,none⟩)) w:=by
 go_simp
theorem ZEz {w:World} {b k:Nat} {u:Value} {z:Int} (h:w.cell? ⟨b,k,none⟩=some u) (hf:w.frozen? ⟨b,k,none⟩=false):(Instr.storeAt 3 (.pointer (some ⟨b,k,none⟩)) (.int .i64 z)).run Tryz.prog w = .ok () (w.setCell ⟨b,k,none⟩ (.int .i64 z)):=by
 go_simp
theorem ZHk (ds:List DocC) (A:Option Addr) (m c:Nat) (w:World) (hm:m=ds.length) (h:DocsOk w A ds) (n1:m<=1000000) (h0:0<m) :
 Calls Tryz.prog 33 #[.slice A m c] w fun e w'=>e = .returned (.agg (prtA (partD (dcs ds))))/\Ext w w':=by
 obtain⟨x0,o0⟩:∃x,ds[0]? = some x:=⟨_,List.getElem?_eq_getElem (by omega)⟩
 obtain⟨xl,r0⟩:∃x,ds[m - 1]? = some x:=⟨_,List.getElem?_eq_getElem (by omega)⟩
 have m0:partD (dcs ds) = [lowD x0.e.at_ (dcs ds),highD x0.e.at_ (dcs ds),x0.seq,xl.seq,(m:Int)]:=ZBa hm o0 r0;obtain⟨W,hW⟩:∃W,W=(w.alloc (.cells #[.int .i64 0,.int .i64 0,.int .i64 0,.int .i64 0,.int .i64 0,.int .i64 0,.int .i64 0] 74)).alloc (.cells #[.int .i64 0,.int .i64 0,.int .i64 0,.int .i64 0,.int .i64 0,.int .i64 0,.int .i64 0] 74):=⟨_,rfl⟩
 have k1:Ext w W:=by rw[hW];exact((Ext.refl w).alloc _).alloc _
 obtain⟨ga,t0⟩:∃ga,ga=w.heap.size:=⟨_,rfl⟩
 have r1:Row W ga 74 #[.int .i64 0,.int .i64 0,.int .i64 0,.int .i64 0,.int .i64 0,.int .i64 0,.int .i64 0]:=by rw[hW,t0];exact(Row.new w _ _).alloc _
 have r2:Row W (ga+1) 74 #[.int .i64 0,.int .i64 0,.int .i64 0,.int .i64 0,.int .i64 0,.int .i64 0,.int .i64 0]:=by
  rw[hW,t0];have h:=Row.new (w.alloc (.cells #[.int .i64 0,.int .i64 0,.int .i64 0,.int .i64 0,.int .i64 0,.int .i64 0,.int .i64 0] 74)) 74 #[.int .i64 0,.int .i64 0,.int .i64 0,.int .i64 0,.int .i64 0,.int .i64 0,.int .i64 0];simpa using h
 rw[m0];replace h:=ZA h;replace hm:=ZA hm;replace o0:=ZA o0;replace r0:=ZA r0;clear m0;go_enter Tryz.func33,Tryz.ntmps33;go_wp2_with fail;rw[<-hW,<-t0];replace hW:=ZA hW;replace t0:=ZA t0
 go_loopw [4] (fun s4 wr=>∃(i:Nat) (lo hi fi la:Int),s4 = .int .i64 (i:Int)/\i<=m/\Hid (FtI ds x0 i lo hi fi la)/\Hid (Row wr ga 74 #[.int .i64 0,.int .i64 0,.int .i64 0,.int .i64 0,.int .i64 0,.int .i64 0,.int .i64 0])/\Hid (Row wr (ga+1) 74 #[.int .i64 0,.int .i64 0,.int .i64 lo,.int .i64 hi,.int .i64 fi,.int .i64 la,.int .i64 (i:Int)])/\Hid (Ext w wr)) (fun s4 _=>m - (intOf s4).toNat)
 case atStart=>exact⟨0,0,0,0,0,rfl,by omega,ZA ⟨fun _=>⟨rfl,rfl,rfl,rfl⟩,fun h=>absurd h (Nat.lt_irrefl _)⟩,ZA r1,ZA r2,ZA k1⟩
 case round =>
  clear r1 r2 k1;obtain⟨i,lo,z0,fi,la,rfl,hi,c0,r1,r2,hE⟩:=hrel;by_cases him:i<m
  ·obtain⟨x,hx⟩:∃x,ds[i]? = some x:=⟨_,List.getElem?_eq_getElem (by rw[<-hm.out];exact him)⟩
   obtain⟨g,o,hA,l0,l1,l2⟩:=ZU (h.out.cells.ext hE.out) hx;have b0:=fun lo1 hi1 fi1 lo2 hi2 e0 e1 h1 h2=>c0.out.step (lo1:=lo1) (hi1:=hi1) (fi1:=fi1) (lo2:=lo2) (hi2:=hi2) o0.out hx e0 e1 h1 h2;obtain⟨sq,⟨at_,fs⟩,xA,xc⟩:=x;simp only at l0 l1 l2 b0;obtain⟨fl,m1⟩:∃fl,fl=fs.length:=⟨_,rfl⟩
   rw[<-m1]at l2;obtain⟨w5,f0⟩:∃w5,w5=wr.alloc (.cells #[.int .i64 sq,.int .i64 at_,.slice xA fl xc] 39):=⟨_,rfl⟩
   obtain⟨g5,n0⟩:∃g5,g5=wr.heap.size:=⟨_,rfl⟩
   have r5:Row w5 g5 39 #[.int .i64 sq,.int .i64 at_,.slice xA fl xc]:=by rw[f0,n0];exact Row.new wr _ _
   have i0:Ext wr w5:=by rw[f0];exact(Ext.refl wr).alloc _
   have r15:=r1.out.ext i0;have r25:=r2.out.ext i0;have f1:ga+1<g5:=by have:=r2.out.lt;omega
   have k0:=ZA (hE.out.trans i0);subst hA;replace f0:=ZA f0;replace n0:=ZA n0;replace b0:=ZA b0;clear hx m1 i0;have y0:w5.cell? ⟨g5,0,none⟩=some (.int .i64 sq):=r5.cell 0 rfl;have y1:w5.cell? ⟨g5,1,none⟩=some (.int .i64 at_):=r5.cell 1 rfl;have o1:ga+1≠g5:=by omega
   have p0:Hid (w.heap.size<=ga+1):=ZA (by have:=t0.out;omega);have a0:g5≠ga+1:=by omega
   replace r15:=ZA r15;replace r25:=ZA r25;replace r5:=ZA r5;clear y0 y1;go_upto_if 17 with fail;rw[<-f0.out,<-n0.out]
   go_cut [28] from 18 to 28 (fun s28 wx=>∃(lo1 hi1 fi1 la1:Int) (u:Value),s28=u/\Hid (Row wx ga 74 #[.int .i64 0,.int .i64 0,.int .i64 0,.int .i64 0,.int .i64 0,.int .i64 0,.int .i64 0])/\Hid (Row wx (ga+1) 74 #[.int .i64 0,.int .i64 0,.int .i64 lo1,.int .i64 hi1,.int .i64 fi1,.int .i64 la1,.int .i64 (i:Int)])/\Hid (Row wx g5 39 #[.int .i64 sq,.int .i64 at_,.slice xA fl xc])/\Hid (Ext w wx)/\Hid (i=0->lo1=at_/\hi1=at_/\fi1=sq)/\Hid (0<i->lo1=lo/\hi1=z0/\fi1=fi))
   case first =>
    by_cases t1:i=0
    ·subst t1;obtain⟨z1,z2,z3,z4⟩:=c0.out.1 rfl;subst z1 z2 z3 z4;clear b0 c0;simp only[Nat.zero_mul,Nat.add_zero]at l0 l1 l2;go_wp2_with fail;refine wp_region_held_drew (S:=fun _=>True) (by kernel_rfl) trivial (fun _=>?_);refine ZEr (base:=Array.replicate 14 false) (w0:=w) ⟨by kernel_rfl,of_decide_eq_true (by kernel_rfl),by kernel_rfl,by kernel_rfl⟩ (fun j=>([.pointer (some ⟨g5,1,none⟩),.pointer (some ⟨g5,1,none⟩),.int .i64 at_,.pointer (some ⟨g5,1,none⟩),.pointer (some ⟨g5,1,none⟩),.int .i64 at_,.pointer (some ⟨g5,0,none⟩),.int .i64 sq,.pointer (some ⟨ga+1,2,none⟩),undef,.pointer (some ⟨ga+1,3,none⟩),undef,.pointer (some ⟨ga+1,4,none⟩),undef]:List Value).getD j undef) (kF6 ga g5 sq at_ (.slice xA fl xc)) (fun _=>trivial) ?hstep ?fin _ _ _ _ (by kernel_rfl) (Nat.le_of_eq (by kernel_rfl)) (fun _ h=>h) ⟨rfl,rfl,fun _ _=>rfl,k0.out.drew,fun j h1 h2=>absurd (h1.symm.trans h2) (by simp)⟩ (fun j d h1 h2 _=>absurd (h1.symm.trans h2) (by simp)) ⟨r15.out.drew,r5.out.drew,r25.out.drew⟩
     case hstep =>
      apply ISteps.all (V:=(fun j=>([.pointer (some ⟨g5,1,none⟩),.pointer (some ⟨g5,1,none⟩),.int .i64 at_,.pointer (some ⟨g5,1,none⟩),.pointer (some ⟨g5,1,none⟩),.int .i64 at_,.pointer (some ⟨g5,0,none⟩),.int .i64 sq,.pointer (some ⟨ga+1,2,none⟩),undef,.pointer (some ⟨ga+1,3,none⟩),undef,.pointer (some ⟨ga+1,4,none⟩),undef]:List Value).getD j undef)) (I:=kF6 ga g5 sq at_ (.slice xA fl xc)) (l:= [0,1,2,3,4,5,6,7,8,9,10,11,12,13]);rotate_left
      ·kernel_rfl
      refine ISteps.cons rfl (fun L a wq ha hd hab hI=>?_) ?_
      ·exact ZK ha.ext hI (ZL (q:= .pointer (some ⟨g5,0,none⟩)) rfl (ZI (ha.same 5 (by kernel_rfl))) ((ZCV wq g5).2)) rfl
      refine ISteps.cons rfl (fun L a wq ha hd hab hI=>?_) ?_
      ·exact ZK ha.ext hI (ZL (q:= .pointer (some ⟨g5,1,none⟩)) rfl (ZE (hd 0 18 (by kernel_rfl) (by kernel_rfl) (by kernel_rfl))) (ZH3 wq g5)) rfl
      refine ISteps.cons rfl (fun L a wq ha hd hab hI=>?_) ?_
      ·exact ZK ha.ext hI (Zi (q:= .pointer (some ⟨g5,1,none⟩)) rfl (ZE (hd 1 19 (by kernel_rfl) (by kernel_rfl) (by kernel_rfl))) (ZAJ (hI.2.1.cell 1 rfl))) rfl
      refine ISteps.cons rfl (fun L a wq ha hd hab hI=>?_) ?_
      ·exact ZK ha.ext hI (ZL (q:= .pointer (some ⟨g5,0,none⟩)) rfl (ZI (ha.same 5 (by kernel_rfl))) ((ZCV wq g5).2)) rfl
      refine ISteps.cons rfl (fun L a wq ha hd hab hI=>?_) ?_
      ·exact ZK ha.ext hI (ZL (q:= .pointer (some ⟨g5,1,none⟩)) rfl (ZE (hd 3 21 (by kernel_rfl) (by kernel_rfl) (by kernel_rfl))) (ZH3 wq g5)) rfl
      refine ISteps.cons rfl (fun L a wq ha hd hab hI=>?_) ?_
      ·exact ZK ha.ext hI (Zi (q:= .pointer (some ⟨g5,1,none⟩)) rfl (ZE (hd 4 22 (by kernel_rfl) (by kernel_rfl) (by kernel_rfl))) (ZAJ (hI.2.1.cell 1 rfl))) rfl
      refine ISteps.cons rfl (fun L a wq ha hd hab hI=>?_) ?_
      ·exact ZK ha.ext hI (ZL (q:= .pointer (some ⟨g5,0,none⟩)) rfl (ZI (ha.same 5 (by kernel_rfl))) ((ZCV wq g5).1)) rfl
      refine ISteps.cons rfl (fun L a wq ha hd hab hI=>?_) ?_
      ·exact ZK ha.ext hI (Zi (q:= .pointer (some ⟨g5,0,none⟩)) rfl (ZE (hd 6 24 (by kernel_rfl) (by kernel_rfl) (by kernel_rfl))) (ZAJ (hI.2.1.cell 0 rfl))) rfl
      refine ISteps.cons rfl (fun L a wq ha hd hab hI=>?_) ?_
      ·exact ZK ha.ext hI (ZL (q:= .pointer (some ⟨ga+1,0,none⟩)) rfl (ZI (ha.same 3 (by kernel_rfl))) ((ZAC wq (ga+1)).1)) rfl
      refine ISteps.cons rfl (fun L a wq ha hd hab hI=>?_) ?_
      ·obtain⟨h1,h2,h3⟩:=hI;exact ZBN (q:= .pointer (some ⟨ga+1,2,none⟩)) (v:= .int .i64 at_) rfl rfl (ZE (hd 8 26 (by kernel_rfl) (by kernel_rfl) (by kernel_rfl))) (ZE (hd 2 20 (by kernel_rfl) (by kernel_rfl) (by kernel_rfl))) (ZEz (h3.cell 2 rfl) (h3.free 2)) rfl ⟨h1.away (p:=⟨ga+1,2,none⟩) (by simp) _,h2.away (p:=⟨ga+1,2,none⟩) a0 _,h3.put 2 _⟩ (ha.ext.setCell p0.out _)
      refine ISteps.cons rfl (fun L a wq ha hd hab hI=>?_) ?_
      ·exact ZK ha.ext hI (ZL (q:= .pointer (some ⟨ga+1,0,none⟩)) rfl (ZI (ha.same 3 (by kernel_rfl))) ((ZAC wq (ga+1)).2.1)) rfl
      refine ISteps.cons rfl (fun L a wq ha hd hab hI=>?_) ?_
      ·obtain⟨h1,h2,h3⟩:=hI;exact ZBN (q:= .pointer (some ⟨ga+1,3,none⟩)) (v:= .int .i64 at_) rfl rfl (ZE (hd 10 27 (by kernel_rfl) (by kernel_rfl) (by kernel_rfl))) (ZE (hd 5 23 (by kernel_rfl) (by kernel_rfl) (by kernel_rfl))) (ZEz (h3.cell 3 rfl) (h3.free 3)) rfl ⟨h1.away (p:=⟨ga+1,3,none⟩) (by simp) _,h2.away (p:=⟨ga+1,3,none⟩) a0 _,h3.put 3 _⟩ (ha.ext.setCell p0.out _)
      refine ISteps.cons rfl (fun L a wq ha hd hab hI=>?_) ?_
      ·exact ZK ha.ext hI (ZL (q:= .pointer (some ⟨ga+1,0,none⟩)) rfl (ZI (ha.same 3 (by kernel_rfl))) ((ZAC wq (ga+1)).2.2.1)) rfl
      refine ISteps.cons rfl (fun L a wq ha hd hab hI=>?_) ?_
      ·obtain⟨h1,h2,h3⟩:=hI;exact ZBN (q:= .pointer (some ⟨ga+1,4,none⟩)) (v:= .int .i64 sq) rfl rfl (ZE (hd 12 28 (by kernel_rfl) (by kernel_rfl) (by kernel_rfl))) (ZE (hd 7 25 (by kernel_rfl) (by kernel_rfl) (by kernel_rfl))) (ZEz (h3.cell 4 rfl) (h3.free 4)) rfl ⟨h1.away (p:=⟨ga+1,4,none⟩) (by simp) _,h2.away (p:=⟨ga+1,4,none⟩) a0 _,h3.put 4 _⟩ (ha.ext.setCell p0.out _)
      exact ISteps.nil
     case fin =>
      intro a w8 ha hh hI;have q0:=ha.act [18,19,20,21,22,23,24,25,26,27,28] (by kernel_rfl);obtain⟨r18,r58,r28⟩:=hI;have a1:=ZA ha.ext;simp only[List.foldl_cons,List.foldl_nil]at q0;clear ha hh;generalize a.tmps.getD 18 undef=v18 at q0;generalize a.tmps.getD 19 undef=v19 at q0;generalize a.tmps.getD 20 undef=v20 at q0;generalize a.tmps.getD 21 undef=v21 at q0;generalize a.tmps.getD 22 undef=v22 at q0;generalize a.tmps.getD 23 undef=v23 at q0;generalize a.tmps.getD 24 undef=v24 at q0;generalize a.tmps.getD 25 undef=v25 at q0;generalize a.tmps.getD 26 undef=v26 at q0;generalize a.tmps.getD 27 undef=v27 at q0;generalize a.tmps.getD 28 undef=v28 at q0;subst q0;simp only[List.setIfInBounds_toArray,List.set_cons_zero,List.set_cons_succ];go_wp2_with fail
      go_meet
      case rel=>exact⟨at_,at_,sq,0,_,rfl,ZA r18,ZA r28,ZA r58,a1,ZA (fun _=>⟨rfl,rfl,rfl⟩),ZA (fun h=>absurd h (Nat.lt_irrefl _))⟩
    ·have i1:((i:Int)==0)=false:=by simp;omega
     go_wp2_with fail
     go_meet
     case rel=>exact⟨lo,z0,fi,la,_,rfl,r15,r25,r5,k0,ZA (fun h=>absurd h t1),ZA (fun _=>⟨rfl,rfl,rfl⟩)⟩
   case rest =>
    clear r15 r25 r5 k0;obtain⟨lo1,hi1,fi1,la1,u28,rfl,r15,r25,r5,k0,j1,g1⟩:=hcut;obtain⟨lo2,g0⟩:∃lo2,lo2=min lo1 at_:=⟨_,rfl⟩
    obtain⟨hi2,j0⟩:∃hi2,hi2=max hi1 at_:=⟨_,rfl⟩
    have s0:=ZA (b0.out lo1 hi1 fi1 lo2 hi2 j1.out g1.out g0 j0);replace g0:=ZA g0;replace j0:=ZA j0;clear b0 c0 j1 g1;go_wp2_with fail;refine wp_region_held_drew (S:=fun _=>True) (by kernel_rfl) trivial (fun _=>?_);refine ZEr (base:=Array.replicate 20 false) (w0:=w) ⟨by kernel_rfl,of_decide_eq_true (by kernel_rfl),by kernel_rfl,by kernel_rfl⟩ (fun j=>([.pointer (some ⟨ga+1,2,none⟩),.int .i64 lo1,.pointer (some ⟨g5,1,none⟩),.pointer (some ⟨g5,1,none⟩),.int .i64 at_,.int .i64 lo2,.pointer (some ⟨ga+1,3,none⟩),.int .i64 hi1,.pointer (some ⟨g5,1,none⟩),.pointer (some ⟨g5,1,none⟩),.int .i64 at_,.int .i64 hi2,.pointer (some ⟨g5,0,none⟩),.int .i64 sq,.pointer (some ⟨ga+1,2,none⟩),undef,.pointer (some ⟨ga+1,3,none⟩),undef,.pointer (some ⟨ga+1,5,none⟩),undef]:List Value).getD j undef) (kF8 ga g5 sq at_ (.slice xA fl xc) lo1 lo2 hi1 hi2 fi1 la1 (i:Int)) (fun _=>trivial) ?hstep ?fin _ _ _ _ (by kernel_rfl) (Nat.le_of_eq (by kernel_rfl)) (fun _ h=>h) ⟨rfl,rfl,fun _ _=>rfl,k0.out.drew,fun j h1 h2=>absurd (h1.symm.trans h2) (by simp)⟩ (fun j d h1 h2 _=>absurd (h1.symm.trans h2) (by simp)) ⟨r15.out.drew,r5.out.drew,r25.out.drew⟩
    case hstep =>
     apply ISteps.all (V:=(fun j=>([.pointer (some ⟨ga+1,2,none⟩),.int .i64 lo1,.pointer (some ⟨g5,1,none⟩),.pointer (some ⟨g5,1,none⟩),.int .i64 at_,.int .i64 lo2,.pointer (some ⟨ga+1,3,none⟩),.int .i64 hi1,.pointer (some ⟨g5,1,none⟩),.pointer (some ⟨g5,1,none⟩),.int .i64 at_,.int .i64 hi2,.pointer (some ⟨g5,0,none⟩),.int .i64 sq,.pointer (some ⟨ga+1,2,none⟩),undef,.pointer (some ⟨ga+1,3,none⟩),undef,.pointer (some ⟨ga+1,5,none⟩),undef]:List Value).getD j undef)) (I:=kF8 ga g5 sq at_ (.slice xA fl xc) lo1 lo2 hi1 hi2 fi1 la1 (i:Int)) (l:= [0,1,2,3,4,5,6,7,8,9,10,11,12,13,14,15,16,17,18,19]);rotate_left
     ·kernel_rfl
     refine ISteps.cons rfl (fun L a wq ha hd hab hI=>?_) ?_
     ·exact ZK ha.ext hI (ZL (q:= .pointer (some ⟨ga+1,0,none⟩)) rfl (ZI (ha.same 3 (by kernel_rfl))) ((ZAC wq (ga+1)).1)) rfl
     refine ISteps.cons rfl (fun L a wq ha hd hab hI=>?_) ?_
     ·have hL:L 15=false:=hab 15 (by kernel_rfl) (by kernel_rfl);have hc:wq.cell? ⟨ga+1,2,none⟩=some (.int .i64 (if L 15 then lo2 else lo1)):=hI.2.2.cell 2 rfl;rw[hL,if_neg (by decide)]at hc;exact ZK ha.ext hI (Zi (q:= .pointer (some ⟨ga+1,2,none⟩)) rfl (ZE (hd 0 29 (by kernel_rfl) (by kernel_rfl) (by kernel_rfl))) (ZAJ hc)) rfl
     refine ISteps.cons rfl (fun L a wq ha hd hab hI=>?_) ?_
     ·exact ZK ha.ext hI (ZL (q:= .pointer (some ⟨g5,0,none⟩)) rfl (ZI (ha.same 5 (by kernel_rfl))) ((ZCV wq g5).2)) rfl
     refine ISteps.cons rfl (fun L a wq ha hd hab hI=>?_) ?_
     ·exact ZK ha.ext hI (ZL (q:= .pointer (some ⟨g5,1,none⟩)) rfl (ZE (hd 2 31 (by kernel_rfl) (by kernel_rfl) (by kernel_rfl))) (ZH3 wq g5)) rfl
     refine ISteps.cons rfl (fun L a wq ha hd hab hI=>?_) ?_
     ·exact ZK ha.ext hI (Zi (q:= .pointer (some ⟨g5,1,none⟩)) rfl (ZE (hd 3 32 (by kernel_rfl) (by kernel_rfl) (by kernel_rfl))) (ZAJ (hI.2.1.cell 1 rfl))) rfl
     refine ISteps.cons rfl (fun L a wq ha hd hab hI=>?_) ?_
     ·have qx:a.eval (.tmp 30) = .int .i64 lo1:=(ZE (hd 1 30 (by kernel_rfl) (by kernel_rfl) (by kernel_rfl)))
      have qy:a.eval (.tmp 33) = .int .i64 at_:=(ZE (hd 4 33 (by kernel_rfl) (by kernel_rfl) (by kernel_rfl)))
      exact ZK ha.ext hI (ZOS rfl (by simp only[List.map_toArray,List.map_cons,List.map_nil,qx,qy]) g0.out) rfl
     refine ISteps.cons rfl (fun L a wq ha hd hab hI=>?_) ?_
     ·exact ZK ha.ext hI (ZL (q:= .pointer (some ⟨ga+1,0,none⟩)) rfl (ZI (ha.same 3 (by kernel_rfl))) ((ZAC wq (ga+1)).2.1)) rfl
     refine ISteps.cons rfl (fun L a wq ha hd hab hI=>?_) ?_
     ·have hL:L 17=false:=hab 17 (by kernel_rfl) (by kernel_rfl);have hc:wq.cell? ⟨ga+1,3,none⟩=some (.int .i64 (if L 17 then hi2 else hi1)):=hI.2.2.cell 3 rfl;rw[hL,if_neg (by decide)]at hc;exact ZK ha.ext hI (Zi (q:= .pointer (some ⟨ga+1,3,none⟩)) rfl (ZE (hd 6 35 (by kernel_rfl) (by kernel_rfl) (by kernel_rfl))) (ZAJ hc)) rfl
     refine ISteps.cons rfl (fun L a wq ha hd hab hI=>?_) ?_
     ·exact ZK ha.ext hI (ZL (q:= .pointer (some ⟨g5,0,none⟩)) rfl (ZI (ha.same 5 (by kernel_rfl))) ((ZCV wq g5).2)) rfl
     refine ISteps.cons rfl (fun L a wq ha hd hab hI=>?_) ?_
     ·exact ZK ha.ext hI (ZL (q:= .pointer (some ⟨g5,1,none⟩)) rfl (ZE (hd 8 37 (by kernel_rfl) (by kernel_rfl) (by kernel_rfl))) (ZH3 wq g5)) rfl
     refine ISteps.cons rfl (fun L a wq ha hd hab hI=>?_) ?_
     ·exact ZK ha.ext hI (Zi (q:= .pointer (some ⟨g5,1,none⟩)) rfl (ZE (hd 9 38 (by kernel_rfl) (by kernel_rfl) (by kernel_rfl))) (ZAJ (hI.2.1.cell 1 rfl))) rfl
     refine ISteps.cons rfl (fun L a wq ha hd hab hI=>?_) ?_
     ·have qx:a.eval (.tmp 36) = .int .i64 hi1:=(ZE (hd 7 36 (by kernel_rfl) (by kernel_rfl) (by kernel_rfl)))
      have qy:a.eval (.tmp 39) = .int .i64 at_:=(ZE (hd 10 39 (by kernel_rfl) (by kernel_rfl) (by kernel_rfl)))
      exact ZK ha.ext hI (ZOJ rfl (by simp only[List.map_toArray,List.map_cons,List.map_nil,qx,qy]) j0.out) rfl
     refine ISteps.cons rfl (fun L a wq ha hd hab hI=>?_) ?_
     ·exact ZK ha.ext hI (ZL (q:= .pointer (some ⟨g5,0,none⟩)) rfl (ZI (ha.same 5 (by kernel_rfl))) ((ZCV wq g5).1)) rfl
     refine ISteps.cons rfl (fun L a wq ha hd hab hI=>?_) ?_
     ·exact ZK ha.ext hI (Zi (q:= .pointer (some ⟨g5,0,none⟩)) rfl (ZE (hd 12 41 (by kernel_rfl) (by kernel_rfl) (by kernel_rfl))) (ZAJ (hI.2.1.cell 0 rfl))) rfl
     refine ISteps.cons rfl (fun L a wq ha hd hab hI=>?_) ?_
     ·exact ZK ha.ext hI (ZL (q:= .pointer (some ⟨ga+1,0,none⟩)) rfl (ZI (ha.same 3 (by kernel_rfl))) ((ZAC wq (ga+1)).1)) rfl
     refine ISteps.cons rfl (fun L a wq ha hd hab hI=>?_) ?_
     ·obtain⟨h1,h2,h3⟩:=hI;exact ZBN (q:= .pointer (some ⟨ga+1,2,none⟩)) (v:= .int .i64 lo2) rfl rfl (ZE (hd 14 43 (by kernel_rfl) (by kernel_rfl) (by kernel_rfl))) (ZE (hd 5 34 (by kernel_rfl) (by kernel_rfl) (by kernel_rfl))) (ZEz (h3.cell 2 rfl) (h3.free 2)) rfl ⟨h1.away (p:=⟨ga+1,2,none⟩) (by simp) _,h2.away (p:=⟨ga+1,2,none⟩) a0 _,h3.put 2 _⟩ (ha.ext.setCell p0.out _)
     refine ISteps.cons rfl (fun L a wq ha hd hab hI=>?_) ?_
     ·exact ZK ha.ext hI (ZL (q:= .pointer (some ⟨ga+1,0,none⟩)) rfl (ZI (ha.same 3 (by kernel_rfl))) ((ZAC wq (ga+1)).2.1)) rfl
     refine ISteps.cons rfl (fun L a wq ha hd hab hI=>?_) ?_
     ·obtain⟨h1,h2,h3⟩:=hI;exact ZBN (q:= .pointer (some ⟨ga+1,3,none⟩)) (v:= .int .i64 hi2) rfl rfl (ZE (hd 16 44 (by kernel_rfl) (by kernel_rfl) (by kernel_rfl))) (ZE (hd 11 40 (by kernel_rfl) (by kernel_rfl) (by kernel_rfl))) (ZEz (h3.cell 3 rfl) (h3.free 3)) rfl ⟨h1.away (p:=⟨ga+1,3,none⟩) (by simp) _,h2.away (p:=⟨ga+1,3,none⟩) a0 _,h3.put 3 _⟩ (ha.ext.setCell p0.out _)
     refine ISteps.cons rfl (fun L a wq ha hd hab hI=>?_) ?_
     ·exact ZK ha.ext hI (ZL (q:= .pointer (some ⟨ga+1,0,none⟩)) rfl (ZI (ha.same 3 (by kernel_rfl))) ((ZAC wq (ga+1)).2.2.2.1)) rfl
     refine ISteps.cons rfl (fun L a wq ha hd hab hI=>?_) ?_
     ·obtain⟨h1,h2,h3⟩:=hI;exact ZBN (q:= .pointer (some ⟨ga+1,5,none⟩)) (v:= .int .i64 sq) rfl rfl (ZE (hd 18 45 (by kernel_rfl) (by kernel_rfl) (by kernel_rfl))) (ZE (hd 13 42 (by kernel_rfl) (by kernel_rfl) (by kernel_rfl))) (ZEz (h3.cell 5 rfl) (h3.free 5)) rfl ⟨h1.away (p:=⟨ga+1,5,none⟩) (by simp) _,h2.away (p:=⟨ga+1,5,none⟩) a0 _,h3.put 5 _⟩ (ha.ext.setCell p0.out _)
     exact ISteps.nil
    case fin =>
     intro a w9 ha hh hI;have q0:=ha.act [29,30,31,32,33,34,35,36,37,38,39,40,41,42,43,44,45] (by kernel_rfl);obtain⟨r19,r59,r29⟩:=hI;have b1:=ZA ha.ext;simp only[List.foldl_cons,List.foldl_nil]at q0;clear ha hh;generalize a.tmps.getD 29 undef=v29 at q0;generalize a.tmps.getD 30 undef=v30 at q0;generalize a.tmps.getD 31 undef=v31 at q0;generalize a.tmps.getD 32 undef=v32 at q0;generalize a.tmps.getD 33 undef=v33 at q0;generalize a.tmps.getD 34 undef=v34 at q0;generalize a.tmps.getD 35 undef=v35 at q0;generalize a.tmps.getD 36 undef=v36 at q0;generalize a.tmps.getD 37 undef=v37 at q0;generalize a.tmps.getD 38 undef=v38 at q0;generalize a.tmps.getD 39 undef=v39 at q0;generalize a.tmps.getD 40 undef=v40 at q0;generalize a.tmps.getD 41 undef=v41 at q0;generalize a.tmps.getD 42 undef=v42 at q0;generalize a.tmps.getD 43 undef=v43 at q0;generalize a.tmps.getD 44 undef=v44 at q0;generalize a.tmps.getD 45 undef=v45 at q0;subst q0;simp only[List.setIfInBounds_toArray,List.set_cons_zero,List.set_cons_succ];have r29b:Row w9 (ga+1) 74 #[.int .i64 0,.int .i64 0,.int .i64 lo2,.int .i64 hi2,.int .i64 fi1,.int .i64 sq,.int .i64 (i:Int)]:=r29;have z6:w9.cell? ⟨ga+1,6,none⟩=some (.int .i64 (i:Int)):=r29b.cell 6 rfl;have u6:=r29b.free 6;have p1:=ZA (r19.away (p:=⟨ga+1,6,none⟩) (by simp) (.int .i64 ((i:Int)+1)));have p2:=ZA (r29b.put 6 (.int .i64 ((i:Int)+1)));have p3:=ZA (b1.out.setCell (p:=⟨ga+1,6,none⟩) p0.out (.int .i64 ((i:Int)+1)));clear r29 r29b;replace r19:=ZA r19;clear r59;go_wp2_with fail;exact⟨⟨i+1,lo2,hi2,fi1,sq,by go_num,by omega,s0,p1,p2,p3⟩,by simp only[intOf];omega⟩
  ·obtain rfl:i=m:=by omega
   obtain⟨q1,q2,q3,q4⟩:=c0.out.2 h0;have q5:=q4 xl r0.out;have x1:ds.take i=ds:=List.take_of_length_le (by rw[<-hm.out];exact Nat.le_refl _);rw[x1]at q1 q2;replace q1:=ZA q1;replace q2:=ZA q2;replace q3:=ZA q3;replace q5:=ZA q5;clear x1 q4;have v0:wr.cell? ⟨ga+1,0,none⟩=some (.int .i64 0):=r2.out.cell 0 rfl;have v1:wr.cell? ⟨ga+1,1,none⟩=some (.int .i64 0):=r2.out.cell 1 rfl;have v2:wr.cell? ⟨ga+1,2,none⟩=some (.int .i64 lo):=r2.out.cell 2 rfl;have v3:wr.cell? ⟨ga+1,3,none⟩=some (.int .i64 z0):=r2.out.cell 3 rfl;have v4:wr.cell? ⟨ga+1,4,none⟩=some (.int .i64 fi):=r2.out.cell 4 rfl;have v5:wr.cell? ⟨ga+1,5,none⟩=some (.int .i64 la):=r2.out.cell 5 rfl;have v6:wr.cell? ⟨ga+1,6,none⟩=some (.int .i64 (i:Int)):=r2.out.cell 6 rfl;have u0:=r1.out.free 0;have u1:=r1.out.free 1;have u2:=r1.out.free 2;have u3:=r1.out.free 3;have u4:=r1.out.free 4;have u5:=r1.out.free 5;have u6:=r1.out.free 6;have d0:wr.cell? ⟨ga,0,none⟩=some (.int .i64 0):=r1.out.cell 0 rfl;have d1:wr.cell? ⟨ga,1,none⟩=some (.int .i64 0):=r1.out.cell 1 rfl;have d2:wr.cell? ⟨ga,2,none⟩=some (.int .i64 0):=r1.out.cell 2 rfl;have d3:wr.cell? ⟨ga,3,none⟩=some (.int .i64 0):=r1.out.cell 3 rfl;have d4:wr.cell? ⟨ga,4,none⟩=some (.int .i64 0):=r1.out.cell 4 rfl;have d5:wr.cell? ⟨ga,5,none⟩=some (.int .i64 0):=r1.out.cell 5 rfl;have d6:wr.cell? ⟨ga,6,none⟩=some (.int .i64 0):=r1.out.cell 6 rfl;go_wp2_with fail;have pf:=((((((r1.out.put 0 (.int .i64 0)).put 1 (.int .i64 0)).put 2 (.int .i64 lo)).put 3 (.int .i64 z0)).put 4 (.int .i64 fi)).put 5 (.int .i64 la)).put 6 (.int .i64 (i:Int));have p0:w.heap.size<=ga:=by rw[t0.out];exact Nat.le_refl _
   have c1:=((((((hE.out.setCell (p:=⟨ga,0,none⟩) p0 (.int .i64 0)).setCell (p:=⟨ga,1,none⟩) p0 (.int .i64 0)).setCell (p:=⟨ga,2,none⟩) p0 (.int .i64 lo)).setCell (p:=⟨ga,3,none⟩) p0 (.int .i64 z0)).setCell (p:=⟨ga,4,none⟩) p0 (.int .i64 fi)).setCell (p:=⟨ga,5,none⟩) p0 (.int .i64 la)).setCell (p:=⟨ga,6,none⟩) p0 (.int .i64 (i:Int));refine bodyPost_ret (results_cell_row rfl _ _ ga 74 #[.int .i64 0,.int .i64 0,.int .i64 lo,.int .i64 z0,.int .i64 fi,.int .i64 la,.int .i64 (i:Int)] (0,0) _ rfl pf Tryz.underlying74 rfl (by kernel_rfl)) rfl ⟨?_,c1⟩;rw[<-q1.out,<-q2.out,q3.out,q5.out];rfl
end
section
open Go.RowKit Go.Maps
theorem ZNv (c:Nat) (w:World):(binOp .eql 35 (.slice none 0 c) (.slice none 0 0)).run Tryz.prog w = .ok (.bool true) w:=by kernel_rfl
theorem ZNy (a:Addr) (n c:Nat) (w:World):(binOp .eql 35 (.slice (some a) n c) (.slice none 0 0)).run Tryz.prog w = .ok (.bool false) w:=by kernel_rfl
theorem ZJE (A:Option Addr) (n c:Nat) (l:List Fd) (w:World) (hn:n=l.length) (hl:Cells w A (fcells l)) (v0:n<=1073741824) :
 Calls Tryz.prog 127 #[.slice A n c] w fun e w'=>∃A1 c1,e = .returned (.slice A1 n c1)/\w'.ownsRow w.heap.size 105 2 (.slice A1 n c1) n (fcells l)/\Ext w w':=by
 cases A with
 | none =>
  have h0:l = []:=by
   rcases hl with h | ⟨_,_,h,_⟩
   ·have:=congrArg List.length h;rw[ZBZ,List.length_nil]at this;exact List.length_eq_zero_iff.1 (by omega)
   ·cases h
  subst h0;obtain rfl:n=0:=hn;have hq:=ZNv c w;go_enter Tryz.func127,Tryz.ntmps127;go_wp2_with fail;go_ret;exact⟨none,0,rfl,⟨rfl,.inl ⟨rfl,rfl⟩⟩,Ext.refl _⟩
 | some a =>
  have hq:=ZNy a n c w;have ho:=ZAo w 105;have q0:Ext w (w.alloc (.cells #[] 105)):=(Ext.refl w).alloc _;have hb:=hl.ext q0;have p0:(fcells l).length=n*2:=by rw[ZBZ,hn]
  have j0:∀u∈fcells l,u.oneCell'=true:=fun u hu=>by
   unfold fcells at hu;obtain⟨f,_,hf⟩:=List.mem_flatMap.1 hu;unfold Fd.cells at hf;simp only[List.mem_cons,List.not_mem_nil,or_false]at hf;rcases hf with rfl | rfl <;> rfl
  have m0:w.heap.size<=(w.alloc (.cells #[] 105)).heap.size:=q0.size;replace p0:=ZA p0;replace hn:=ZA hn;go_enter Tryz.func127,Tryz.ntmps127;go_wp2_with (at_builtin;refine Zh (m:=n) ZIZ ho hb (.tmp 5) (.tmp 6) rfl rfl rfl rfl rfl p0.out j0 (by omega) m0 (fun A1 c1 w3 k0 g0 t0=>?_));go_ret;refine⟨A1,c1,rfl,?_,q0.grown g0 (fun k hk=>by cases hk;exact Nat.le_refl _)⟩;rw[Nat.zero_add]at k0;exact k0
theorem ZNx (x:DocC) (w:World) (h:x.e.Ok w x.A) (j0:x.e.fs.length<=20):Calls Tryz.prog 71 #[.agg #[.int .i64 x.seq,.int .i64 x.e.at_,.slice x.A x.e.fs.length x.c]] w fun e w'=>∃A c,e = .returned (.agg #[.int .i64 x.seq,.int .i64 x.e.at_,.slice A x.e.fs.length c])/\x.e.Own w' w.heap.size A c/\Ext w w':=by
 obtain⟨sq,⟨at_,fs⟩,A,c⟩:=x;simp only at h j0 ⊢;have h0:=h.long;simp only at h0;obtain⟨n,hn⟩:∃n,n=fs.length:=⟨_,rfl⟩
 rw[<-hn]at j0 ⊢;have p0:Ext w ((w.alloc (.cells #[.int .i64 sq,.int .i64 at_,.slice A n c] 39)).alloc (.cells #[.int .i64 0,.int .i64 0,.slice none 0 0] 39)):=((Ext.refl w).alloc _).alloc _;have r1:Row ((w.alloc (.cells #[.int .i64 sq,.int .i64 at_,.slice A n c] 39)).alloc (.cells #[.int .i64 0,.int .i64 0,.slice none 0 0] 39)) w.heap.size 39 #[.int .i64 sq,.int .i64 at_,.slice A n c]:=(Row.new w _ _).alloc _;have r2:Row ((w.alloc (.cells #[.int .i64 sq,.int .i64 at_,.slice A n c] 39)).alloc (.cells #[.int .i64 0,.int .i64 0,.slice none 0 0] 39)) (w.heap.size+1) 39 #[.int .i64 0,.int .i64 0,.slice none 0 0]:=by
  have h:=Row.new (w.alloc (.cells #[.int .i64 sq,.int .i64 at_,.slice A n c] 39)) 39 #[.int .i64 0,.int .i64 0,.slice none 0 0];simpa using h
 have z0:=ZA (ZJE A n c fs ((w.alloc (.cells #[.int .i64 sq,.int .i64 at_,.slice A n c] 39)).alloc (.cells #[.int .i64 0,.int .i64 0,.slice none 0 0] 39)) hn (h.cells.ext p0) (by omega));have k2:=r1.cell 2 rfl;have a0:=p0.size;replace hn:=ZA hn;replace p0:=ZA p0;replace r1:=ZA r1;replace r2:=ZA r2;replace h0:=ZA h0;clear h;go_enter Tryz.func71,Tryz.ntmps71;go_wp2_with fail;refine z0.out.mono ?_;rintro e w2 ⟨A1,c1,rfl,q0,k0⟩;have q1:=r1.out.ext k0;have q2:=r2.out.ext k0;have z2:=q1.free 2;obtain⟨g,hg⟩:∃g,g=w.heap.size:=⟨_,rfl⟩
 rw[<-hg]at q1 q2 z2 ⊢;have p1:=q1.put 2 (.slice A1 n c1);have p2:=q2.away (p:=⟨g,2,none⟩) (by simp) (.slice A1 n c1);have y0:=p1.cell 0 rfl;have y1:=p1.cell 1 rfl;have y2:=p1.cell 2 rfl;have v0:=p2.cell 0 rfl;have v1:=p2.cell 1 rfl;have v2:=p2.cell 2 rfl;have u0:=p2.free 0;have u1:=p2.free 1;have u2:=p2.free 2;have s2:=q1.cell 2 rfl;replace q1:=ZA q1;replace q0:=ZA q0;replace k0:=ZA k0;replace hg:=ZA hg;replace p2:=ZA p2;replace p1:=ZA p1;replace q2:=ZA q2;clear k2;go_wp2_with fail;have pf:=((p2.out.put 0 (.int .i64 sq)).put 1 (.int .i64 at_)).put 2 (.slice A1 n c1);have b0:=hg.out;have m0:=(((p0.out.trans k0.out).setCell (p:=⟨g,2,none⟩) (by simp only;omega) (.slice A1 n c1)).setCell (p:=⟨g+1,0,none⟩) (by simp only;omega) (.int .i64 sq)).setCell (p:=⟨g+1,1,none⟩) (by simp only;omega) (.int .i64 at_);have t0:=m0.setCell (p:=⟨g+1,2,none⟩) (by simp only;omega) (.slice A1 n c1);have g0:=ZN q0.out a0;have hC:Chg (fun k=>k=g\/k=g+1) w2 ((((w2.setCell ⟨g,2,none⟩ (.slice A1 n c1)).setCell ⟨g+1,0,none⟩ (.int .i64 sq)).setCell ⟨g+1,1,none⟩ (.int .i64 at_)).setCell ⟨g+1,2,none⟩ (.slice A1 n c1)) :=
  (((Chg.of_set w2 _ (.inl rfl)).trans (Chg.of_set _ _ (.inr rfl)) fun _ _ h=>h).trans (Chg.of_set _ _ (.inr rfl)) fun _ _ h=>h).trans (Chg.of_set _ _ (.inr rfl)) fun _ _ h=>h
 have x0:=hC.owns g0 fun k hk=>by
  obtain⟨cs,hr,_⟩:=ZC g0 hk;rintro(rfl | rfl)
  ·exact Row.unlike hr q1.out (by decide) rfl
  ·exact Row.unlike hr q2.out (by decide) rfl
 refine bodyPost_ret (results_cell_row rfl _ _ (g+1) 39 #[.int .i64 sq,.int .i64 at_,.slice A1 n c1] (0,0) _ rfl pf Tryz.underlying39 rfl (by kernel_rfl)) rfl ⟨A1,c1,rfl,⟨?_,h0.out,?_⟩,t0⟩
 ·simp only;rw[<-hn.out];exact x0
 ·simp only;rw[<-hn.out];exact j0
end
section
open Go.RowKit Go.Maps
theorem DocsOwn.push {w w8:World} {base c c8:Nat} {B A8:Option Addr} {l:List DocC} {x:DocC} (h:DocsOwn w base B c l) (hx:x.e.Own w base x.A x.c) (hi:I64ok' x.e.at_/\I64ok' x.seq)
 (ho:w8.ownsRow base 39 3 (.slice A8 (l.length+1) c8) (l.length+1) (dcells l++x.cells)) (hg:w.grownBy w8 (Value.slice B l.length c).ownBlock):DocsOwn w8 base A8 c8 (l ++ [x]):=by
 have hlen:(l ++ [x]).length=l.length+1:=by simp
 have q0:Chg (fun k'=>(Value.slice B l.length c).ownBlock=some k') w w8:=Chg.of_grown hg fun k' _ k0=>k0;have p0:∀k cs,Row w k 105 cs->¬ (Value.slice B l.length c).ownBlock=some k:=fun k cs hr=>ZJ h.own hr (by decide);refine⟨by rw[hlen,ZBs];exact ho,fun y hy=>?_,fun y hy=>?_⟩
 ·rcases List.mem_append.1 hy with hy | hy
  ·exact⟨q0.owns (h.each y hy).1 fun g' h0=>by obtain⟨cs,hr,_⟩:=ZC (h.each y hy).1 h0;exact p0 _ _ hr,(h.each y hy).2⟩
  ·rw[List.mem_singleton.1 hy];exact⟨q0.owns hx.1 fun g' h0=>by obtain⟨cs,hr,_⟩:=ZC hx.1 h0;exact p0 _ _ hr,hx.2⟩
 ·rcases List.mem_append.1 hy with hy | hy
  ·exact h.ints y hy
  ·rw[List.mem_singleton.1 hy];exact hi
def DocsA (P:List Dc) (w:World) (e:Ending) (w':World):Prop:=Ext w w'/\∃(l:List DocC) (A:Option Addr) (c:Nat),dcs l=P/\e = .returned (.slice A l.length c)/\DocsOwn w' w.heap.size A c l
theorem SegP.fields {P:List Dc} (h:SegP P) {d:Dc} (hd:d∈P):d.2.fs.length<=20:=by
 have h1:=h.sm.ok;unfold okDs at h1;rw[Bool.and_eq_true,Bool.and_eq_true,List.all_eq_true]at h1;have:=(Zd (of_decide_eq_true (h1.2.2 d hd))).1;omega
theorem ZLr (g:Nat) (P:List Dc) (w:World) (h:SegR w g P) (hP:SegP P):Calls Tryz.prog 21 #[.pointer (some ⟨g,0,none⟩)] w fun e w'=>DocsA P w e w':=by
 have hlen:=ZH2 g P w h hP.ne hP.few;have hf:=hP.few;obtain⟨ds,A,c,lo,hi,fi,la,B,cB,gd,gf,h1,h2,h3,h4,_⟩:=h;have f0:P.length=ds.length:=by rw[<-h2];exact List.length_map ..
 obtain⟨n,hn⟩:∃n,n=ds.length:=⟨_,rfl⟩
 rw[f0,<-hn]at hlen hf;rw[<-hn]at h1;have y0:∀x∈ds,x.e.fs.length<=20:=fun x hx=>hP.fields (d:=x.dc) (by rw[<-h2];exact List.mem_map.2 ⟨x,hx,rfl⟩);replace y0:=ZA y0;replace hlen:=ZA hlen;replace h1:=ZA h1;replace h4:=ZA h4;replace h2:=ZA h2;replace hn:=ZA hn;clear h3 f0;go_enter Tryz.func21,Tryz.ntmps21;go_wp2_with fail;refine hlen.out.mono ?_;rintro e w1 ⟨rfl,rfl⟩;go_wp2_with fail
 go_loopw [3,7] (fun s3 s7 wr=>∃(i d:Nat) (B:Option Addr) (out:List DocC),s3 = .slice B i d/\s7 = .int .i64 (i:Int)/\i<=n/\Hid (out.length=i)/\Hid (dcs out=(dcs ds).take i)/\Hid (DocsOwn wr w1.heap.size B d out)/\Hid (Ext w1 wr)) (fun _ s7 _=>n - (intOf s7).toNat)
 case atStart=>exact⟨0,0,none,[],rfl,rfl,by omega,ZA rfl,ZA rfl,ZA (DocsOwn.nil _ _),ZA (Ext.refl _)⟩
 case round =>
  obtain⟨i,d,B,out,rfl,rfl,hi,g0,i0,n0,hE⟩:=hrel;by_cases s0:i<n
  ·obtain⟨x,hx⟩:∃x,ds[i]? = some x:=⟨_,List.getElem?_eq_getElem (by rw[<-hn.out];exact s0)⟩
   have d0:=List.mem_of_getElem? hx;have r1:=h1.out.ext hE.out;have k0:=r1.cell 0 rfl;obtain⟨gA,oA,rfl,l0,l1,l2⟩:=ZU (h4.out.cells.ext hE.out) hx;obtain⟨e0,u0,x0⟩:=h4.out.each x d0;have ho:=ZNx x wr (e0.ext hE.out) (y0.out x d0);have h0:dcs (out ++ [x])=(dcs ds).take (i+1):=by
    rw[Z6,i0.out];have:(dcs ds)[i]? = some x.dc:=by unfold dcs;rw[List.getElem?_map,hx];rfl
    rw[List.take_add_one,this];rfl
   rw[Z6]at h0;obtain⟨sq,⟨at_,fs⟩,xA,xc⟩:=x;simp only at l0 l1 l2 ho u0 x0;obtain⟨m,hm⟩:∃m,m=fs.length:=⟨_,rfl⟩
   rw[<-hm]at l2 ho;replace ho:=ZA ho;replace hm:=ZA hm;replace e0:=ZA e0;replace h0:=ZA h0;replace hx:=ZA hx;replace r1:=ZA r1;replace u0:=ZA u0;replace x0:=ZA x0;clear d0;go_wp2_with (fail);refine ho.out.mono ?_;rintro e w4 ⟨A4,c4,rfl,q0,j0⟩;have p0:=n0.out.ext j0;have c0:w1.heap.size<=w4.heap.size:=(hE.out.trans j0).size;have t0:w4.ownsRow w1.heap.size 39 3 (.slice B i d) i (dcells out):=by have:=p0.own;rw[g0.out]at this;exact this
   have r0:i+1<=4294967296:=by omega
   have z0:=hE.out.size;replace p0:=ZA p0;replace q0:=ZA q0;replace j0:=ZA j0;clear k0 l0 l1 l2;go_wp2_with (at_builtin;refine ZR (us:= [.int .i64 sq,.int .i64 at_,.slice A4 m c4]) (m:=1) ZFO t0 rfl (.tmp 10) (.tmp 20) rfl rfl rfl rfl rfl (ZS rfl) r0 c0 (fun A8 c8 w8 b0 v0 w0=>?_);replace b0:=ZA b0;replace v0:=ZA v0;clear w0);have a0:Ev.Own ⟨at_,fs⟩ w4 w1.heap.size A4 c4:=by
    have h:=q0.out;exact⟨ZN h.1 z0,h.2⟩
   have m0:=DocsOwn.push (x:=⟨sq,⟨at_,fs⟩,A4,c4⟩) p0.out a0 ⟨u0.out,x0.out⟩ (by rw[g0.out];unfold DocC.cells;simp only;rw[<-hm.out];exact b0.out) (by rw[g0.out];exact v0.out);have o0:Ext w1 w8:=(hE.out.trans j0.out).grown v0.out fun k hk=>by obtain⟨_,_,hb⟩:=ZC t0 hk;exact hb
   refine⟨⟨i+1,c8,A8,_,rfl,by go_num,by omega,ZA (by rw[List.length_append,g0.out];rfl),ZA (by rw[Z6];exact h0.out),ZA m0,ZA o0⟩,by simp only[intOf];omega⟩
  ·obtain rfl:i=n:=by omega
   go_wp2_with fail;go_ret;refine⟨hE.out,out,B,d,?_,by rw[g0.out];rfl,n0.out⟩;rw[i0.out,hn.out,<-h2.out];exact List.take_of_length_le (by unfold dcs;rw[List.length_map];exact Nat.le_refl _)
end
section
open Go.RowKit Go.Maps
def PutR (w:World) (base:Nat) (A:Option Addr) (L:List UInt8) (e:Ending) (w':World):Prop:=∃(A1:Option Addr) (m c1:Nat),e = .returned (.slice A1 m c1)/\m=L.length/\Buf w' base 5 A1 m c1 (L.map B8)/\Push w A A1 w'
theorem Push.grow {w w':World} {A A1:Option Addr} {n c:Nat} (hg:w.grownBy w' (Value.slice A n c).ownBlock) (h4:A1=A\/A1=some ⟨w.heap.size,0,none⟩):Push w A A1 w':=by
 refine⟨Chg.of_grown hg fun k _ hk=>?_,?_⟩
 ·cases A with
  | none=>simp[Value.ownBlock]at hk
  | some b=>exact⟨b,rfl,by simpa [Value.ownBlock]using hk⟩
 ·rcases h4 with rfl | rfl
  ·exact .inl rfl
  ·exact .inr ⟨_,rfl,Nat.le_refl _⟩
theorem Buf.base {w:World} {base:Nat} {e:TypeId} {A:Option Addr} {n c:Nat} {xs:List Value} (h:Buf w base e A n c xs):∀a,A=some a->base<=a.block:=fun a ha=>by
 obtain⟨_,_,⟨h1,_⟩ | ⟨g,cur,hB,hb,_⟩⟩:=h
 ·rw[h1]at ha;cases ha
 ·rw[hB]at ha;cases ha;exact hb
theorem ZEL (A:Option Addr) (n c:Nat) (l:List UInt8) (x:Int) (base:Nat) (w:World) (hn:n=l.length) (hb:Buf w base 5 A n c (l.map B8)) (h0:base<=w.heap.size) (hx:0<=x) (c0:x<=9223372036854775807) (b0:n<=1000000000) :
 Calls Tryz.prog 114 #[.slice A n c,.int .i64 x] w fun e w'=>PutR w base A (l++vb x.toNat) e w':=by
 have p0:=ZA (rbytes x.toNat w (by omega));have hw:=ZBK (m:=x.toNat) (by omega);have k0:((x.toNat:Nat):Int)=x:=Int.toNat_of_nonneg hx;rw[k0]at hw;have j0:=ZD (n:=x.toNat) (by omega);obtain⟨V,hV⟩:∃V,V=vb x.toNat:=⟨_,rfl⟩
 rw[<-hV]at p0 j0 ⊢;rw[k0]at p0;replace hn:=ZA hn;replace hV:=ZA hV;clear k0;go_enter Tryz.func114,Tryz.ntmps114;go_wp2_with fail;refine p0.out.mono ?_;rintro e w1 ⟨B,d,rfl,m0,q0⟩;have t0:=hb.ext q0;have x0:base<=w1.heap.size:=Nat.le_trans h0 q0.size;have y0:=m0.cells;obtain⟨k,hk⟩:∃k,k=V.length:=⟨_,rfl⟩
 rw[<-hk]at j0 ⊢;have z0:(V.map B8).length=k:=by rw[List.length_map,hk]
 replace hk:=ZA hk;go_wp2_with (at_builtin;refine ZG ZV t0 y0 (.tmp 5) (.tmp 8) rfl rfl rfl rfl rfl z0 (ZF _) (by omega) x0 (fun A2 c2 w2 v0 u0 a0 g0=>?_));go_ret;refine⟨A2,n+k,c2,rfl,by rw[List.length_append,<-hn.out,<-hk.out],?_,(Push.of_ext q0 A).trans (Push.grow u0 g0)⟩;rw[List.map_append];exact v0
theorem ZEg (A:Option Addr) (n c:Nat) (l:List UInt8) (x:Int) (base:Nat) (w:World) (hn:n=l.length) (hb:Buf w base 5 A n c (l.map B8)) (h0:base<=w.heap.size) (hx:0<=x) (c0:x<=9223372036854775807) (b0:n<=1000000000) :
 Calls Tryz.prog 111 #[.slice A n c,.int .i64 x] w fun e w'=>PutR w base A (l++vb x.toNat) e w':=by
 have p0:=ZA (rbytes x.toNat w (by omega));have hw:=ZBK (m:=x.toNat) (by omega);have k0:((x.toNat:Nat):Int)=x:=Int.toNat_of_nonneg hx;rw[k0]at hw;have j0:=ZD (n:=x.toNat) (by omega);obtain⟨V,hV⟩:∃V,V=vb x.toNat:=⟨_,rfl⟩
 rw[<-hV]at p0 j0 ⊢;rw[k0]at p0;replace hn:=ZA hn;replace hV:=ZA hV;clear k0;go_enter Tryz.func111,Tryz.ntmps111;go_wp2_with fail;refine p0.out.mono ?_;rintro e w1 ⟨B,d,rfl,m0,q0⟩;have t0:=hb.ext q0;have x0:base<=w1.heap.size:=Nat.le_trans h0 q0.size;have y0:=m0.cells;obtain⟨k,hk⟩:∃k,k=V.length:=⟨_,rfl⟩
 rw[<-hk]at j0 ⊢;have z0:(V.map B8).length=k:=by rw[List.length_map,hk]
 replace hk:=ZA hk;go_wp2_with (at_builtin;refine ZG ZV t0 y0 (.tmp 5) (.tmp 8) rfl rfl rfl rfl rfl z0 (ZF _) (by omega) x0 (fun A2 c2 w2 v0 u0 a0 g0=>?_));go_ret;refine⟨A2,n+k,c2,rfl,by rw[List.length_append,<-hn.out,<-hk.out],?_,(Push.of_ext q0 A).trans (Push.grow u0 g0)⟩;rw[List.map_append];exact v0
theorem ZG3 {n:Int}:∀ {l:List Int} {lo:Int},risB n lo l=true->∀(i:Nat) (x:Int),l[i]? = some x->lo<x/\x<n/\∀y,0<i->l[i - 1]? = some y->y<x
 | [],lo,_,i,x,hx=>by simp at hx
 | z::t,lo,h,0,x,hx=>by
  obtain rfl:z=x:=by simpa using hx
  rw[risB,Bool.and_eq_true,Bool.and_eq_true]at h;exact⟨of_decide_eq_true h.1.1,of_decide_eq_true h.1.2,fun y hi=>absurd hi (Nat.lt_irrefl _)⟩
 | z::t,lo,h,i+1,x,hx=>by
  rw[risB,Bool.and_eq_true,Bool.and_eq_true]at h;have h1:=of_decide_eq_true h.1.1;have h0:t[i]? = some x:=by simpa using hx
  obtain⟨h2,h3,h4⟩:=ZG3 h.2 i x h0;refine⟨by omega,h3,fun y _ hy=>?_⟩;rw[Nat.add_sub_cancel]at hy;cases i with
  | zero =>
   obtain rfl:z=y:=by simpa using hy
   exact h2
  | succ j=>exact h4 y (by omega) (by simpa using hy)
end
end Go.Proofs.YtkdcnhnaiknaaaaGreat
