/- Texts of one proof, joined. -/
import Derived.Test.YtfifdilapbeiiaaGreatPP10
set_option linter.unusedSimpArgs false
set_option linter.unusedVariables false
set_option maxRecDepth 100000
set_option maxHeartbeats 16000000
namespace Go.Proofs.YtfifdilapbeiiaaGreat
open _root_.Go.Proofs.Tryz
variable {cs:Array Value} {fl z:Int} {bs:List (List UInt8)} {f:List UInt8} {xs:List Value} {c g gd i k m n:Nat} {S:Nat → Prop} {A A':Option Addr} {P:Program} {e ty:TypeId} {u0:Value} {w w' w1 w8:World}
section
open Go.RowKit Go.Maps
def openD (b:List UInt8):Option (List Dc) :=
 if b.take 4 = [76,83,69,71] then
  if (splitF (b.drop 4)).2=0/\(splitF (b.drop 4)).1.length=6 then
   match decDs ((splitF (b.drop 4)).1.headD [])with
   | some P=>if 0<P.length/\segL P=b then some P else none
   | none=>none
  else none
 else none
def SegR (w:World) (g:Nat) (P:List Dc):Prop:=∃(ds:List DocC) (A:Option Addr) (c:Nat) (lo hi fi la:Int) (B:Option Addr) (cB gd gf:Nat),
 Row w g 120 #[.slice A ds.length c,.int .i64 0,.int .i64 0,.int .i64 lo,.int .i64 hi,.int .i64 fi,.int .i64 la,.int .i64 (ds.length:Int),.pointer (some ⟨gd,0,none⟩),.slice B (postB (rowsD P)).length cB,.pointer (some ⟨gf,0,none⟩)] /\
 dcs ds=P/\partD P = [lo,hi,fi,la,(ds.length:Int)]/\DocsOk w A ds/\DicR w gd (enOf 0 (rowsD P))/\In8 w B (postB (rowsD P)).length cB (postB (rowsD P))/\FilR w gf (ofB ((rowsD P).map (·.1)))
def SegRB (base:Nat) (w:World) (g:Nat) (P:List Dc):Prop:=∃(ds:List DocC) (A:Option Addr) (c:Nat) (lo hi fi la:Int) (B:Option Addr) (cB gd gf:Nat),
 Row w g 120 #[.slice A ds.length c,.int .i64 0,.int .i64 0,.int .i64 lo,.int .i64 hi,.int .i64 fi,.int .i64 la,.int .i64 (ds.length:Int),.pointer (some ⟨gd,0,none⟩),.slice B (postB (rowsD P)).length cB,.pointer (some ⟨gf,0,none⟩)] /\
 dcs ds=P/\partD P = [lo,hi,fi,la,(ds.length:Int)]/\DocsOwn w base A c ds/\DicO w base gd (enOf 0 (rowsD P))/\Buf w base 5 B (postB (rowsD P)).length cB ((postB (rowsD P)).map B8)/\FilO w base gf (ofB ((rowsD P).map (·.1)))
theorem SegRB.seg {base:Nat} {P:List Dc} (h:SegRB base w g P):SegR w g P:=by
 obtain⟨ds,A,c,lo,hi,fi,la,B,cB,gd,gf,h1,h2,j,b,a,H,Y⟩:=h;exact⟨ds,A,c,lo,hi,fi,la,B,cB,gd,gf,h1,h2,j,b.ok,a.dic,H.in8,Y.fil⟩
theorem FilO.lower {base b g:Nat} (h:FilO w base g f) (hb:b<=base):FilO w b g f:=by
 obtain⟨b1,c,cur,a,h1,j,h2⟩:=h;exact⟨b1,c,cur,a,Nat.le_trans hb h1,j,h2⟩
theorem DicO.lower {base b g:Nat} {l:List En} (h:DicO w base g l) (hb:b<=base):DicO w b g l:=by
 obtain⟨A,c,h1,h2⟩:=h;exact⟨A,c,h1,AD h2 hb⟩
def SegOB (w:World) (b:List UInt8) (e:Ending) (w':World):Prop:=Ext w w'/\match openD b with
 | some P=>∃g,e = .returned (.tuple #[.pointer (some ⟨g,0,none⟩),.int .i64 0])/\SegRB w.heap.size w' g P
 | none=>e = .returned (.tuple #[.pointer none,.int .i64 130])
theorem SegOB.no {b:List UInt8} (j:Ext w w') (h:openD b=none):SegOB w b (.returned (.tuple #[.pointer none,.int .i64 130])) w':=by
 refine⟨j,?_⟩;rw[h]
def SegO (w:World) (b:List UInt8) (e:Ending) (w':World):Prop:=Ext w w'/\match openD b with
 | some P=>∃g,e = .returned (.tuple #[.pointer (some ⟨g,0,none⟩),.int .i64 0])/\SegR w' g P
 | none=>e = .returned (.tuple #[.pointer none,.int .i64 130])
theorem SegO.no {b:List UInt8} (j:Ext w w') (h:openD b=none):SegO w b (.returned (.tuple #[.pointer none,.int .i64 130])) w':=by
 refine⟨j,?_⟩;rw[h]
theorem Ik {p:Addr} (h:Cells w A xs) (j:w.cell? p=some u0) (b:∀v∈xs,v≠u0) (u:Value):Cells (w.setCell p u) A xs:=by
 rcases h with h | ⟨g,o,H,Y⟩
 ·exact .inl h
 ·refine .inr ⟨g,o,H,fun i v a=>?_⟩;have h1:=Y i v a;rw[World.cell?_setCell_other w p _ u (fun e=>by
   rw[e]at j;rw[h1]at j;injection j with j;exact b v (List.mem_of_getElem? a) j)]
  exact h1
theorem Ly (l:List En):∀v∈encells l,v≠Value.pointer none:=fun v j e=>by
 unfold encells at j;obtain⟨x,_,h⟩:=List.mem_flatMap.1 j;unfold En.cells at h;simp only[List.mem_cons,List.not_mem_nil,or_false]at h;rcases h with rfl | rfl | rfl | rfl <;> cases e
theorem DicR.set {l:List En} (h:DicR w gd l) (j:Row w g 120 cs) (hi:cs[i]? = some (.pointer none)) (u:Value):DicR (w.setCell ⟨g,i,none⟩ u) gd l:=by
 obtain⟨A,c,h1,h2⟩:=h;exact⟨A,c,h1.away (h1.unlike j (by decide)) u,Ik h2 (j.cell i hi) (Ly l) u⟩
theorem FilO.set {b gf g i:Nat} (h:FilO w b gf f) (j:Row w g 120 cs) (u:Value):FilO (w.setCell ⟨g,i,none⟩ u) b gf f:=by
 obtain⟨b1,c,cur,h1,hb,h2,a,H,Y⟩:=h;exact⟨b1,c,cur,h1.away (h1.unlike j (by decide)) u,hb,h2.away (h2.unlike j (by decide)) u,a,H,Y⟩
theorem EV {ds:List DocC} (h:DocsOk w A ds) (U:m=ds.length) (T:0<m) (hs:SmP (dcs ds)):∀p∈framesD (dcs ds),p.length<=16777216:=by
 have b:=hs.seg;have O:(vall (partD (dcs ds))).length<=16777216:=by
  obtain⟨x0,a⟩:∃x,ds[0]? = some x:=⟨_,List.getElem?_eq_getElem (by omega)⟩
  obtain⟨xl,H⟩:∃x,ds[m - 1]? = some x:=⟨_,List.getElem?_eq_getElem (by omega)⟩
  have h1:=C7 U a H;have j:∀d∈dcs ds,I64ok' d.2.at_:=fun d hd=>by
   unfold dcs at hd;obtain⟨x,Y,rfl⟩:=List.mem_map.1 hd;exact(h.each x Y).2.1
  have q0:=(h.each x0 (List.mem_of_getElem? a)).2;have ql:=(h.each xl (List.mem_of_getElem? H)).2;have hn:m<=65536:=by
   have:=b.n;unfold dcs at this;rw[List.length_map]at this;omega
  rw[h1];have q1:=E5 (dcs ds) _ q0.1 j;have q2:=Ea (dcs ds) _ q0.1 j;have q5:I64ok' (m:Int):=by unfold I64ok';omega
  have h2:=De [lowD x0.e.at_ (dcs ds),highD x0.e.at_ (dcs ds),x0.seq,xl.seq,(m:Int)] (fun x Y=>by
   simp only[List.mem_cons,List.not_mem_nil,or_false]at Y;rcases Y with rfl | rfl | rfl | rfl | rfl
   ·exact q1
   ·exact q2
   ·exact q0.2
   ·exact ql.2
   ·exact q5) 5
  exact Nat.le_trans h2 (by decide)
 intro p J;unfold framesD at J;simp only[List.mem_cons,List.not_mem_nil,or_false]at J;rcases J with rfl | rfl | rfl | rfl | rfl | rfl
 ·exact b.docs
 ·exact b.times
 ·exact Nat.le_trans b.posts (by decide)
 ·exact b.dic
 ·exact Nat.le_trans b.bits.2 (by decide)
 ·exact O
theorem Ff (A:Option Addr) (n c:Nat) (b:List UInt8) (w:World) (h:In8 w A n c b) (e7:n<=1000000000) (m2:∀P,(splitF (b.drop 4)).2=0->decDs ((splitF (b.drop 4)).1.headD [])=some P->(blockD 0 P).length<=70000) :
 Calls prog 24 #[.slice A n c] w fun e w'=>SegOB w b e w':=by
 have t4:=h.len;obtain⟨k4,d4⟩:∃k:Nat,(k:Int)=min (n:Int) 4:=⟨min n 4,by omega⟩
 have k6:k4<=n:=by omega
 have m7:=fun(W:World)=>AQ (P:=prog) #[3,3] 3 d4 W;obtain⟨i7,h4⟩:=h.headk .i64 k6 (z:=(k4:Int)) rfl;have m4:=fun(W:World) (hE:Ext w W)=>CT (A:=A) (l:=b.take k4) (w:=W) (h4.bytes.ext hE) k4 c h4.len;have j5:b.take k4=b.take 4:=by
  by_cases g6:4<=n
  ·have:k4=4:=by omega
   rw[this]
  ·have:k4=n:=by omega
   rw[this,List.take_of_length_le (by omega),List.take_of_length_le (by omega)]
 have q6:=Tryz.strings_HasPrefix ⟨(b.take k4).toArray⟩ ⟨#[76,83,69,71]⟩ w;obtain⟨hp,q1⟩:=Ab (Lib.hasPrefix (b.take 4) [76,83,69,71]);have r0:Calls prog 52 #[.string ⟨(b.take k4).toArray⟩,.string ⟨#[76,83,69,71]⟩] w fun e w'=>e = .returned (.bool hp)/\w'=w:=by
  rw[q1,<-j5];simpa using q6
 have j1:hp=true↔b.take 4 = [76,83,69,71]:=by
  rw[q1];unfold Lib.hasPrefix;rw[List.isPrefixOf_iff_prefix];constructor
  ·intro x6;exact(x6.eq_of_length_le (by rw[List.length_take];simp;omega)).symm
  ·intro e;rw[e];exact List.prefix_refl _
 have p7:=m4 w (Ext.refl w);replace r0:=Aa r0;replace h:=Aa h;replace m2:=Aa m2;clear q6 m4 h4;have f5:=Aa t4;replace d4:=Aa d4;replace q1:=Aa q1;replace j5:=Aa j5;by_cases i4:hp=true
 ·have m1:=j1.1 i4;subst i4;have g6:4<=n:=by
   have:=congrArg List.length m1;rw[List.length_take]at this;simp at this;omega
  obtain⟨A4,c4,l6,j3⟩:=h.out.from_ (fr:=4) g6 (z:=4) rfl;have a3:=OC A4 (n - 4) c4 (b.drop 4) w j3 (by omega);clear t4;replace a3:=Aa a3;replace j3:=Aa j3;replace m1:=Aa m1;replace j1:=Aa j1
  go_in
  go_wp2_with fail;refine r0.out.mono ?_;rintro e w1 ⟨rfl,rfl⟩;go_wp2_with fail;refine a3.out.mono ?_;rintro e w2 ⟨L,cL,z,ps,rfl,v4,j2,q2,T⟩;have Y:openD b=if (splitF (b.drop 4)).2=0/\ps.length=6 then (match decDs ((pays ps).headD [])with | some P=>if 0<P.length/\segL P=b then some P else none | none=>none) else none:=by
   unfold openD;rw[if_pos m1.out,<-j2];have:(pays ps).length=ps.length:=List.length_map ..;rw[this]
  have v0:=m2.out;rw[<-j2]at v0;obtain⟨sc,q5⟩:=Ab ((splitF (b.drop 4)).2);rw[<-q5]at Y v0 ⊢;have t0:∀p∈pays ps,p.length<=16777216:=fun p hp=>by rw[j2]at hp;exact(Fl hp).1
  replace q5:=Aa q5;replace v0:=Aa v0;replace t0:=Aa t0;obtain⟨np,q4⟩:=Ab ps.length;rw[<-q4]at Y ⊢;replace q4:=Aa q4;replace v4:=Aa v4;replace j2:=Aa j2;replace q2:=Aa q2;by_cases x3:sc=0
  ·by_cases m6:np=6
   ·subst x3;subst m6;rw[if_pos ⟨rfl,rfl⟩]at Y;obtain⟨⟨A0,k0,b0,z0⟩,⟨A1,k1,b1,z1⟩,⟨A2,k2,b2,z2⟩,⟨A3,k3,b3,z3⟩,⟨A4',k4',b4,z4⟩,⟨A5,k5,b5,z5⟩,y6⟩:∃p0 p1 p2 p3 p4 p5:Pay,ps = [p0,p1,p2,p3,p4,p5]:=by
     have:=q4.out
     match ps,this with
     | [p0,p1,p2,p3,p4,p5],_=>exact⟨p0,p1,p2,p3,p4,p5,rfl⟩
    subst y6;obtain⟨gl,ol,hL,d2⟩:=v4.out.at_ (by simp);subst hL;have l0:=d2 0 (.slice A0 b0.length k0) rfl;have l2:=d2 2 (.slice A2 b2.length k2) rfl;have l3:=d2 3 (.slice A3 b3.length k3) rfl;have l4:=d2 4 (.slice A4' b4.length k4') rfl;rw[Nat.add_zero]at l0;have h5:(pays [(A0,k0,b0,z0),(A1,k1,b1,z1),(A2,k2,b2,z2),(A3,k3,b3,z3),(A4',k4',b4,z4),(A5,k5,b5,z5)]).headD []=b0:=rfl;rw[h5]at Y;have g4:=fun P hP=>v0.out P rfl (by rw[h5];exact hP);have p6:In8 w2 A0 b0.length k0 b0:=by obtain⟨bb,hb⟩:=q2.out (A0,k0,b0,z0) (by simp);exact hb.in8
    have n6:=t0.out b0 (by simp[pays]);have j0:=JA A0 b0.length k0 b0 w2 p6 (by omega);obtain⟨D,hD⟩:=Ab (decDs b0);have o0:=fun P (h:decDs b0=some P)=>Iq h;rw[<-hD]at j0 Y o0;have y3:∀P,D=some P->(blockD 0 P).length<=70000:=fun P hP=>g4 P (by rw[<-hD];exact hP);obtain⟨n0,o4⟩:=Ab b0.length;rw[<-o4]at j0 l0;replace hD:=Aa hD;replace o0:=Aa o0;replace j0:=Aa j0;replace Y:=Aa Y;replace y3:=Aa y3;replace o4:=Aa o4;clear d2 g4 p6 n6 h5;go_wp2_with fail;refine j0.out.mono ?_;rintro e w3 ⟨h0,a1⟩;cases D with
    | none =>
     simp only at a1;subst a1;have j:openD b=none:=Y.out;replace j:=Aa j;go_wp2_with fail;go_ret2;exact SegOB.no (T.trans h0) j.out
    | some P =>
     simp only at a1;obtain⟨ds,Ad,cd,i1,rfl,y1⟩:=a1;obtain⟨t6,c7⟩:=o0.out P rfl;have a6:=y3.out P rfl;have c5:P.length=ds.length:=by rw[<-i1];exact List.length_map ..
     have o2:=y1.ok;have Z:=y1.cap;have i0:=T.trans h0;have U:openD b=if 0<P.length/\segL P=b then some P else none:=Y.out;obtain⟨m,hm⟩:=Ab ds.length;rw[<-hm]at Z c5 ⊢;rw[c5]at U;by_cases o6:m=0
     ·have j:openD b=none:=by rw[U,if_neg (fun e=>by omega)]
      subst o6;have m0:=Fe ds Ad 0 cd w3 hm o2 Z.2 Z.1 (by omega) (.inr rfl);replace m0:=Aa m0;replace j:=Aa j;replace hm:=Aa hm;clear U Z y1 o2;go_wp2_with fail;refine m0.out.mono ?_;rintro e w4 ⟨rfl,H⟩;go_wp2_with fail;go_ret2;exact SegOB.no (i0.trans H) j.out
     ·have m2:SmP (dcs ds):=by rw[i1];exact⟨t6,a6⟩
      have m0:=CY ds Ad m cd w3 hm o2 Z.2 Z.1 m2 (by omega);rw[i1]at m0;have hB:=(SmP.mk t6 a6).seg;replace m0:=Aa m0;replace hm:=Aa hm;replace U:=Aa U;replace hB:=Aa hB;go_wp2_with fail;refine m0.out.mono ?_;rintro e w4 ⟨A9,c9,rfl,a5,H⟩;obtain⟨n9,r3⟩:=Ab ((segL P).length);rw[<-r3]at a5 ⊢;have z6:=CT (A:=A9) (l:=segL P) (w:=w4) a5.2.cells n9 c9 r3;have y7:=CT (A:=A) (l:=b) (w:=w4) ((h.out.ext (i0.trans H)).bytes) n c f5.out;replace r3:=Aa r3;by_cases h3:segL P=b
      ·rw[h3]at z6;have j7:=i0.trans H;have d3:openD b=some P:=by rw[U.out,if_pos ⟨by omega,h3⟩]
       obtain⟨x0,g5⟩:∃x,ds[0]? = some x:=⟨_,List.getElem?_eq_getElem (by have:=hm.out;omega)⟩
       obtain⟨xl,m5⟩:∃x,ds[m - 1]? = some x:=⟨_,List.getElem?_eq_getElem (by have:=hm.out;omega)⟩
       have t3:=C7 hm.out g5 m5;obtain⟨lo,e4⟩:∃z,z=lowD x0.e.at_ (dcs ds):=⟨_,rfl⟩
       obtain⟨q3,a4⟩:∃z,z=highD x0.e.at_ (dcs ds):=⟨_,rfl⟩
       rw[<-e4,<-a4]at t3;have h7:m<=1000000:=by have:=hB.out.n;omega
       have O:=fun X (hx:Ext w4 X)=>K4 ds Ad m cd X hm.out (o2.ext (H.trans hx)) h7 (by omega);rw[t3]at O;have v6:prtA [lo,q3,x0.seq,xl.seq,(m:Int)]=#[.int .i64 0,.int .i64 0,.int .i64 lo,.int .i64 q3,.int .i64 x0.seq,.int .i64 xl.seq,.int .i64 (m:Int)]:=rfl;rw[v6]at O;obtain⟨bb2,d5⟩:=q2.out (A2,k2,b2,z2) (by simp);simp only at d5;have y2:=d5.ext (h0.trans H);have j6:=t0.out b2 (by simp[pays]);obtain⟨n2,m3⟩:=Ab b2.length;rw[<-m3]at y2 l2 j6;have I:=fun X (hx:Ext w4 X)=>Cr A2 n2 k2 b2 X m3 (y2.ext hx).cells (MN y2) (by omega);have lx2:=(h0.trans H).cell l2;replace t3:=Aa t3;replace e4:=Aa e4;replace a4:=Aa a4;replace g5:=Aa g5;replace m5:=Aa m5;replace O:=Aa O;replace I:=Aa I;replace m3:=Aa m3;replace d3:=Aa d3;clear v6;go_upto_region 12 with fail
       go_cut [10] (fun s10 wy=>∃g BC cC,s10 = .pointer (some ⟨g,0,none⟩)/\Hid (Row wy g 120 #[.slice Ad m cd,.int .i64 0,.int .i64 0,.int .i64 lo,.int .i64 q3,.int .i64 x0.seq,.int .i64 xl.seq,.int .i64 (m:Int),.pointer none,.slice BC n2 cC,.pointer none])/\Hid (Buf wy w4.heap.size 5 BC n2 cC (b2.map B8))/\Hid (Ext w4 wy)/\w4.heap.size<=g)
       case first =>
        have hX:Hid (Ext w4 w4):=Aa (Ext.refl w4)
        go_region_held3 (fun x=>x.cell? ⟨gl,ol+2,none⟩=some (.slice A2 n2 k2))
         (exact(hX.out.trans (by(first | with_reducible exact Ext.refl _ | with_reducible exact Ext.drew (Ext.refl _) | with_reducible exact Ext.alloc (Ext.refl _) _ | with_reducible exact Ext.drew (Ext.alloc (Ext.refl _) _) | with_reducible exact Ext.alloc (Ext.drew (Ext.refl _)) _ | with_reducible exact Ext.alloc (Ext.alloc (Ext.refl _) _) _ | with_reducible exact Ext.drew (Ext.alloc (Ext.alloc (Ext.refl _) _) _)))).cell lx2)
         (first
         | (go_at_call 46;refine(O.out _ (hX.out.trans (by(first | with_reducible exact Ext.refl _ | with_reducible exact Ext.drew (Ext.refl _) | with_reducible exact Ext.alloc (Ext.refl _) _ | with_reducible exact Ext.drew (Ext.alloc (Ext.refl _) _) | with_reducible exact Ext.alloc (Ext.drew (Ext.refl _)) _ | with_reducible exact Ext.alloc (Ext.alloc (Ext.refl _) _) _ | with_reducible exact Ext.drew (Ext.alloc (Ext.alloc (Ext.refl _) _) _))))).mono ?_;rintro e w9 ⟨rfl,d1⟩;(try replace y0:=Aa (y0.out.ext (Ext.trans (by(first | with_reducible exact Ext.refl _ | with_reducible exact Ext.drew (Ext.refl _) | with_reducible exact Ext.alloc (Ext.refl _) _ | with_reducible exact Ext.drew (Ext.alloc (Ext.refl _) _) | with_reducible exact Ext.alloc (Ext.drew (Ext.refl _)) _ | with_reducible exact Ext.alloc (Ext.alloc (Ext.refl _) _) _ | with_reducible exact Ext.drew (Ext.alloc (Ext.alloc (Ext.refl _) _) _))) d1)));replace hX:=Aa (hX.out.trans (Ext.trans (by(first | with_reducible exact Ext.refl _ | with_reducible exact Ext.drew (Ext.refl _) | with_reducible exact Ext.alloc (Ext.refl _) _ | with_reducible exact Ext.drew (Ext.alloc (Ext.refl _) _) | with_reducible exact Ext.alloc (Ext.drew (Ext.refl _)) _ | with_reducible exact Ext.alloc (Ext.alloc (Ext.refl _) _) _ | with_reducible exact Ext.drew (Ext.alloc (Ext.alloc (Ext.refl _) _) _))) d1));clear d1)
         | (go_at_call 55;refine(I.out _ (hX.out.trans (by(first | with_reducible exact Ext.refl _ | with_reducible exact Ext.drew (Ext.refl _) | with_reducible exact Ext.alloc (Ext.refl _) _ | with_reducible exact Ext.drew (Ext.alloc (Ext.refl _) _) | with_reducible exact Ext.alloc (Ext.drew (Ext.refl _)) _ | with_reducible exact Ext.alloc (Ext.alloc (Ext.refl _) _) _ | with_reducible exact Ext.drew (Ext.alloc (Ext.alloc (Ext.refl _) _) _))))).mono ?_;rintro e w9 ⟨BC,cC,rfl,y0,d1⟩;have y0:=Aa (y0.lower (hX.out.trans (by(first | with_reducible exact Ext.refl _ | with_reducible exact Ext.drew (Ext.refl _) | with_reducible exact Ext.alloc (Ext.refl _) _ | with_reducible exact Ext.drew (Ext.alloc (Ext.refl _) _) | with_reducible exact Ext.alloc (Ext.drew (Ext.refl _)) _ | with_reducible exact Ext.alloc (Ext.alloc (Ext.refl _) _) _ | with_reducible exact Ext.drew (Ext.alloc (Ext.alloc (Ext.refl _) _) _)))).size);replace hX:=Aa (hX.out.trans (Ext.trans (by(first | with_reducible exact Ext.refl _ | with_reducible exact Ext.drew (Ext.refl _) | with_reducible exact Ext.alloc (Ext.refl _) _ | with_reducible exact Ext.drew (Ext.alloc (Ext.refl _) _) | with_reducible exact Ext.alloc (Ext.drew (Ext.refl _)) _ | with_reducible exact Ext.alloc (Ext.alloc (Ext.refl _) _) _ | with_reducible exact Ext.drew (Ext.alloc (Ext.alloc (Ext.refl _) _) _))) d1));clear d1))
        all_goals (go_wp2_with fail)
        all_goals go_meet
        all_goals (case rel=>exact⟨_,_,_,rfl,Aa (Row.new _ _ _),Aa (y0.out.ext ((Ext.refl _).alloc _)),Aa (hX.out.trans ((Ext.refl _).alloc _)),hX.out.size⟩)
       case rest =>
        obtain⟨g,BC,cC,rfl,q7,y0,y5,y4⟩:=hcut;have J : [b0,b1,b2,b3,b4,b5]=framesD P:=by
         have h1:=j2.out;rw[<-h3]at h1;have h2:(segL P).drop 4=joinL (framesD P):=rfl;rw[h2,CW _ (by rw[<-i1];exact EV o2 hm.out (by omega) m2)]at h1;exact h1
        unfold framesD at J;injection J with f0 J;injection J with f1 J;injection J with f2 J;injection J with f3 J;injection J with f4 J;have e0:=(h0.trans H).trans y5.out;have lx3:=e0.cell l3;obtain⟨bb3,i3⟩:=q2.out (A3,k3,b3,z3) (by simp);obtain⟨bb4,o3⟩:=q2.out (A4',k4',b4,z4) (by simp);simp only at i3 o3;have g7:gl<w4.heap.size:=by
         have h1:=World.block_lt_of_cell? w2 _ l3;have h2:=(h0.trans H).size;simp only at h1;omega
        have d7:b3.length<=16777216:=t0.out b3 (by simp[pays]);have x1:=Ls A3 b3.length k3 b3 wc (enOf 0 (rowsD P)) (i3.ext e0).in8 hB.out.ens f3 (by omega);have a2:8<=b4.length/\b4.length<=131072:=by rw[f4];exact hB.out.bits
        obtain⟨n3,r4⟩:=Ab b3.length;obtain⟨n4,G⟩:=Ab b4.length;rw[<-r4]at lx3 x1;have lx4:=e0.cell l4;rw[<-G]at lx4 a2;replace r4:=Aa r4;replace G:=Aa G;replace x1:=Aa x1;replace e0:=Aa e0;replace f2:=Aa f2;replace f3:=Aa f3;replace f4:=Aa f4;replace o3:=Aa o3;replace i3:=Aa i3;clear f0 f1 J l0 l2 l3 l4 lx2;go_wp2_with fail;refine x1.out.mono ?_;rintro e w5 ⟨gd,rfl,i2,c0⟩;have r1:=q7.out.ext c0;have y8:=r1.cell 8 rfl;have z8:=r1.free 8;have lx45:=c0.cell lx4;have f7:gl≠g:=by omega
        have v7:g≠gl:=by omega
        replace i2:=Aa i2;replace r1:=Aa r1;replace c0:=Aa c0;clear lx3 lx4;go_wp2_with fail;obtain⟨W6,q0⟩:=Ab (w5.setCell ⟨g,8,none⟩ (.pointer (some ⟨gd,0,none⟩)));rw[<-q0];have r5:w2.heap.size<=g:=Nat.le_trans (h0.trans H).size y4;have x2:Ext w2 W6:=by rw[q0];exact(e0.out.trans c0.out).setCell (p:=⟨g,8,none⟩) r5 _
        have x5:Ext w3 W6:=by rw[q0];exact((H.trans y5.out).trans c0.out).setCell (p:=⟨g,8,none⟩) (Nat.le_trans H.size y4) _
        have r6:Row W6 g 120 #[.slice Ad m cd,.int .i64 0,.int .i64 0,.int .i64 lo,.int .i64 q3,.int .i64 x0.seq,.int .i64 xl.seq,.int .i64 (m:Int),.pointer (some ⟨gd,0,none⟩),.slice BC n2 cC,.pointer none]:=by rw[q0];exact r1.out.put 8 _
        have f6:=Aa (show DicO W6 wc.heap.size gd (enOf 0 (rowsD P))by rw[q0];exact i2.out.chg (Chg.of_set (S:=fun q=>q=g) w5 _ rfl) (fun q e=>by subst e;exact⟨_,_,r1.out,by decide,by decide⟩));have e5:=y0.out.ext c0.out;have e6:Buf W6 w4.heap.size 5 BC n2 cC (b2.map B8):=by rw[q0];exact e5.setCell (e5.unlike r1.out (by decide)) _
        have g0:=NO A4' b4.length k4' b4 W6 (o3.out.ext x2).in8 (by rw[<-G.out];exact a2.1) (by rw[<-G.out];exact a2.2);rw[<-G.out]at g0;replace g0:=Aa g0;replace q0:=Aa q0;refine g0.out.mono ?_;rintro e w7 ⟨gf,rfl,_,x4,d0⟩;have r7:=r6.ext d0;have y10:=r7.cell 10 rfl;have z10:=r7.free 10;replace x4:=Aa x4;replace r7:=Aa r7;replace d0:=Aa d0;clear r1 r6 g0 y8 z8 lx45;go_wp2_with fail;go_ret2;have h6:=Nat.le_trans T.size r5;have r8:=r7.out.put 10 (.pointer (some ⟨gf,0,none⟩));have i5:=e6.ext d0.out;have l5:=i5.setCell (p:=⟨g,10,none⟩) (i5.unlike r7.out (by decide)) (.pointer (some ⟨gf,0,none⟩));have i6:=(f6.out.ext d0.out).chg (Chg.of_set (S:=fun q=>q=g) w7 (a:=⟨g,10,none⟩) (.pointer (some ⟨gf,0,none⟩)) rfl) (fun q e=>by subst e;exact⟨_,_,r7.out,by decide,by decide⟩);have o5:=x4.out.set r7.out (i:=10) (.pointer (some ⟨gf,0,none⟩));have n5:=y1.ext ((x5.trans d0.out).setCell (p:=⟨g,10,none⟩) (Nat.le_trans H.size y4) (.pointer (some ⟨gf,0,none⟩)));refine⟨(T.trans (x2.trans d0.out)).setCell (p:=⟨g,10,none⟩) h6 _,?_⟩;rw[d3.out];have w6:=hm.out;have j4:n2=(postB (rowsD P)).length:=by rw[m3.out,f2.out]
        rw[j4,f2.out]at l5;rw[f4.out]at o5;subst w6;rw[j4]at r8;refine⟨g,rfl,ds,Ad,cd,lo,q3,x0.seq,xl.seq,BC,cC,gd,gf,r8,i1,by rw[<-i1];exact t3.out,n5.lower T.size,i6.lower ?b1,l5.lower ?b2,o5.lower ?b3⟩
        ·exact Nat.le_trans T.size e0.out.size
        ·exact Nat.le_trans T.size (h0.trans H).size
        ·exact Nat.le_trans T.size x2.size
      ·have j:openD b=none:=by rw[U.out,if_neg (fun e=>h3 e.2)]
       have b7:(segL P==b)=false:=beq_eq_false_iff_ne.2 h3;replace j:=Aa j;go_wp2_with fail;go_ret2;exact SegOB.no (i0.trans H) j.out
   ·have j:openD b=none:=by rw[Y,if_neg (fun e=>m6 e.2)]
    have t7:((np:Int)==6)=false:=by simp;omega
    subst x3;replace j:=Aa j;clear Y;go_wp2_with fail;go_ret2;exact SegOB.no T j.out
  ·have j:openD b=none:=by rw[Y,if_neg (fun e=>x3 e.1)]
   have x7:((sc:Int)==0)=false:=by simp;omega
   replace j:=Aa j;clear Y;go_wp2_with fail;go_ret2;exact SegOB.no T j.out
 ·have j:openD b=none:=by
   unfold openD;rw[if_neg (fun e=>i4 (j1.2 e))]
  replace j:=Aa j;clear t4
  go_in
  go_wp2_with fail;refine r0.out.mono ?_;rintro e w1 ⟨rfl,rfl⟩;go_wp2_with fail;go_ret2;exact SegOB.no (Ext.refl _) j.out
theorem KW (A:Option Addr) (n c:Nat) (b:List UInt8) (w:World) (h:In8 w A n c b) (a:n<=1000000000) (H:∀P,(splitF (b.drop 4)).2=0->decDs ((splitF (b.drop 4)).1.headD [])=some P->(blockD 0 P).length<=70000) :
 Calls prog 24 #[.slice A n c] w fun e w'=>SegO w b e w' :=
 (Ff A n c b w h a H).mono fun e w' j=>by
  obtain⟨Y,j⟩:=j;refine⟨Y,?_⟩;split at j
  ·obtain⟨g,h1,h2⟩:=j;exact⟨g,h1,h2.seg⟩
  ·exact j
end
section
open Go.RowKit
theorem O8 (g:Nat) (l:List En) (w:World) (h:DicR w g l):Calls prog 184 #[.pointer (some ⟨g,0,none⟩)] w fun e w'=>e = .returned (.bool false)/\w'=w:=by
 obtain⟨A,c,j,_⟩:=h;have k1:=j.cell 1 rfl;replace j:=Aa j
 go_in
 go_wp2_with fail;go_ret;exact⟨rfl,rfl⟩
theorem EQ (g:Nat) (l:List En) (w:World) (h:DicR w g l):Calls prog 149 #[.pointer (some ⟨g,0,none⟩)] w fun e w'=>e = .returned (.int .i64 (l.length:Int))/\w'=w:=by
 have j:=Aa (O8 g l w h);obtain⟨A,c,b,_⟩:=h;have k0:=b.cell 0 rfl;obtain⟨n,hn⟩:=Ab l.length;rw[<-hn]at k0 ⊢;replace hn:=Aa hn;replace b:=Aa b
 go_in
 go_wp2_with fail;refine j.out.mono ?_;rintro e w1 ⟨rfl,a⟩;obtain rfl:=a.symm;go_wp2_with fail;go_ret;exact⟨rfl,rfl⟩
def SeaP (n:Nat) (p:Nat->Bool) (w:World) (e:Ending) (w':World):Prop:=∃k:Nat,e = .returned (.int .i64 (k:Int))/\k<=n/\(∀i,i<k->p i=false)/\(∀i,k<=i->i<n->p i=true)/\Ext w w'
theorem Mr (n cf:Nat) (c1 c2:Value) (p:Nat->Bool) (w:World) (hn:n<=1000000000) (h0:cf=151)
 (Y:∀W i,Ext w W->i<n->Calls prog cf #[.int .i64 (i:Int),c1,c2] W fun e W'=>e = .returned (.bool (p i))/\Ext W W') (H:∀i j,i<=j->j<n->p i=true->p j=true) :
 Calls prog 150 #[.int .i64 (n:Int),.func (.func cf) #[] #[c1,c2]] w fun e w'=>SeaP n p w e w':=by
 subst h0;replace Y:=Aa Y;replace H:=Aa H
 go_in
 go_wp2_with fail
 go_loopw [5,6] (fun s5 s6 wr=>∃i j:Nat,s5 = .int .i64 (i:Int)/\s6 = .int .i64 (j:Int)/\i<=j/\j<=n/\Hid (∀k,k<i->p k=false)/\Hid (∀k,j<=k->k<n->p k=true)/\Hid (Ext w wr)) (fun s5 s6 _=>(intOf s6).toNat - (intOf s5).toNat)
 case atStart=>exact⟨0,n,rfl,rfl,by omega,by omega,Aa (fun k hk=>by omega),Aa (fun k h1 h2=>by omega),Aa (Ext.refl w)⟩
 case round =>
  obtain⟨i,j,rfl,rfl,v0,U,O,J,G⟩:=hrel;by_cases x0:i<j
  ·obtain⟨m,hm⟩:=Ab ((i+j) / 2);have him:i<=m:=by omega
   have y0:m<j:=by omega
   have I:=Aa (Y.out wr m G.out (by omega));obtain⟨v,Z⟩:=Ab (p m);rw[<-Z]at I;obtain⟨sm,T⟩:=Ab (i+j);have j0:(i:Int)+(j:Int)=(sm:Int):=by omega
   have m0:sm<=2000000000:=by omega
   have c0:IntKind.u64.wrap (sm:Int)=(sm:Int):=AH (by omega);have t0:(sm:Int) / 2=(m:Int):=by omega
   have b:v=false->∀k,k<m+1->p k=false:=fun p0 k hk=>by
    cases q0:p k with
    | false=>rfl
    | true =>
     have:=H.out k m (by omega) (by omega) q0;rw[<-Z,p0]at this;cases this
   have h:v=true->∀k,m<=k->k<n->p k=true:=fun k0 k h1 h2=>H.out m k h1 h2 (by rw[<-Z,k0]);replace hm:=Aa hm;replace Z:=Aa Z;replace T:=Aa T;replace b:=Aa b;replace h:=Aa h;cases v with
   | false =>
    replace b:=Aa (b.out rfl);go_wp2_with fail;refine I.out.mono ?_;rintro e w3 ⟨rfl,a⟩;replace a:=Aa (G.out.trans a);go_wp2_with fail;exact⟨⟨m+1,j,by congr 1,rfl,by omega,U,b,J,a⟩,by simp only[intOf];omega⟩
   | true =>
    replace h:=Aa (h.out rfl);go_wp2_with fail;refine I.out.mono ?_;rintro e w3 ⟨rfl,a⟩;replace a:=Aa (G.out.trans a);go_wp2_with fail;exact⟨⟨i,m,rfl,rfl,him,by omega,O,h,a⟩,by simp only[intOf];omega⟩
  ·obtain rfl:i=j:=by omega
   go_wp2_with fail;go_ret;exact⟨i,rfl,U,O.out,J.out,G.out⟩
structure FloP (l:List En) (t:List UInt8) (k:Nat):Prop where
  le:k<=l.length
  iff:∀i x,l[i]? = some x->(i<k↔x.t<t)
def FloR (l:List En) (t:List UInt8) (w:World) (e:Ending) (w':World):Prop:=∃k:Nat,e = .returned (.int .i64 (k:Int))/\FloP l t k/\Ext w w'
theorem LE (i g b1 b2:Nat) (l:List En) (t:List UInt8) (x:En) (w:World) (h:DicR w g l) (h1:Row w b1 116 #[.pointer (some ⟨g,0,none⟩)]) (h2:Row w b2 9 #[.string ⟨t.toArray⟩]) (j:l[i]? = some x) (J:l.length<=1000000000) :
 Calls prog 151 #[.int .i64 (i:Int),.pointer (some ⟨b1,0,none⟩),.pointer (some ⟨b2,0,none⟩)] w fun e w'=>e = .returned (.bool (!decide (x.t<t)))/\Ext w w':=by
 obtain⟨A,c,H,b⟩:=h;obtain⟨ga,o,rfl,x0,_⟩:=AX b j;have a:=(List.getElem?_eq_some_iff.1 j).1;have k0:=H.cell 0 rfl;have k1:=h1.cell 0 rfl;have k2:=h2.cell 0 rfl;obtain⟨n,hn⟩:=Ab l.length;rw[<-hn]at k0 a J;have hb:=Bm x.t t;obtain⟨v,Y⟩:=Ab (decide (x.t<t));rw[<-Y]at hb ⊢;obtain⟨s,hs⟩:=Ab x.t;rw[<-hs]at hb x0;replace hn:=Aa hn;replace Y:=Aa Y;replace hs:=Aa hs;replace H:=Aa H;replace h1:=Aa h1;replace h2:=Aa h2;replace j:=Aa j;replace b:=Aa b
 go_in
 go_wp2_with fail;refine AE (fun K U=>?_);go_wp2_with fail;refine⟨by kernel_rfl,?_⟩;go_wp2_with fail;go_ret;exact⟨rfl,(Ext.refl w).drew⟩
theorem Iw (g : Nat) (l : List En) (t : List UInt8) (w : World) (h : DicR w g l) (U : OkEs l) :
    Calls prog 100 #[.pointer (some ⟨g, 0, none⟩), .string ⟨t.toArray⟩] w fun e w' => FloR l t w e w' := by
  obtain ⟨W2, b⟩ := Ab ((w.alloc (.cells #[.pointer (some ⟨g, 0, none⟩)] 116)).alloc (.cells #[.string ⟨t.toArray⟩] 9))
  obtain ⟨b1, a⟩ := Ab w.heap.size
  have r1 : Row W2 b1 116 #[.pointer (some ⟨g, 0, none⟩)] := by rw [b, a]; exact (Row.new w _ _).alloc _
  have r2 : Row W2 (b1 + 1) 9 #[.string ⟨t.toArray⟩] := by
    have := Row.new (w.alloc (.cells #[.pointer (some ⟨g, 0, none⟩)] 116)) 9 #[.string ⟨t.toArray⟩]
    rw [World.size_alloc, ← a] at this
    rw [b]; exact this
  have J : Ext w W2 := by rw [b]; exact ((Ext.refl w).alloc _).alloc _
  have Y := h.ext J
  have hlen := Aa (EQ g l W2 Y)
  obtain ⟨n, hn⟩ := Ab l.length
  have t0 : n ≤ 262144 := by rw [hn]; exact U.few
  have H : ∀ i j, i ≤ j → j < n → (!decide ((l[i]?.getD ⟨[], 0, 0, 0⟩).t < t)) = true → (!decide ((l[j]?.getD ⟨[], 0, 0, 0⟩).t < t)) = true := by
    intro i j I hj
    rw [hn] at hj
    rw [List.getElem?_eq_getElem hj, List.getElem?_eq_getElem (Nat.lt_of_le_of_lt I hj)]
    simp only [Option.getD_some, Bool.not_eq_true', decide_eq_false_iff_not]
    intro hi q0
    rcases Nat.lt_or_eq_of_le I with g0 | rfl
    · exact hi (List.lt_trans (List.pairwise_iff_getElem.1 U.up i j _ hj g0) q0)
    · exact hi q0
  have k0 := Aa (Mr n 151 (.pointer (some ⟨b1, 0, none⟩)) (.pointer (some ⟨b1 + 1, 0, none⟩)) (fun i => !decide ((l[i]?.getD ⟨[], 0, 0, 0⟩).t < t)) W2 (by omega) rfl
    (fun W i O hi => by
      obtain ⟨x, Z⟩ : ∃ x, l[i]? = some x := ⟨_, List.getElem?_eq_getElem (by rw [← hn]; exact hi)⟩
      have := LE i g b1 (b1 + 1) l t x W (Y.ext O) (r1.ext O) (r2.ext O) Z (by omega)
      rw [Z]
      exact this) H)
  rw [← hn] at hlen
  have k1 := r1.cell 0 rfl
  replace hn := Aa hn
  replace a := Aa a
  replace b := Aa b
  replace J := Aa J
  replace Y := Aa Y
  replace r1 := Aa r1
  replace r2 := Aa r2
  replace h := Aa h
  replace U := Aa U
  clear H
  go_in
  go_wp2_with fail
  rw [← b.out, ← a.out]
  refine hlen.out.mono ?_
  rintro e w1 ⟨rfl, hw⟩
  obtain rfl := hw.symm
  go_wp2_with fail
  refine k0.out.mono ?_
  rintro e w3 ⟨k, rfl, hk, p0, G, O⟩
  have T : FloP l t k := by
    refine ⟨by rw [← hn.out]; exact hk, fun i x Z => ?_⟩
    have hi := (List.getElem?_eq_some_iff.1 Z).1
    constructor
    · intro h0
      have := p0 i h0
      dsimp only at this
      rw [Z] at this
      simpa using this
    · intro m0
      apply Decidable.byContradiction
      intro h0
      have := G i (by omega) (by rw [hn.out]; exact hi)
      dsimp only at this
      rw [Z] at this
      simp only [Option.getD_some, Bool.not_eq_true', decide_eq_false_iff_not] at this
      exact this m0
  replace T := Aa T
  replace O := Aa (J.out.trans O)
  clear p0 G
  go_wp2_with fail
  go_ret
  exact ⟨k, rfl, T.out, O.out⟩
def noEn:Value:= .agg #[.string ⟨#[]⟩,.int .i64 0,.int .i64 0,.int .i64 0]
theorem Av {fn:Func} {p u:Tmp} (h:fn.results=#[.cell p ty,.tmp u]) (tmps:Array Value) (w:World) (g:Nat) (cs:Array Value)
 (b:tmps.getD p undef = .pointer (some ⟨g,0,none⟩)) (j:(loadVar ty ⟨g,0,none⟩).run P w = .ok (.agg cs) w) :
 (results fn tmps).run P w = .ok (.tuple #[.agg cs,tmps.getD u undef]) w:=by
 rw[results_cell_tmp h,b];simp[asAddr,j,Result.andThen]
theorem UA (h:Row w g 100 cs) (hs:cs.size=4):(loadVar 100 ⟨g,0,none⟩).run prog w = .ok (.agg cs) w :=
 run_loadVar_row w g 100 100 cs (0,0) _ h underlying100 rfl (by rw[hs];kernel_rfl)
def AtR (l:List En) (k:Nat) (w:World) (e:Ending) (w':World):Prop:=e = .returned (.tuple #[match l[k]? with | some x=> .agg x.cells.toArray | none=>noEn,.bool (l[k]?).isSome])/\Ext w w'
theorem QE (g k:Nat) (l:List En) (w:World) (h:DicR w g l) (hl:l.length<=1000000000) :
 Calls prog 99 #[.pointer (some ⟨g,0,none⟩),.int .i64 (k:Int)] w fun e w'=>AtR l k w e w':=by
 obtain⟨W4,a⟩:=Ab (w.alloc (.cells #[.string ⟨#[]⟩,.int .i64 0,.int .i64 0,.int .i64 0] 100));obtain⟨g4,H⟩:=Ab w.heap.size;have r4:Row W4 g4 100 #[.string ⟨#[]⟩,.int .i64 0,.int .i64 0,.int .i64 0]:=by rw[a,H];exact Row.new w _ _
 have b:Ext w W4:=by rw[a];exact(Ext.refl w).alloc _
 have j:w.heap.size<=g4:=by omega
 have hlen:=Aa (EQ g l W4 (h.ext b));have G:=h.ext b;obtain⟨A,c,T,O⟩:=G;have k0:=T.cell 0 rfl;have q0:=r4.cell 0 rfl;have q1:=r4.cell 1 rfl;have q2:=r4.cell 2 rfl;have q3:=r4.cell 3 rfl;have qf:=r4.free;obtain⟨n,hn⟩:=Ab l.length;rw[<-hn]at hlen k0 hl;replace hn:=Aa hn;replace h:=Aa h;replace T:=Aa T;replace r4:=Aa r4;replace b:=Aa b;replace a:=Aa a;replace H:=Aa H;by_cases hk:k<n
 ·obtain⟨x,Y⟩:∃x,l[k]? = some x:=⟨_,List.getElem?_eq_getElem (by rw[<-hn.out];exact hk)⟩
  obtain⟨ga,o,I,x0,x1,x2,x3⟩:=AX O Y;subst I;obtain⟨t,off,len,nn⟩:=x;simp only at x0 x1 x2 x3;replace Y:=Aa Y;replace O:=Aa O
  go_in
  go_wp2_with fail;rw[<-a.out,<-H.out];refine hlen.out.mono ?_;rintro e w1 ⟨rfl,Z⟩;obtain rfl:=Z.symm;go_wp2_with fail;have U:=(((r4.out.put 0 (.string ⟨t.toArray⟩)).put 1 (.int .i64 (off:Int))).put 2 (.int .i64 (len:Int))).put 3 (.int .i64 (nn:Int));have J:=(((b.out.setCell (p:=⟨g4,0,none⟩) j (.string ⟨t.toArray⟩)).setCell (p:=⟨g4,1,none⟩) j (.int .i64 (off:Int))).setCell (p:=⟨g4,2,none⟩) j (.int .i64 (len:Int))).setCell (p:=⟨g4,3,none⟩) j (.int .i64 (nn:Int));refine bodyPost_ret (Av rfl _ _ g4 #[.string ⟨t.toArray⟩,.int .i64 (off:Int),.int .i64 (len:Int),.int .i64 (nn:Int)] rfl (UA U rfl)) rfl ⟨?_,J⟩;rw[Y.out];rfl
 ·have Y:l[k]? = none:=List.getElem?_eq_none (by rw[<-hn.out];omega);replace Y:=Aa Y;replace O:=Aa O
  go_in
  go_wp2_with fail;rw[<-a.out,<-H.out];refine hlen.out.mono ?_;rintro e w1 ⟨rfl,Z⟩;obtain rfl:=Z.symm;go_wp2_with fail;have U:=(((r4.out.put 0 (.string ⟨#[]⟩)).put 1 (.int .i64 0)).put 2 (.int .i64 0)).put 3 (.int .i64 0);have J:=(((b.out.setCell (p:=⟨g4,0,none⟩) j (.string ⟨#[]⟩)).setCell (p:=⟨g4,1,none⟩) j (.int .i64 0)).setCell (p:=⟨g4,2,none⟩) j (.int .i64 0)).setCell (p:=⟨g4,3,none⟩) j (.int .i64 0);refine bodyPost_ret (Av rfl _ _ g4 #[.string ⟨#[]⟩,.int .i64 0,.int .i64 0,.int .i64 0] rfl (UA U rfl)) rfl ⟨?_,J⟩;rw[Y.out];rfl
def GetR (l:List En) (t:List UInt8) (w:World) (e:Ending) (w':World):Prop:=Ext w w'/\((∃x∈l,x.t=t/\e = .returned (.tuple #[.agg #[.string ⟨x.t.toArray⟩,.int .i64 (x.off:Int),.int .i64 (x.len:Int),.int .i64 (x.n:Int)],.bool true]))\/((∀x∈l,x.t≠t)/\e = .returned (.tuple #[noEn,.bool false])))
theorem O7 (g:Nat) (l:List En) (t:List UInt8) (w:World) (h:DicR w g l) (G:OkEs l) :
 Calls prog 59 #[.pointer (some ⟨g,0,none⟩),.string ⟨t.toArray⟩] w fun e w'=>GetR l t w e w':=by
 obtain⟨W4,Z⟩:=Ab (w.alloc (.cells #[.string ⟨#[]⟩,.int .i64 0,.int .i64 0,.int .i64 0] 100));obtain⟨g4,p0⟩:=Ab w.heap.size;have r4:Row W4 g4 100 #[.string ⟨#[]⟩,.int .i64 0,.int .i64 0,.int .i64 0]:=by rw[Z,p0];exact Row.new w _ _
 have h0:Ext w W4:=by rw[Z];exact(Ext.refl w).alloc _
 have j:w.heap.size<=g4:=by omega
 have j0:=Aa (Iw g l t W4 (h.ext h0) G);have m0:=Aa (fun k W (hE:Ext w W)=>QE g k l W (h.ext hE) (by have:=G.few;omega));replace G:=Aa G;replace h:=Aa h;replace r4:=Aa r4;replace h0:=Aa h0;replace Z:=Aa Z;replace p0:=Aa p0
 go_in
 go_wp2_with fail;rw[<-Z.out,<-p0.out];refine j0.out.mono ?_;rintro e w1 ⟨k,rfl,a,O⟩;have r41:=Aa (r4.out.ext O);replace O:=Aa (h0.out.trans O);go_wp2_with fail;refine(m0.out k w1 O.out).mono ?_;rintro e w2 ⟨he,b⟩;have r42:=r41.out.ext b;replace b:=O.out.trans b;have qg:=r42.get;have qf:=r42.free;have d0:w.heap.size<=w2.heap.size:=b.size;have y0:g4<w2.heap.size:=r42.lt;cases U:l[k]? with
 | none =>
  rw[U]at he;have he:e = .returned (.tuple #[noEn,.bool false]):=he;unfold noEn at he;subst he;have H:∀x∈l,x.t≠t:=fun x hm e=>by
   obtain⟨i,hi,rfl⟩:=List.getElem_of_mem hm;have:=(a.iff i _ (List.getElem?_eq_getElem hi)).1 (by
    have:=a.le;have h2:=List.getElem?_eq_none_iff.1 U;omega)
   rw[e]at this;exact List.lt_irrefl _ this
  replace H:=Aa H;replace a:=Aa a;replace U:=Aa U;replace r42:=Aa r42;replace b:=Aa b;go_wp2_with fail;have I:=((((r42.out.put 0 (.string ⟨#[]⟩)).put 1 (.int .i64 0)).put 2 (.int .i64 0)).put 3 (.int .i64 0)).alloc (.cells #[.string ⟨#[]⟩,.int .i64 0,.int .i64 0,.int .i64 0] 100);have T:=((((b.out.setCell (p:=⟨g4,0,none⟩) j (.string ⟨#[]⟩)).setCell (p:=⟨g4,1,none⟩) j (.int .i64 0)).setCell (p:=⟨g4,2,none⟩) j (.int .i64 0)).setCell (p:=⟨g4,3,none⟩) j (.int .i64 0)).alloc (.cells #[.string ⟨#[]⟩,.int .i64 0,.int .i64 0,.int .i64 0] 100);exact bodyPost_ret (Av rfl _ _ g4 #[.string ⟨#[]⟩,.int .i64 0,.int .i64 0,.int .i64 0] rfl (UA I rfl)) rfl ⟨T,.inr ⟨H.out,rfl⟩⟩
 | some x =>
  rw[U]at he;have he:e = .returned (.tuple #[.agg #[.string ⟨x.t.toArray⟩,.int .i64 (x.off:Int),.int .i64 (x.len:Int),.int .i64 (x.n:Int)],.bool true]):=he;subst he;have J:=List.mem_of_getElem? U;have H:x.t≠t->∀y∈l,y.t≠t:=fun v0 y hm e=>by
   obtain⟨i,hi,rfl⟩:=List.getElem_of_mem hm;have k0:=(List.getElem?_eq_some_iff.1 U)
   have h1:=(a.iff k x U)
   have h2:=a.iff i _ (List.getElem?_eq_getElem hi);rw[e]at h2;have h3:¬ i<k:=fun h=>List.lt_irrefl _ (h2.1 h);rcases Nat.lt_or_eq_of_le (Nat.le_of_not_lt h3)with h4 | h4
   ·have h5:=List.pairwise_iff_getElem.1 G.out.up k i k0.1 hi h4;rw[k0.2,e]at h5;have:=h1.2 h5;omega
   ·subst h4;exact v0 (by rw[<-k0.2];exact e)
  obtain⟨s,off,len,nn⟩:=x;simp only at H;by_cases Y:s=t
  ·have q1:(s==t)=true:=by rw[Y];exact beq_self_eq_true t
   have q2:(s != t)=false:=by rw[Y];simp
   replace H:=Aa H;replace a:=Aa a;replace U:=Aa U;replace J:=Aa J;replace Y:=Aa Y;replace r42:=Aa r42;replace b:=Aa b;go_wp2_with fail;have I:=((((r42.out.put 0 (.string ⟨s.toArray⟩)).put 1 (.int .i64 (off:Int))).put 2 (.int .i64 (len:Int))).put 3 (.int .i64 (nn:Int))).alloc (.cells #[.string ⟨s.toArray⟩,.int .i64 (off:Int),.int .i64 (len:Int),.int .i64 (nn:Int)] 100);have T:=((((b.out.setCell (p:=⟨g4,0,none⟩) j (.string ⟨s.toArray⟩)).setCell (p:=⟨g4,1,none⟩) j (.int .i64 (off:Int))).setCell (p:=⟨g4,2,none⟩) j (.int .i64 (len:Int))).setCell (p:=⟨g4,3,none⟩) j (.int .i64 (nn:Int))).alloc (.cells #[.string ⟨s.toArray⟩,.int .i64 (off:Int),.int .i64 (len:Int),.int .i64 (nn:Int)] 100);exact bodyPost_ret (Av rfl _ _ g4 #[.string ⟨s.toArray⟩,.int .i64 (off:Int),.int .i64 (len:Int),.int .i64 (nn:Int)] rfl (UA I rfl)) rfl ⟨T,.inl ⟨_,J.out,Y.out,rfl⟩⟩
  ·have q1:(s==t)=false:=beq_eq_false_iff_ne.2 Y;have q2:(s != t)=true:=bne_iff_ne.2 Y;replace H:=Aa (H Y);replace a:=Aa a;replace U:=Aa U;replace J:=Aa J;replace Y:=Aa Y;replace r42:=Aa r42;replace b:=Aa b;go_wp2_with fail;have I:=((((r42.out.put 0 (.string ⟨#[]⟩)).put 1 (.int .i64 0)).put 2 (.int .i64 0)).put 3 (.int .i64 0)).alloc (.cells #[.string ⟨s.toArray⟩,.int .i64 (off:Int),.int .i64 (len:Int),.int .i64 (nn:Int)] 100);have T:=((((b.out.setCell (p:=⟨g4,0,none⟩) j (.string ⟨#[]⟩)).setCell (p:=⟨g4,1,none⟩) j (.int .i64 0)).setCell (p:=⟨g4,2,none⟩) j (.int .i64 0)).setCell (p:=⟨g4,3,none⟩) j (.int .i64 0)).alloc (.cells #[.string ⟨s.toArray⟩,.int .i64 (off:Int),.int .i64 (len:Int),.int .i64 (nn:Int)] 100);exact bodyPost_ret (Av rfl _ _ g4 #[.string ⟨#[]⟩,.int .i64 0,.int .i64 0,.int .i64 0] rfl (UA I rfl)) rfl ⟨T,.inr ⟨H.out,rfl⟩⟩
end
section
open Go.RowKit Go.Maps
theorem SegR.ext {P:List Dc} (h:SegR w g P) (j:Ext w w1):SegR w1 g P:=by
 obtain⟨ds,A,c,lo,hi,fi,la,B,cB,gd,gf,h1,h2,b,a,H,Y,J⟩:=h;exact⟨ds,A,c,lo,hi,fi,la,B,cB,gd,gf,h1.ext j,h2,b,a.ext j,H.ext j,Y.ext j,J.ext j⟩
theorem M5 (g n c:Nat) (A:Option Addr) (w:World) (h:w.cell? ⟨g,0,none⟩=some (.slice A n c)) (hn:0<n) (j:n<=1000000000):Calls prog 58 #[.pointer (some ⟨g,0,none⟩)] w fun e w'=>e = .returned (.bool false)/\w'=w:=by
 have b:((n:Int)==0)=false:=by simp;omega
 go_in
 go_wp2_with fail;go_ret;exact⟨by simp,rfl⟩
theorem Fh (g:Nat) (P:List Dc) (w:World) (h:SegR w g P) (a:0<P.length) (j:P.length<=1000000000):Calls prog 34 #[.pointer (some ⟨g,0,none⟩)] w fun e w'=>e = .returned (.int .i64 (P.length:Int))/\w'=w:=by
 obtain⟨ds,A,c,lo,hi,fi,la,B,cB,gd,gf,h1,h2,_⟩:=h;have b:P.length=ds.length:=by rw[<-h2];exact List.length_map ..
 rw[b]at a j ⊢;have k0:=h1.cell 0 rfl;have hn:=Aa (M5 g ds.length c A w k0 a j);replace h1:=Aa h1;replace b:=Aa b;replace h2:=Aa h2
 go_in
 go_wp2_with fail;refine hn.out.mono ?_;rintro e w1 ⟨rfl,rfl⟩;go_wp2_with fail;go_ret;exact⟨rfl,rfl⟩
end
section
open Go.RowKit Go.Maps
structure SegP (P:List Dc):Prop where
  sm:SmP P
  ne:0<P.length
theorem SegP.few {P:List Dc} (h:SegP P):P.length<=1000000000:=by have:=h.sm.seg.n;omega
theorem SegR.none {P:List Dc} (h:SegR w g P) (j:SegP P):Calls prog 58 #[.pointer (some ⟨g,0,none⟩)] w fun e w'=>e = .returned (.bool false)/\w'=w:=by
 have b:=j.few;have hn:=j.ne;obtain⟨ds,A,c,lo,hi,fi,la,B,cB,gd,gf,h1,h2,_⟩:=h;have a:P.length=ds.length:=by rw[<-h2];exact List.length_map ..
 exact M5 g ds.length c A w (h1.cell 0 rfl) (by omega) (by omega)
theorem I8 (g:Nat) (P:List Dc) (w:World) (h:SegR w g P) (hP:SegP P):Calls prog 70 #[.pointer (some ⟨g,0,none⟩)] w fun e w'=>e = .returned (.agg (prtA (partD P)))/\Ext w w':=by
 have hn:=Aa (fun W (hE:Ext w W)=>(h.ext hE).none hP);obtain⟨ds,A,c,lo,hi,fi,la,B,cB,gd,gf,h1,h2,O,I,h5,h6,h7⟩:=h;obtain⟨W,U⟩:=Ab (w.alloc (Obj.cells #[.int .i64 0,.int .i64 0,.int .i64 0,.int .i64 0,.int .i64 0,.int .i64 0,.int .i64 0] 79));have J:Ext w W:=by rw[U];exact(Ext.refl w).alloc _
 have b:Row W w.heap.size 79 #[.int .i64 0,.int .i64 0,.int .i64 0,.int .i64 0,.int .i64 0,.int .i64 0,.int .i64 0]:=by rw[U];exact Row.new w _ _
 have j:=h1.ext J;have k1:=j.cell 1 rfl;have k2:=j.cell 2 rfl;have k3:=j.cell 3 rfl;have k4:=j.cell 4 rfl;have k5:=j.cell 5 rfl;have k6:=j.cell 6 rfl;have k7:=j.cell 7 rfl;have f0:=b.free 0;have f1:=b.free 1;have f2:=b.free 2;have f3:=b.free 3;have f4:=b.free 4;have f5:=b.free 5;have f6:=b.free 6;have c0:=b.cell 0 rfl;have c1:=b.cell 1 rfl;have c2:=b.cell 2 rfl;have c3:=b.cell 3 rfl;have c4:=b.cell 4 rfl;have c5:=b.cell 5 rfl;have c6:=b.cell 6 rfl;replace h1:=Aa h1;replace j:=Aa j;replace b:=Aa b;replace O:=Aa O;replace U:=Aa U;clear I h5 h6 h7;obtain⟨bg,H⟩:=Ab w.heap.size;rw[<-H]at b f0 f1 f2 f3 f4 f5 f6 c0 c1 c2 c3 c4 c5 c6;have a:w.heap.size<=bg:=Nat.le_of_eq H.symm;replace H:=Aa H;obtain⟨nn,Y⟩:=Ab ((ds.length:Int):Int);rw[<-Y]at k7;replace Y:=Aa Y
 go_in
 go_wp2_with fail;rw[<-U.out,<-H.out];refine(hn.out _ J).mono ?_;rintro e w1 ⟨rfl,G⟩;subst G;go_wp2_with fail;have Z:=((((((b.out.put 0 (.int .i64 0)).put 1 (.int .i64 0)).put 2 (.int .i64 lo)).put 3 (.int .i64 hi)).put 4 (.int .i64 fi)).put 5 (.int .i64 la)).put 6 (.int .i64 nn);have T:=((((((J.setCell (p:=⟨bg,0,none⟩) a (.int .i64 0)).setCell (p:=⟨bg,1,none⟩) a (.int .i64 0)).setCell (p:=⟨bg,2,none⟩) a (.int .i64 lo)).setCell (p:=⟨bg,3,none⟩) a (.int .i64 hi)).setCell (p:=⟨bg,4,none⟩) a (.int .i64 fi)).setCell (p:=⟨bg,5,none⟩) a (.int .i64 la)).setCell (p:=⟨bg,6,none⟩) a (.int .i64 nn);refine bodyPost_ret (Fa rfl _ _ bg #[.int .i64 0,.int .i64 0,.int .i64 lo,.int .i64 hi,.int .i64 fi,.int .i64 la,.int .i64 nn] rfl (run_loadVar_row _ bg 79 79 _ (0,0) _ Z underlying79 rfl (by kernel_rfl))) rfl ⟨?_,T⟩;rw[O.out,<-Y.out];rfl
end
section
open Go.RowKit
theorem CF (w:World) (t:TypeId):(w.alloc (.cells #[] t)).ownsRow w.heap.size t 2 (.slice (some ⟨w.heap.size,0,none⟩) 0 0) 0 [] :=
 ⟨rfl,.inr ⟨w.heap.size,0,#[],rfl,Nat.le_refl _,heap_alloc_new w _,Nat.le_refl _,by unfold maxLen;omega,rfl,rfl⟩⟩
section
variable {t e sz:Nat}
theorem I1 (ht:prog.underlying t=some (.slice e)) (hs:∀W:World,(sizeOf e).run prog W = .ok sz W) (h:k<=c) (H:∀a,A=some a->a.spot=none) (Y:z=(k:Int)) (W:World) :
 (Instr.sliceAt t (.slice A n c) none (some (.int .i64 z)) none).run prog W = .ok (.slice A k c) W:=by
 subst Y;have j:prog.elem t=e:=by unfold Program.elem;rw[ht]
 rw[run_sliceAt_slice W _ _ _ _ _ (by rw[ht,j]),run_slice_h W _ A n c (by rw[ht,j]) .i64 k (by omega) (by omega),j,hs];simp only[Result.andThen_ok];congr 1;unfold sliced;have:(if c=0 then A else A.map fun x=>x.add (0*sz))=A:=by
  cases A with
  | none=>simp
  | some a =>
   obtain⟨b,o,sp⟩:=a;obtain rfl:sp=none:=H _ rfl;simp[Addr.add_lit]
 rw[this];simp
theorem I0 (ht:prog.underlying t=some (.slice e)) (hs:∀W:World,(sizeOf e).run prog W = .ok sz W) (hk:k<=n) (G:n<=c) (O:∀a,A=some a->a.spot=none) (Z:z=(k:Int)) :
 ∃A',(∀W:World,(Instr.sliceAt t (.slice A n c) (some (.int .i64 z)) none none).run prog W = .ok (.slice A' (n - k) (c - k)) W)/\(∀(w:World) (xs:List Value),xs.length=n*sz->Cells w A xs->Cells w A' (xs.drop (k*sz)))/\∀a,A'=some a->a.spot=none:=by
 subst Z;have J:prog.elem t=e:=by unfold Program.elem;rw[ht]
 have j:∀W:World,(Instr.sliceAt t (.slice A n c) (some (.int .i64 k)) none none).run prog W = .ok (sliced A k n c sz) W:=by
  intro W;rw[run_sliceAt_slice W _ _ _ _ _ (by rw[ht,J]),run_slice_l W _ A n c (by rw[ht,J]) .i64 k (by omega) (by omega),J,hs];simp only[Result.andThen_ok];congr 1
 refine⟨_,j,fun w xs T Y=>?_,fun a h=>?_⟩
 ·rcases Y with hb | ⟨g,o,rfl,hb⟩
  ·left;rw[hb];simp
  ·by_cases H:c=k
   ·left;obtain rfl:n=k:=by omega
    rw[<-T];exact List.drop_length
   ·refine .inr ⟨g,o+k*sz,by rw[if_neg H];simp[Addr.add_lit],fun i v U=>?_⟩;rw[Nat.add_assoc];refine hb (k*sz+i) v ?_;rw[List.getElem?_drop]at U;exact U
 ·cases A with
  | none=>split at h <;> cases h
  | some a0 =>
   obtain⟨b,o,sp⟩:=a0;obtain rfl:sp=none:=O _ rfl;split at h
   ·cases h;rfl
   ·rw[Option.map_some,Addr.add_lit]at h;cases h;rfl
end
end
section
open Go.RowKit Go.Maps
theorem QT (c:Nat) (w:World):(binOp .eql 67 (.slice none 0 c) (.slice none 0 0)).run prog w = .ok (.bool true) w:=by kernel_rfl
theorem QU (a:Addr) (n c:Nat) (w:World):(binOp .eql 67 (.slice (some a) n c) (.slice none 0 0)).run prog w = .ok (.bool false) w:=by kernel_rfl
theorem LD (A:Option Addr) (n c:Nat) (l:List Fd) (w:World) (hn:n=l.length) (T:Cells w A (fcells l)) (q0:n<=1073741824) :
 Calls prog 115 #[.slice A n c] w fun e w'=>∃A1 c1,e = .returned (.slice A1 n c1)/\w'.ownsRow w.heap.size 91 2 (.slice A1 n c1) n (fcells l)/\Ext w w':=by
 cases A with
 | none =>
  have G:l = []:=by
   rcases T with h | ⟨_,_,h,_⟩
   ·have:=congrArg List.length h;rw[Dl,List.length_nil]at this;exact List.length_eq_zero_iff.1 (by omega)
   ·cases h
  subst G;obtain rfl:n=0:=hn;have hq:=QT c w
  go_in
  go_wp2_with fail;go_ret;exact⟨none,0,rfl,⟨rfl,.inl ⟨rfl,rfl⟩⟩,Ext.refl _⟩
 | some a =>
  have hq:=QU a n c w;have ho:=CF w 91;have j:Ext w (w.alloc (.cells #[] 91)):=(Ext.refl w).alloc _;have hb:=T.ext j;have b:(fcells l).length=n*2:=by rw[Dl,hn]
  have Y:∀u∈fcells l,u.oneCell'=true:=fun u Z=>by
   unfold fcells at Z;obtain⟨f,_,J⟩:=List.mem_flatMap.1 Z;unfold Fd.cells at J;simp only[List.mem_cons,List.not_mem_nil,or_false]at J;rcases J with rfl | rfl <;> rfl
  have O:w.heap.size<=(w.alloc (.cells #[] 91)).heap.size:=j.size;replace b:=Aa b;replace hn:=Aa hn
  go_in
  go_wp2_with (at_builtin;refine AV (m:=n) Lu ho hb (.tmp 5) (.tmp 6) rfl rfl rfl rfl rfl b.out Y (by omega) O (fun A1 c1 w3 H U I=>?_));go_ret;refine⟨A1,c1,rfl,?_,j.grown U (fun k hk=>by cases hk;exact Nat.le_refl _)⟩;rw[Nat.zero_add]at H;exact H
theorem QZ (x:DocC) (w:World) (h:x.e.Ok w x.A) (Y:x.e.fs.length<=20):Calls prog 71 #[.agg #[.int .i64 x.seq,.int .i64 x.e.at_,.slice x.A x.e.fs.length x.c]] w fun e w'=>∃A c,e = .returned (.agg #[.int .i64 x.seq,.int .i64 x.e.at_,.slice A x.e.fs.length c])/\x.e.Own w' w.heap.size A c/\Ext w w':=by
 obtain⟨sq,⟨at_,fs⟩,A,c⟩:=x;simp only at h Y ⊢;have j:=h.long;simp only at j;obtain⟨n,hn⟩:=Ab fs.length;rw[<-hn]at Y ⊢;have b:Ext w ((w.alloc (.cells #[.int .i64 sq,.int .i64 at_,.slice A n c] 71)).alloc (.cells #[.int .i64 0,.int .i64 0,.slice none 0 0] 71)):=((Ext.refl w).alloc _).alloc _;have r1:Row ((w.alloc (.cells #[.int .i64 sq,.int .i64 at_,.slice A n c] 71)).alloc (.cells #[.int .i64 0,.int .i64 0,.slice none 0 0] 71)) w.heap.size 71 #[.int .i64 sq,.int .i64 at_,.slice A n c]:=(Row.new w _ _).alloc _;have r2:Row ((w.alloc (.cells #[.int .i64 sq,.int .i64 at_,.slice A n c] 71)).alloc (.cells #[.int .i64 0,.int .i64 0,.slice none 0 0] 71)) (w.heap.size+1) 71 #[.int .i64 0,.int .i64 0,.slice none 0 0]:=by
  have h:=Row.new (w.alloc (.cells #[.int .i64 sq,.int .i64 at_,.slice A n c] 71)) 71 #[.int .i64 0,.int .i64 0,.slice none 0 0];simpa using h
 have G:=Aa (LD A n c fs ((w.alloc (.cells #[.int .i64 sq,.int .i64 at_,.slice A n c] 71)).alloc (.cells #[.int .i64 0,.int .i64 0,.slice none 0 0] 71)) hn (h.cells.ext b) (by omega));have k2:=r1.cell 2 rfl;have I:=b.size;replace hn:=Aa hn;replace b:=Aa b;replace r1:=Aa r1;replace r2:=Aa r2;replace j:=Aa j;clear h
 go_in
 go_wp2_with fail;refine G.out.mono ?_;rintro e w2 ⟨A1,c1,rfl,H,a⟩;have q1:=r1.out.ext a;have q2:=r2.out.ext a;have z2:=q1.free 2;obtain⟨g,U⟩:=Ab w.heap.size;rw[<-U]at q1 q2 z2 ⊢;have p1:=q1.put 2 (.slice A1 n c1);have p2:=q2.away (p:=⟨g,2,none⟩) (by simp) (.slice A1 n c1);have y0:=p1.cell 0 rfl;have y1:=p1.cell 1 rfl;have y2:=p1.cell 2 rfl;have v0:=p2.cell 0 rfl;have v1:=p2.cell 1 rfl;have v2:=p2.cell 2 rfl;have u0:=p2.free 0;have u1:=p2.free 1;have u2:=p2.free 2;have s2:=q1.cell 2 rfl;replace q1:=Aa q1;replace H:=Aa H;replace a:=Aa a;replace U:=Aa U;replace p2:=Aa p2;replace p1:=Aa p1;replace q2:=Aa q2;clear k2;go_wp2_with fail;have pf:=((p2.out.put 0 (.int .i64 sq)).put 1 (.int .i64 at_)).put 2 (.slice A1 n c1);have p0:=U.out;have O:=(((b.out.trans a.out).setCell (p:=⟨g,2,none⟩) (by simp only;omega) (.slice A1 n c1)).setCell (p:=⟨g+1,0,none⟩) (by simp only;omega) (.int .i64 sq)).setCell (p:=⟨g+1,1,none⟩) (by simp only;omega) (.int .i64 at_);have T:=O.setCell (p:=⟨g+1,2,none⟩) (by simp only;omega) (.slice A1 n c1);have J:=AD H.out I;have hC:Chg (fun k=>k=g\/k=g+1) w2 ((((w2.setCell ⟨g,2,none⟩ (.slice A1 n c1)).setCell ⟨g+1,0,none⟩ (.int .i64 sq)).setCell ⟨g+1,1,none⟩ (.int .i64 at_)).setCell ⟨g+1,2,none⟩ (.slice A1 n c1)) :=
  (((Chg.of_set w2 _ (.inl rfl)).trans (Chg.of_set _ _ (.inr rfl)) fun _ _ h=>h).trans (Chg.of_set _ _ (.inr rfl)) fun _ _ h=>h).trans (Chg.of_set _ _ (.inr rfl)) fun _ _ h=>h
 have Z:=hC.owns J fun k hk=>by
  obtain⟨cs,hr,_⟩:=Ae J hk;rintro(rfl | rfl)
  ·exact Row.unlike hr q1.out (by decide) rfl
  ·exact Row.unlike hr q2.out (by decide) rfl
 refine bodyPost_ret (results_cell_row rfl _ _ (g+1) 71 #[.int .i64 sq,.int .i64 at_,.slice A1 n c1] (0,0) _ rfl pf underlying71 rfl (by kernel_rfl)) rfl ⟨A1,c1,rfl,⟨?_,j.out,?_⟩,T⟩
 ·simp only;rw[<-hn.out];exact Z
 ·simp only;rw[<-hn.out];exact Y
end
section
open Go.RowKit Go.Maps
theorem DocsOwn.push {base c c8:Nat} {B A8:Option Addr} {l:List DocC} {x:DocC} (h:DocsOwn w base B c l) (U:x.e.Own w base x.A x.c) (hi:I64ok' x.e.at_/\I64ok' x.seq)
 (T:w8.ownsRow base 71 3 (.slice A8 (l.length+1) c8) (l.length+1) (dcells l++x.cells)) (O:w.grownBy w8 (Value.slice B l.length c).ownBlock):DocsOwn w8 base A8 c8 (l ++ [x]):=by
 have hlen:(l ++ [x]).length=l.length+1:=by simp
 have a:Chg (fun k'=>(Value.slice B l.length c).ownBlock=some k') w w8:=Chg.of_grown O fun k' _ J=>J;have Y:∀k cs,Row w k 91 cs->¬ (Value.slice B l.length c).ownBlock=some k:=fun k cs H=>Am h.own H (by decide);refine⟨by rw[hlen,FX];exact T,fun y j=>?_,fun y j=>?_⟩
 ·rcases List.mem_append.1 j with j | j
  ·exact⟨a.owns (h.each y j).1 fun g' b=>by obtain⟨cs,H,_⟩:=Ae (h.each y j).1 b;exact Y _ _ H,(h.each y j).2⟩
  ·rw[List.mem_singleton.1 j];exact⟨a.owns U.1 fun g' b=>by obtain⟨cs,H,_⟩:=Ae U.1 b;exact Y _ _ H,U.2⟩
 ·rcases List.mem_append.1 j with j | j
  ·exact h.ints y j
  ·rw[List.mem_singleton.1 j];exact hi
def DocsA (P:List Dc) (w:World) (e:Ending) (w':World):Prop:=Ext w w'/\∃(l:List DocC) (A:Option Addr) (c:Nat),dcs l=P/\e = .returned (.slice A l.length c)/\DocsOwn w' w.heap.size A c l
theorem SegP.fields {P:List Dc} (h:SegP P) {d:Dc} (hd:d∈P):d.2.fs.length<=20:=by
 have h1:=h.sm.ok;unfold okDs at h1;rw[Bool.and_eq_true,Bool.and_eq_true,List.all_eq_true]at h1;have:=(AM (of_decide_eq_true (h1.2.2 d hd))).1;omega
theorem SS (g:Nat) (P:List Dc) (w:World) (h:SegR w g P) (hP:SegP P):Calls prog 28 #[.pointer (some ⟨g,0,none⟩)] w fun e w'=>DocsA P w e w':=by
 have hlen:=Fh g P w h hP.ne hP.few;have hf:=hP.few;obtain⟨ds,A,c,lo,hi,fi,la,B,cB,gd,gf,h1,h2,h3,h4,_⟩:=h;have g0:P.length=ds.length:=by rw[<-h2];exact List.length_map ..
 obtain⟨n,hn⟩:=Ab ds.length;rw[g0,<-hn]at hlen hf;rw[<-hn]at h1;have G:∀x∈ds,x.e.fs.length<=20:=fun x hx=>hP.fields (d:=x.dc) (by rw[<-h2];exact List.mem_map.2 ⟨x,hx,rfl⟩);replace G:=Aa G;replace hlen:=Aa hlen;replace h1:=Aa h1;replace h4:=Aa h4;replace h2:=Aa h2;replace hn:=Aa hn;clear h3 g0
 go_in
 go_wp2_with fail;refine hlen.out.mono ?_;rintro e w1 ⟨rfl,rfl⟩;go_wp2_with fail
 go_loopw [3,7] (fun s3 s7 wr=>∃(i d:Nat) (B:Option Addr) (out:List DocC),s3 = .slice B i d/\s7 = .int .i64 (i:Int)/\i<=n/\Hid (out.length=i)/\Hid (dcs out=(dcs ds).take i)/\Hid (DocsOwn wr w1.heap.size B d out)/\Hid (Ext w1 wr)) (fun _ s7 _=>n - (intOf s7).toNat)
 case atStart=>exact⟨0,0,none,[],rfl,rfl,by omega,Aa rfl,Aa rfl,Aa (DocsOwn.nil _ _),Aa (Ext.refl _)⟩
 case round =>
  obtain⟨i,d,B,out,rfl,rfl,hi,Y,x0,y0,Z⟩:=hrel;by_cases o0:i<n
  ·obtain⟨x,hx⟩:∃x,ds[i]? = some x:=⟨_,List.getElem?_eq_getElem (by rw[<-hn.out];exact o0)⟩
   have p0:=List.mem_of_getElem? hx;have r1:=h1.out.ext Z.out;have k0:=r1.cell 0 rfl;obtain⟨gA,oA,rfl,l0,l1,l2⟩:=AR (h4.out.cells.ext Z.out) hx;obtain⟨j0,U,O⟩:=h4.out.each x p0;have ho:=QZ x wr (j0.ext Z.out) (G.out x p0);have j:dcs (out ++ [x])=(dcs ds).take (i+1):=by
    rw[BJ,x0.out];have:(dcs ds)[i]? = some x.dc:=by unfold dcs;rw[List.getElem?_map,hx];rfl
    rw[List.take_add_one,this];rfl
   rw[BJ]at j;obtain⟨sq,⟨at_,fs⟩,xA,xc⟩:=x;simp only at l0 l1 l2 ho U O;obtain⟨m,hm⟩:=Ab fs.length;rw[<-hm]at l2 ho;replace ho:=Aa ho;replace hm:=Aa hm;replace j0:=Aa j0;replace j:=Aa j;replace hx:=Aa hx;replace r1:=Aa r1;replace U:=Aa U;replace O:=Aa O;clear p0;go_wp2_with (fail);refine ho.out.mono ?_;rintro e w4 ⟨A4,c4,rfl,b,H⟩;have a:=y0.out.ext H;have c0:w1.heap.size<=w4.heap.size:=(Z.out.trans H).size;have T:w4.ownsRow w1.heap.size 71 3 (.slice B i d) i (dcells out):=by have:=a.own;rw[Y.out]at this;exact this
   have n0:i+1<=4294967296:=by omega
   have m0:=Z.out.size;replace a:=Aa a;replace b:=Aa b;replace H:=Aa H;clear k0 l0 l1 l2;go_wp2_with (at_builtin;refine AS (us:= [.int .i64 sq,.int .i64 at_,.slice A4 m c4]) (m:=1) MQ T rfl (.tmp 10) (.tmp 20) rfl rfl rfl rfl rfl (Az rfl) n0 c0 (fun A8 c8 w8 I J r0=>?_);replace I:=Aa I;replace J:=Aa J;clear r0);have t0:Ev.Own ⟨at_,fs⟩ w4 w1.heap.size A4 c4:=by
    have h:=b.out;exact⟨AD h.1 m0,h.2⟩
   have h0:=DocsOwn.push (x:=⟨sq,⟨at_,fs⟩,A4,c4⟩) a.out t0 ⟨U.out,O.out⟩ (by rw[Y.out];unfold DocC.cells;simp only;rw[<-hm.out];exact I.out) (by rw[Y.out];exact J.out);have i0:Ext w1 w8:=(Z.out.trans H.out).grown J.out fun k hk=>by obtain⟨_,_,hb⟩:=Ae T hk;exact hb
   refine⟨⟨i+1,c8,A8,_,rfl,by go_num,by omega,Aa (by rw[List.length_append,Y.out];rfl),Aa (by rw[BJ];exact j.out),Aa h0,Aa i0⟩,by simp only[intOf];omega⟩
  ·obtain rfl:i=n:=by omega
   go_wp2_with fail;go_ret;refine⟨Z.out,out,B,d,?_,by rw[Y.out];rfl,y0.out⟩;rw[x0.out,hn.out,<-h2.out];exact List.take_of_length_le (by unfold dcs;rw[List.length_map];exact Nat.le_refl _)
end
section
open Go.RowKit Go.Maps
theorem MT:∀(rs:List (List UInt8×List Po)) (pre:List (List UInt8×List Po)) (e:En),e∈enOf (postB pre).length rs->∃r∈rs,e.t=r.1/\e.len=(encPs r.2).length/\e.off+e.len<=(postB (pre++rs)).length/\((postB (pre++rs)).drop e.off).take e.len=encPs r.2
 | [],pre,e,h=>by cases h
 | r::t,pre,e,h=>by
  unfold enOf at h;have j:postB (pre++r::t)=postB pre++(encPs r.2++postB t):=by rw[Cx];rfl
  rcases List.mem_cons.1 h with rfl | h
  ·refine⟨r,List.mem_cons_self ..,rfl,rfl,by rw[j];simp only[List.length_append];omega,?_⟩;simp only[j];rw[List.drop_left,List.take_left]
  ·have b:(postB (pre ++ [r])).length=(postB pre).length+(encPs r.2).length:=by rw[Cx,List.length_append];congr 1;unfold postB;simp
   rw[<-b]at h;obtain⟨r',a,h1,h2,H,Y⟩:=MT t (pre ++ [r]) e h;rw[List.append_assoc,List.singleton_append]at H Y;exact⟨r',List.mem_cons_of_mem _ a,h1,h2,H,Y⟩
def PostsR (P:List Dc) (t:List UInt8) (w:World) (e:Ending) (w':World):Prop:=Ext w w'/\((∃r∈rowsD P,r.1=t/\∃(ps:List PoC) (A:Option Addr) (c:Nat),psP ps=r.2/\e = .returned (.slice A r.2.length c)/\PosOk w' A ps)\/((∀r∈rowsD P,r.1≠t)/\e = .returned (.slice none 0 0)))
theorem Hy (g:Nat) (P:List Dc) (t:List UInt8) (w:World) (h:SegR w g P) (hP:SegP P):Calls prog 25 #[.pointer (some ⟨g,0,none⟩),.string ⟨t.toArray⟩] w fun e w'=>PostsR P t w e w':=by
 have hn:=Aa (h.none hP);have hB:=hP.sm.seg;obtain⟨ds,A,c,lo,hi,fi,la,B,cB,gd,gf,h1,h2,h3,h4,h5,h6,h7⟩:=h;have k8:=h1.cell 8 rfl;have hg:=Aa (O7 gd _ t w h5 hB.ens);obtain⟨nB,a⟩:=Ab ((postB (rowsD P)).length);rw[<-a]at h1 h6;have e0:=hB.posts;rw[<-a]at e0;replace h1:=Aa h1;replace h6:=Aa h6;replace a:=Aa a;replace hB:=Aa hB;clear h2 h3 h4 h5 h7
 go_in
 go_wp2_with fail;refine hn.out.mono ?_;rintro e w1 ⟨rfl,rfl⟩;go_wp2_with fail;refine hg.out.mono ?_;rintro e w2 ⟨J,y0⟩;rcases y0 with ⟨x,hx,j0,rfl⟩ | ⟨v0,rfl⟩
 ·obtain⟨r,hr,h0,x0,T,Z⟩:=MT (rowsD P) [] x hx;rw[List.nil_append]at T Z;rw[<-a.out]at T;obtain⟨xo,p0⟩:=Ab x.off;obtain⟨xn,q0⟩:=Ab x.len;rw[<-p0,<-q0]at T Z ⊢;have U:=hB.out.each r hr;obtain⟨A5,c5,x1,O⟩:=(h6.out.ext J).subk .i64 .i64 (fr:=xo) (k:=xn) T (z0:=(xo:Int)) (z:=(xo:Int)+(xn:Int)) rfl rfl;rw[Z]at O;have b:=fun W (hE:Ext w2 W)=>Jp A5 xn c5 (encPs r.2) W r.2 (O.ext hE) U.1 rfl U.2.2.2.1;have a1:wrap64 ((xo:Int)+(xn:Int))=(xo:Int)+(xn:Int):=by unfold wrap64;omega
  replace p0:=Aa p0;replace q0:=Aa q0;replace b:=Aa b;replace U:=Aa U;replace O:=Aa O;replace hr:=Aa hr;have Y:=h1.out.ext J;have k9:=Y.cell 9 rfl;have o0:=Y.lt;replace Y:=Aa Y;clear Z hx;replace j0:=Aa j0;replace h0:=Aa h0;replace x0:=Aa x0;go_wp2_with fail;obtain⟨W5,j⟩:=Ab (w2.alloc (Obj.cells #[.string ⟨x.t.toArray⟩,.int .i64 (xo:Int),.int .i64 (xn:Int),.int .i64 (x.n:Int)] 100));rw[<-j];have G:Ext w2 W5:=by rw[j];exact(Ext.refl w2).alloc _
  have r5:Row W5 w2.heap.size 100 #[.string ⟨x.t.toArray⟩,.int .i64 (xo:Int),.int .i64 (xn:Int),.int .i64 (x.n:Int)]:=by rw[j];exact Row.new w2 _ _
  obtain⟨g5,I⟩:=Ab w2.heap.size;rw[<-I]at r5 ⊢;have y1:=r5.cell 1 rfl;have y2:=r5.cell 2 rfl;have k95:=G.cell k9;replace r5:=Aa r5;replace j:=Aa j;replace I:=Aa I;refine AE (fun K hK=>?_);go_wp2_with fail;refine(b.out W5.drew G.drew).mono ?_;rintro e w6 ⟨ps,A6,c6,i0,rfl,f0,_,_,d0⟩;go_wp2_with fail;refine⟨by kernel_rfl,?_⟩;go_wp2_with fail;go_ret;exact⟨J.trans (G.drew.trans d0),.inl ⟨r,hr.out,h0.out.symm.trans j0.out,ps,A6,c6,i0,rfl,f0⟩⟩
 ·have H:∀r∈rowsD P,r.1≠t:=fun r hr e=>by
   have key:∀(rs:List (List UInt8×List Po)) (o:Nat),r∈rs->∃x∈enOf o rs,x.t=r.1:=by
    intro rs
    induction rs with
    | nil=>intro o h;cases h
    | cons q qs ih =>
     intro o h;unfold enOf;rcases List.mem_cons.1 h with rfl | h
     ·exact⟨_,List.mem_cons_self ..,rfl⟩
     ·obtain⟨x,hx,k0⟩:=ih _ h;exact⟨x,List.mem_cons_of_mem _ hx,k0⟩
   obtain⟨x,hx,k0⟩:=key _ 0 hr;exact v0 x hx (k0.trans e)
  unfold noEn;replace H:=Aa H;clear v0;go_wp2_with fail;go_ret;exact⟨J.alloc _,.inr ⟨H.out,rfl⟩⟩
end
section
open Go.RowKit
theorem FI {P:List Dc} (h:SegP P) (j:∀p∈framesD P,p.length<=16777216) (a:∀d∈P,I64ok' d.2.at_):openD (segL P)=some P:=by
 have h1:(segL P).take 4 = [76,83,69,71]:=rfl;have h2:(segL P).drop 4=joinL (framesD P):=rfl;have b:=J1 h.sm.ok a (by have:=h.sm.sz;omega);unfold openD;rw[if_pos h1,h2,CW _ j,if_pos ⟨rfl,rfl⟩];show (match decDs (encDs P)with | some Q=>if 0<Q.length/\segL Q=segL P then some Q else none | none=>none)=some P;rw[b];show (if 0<P.length/\segL P=segL P then some P else none)=some P;rw[if_pos ⟨h.ne,rfl⟩]
theorem SB {b:List UInt8} {P:List Dc} (h:openD b=some P):0<P.length/\segL P=b/\okDs P=true:=by
 unfold openD at h;split at h
 ·split at h
  ·split at h
   ·rename_i Q a;split at h
    ·rename_i j;injection h with h;subst h;exact⟨j.1,j.2,(Iq a).1⟩
    ·cases h
   ·cases h
  ·cases h
 ·cases h
theorem NJ {b:List UInt8} (hb:b.length<=60000) (P:List Dc) (h:decDs ((splitF (b.drop 4)).1.headD [])=some P):(blockD 0 P).length<=70000:=by
 have h1:=Iq h;have h2:((splitF (b.drop 4)).1.headD []).length<=b.length:=by
  cases hs:(splitF (b.drop 4)).1 with
  | nil=>simp
  | cons p t =>
   have:=(Fl (l:=b.drop 4) (p:=p) (by rw[hs];exact List.mem_cons_self ..)).2;rw[List.length_drop]at this;simp only[List.headD_cons];omega
 rw[<-h1.2]at h2;unfold encDs at h2;simp only[List.length_append]at h2;omega
end
section
open Go.RowKit Go.Maps
theorem J8 (P:List Dc) (J:SegP P) (Y:openD (segL P)=some P) (H:(segL P).length<=60000) (A:Option Addr) (c:Nat) (w:World) (h:Own8 w 0 A (segL P).length c (segL P)) :
 Calls prog 24 #[.slice A (segL P).length c] w fun e w'=>∃g,e = .returned (.tuple #[.pointer (some ⟨g,0,none⟩),.int .i64 0])/\SegR w' g P/\Ext w w':=by
 refine(KW A _ c (segL P) w h.2.in8 (by omega) (fun Q _ a=>NJ H Q a)).mono ?_;rintro e w' ⟨b,j⟩;rw[Y]at j;obtain⟨g,rfl,hs⟩:=j;exact⟨g,rfl,hs,b⟩
end
section
open Go.RowKit Go.Maps
theorem SF {b:List UInt8} {P:List Dc} (h:openD b=some P) (hb:b.length<=60000):SegP P:=by
 obtain⟨h1,_,j⟩:=SB h;refine⟨⟨j,NJ hb P ?_⟩,h1⟩;unfold openD at h;split at h
 ·split at h
  ·split at h
   ·rename_i Q a;split at h
    ·injection h with h;rw[<-h];exact a
    ·cases h
   ·cases h
  ·cases h
 ·cases h
theorem DocsOk.take {ds:List DocC} (h:DocsOk w A ds) (k:Nat) (Y:ds ≠ []->A'=A):DocsOk w A' (ds.take k):=by
 refine⟨?_,fun x U=>h.each x (List.mem_of_mem_take U)⟩;by_cases j:ds = []
 ·left;rw[j];simp[dcells]
 ·rw[Y j];rcases h.cells with a | ⟨g,o,J,a⟩
  ·left;have H:ds.length=0:=by
    have:=congrArg List.length a;rw[Er,List.length_nil]at this;omega
   exact absurd (List.length_eq_zero_iff.1 H) j
  ·refine .inr ⟨g,o,J,fun i v b=>a i v ?_⟩;unfold dcells at b ⊢;rw[Bh (f:=DocC.cells) (k:=3) (fun _=>rfl),List.getElem?_take]at b;split at b
   ·exact b
   ·cases b
end
section
open Go.RowKit Go.Maps
theorem Uh (A B:Option Addr) (n c c2:Nat) (xs:List Int) (w:World) (hn:n=xs.length) (J:Cells w A (xs.map IV)) (U:Cells w B (xs.map IV)) (O:n<=9223372036854775807) :
 Calls prog 16 #[.slice A n c,.slice B n c2] w fun e w'=>e = .returned (.bool true)/\Ext w w':=by
 replace hn:=Aa hn
 go_in
 go_wp2_with fail
 go_loopw [5] (fun s5 wr=>∃i:Nat,s5 = .int .i64 i/\i<=n/\Ext w wr) (fun s5 _=>n - (intOf s5).toNat)
 case atStart=>exact⟨0,rfl,by omega,Ext.refl _⟩
 case round =>
  obtain⟨i,rfl,hi,b⟩:=hrel;by_cases a:i<n
  ·have Y:i<xs.length:=by rw[<-hn.out];exact a
   obtain⟨g,o,rfl,H⟩:=J.at_ (by rw[List.length_map];omega);obtain⟨g2,o2,rfl,j⟩:=U.at_ (by rw[List.length_map];omega);obtain⟨x,h⟩:=Ab (xs[i]);have k1:wr.cell? ⟨g,o+i,none⟩=some (.int .i64 x):=b.cell (H i _ (by rw[List.getElem?_map,List.getElem?_eq_getElem Y,h];rfl));have k2:wr.cell? ⟨g2,o2+i,none⟩=some (.int .i64 x):=b.cell (j i _ (by rw[List.getElem?_map,List.getElem?_eq_getElem Y,h];rfl));clear H j;replace h:=Aa h;go_wp2_with fail;refine AE (fun K T=>?_);go_wp2_with fail;refine⟨by kernel_rfl,?_⟩;go_wp2_with fail;go_roundw
   case rel=>exact⟨i+1,by go_num,by omega,b.drew⟩
   case measure=>simp[intOf];omega
  ·go_wp2_with fail;go_ret;exact⟨rfl,b⟩
def opensD (bs:List (List UInt8)):Option (List (List Dc)):=if bs.all (fun b=>(openD b).isSome)=true then some (bs.filterMap openD) else none
def fstD:List Dc->Int
 | []=>0
 | d::_=>d.1
def chainD:Int->List (List Dc)->Bool
 | _,[]=>true
 | la,P::t=>decide (la<fstD P)&&chainD (lastD 0 P) t
def mergeD (bs:List (List UInt8)):Option (List (List Dc)):=match opensD bs with
 | some Ps=>if 0<Ps.length/\chainD 0 Ps=true then some Ps else none
 | none=>none
theorem Tf {b:List UInt8} (h:bs[i]? = some b) (a:openD b=none):opensD bs=none:=by
 unfold opensD;rw[if_neg];intro j;have:=List.all_eq_true.1 j b (List.mem_of_getElem? h);rw[a]at this;cases this
theorem T3 {b:List UInt8} {P:List Dc} (h:bs[i]? = some b) (j:openD b=some P):(bs.take (i+1)).filterMap openD=(bs.take i).filterMap openD ++ [P]:=by
 rw[List.take_add_one,h,List.filterMap_append];congr 1;show List.filterMap openD [b]=_;rw[List.filterMap_cons,j];rfl
theorem Td {Ps:List (List Dc)} {P:List Dc} (h:Ps[i]? = some P) (la:Int):chainD la (Ps.drop i)=(decide (la<fstD P)&&chainD (lastD 0 P) (Ps.drop (i+1))):=by
 obtain⟨hi,rfl⟩:=List.getElem?_eq_some_iff.1 h;rw[List.drop_eq_getElem_cons hi];rfl
theorem Tr {P:List Dc} (h:0<P.length):∃lo hi n,partD P = [lo,hi,fstD P,lastD 0 P,n]:=by
 cases P with
 | nil=>cases h
 | cons d t=>exact⟨_,_,_,rfl⟩
end
section
open Go.RowKit Go.Maps
structure BsC where
  b:List UInt8
  A:Option Addr
  c:Nat
def BsC.val (x:BsC):Value:= .slice x.A x.b.length x.c
def In8e (w:World) (A:Option Addr) (n c:Nat) (b:List UInt8):Prop:=In8 w A n c b\/(b = []/\n=0/\c=0)
theorem In8e.ext {b:List UInt8} (h:In8e w A n c b) (j:Ext w w'):In8e w' A n c b:=h.imp (·.ext j) id
structure BssR (w:World) (A:Option Addr) (l:List BsC):Prop where
  cells:Cells w A (l.map BsC.val)
  each:∀x∈l,In8e w x.A x.b.length x.c x.b/\x.b.length<=60000
theorem BssR.ext {l:List BsC} (h:BssR w A l) (j:Ext w w'):BssR w' A l:=⟨h.cells.ext j,fun x b=>⟨(h.each x b).1.ext j,(h.each x b).2⟩⟩
theorem SegRB.ext {base:Nat} {P:List Dc} (h:SegRB base w g P) (j:Ext w w1):SegRB base w1 g P:=by
 obtain⟨ds,A,c,lo,hi,fi,la,B,cB,gd,gf,h1,h2,b,a,H,Y,J⟩:=h;exact⟨ds,A,c,lo,hi,fi,la,B,cB,gd,gf,h1.ext j,h2,b,a.ext j,H.ext j,Y.ext j,J.ext j⟩
theorem SegRB.low {base:Nat} {P:List Dc} (h:SegRB base w g P):SegRB 0 w g P:=by
 obtain⟨ds,A,c,lo,hi,fi,la,B,cB,gd,gf,h1,h2,j,b,a,H,Y⟩:=h;exact⟨ds,A,c,lo,hi,fi,la,B,cB,gd,gf,h1,h2,j,b.lower (Nat.zero_le _),a.lower (Nat.zero_le _),H.lower (Nat.zero_le _),Y.lower (Nat.zero_le _)⟩
theorem SegRB.unl {base:Nat} {P:List Dc} (h:SegRB base w g P) (H:Chg S w w1) (J:∀k,S k->∃cs,Row w k 56 cs):SegRB base w1 g P:=by
 obtain⟨ds,A,c,lo,hi,fi,la,B,cB,gd,gf,h1,h2,O,T,Z,U,b,cf,cc,f1,f2,f3,f4⟩:=h;have j:∀ {k t cs},Row w k t cs->t≠56->¬ S k:=fun hk ht e=>by
  obtain⟨_,Y⟩:=J _ e;exact Row.unlike hk Y ht rfl
 refine⟨ds,A,c,lo,hi,fi,la,B,cB,gd,gf,H.row h1 (j h1 (by decide)),h2,O,T.chg H (fun k t cs hk ht _=>j hk (by rcases ht with rfl | rfl <;> decide)),Z.chg H (fun k e=>?_),U.chg H (fun a G e=>?_),b,cf,cc,H.row f1 (j f1 (by decide)),f2,H.row f3 (j f3 (by decide)),f4⟩
 ·obtain⟨cs,Y⟩:=J k e;exact⟨_,cs,Y,by decide,by decide⟩
 ·obtain⟨cs,Y⟩:=J _ e;exact U.unlike Y (by decide) a G rfl
abbrev Sg:=Nat×List Dc
def Sg.val (x:Sg):Value:= .pointer (some ⟨x.1,0,none⟩)
def SgsR (w:World) (A:Option Addr) (l:List Sg):Prop:=Cells w A (l.map Sg.val)/\∀x∈l,SegR w x.1 x.2/\SegP x.2
theorem SgsR.ext {l:List Sg} (h:SgsR w A l) (j:Ext w w'):SgsR w' A l:=⟨h.1.ext j,fun x b=>⟨(h.2 x b).1.ext j,(h.2 x b).2⟩⟩
theorem TD (W:World):(Instr.sliceAt 24 (.slice A 0 0) none (some (.int .i64 0)) none).run prog W = .ok (.slice A 0 0) W:=by
 have ht:=underlying24;have h:prog.elem 24=5:=by unfold Program.elem;rw[ht]
 have hs:∀W:World,(sizeOf 5).run prog W = .ok 1 W:=fun W=>by kernel_rfl
 rw[run_sliceAt_slice W _ _ _ _ _ (by rw[ht,h]),run_slice_h W _ A 0 0 (by rw[ht,h]) .i64 0 (by omega) (by omega),h,hs];rfl
theorem TC (A:Option Addr) (w:World):Calls prog 24 #[.slice A 0 0] w fun e w'=>SegOB w [] e w':=by
 have j:=fun(W:World)=>AQ (P:=prog) #[3,3] 3 (x:=0) (y:=4) (m:=0) rfl W;have a:=fun W=>TD (A:=A) W;have b:=fun(W:World)=>CT (A:=A) (l:= []) (w:=W) (.inl rfl) 0 0 rfl;have h:=Tryz.strings_HasPrefix ⟨#[]⟩ ⟨#[76,83,69,71]⟩ w;replace h:=Aa h
 go_in
 go_wp2_with fail;refine h.out.mono ?_;rintro e w1 ⟨rfl,rfl⟩;go_wp2_with fail;go_ret2;exact SegOB.no (Ext.refl _) rfl
theorem TE (A:Option Addr) (n c:Nat) (b:List UInt8) (w:World) (h:In8e w A n c b) (j:b.length<=60000):Calls prog 24 #[.slice A n c] w fun e w'=>SegOB w b e w':=by
 rcases h with h | ⟨rfl,rfl,rfl⟩
 ·exact Ff A n c b w h (by have:=h.len;omega) fun Q _ a=>NJ j Q a
 ·exact TC A w
def EachA (w:World) (r:Option (List (List Dc))) (e:Ending) (w':World):Prop:=Ext w w'/\match r with
 | some Ps=>∃(l:List Sg) (A:Option Addr) (n c:Nat),l.map (·.2)=Ps/\n=l.length/\e = .returned (.tuple #[.slice A n c,.bool (decide (0<n))])/\SgsR w' A l
 | none=>e = .returned (.tuple #[.slice none 0 0,.bool false])
theorem EachA.no {r:Option (List (List Dc))} (j:Ext w w') (h:r=none):EachA w r (.returned (.tuple #[.slice none 0 0,.bool false])) w':=by subst h;exact⟨j,rfl⟩
theorem Tw:Elem prog 62 56 1 8:=⟨underlying62,⟨_,_,rfl,rfl,rfl,rfl,rfl⟩,by omega,by omega⟩
theorem Tk (bs:List BsC) (A:Option Addr) (n c:Nat) (w:World) (hn:n=bs.length) (h:BssR w A bs) (k1:n<=1000000) :
 Calls prog 69 #[.slice A n c,.func (.func 24) #[] #[]] w (EachA w (opensD (bs.map BsC.b))):=by
 obtain⟨Z,hZ⟩:=Ab (opensD (bs.map BsC.b));rw[<-hZ];replace hZ:=Aa hZ;have f0:=Aa TE;replace hn:=Aa hn;replace h:=Aa h
 go_in
 go_wp2_with fail
 go_loopw [6,13] (fun s6 s13 wr=>∃(i d:Nat) (B:Option Addr) (l:List Sg),s6 = .slice B i d/\s13 = .int .i64 (i:Int)/\i<=n/\Hid (l.length=i)/\Hid (((bs.map BsC.b).take i).all (fun b=>(openD b).isSome)=true/\l.map (·.2)=((bs.map BsC.b).take i).filterMap openD)/\Hid (wr.ownsRow w.heap.size 56 1 (.slice B i d) i (l.map Sg.val))/\Hid (∀x∈l,SegRB 0 wr x.1 x.2/\SegP x.2)/\Hid (Ext w wr)) (fun _ s13 _=>n - (intOf s13).toNat)
 case atStart=>exact⟨0,0,none,[],rfl,rfl,by omega,Aa rfl,Aa ⟨rfl,rfl⟩,Aa ⟨rfl,.inl ⟨rfl,rfl⟩⟩,Aa nofun,Aa (Ext.refl _)⟩
 case round =>
  obtain⟨i,d,B,l,rfl,rfl,hi,hl,J,ho,hs,hE⟩:=hrel;by_cases d0:i<n
  ·obtain⟨x,a⟩:∃x,bs[i]? = some x:=⟨_,List.getElem?_eq_getElem (by rw[<-hn.out];exact d0)⟩
   obtain⟨v0,T⟩:=h.out.each x (List.mem_of_getElem? a);obtain⟨g,o,rfl,hc⟩:=(h.out.cells.ext hE.out).at_ (by rw[List.length_map,<-hn.out];omega);have k0:=hc i x.val (by rw[List.getElem?_map,a];rfl);have Y:(bs.map BsC.b)[i]? = some x.b:=by rw[List.getElem?_map,a];rfl
   have H:=f0.out x.A x.b.length x.c x.b wr (v0.ext hE.out) T;unfold BsC.val at k0;obtain⟨xb,xA,xc⟩:=x;simp only at k0 H Y T;obtain⟨xn,G⟩:=Ab xb.length;rw[<-G]at k0 H T;replace H:=Aa H;replace Y:=Aa Y;replace G:=Aa G;clear hc a v0;cases U:openD xb with
   | none =>
    have hz:=Aa (Tf Y.out U);replace U:=Aa U;go_wp2_with fail;refine(H.out).mono ?_;rintro e w4 ⟨j,I⟩;rw[U.out]at I;simp only at I;subst I;go_wp2_with fail;go_ret2;exact EachA.no (hE.out.trans j) (by rw[hZ.out,hz.out])
   | some P =>
    have hP:=Aa (SF U (by rw[<-G.out];exact T));have q0:=T3 Y.out U;have h0:((bs.map BsC.b).take (i+1)).all (fun b=>(openD b).isSome)=true:=by rw[List.take_add_one,Y.out,List.all_append,J.out.1];show (openD xb).isSome&&true=true;rw[U];rfl
    replace U:=Aa U;replace q0:=Aa q0;replace h0:=Aa h0;go_wp2_with fail;refine(H.out).mono ?_;rintro e w4 ⟨j,I⟩;rw[U.out]at I;obtain⟨g4,rfl,g0⟩:=I;have p0:=Aa (j.owns ho.out);have l0:w.heap.size<=w4.heap.size:=(hE.out.trans j).size;replace g0:=Aa g0;replace j:=Aa j;go_wp2_with (at_builtin;refine AS (us:= [.pointer (some ⟨g4,0,none⟩)]) (m:=1) Tw p0.out rfl (.tmp 25) (.tmp 27) rfl rfl rfl rfl rfl (Az rfl) (by omega) l0 (fun A8 c8 w8 j0 O e0=>?_);replace j0:=Aa j0;replace O:=Aa O;clear e0);have x0:Ext w w8:=(hE.out.trans j.out).grown O.out fun k hk=>by obtain⟨_,_,hb⟩:=Ae p0.out hk;exact hb
    have i0:∀x∈l ++ [(g4,P)],SegRB 0 w8 x.1 x.2/\SegP x.2:=fun x a=>by
     have hk:∀k,(Value.slice B i d).ownBlock=some k->∃cs,Row w4 k 56 cs:=fun k hk=>by obtain⟨cs,I,_⟩:=Ae p0.out hk;exact⟨cs,I⟩
     have hC:Chg (fun k=>(Value.slice B i d).ownBlock=some k) w4 w8:=Chg.of_grown O.out fun _ _ h=>h;rcases List.mem_append.1 a with a | a
     ·exact⟨((hs.out x a).1.ext j.out).unl hC hk,(hs.out x a).2⟩
     ·rw[List.mem_singleton.1 a];exact⟨g0.out.low.unl hC hk,hP.out⟩
    go_roundw
    case rel=>exact⟨i+1,c8,A8,l ++ [(g4,P)],rfl,by go_num,by omega,Aa (by rw[List.length_append,hl.out];rfl),Aa ⟨h0.out,by rw[List.map_append,J.out.2,q0.out];rfl⟩,Aa (by rw[List.map_append];exact j0.out),Aa i0,Aa x0⟩
    case measure=>simp only[intOf];omega
  ·have c0:(bs.map BsC.b).take i=bs.map BsC.b:=List.take_of_length_le (by rw[List.length_map,<-hn.out];omega);have ha:=J.out;rw[c0]at ha;go_wp2_with fail;go_ret2;refine⟨hE.out,?_⟩;rw[hZ.out];unfold opensD;rw[if_pos ha.1];exact⟨l,B,i,d,ha.2,hl.out.symm,by congr 3,Cells.of_own ho.out,fun x a=>⟨(hs.out x a).1.seg,(hs.out x a).2⟩⟩
def OpA (w:World) (r:Option (List (List Dc))) (e:Ending) (w':World):Prop:=Ext w w'/\match r with
 | some Ps=>∃(l:List Sg) (A:Option Addr) (n c:Nat),l.map (·.2)=Ps/\n=l.length/\e = .returned (.tuple #[.slice A n c,.int .i64 0])/\SgsR w' A l
 | none=>e = .returned (.tuple #[.slice none 0 0,.int .i64 330])
theorem OpA.no {r:Option (List (List Dc))} (j:Ext w w') (h:r=none):OpA w r (.returned (.tuple #[.slice none 0 0,.int .i64 330])) w':=by subst h;exact⟨j,rfl⟩
theorem TJ {Ps:List (List Dc)} (h:opensD bs=some Ps):Ps.length<=bs.length:=by
 unfold opensD at h;split at h
 ·injection h with h;rw[<-h];exact List.length_filterMap_le ..
 ·cases h
theorem S7 (bs:List BsC) (A:Option Addr) (n c:Nat) (w:World) (hn:n=bs.length) (h:BssR w A bs) (e0:n<=1000000) :
 Calls prog 27 #[.slice A n c] w (OpA w (mergeD (bs.map BsC.b))):=by
 obtain⟨Z,U⟩:=Ab (mergeD (bs.map BsC.b));rw[<-U];unfold mergeD at U;have I:=Aa (Tk bs A n c w hn h e0);have hlen:∀Ps,opensD (bs.map BsC.b)=some Ps->Ps.length<=1000000:=fun Ps hp=>by
  have:=TJ hp;rw[List.length_map,<-hn]at this;omega
 obtain⟨O,hO⟩:=Ab (opensD (bs.map BsC.b));rw[<-hO]at I U hlen;replace hlen:=Aa hlen;replace U:=Aa U;clear h hn hO
 go_in
 go_wp2_with fail;refine I.out.mono ?_;rintro e w1 ⟨H,hr⟩;clear I;cases O with
 | none =>
  simp only at hr;subst hr;go_wp2_with fail;go_ret2;exact OpA.no H U.out
 | some Ps =>
  obtain⟨l,B,k,d,hl,hk,rfl,hs⟩:=hr;have Y:Ps.length=k:=by rw[<-hl,hk,List.length_map]
  have n0:k<=1000000:=by rw[<-Y];exact hlen.out _ rfl
  by_cases h0:0<k
  ·have hd:decide (0<k)=true:=decide_eq_true h0;have T:Z=if chainD 0 (Ps.drop 0)=true then some Ps else none:=by
    rw[U.out];simp only[Y,h0,true_and,List.drop_zero]
   rw[hd];replace T:=Aa T;replace hs:=Aa hs;replace hl:=Aa hl;replace hk:=Aa hk;replace Y:=Aa Y;replace H:=Aa H;clear hd U hlen;go_wp2_with fail
   go_loopw [6,19] (fun s6 s19 wr=>∃(i:Nat) (la:Int),s6 = .int .i64 la/\s19 = .int .i64 (i:Int)/\i<=k/\Hid (Z=if chainD la (Ps.drop i)=true then some Ps else none)/\Hid (Ext w1 wr)) (fun _ s19 _=>k - (intOf s19).toNat)
   case atStart=>exact⟨0,0,rfl,rfl,by omega,T,Aa (Ext.refl _)⟩
   case round =>
    clear T;obtain⟨i,la,rfl,rfl,hi,T,hE⟩:=hrel;by_cases d0:i<k
    ·obtain⟨x,hx⟩:∃x,l[i]? = some x:=⟨_,List.getElem?_eq_getElem (by rw[<-hk.out];exact d0)⟩
     obtain⟨x0,j0⟩:=(hs.out.ext hE.out).2 x (List.mem_of_getElem? hx);obtain⟨g,o,rfl,hc⟩:=(hs.out.ext hE.out).1.at_ (by rw[List.length_map,<-hk.out];omega);have k0:=hc i x.val (by rw[List.getElem?_map,hx];rfl);have v0:Ps[i]? = some x.2:=by rw[<-hl.out,List.getElem?_map,hx];rfl
     have J:=Td v0 la;obtain⟨lo,hh,nn,t0⟩:=Tr j0.ne;have a:=I8 x.1 x.2 wr x0 j0;rw[t0]at a;unfold prtA at a;unfold Sg.val at k0;obtain⟨fi,q0⟩:=Ab (fstD x.2);obtain⟨lx,p0⟩:=Ab (lastD 0 x.2);rw[<-q0,<-p0]at a;rw[<-q0,<-p0]at J;replace a:=Aa a;clear hc hx x0 j0 v0 t0 q0 p0;by_cases o0:fi<=la
     ·have j:=T.out;rw[J,decide_eq_false (show ¬ la<fi by omega),Bool.false_and,if_neg (by simp)]at j;replace j:=Aa j;clear J;go_wp2_with fail;refine a.out.mono ?_;rintro e w4 ⟨rfl,G⟩;go_wp2_with fail;go_ret2;exact OpA.no (((H.out.trans hE.out).trans G).alloc _) j.out
     ·have j:=T.out;rw[J,decide_eq_true (show la<fi by omega),Bool.true_and]at j;replace j:=Aa j;clear J;go_wp2_with fail;refine a.out.mono ?_;rintro e w4 ⟨rfl,G⟩;go_wp2_with fail;go_roundw
      case rel=>exact⟨i+1,lx,rfl,by go_num,by omega,j,Aa ((hE.out.trans G).alloc _)⟩
      case measure=>simp only[intOf];omega
    ·have j:=T.out;rw[List.drop_of_length_le (by rw[Y.out];omega)]at j;replace j:=Aa j;go_wp2_with fail;go_ret2;refine⟨H.out.trans hE.out,?_⟩;rw[j.out];exact⟨l,B,k,d,hl.out,hk.out,rfl,hs.out.ext hE.out⟩
  ·have hd:decide (0<k)=false:=decide_eq_false h0;rw[hd];have j:Z=none:=by rw[U.out];simp only[Y,h0,false_and,if_false]
   replace j:=Aa j;clear U hd;go_wp2_with fail;go_ret2;exact OpA.no H j.out
end
section
open Go.RowKit Go.Maps
def keepD (fl:Int) (x:DocC):Bool:= !decide (x.e.at_<fl)
theorem SZ (x:DocC) (fb:Nat) (fl:Int) (w:World) (h:Row w fb 3 #[.int .i64 fl]) :
 Calls prog 30 #[.agg #[.int .i64 x.seq,.int .i64 x.e.at_,.slice x.A x.e.fs.length x.c],.pointer (some ⟨fb,0,none⟩)] w fun e w'=>e = .returned (.bool (decide (x.e.at_<fl)))/\Ext w w':=by
 have k0:=(h.ext ((Ext.refl w).alloc (Obj.cells #[.int .i64 x.seq,.int .i64 x.e.at_,.slice x.A x.e.fs.length x.c] 71))).cell 0 rfl;obtain⟨sq,⟨at_,fs⟩,A,c⟩:=x;simp only at k0 ⊢;obtain⟨m,j⟩:=Ab fs.length;rw[<-j]at k0 ⊢;clear j h
 go_in
 go_wp2_with fail;go_ret;exact⟨rfl,(Ext.refl w).alloc _⟩
def IdxA (w:World) (fl:Int) (l:List DocC) (e:Ending) (w':World):Prop:=Ext w w'/\((e = .returned (.int .i64 (-1))/\l.all (keepD fl)=true)\/∃i:Nat,e = .returned (.int .i64 (i:Int))/\i<l.length/\(l.take i).all (keepD fl)=true/\∃x,l[i]? = some x/\keepD fl x=false)
theorem Tp (l:List DocC) (A:Option Addr) (n c fb:Nat) (fl:Int) (w:World) (hn:n=l.length) (h:Cells w A (dcells l)) (hb:Row w fb 3 #[.int .i64 fl]) (G:n<=1000000) :
 Calls prog 72 #[.slice A n c,.func (.func 30) #[] #[.pointer (some ⟨fb,0,none⟩)]] w (IdxA w fl l):=by
 have hd:=Aa SZ;replace hn:=Aa hn;replace h:=Aa h;replace hb:=Aa hb
 go_in
 go_wp2_with fail
 go_loopw [8] (fun s8 wr=>∃i:Nat,s8 = .int .i64 (i:Int)/\i<=n/\Hid ((l.take i).all (keepD fl)=true)/\Hid (Ext w wr)) (fun s8 _=>n - (intOf s8).toNat)
 case atStart=>exact⟨0,rfl,by omega,Aa rfl,Aa (Ext.refl _)⟩
 case round =>
  obtain⟨i,rfl,hi,j,J⟩:=hrel;by_cases O:i<n
  ·obtain⟨x,Z⟩:∃x,l[i]? = some x:=⟨_,List.getElem?_eq_getElem (by rw[<-hn.out];exact O)⟩
   obtain⟨g,o,rfl,k0,k1,k2⟩:=AR (h.out.ext J.out) Z;have b:=hd.out x fb fl wr (hb.out.ext J.out);obtain⟨v,T⟩:=Ab (decide (x.e.at_<fl));rw[<-T]at b;have Y:(l.take (i+1)).all (keepD fl) = !v:=by
    rw[List.take_add_one,Z,List.all_append,j.out,T];show (keepD fl x&&true)=_;rw[Bool.and_true];rfl
   replace Y:=Aa Y;have H:keepD fl x = !v:=by rw[T];rfl
   replace H:=Aa H;replace T:=Aa T;replace Z:=Aa Z;replace b:=Aa b;cases v with
   | true =>
    go_wp2_with fail;refine b.out.mono ?_;rintro e w4 ⟨rfl,a⟩;go_wp2_with fail;go_ret;exact⟨J.out.trans a,.inr ⟨i,rfl,by rw[<-hn.out];exact O,j.out,x,Z.out,H.out⟩⟩
   | false =>
    go_wp2_with fail;refine b.out.mono ?_;rintro e w4 ⟨rfl,a⟩;go_wp2_with fail;go_roundw
    case rel=>exact⟨i+1,by go_num,by omega,Y,Aa (J.out.trans a)⟩
    case measure=>simp only[intOf];omega
  ·have U:=j.out;rw[List.take_of_length_le (by rw[<-hn.out];omega)]at U;go_wp2_with fail;go_ret;exact⟨J.out,.inl ⟨rfl,U⟩⟩
theorem TM:∀(D:List DocC) (i:Nat) (x:DocC),i<D.length->(((dcells D).set (i*3) (.int .i64 x.seq)).set (i*3+1) (.int .i64 x.e.at_)).set (i*3+2) (.slice x.A x.e.fs.length x.c)=dcells (D.set i x)
 | y::D,0,x,_=>rfl
 | y::D,i+1,x,h=>by
  have ih:=TM D i x (by simpa using h);have e1:(i+1)*3=i*3+1+1+1:=by omega
  rw[e1,List.set_cons_succ];show _=y.cells++dcells (D.set i x);rw[<-ih];rfl
theorem TY {base g n c size:Nat}:∀(vs:List Value) (o:Nat) (w:World),w.ownsRow base e size (.slice (some ⟨g,0,none⟩) n c) n xs->n*size<=o->(w.setCells g o vs).ownsRow base e size (.slice (some ⟨g,0,none⟩) n c) n xs
 | [],o,w,h,_=>h
 | v::vs,o,w,h,j=>by
  have h2:=M7 h o v;rw[List.set_eq_of_length_le (by rw[h.1];exact j)]at h2;exact TY vs (o+1) _ h2 (by omega)
theorem TT:∀(vs:List Value) (o:Nat) (w:World),Chg (fun k=>k=g) w (w.setCells g o vs)
 | [],_,w=>Chg.refl _ w
 | v::vs,o,w=>(Chg.of_set (S:=fun k=>k=g) w (a:=⟨g,o,none⟩) v rfl).trans (TT vs (o+1) _) fun _ _ h=>h
theorem Tq {base n c i size:Nat} (h:w.ownsRow base e size (.slice A n c) n xs) (hi:i<=n) (b:A≠none):w.ownsRow base e size (.slice A i c) i (xs.take (i*size)):=by
 obtain⟨Y,U⟩:=h;have J:i*size<=n*size:=Nat.mul_le_mul_right _ hi;refine⟨by rw[List.length_take,Y];omega,?_⟩;rcases U with ⟨j,_⟩ | ⟨g,cap,cur,j,hb,H,hn,a,hs,ht⟩
 ·cases j;exact absurd rfl b
 ·cases j;exact .inr ⟨g,_,cur,rfl,hb,H,by omega,a,hs,by rw[<-ht,List.take_take,Nat.min_eq_left J]⟩
theorem S3 (w:World) (b o n c:Nat) (hn:0<n) (U:∀j,j<n*3->(w.cell? ⟨b,o+j,none⟩).isSome=true) (O:∀j,j<n*3->w.frozen? ⟨b,o+j,none⟩=false) :
 ∃vs,∀ty,(Builtin.clear_ #[30] ty #[.slice (some ⟨b,o,none⟩) n c]).run prog w = .ok (.tuple #[]) (w.setCells b o vs):=by
 have ht:=underlying30;have T:∀W:World,(zeroValue 71).run prog W = .ok (.agg #[.int .i64 0,.int .i64 0,.slice none 0 0]) W:=fun W=>by kernel_rfl
 obtain⟨vs,a⟩:=Ab ((Builtin.zeroCells (Value.agg #[.int .i64 0,.int .i64 0,.slice none 0 0]).cells n).toList);have hlen:vs.length=n*3:=by rw[a];simp[Builtin.zeroCells,Value.cells]
 have H:∀v∈vs,v.oneCell'=true:=fun v J=>by
  rw[a]at J;unfold Builtin.zeroCells at J;rw[Array.toList_map]at J;obtain⟨i,_,rfl⟩:=List.mem_map.1 J;show Value.oneCell' ((#[.int .i64 0,.int .i64 0,.slice none 0 0]:Array Value)[i%3]!)=true;have:=Nat.mod_lt i (show 0<3 by omega);obtain h | h | h:i%3=0\/i%3=1\/i%3=2:=by omega
  all_goals rw[h];rfl
 have Y:=run_storeCells_cells (P:=prog) b o vs 0 w (by rw[hlen];simpa using U) (by rw[hlen];simpa using O) H;simp only[Nat.add_zero]at Y;obtain⟨m,rfl⟩:∃m,n=m+1:=⟨n - 1,by omega⟩
 refine⟨vs,fun ty=>?_⟩;simp[Builtin.clear_,run_underlying ht,T,<-a,Y]
theorem Tg (h:k<n) (hn:n<=c) (W:World) :
 (Instr.sliceAt 30 (.slice (some ⟨g,0,none⟩) n c) (some (.int .i64 (k:Int))) none none).run prog W = .ok (.slice (some ⟨g,k*3,none⟩) (n - k) (c - k)) W:=by
 have ht:=underlying30;have j:prog.elem 30=71:=by unfold Program.elem;rw[ht]
 have hs:∀W:World,(sizeOf 71).run prog W = .ok 3 W:=fun W=>by kernel_rfl
 have b:((k:Int)).toNat=k:=by omega
 rw[run_sliceAt_slice W _ _ _ _ _ (by rw[ht,j]),run_slice_l W _ _ n c (by rw[ht,j]) .i64 k (by omega) (by omega),j,hs];simp only[Result.andThen_ok];unfold sliced;rw[if_neg (by omega),b];simp[Addr.add_lit]
def DelA (base:Nat) (fl:Int) (l:List DocC) (w:World) (e:Ending) (w':World):Prop:=∃(A:Option Addr) (n c:Nat),e = .returned (.slice A n c)/\n=(l.filter (keepD fl)).length/\DocsOwn w' base A c (l.filter (keepD fl))/\Chg (fun k=>base<=k) w w'
theorem Ay {l:List DocC} {j:Nat} {x:DocC} (h:l[j]? = some x) (p:DocC->Bool):(l.take (j+1)).filter p=(l.take j).filter p++if p x=true then [x] else []:=by
 rw[List.take_add_one,h,List.filter_append];congr 1;show List.filter p [x]=_;rw[List.filter_cons];rfl
theorem Ti (l:List DocC) (A:Option Addr) (n c fb base:Nat) (fl:Int) (w:World) (hn:n=l.length) (h:DocsOwn w base A c l) (hb:Row w fb 3 #[.int .i64 fl]) (r3:base<=w.heap.size) (b3:n<=1000000) :
 Calls prog 29 #[.slice A n c,.func (.func 30) #[] #[.pointer (some ⟨fb,0,none⟩)]] w (DelA base fl l w):=by
 have y3:=Aa (Tp l A n c fb fl w hn h.ok.cells hb b3);have hd:=Aa SZ;have n0:=h.cap;rw[<-hn]at n0;have Y:=h.own;rw[<-hn]at Y;replace hn:=Aa hn;replace hb:=Aa hb
 go_in
 go_wp2_with fail;refine y3.out.mono ?_;rintro e w1 ⟨U,hr⟩;rcases hr with ⟨rfl,O⟩ | ⟨i0,rfl,i2,O,x0,k3,t0⟩
 ·have Z:l.filter (keepD fl)=l:=List.filter_eq_self.2 (List.all_eq_true.1 O);replace Z:=Aa Z;replace h:=Aa h;clear O Y;go_wp2_with fail;go_ret;exact⟨A,n,c,rfl,by rw[Z.out];exact hn.out,by rw[Z.out];exact h.out.ext U,Chg.of_ext U _⟩
 ·have o3:i0<n:=by rw[hn.out];exact i2
  obtain⟨g,rfl⟩:∃g,A=some ⟨g,0,none⟩:=by
   rcases Y.2 with ⟨_,h0⟩ | ⟨g,_,_,hv,_⟩
   ·omega
   ·cases hv;exact⟨g,rfl⟩
  obtain⟨_,_,f2⟩:=Ae Y rfl;have i1:l.take i0=(l.take (i0+1)).filter (keepD fl):=by
   rw[Ay k3,if_neg (by rw[t0];simp),List.append_nil];exact(List.filter_eq_self.2 (List.all_eq_true.1 O)).symm
  have d3:=Aa (U.owns Y);have t3:=Aa fun x J=>((h.ext U).each x J)
  have o1:=Aa h.ints;have m3:=Aa (Chg.of_ext U fun k=>base<=k);have g4:((i0:Int) == -1)=false:=beq_eq_false_iff_ne.2 (by omega);replace U:=Aa U;replace i1:=Aa i1;clear k3 t0 O h Y i2;go_wp2_with fail
  go_loopw [5,6] (fun s5 s6 wr=>∃(i j:Nat) (D:List DocC),s5 = .int .i64 (i:Int)/\s6 = .int .i64 (j:Int)/\i<j/\j<=n/\Hid (D.length=n/\D.take i=(l.take j).filter (keepD fl)/\∀k,j<=k->D[k]? = l[k]?)/\Hid (wr.ownsRow base 71 3 (.slice (some ⟨g,0,none⟩) n c) n (dcells D))/\Hid (∀x∈l,x.e.Own wr base x.A x.c)/\Hid (Row wr fb 3 #[.int .i64 fl])/\Hid (Chg (fun k=>base<=k) w wr)) (fun _ s6 _=>n - (intOf s6).toNat)
  case atStart=>exact⟨i0,i0+1,l,rfl,by go_num,by omega,by omega,Aa ⟨hn.out.symm,i1.out,fun _ _=>rfl⟩,d3,t3,Aa (hb.out.ext U.out),m3⟩
  case round =>
   obtain⟨i,j,D,rfl,rfl,p4,j4,hD,ho,hs,f0,hC⟩:=hrel;obtain⟨m1,a1,j1⟩:=hD.out;have q3:=Ae ho.out rfl;obtain⟨cur,H,_⟩:=q3;by_cases hj:j<n
   ·obtain⟨x,J⟩:∃x,l[j]? = some x:=⟨_,List.getElem?_eq_getElem (by rw[<-hn.out];exact hj)⟩
    obtain⟨y,hy⟩:∃y,D[i]? = some y:=⟨_,List.getElem?_eq_getElem (by omega)⟩
    obtain⟨g',o',o0,k0,k1,k2⟩:=AR (Cells.of_own ho.out) ((j1 j (Nat.le_refl _)).trans J);cases o0;rw[Nat.zero_add]at k0 k1 k2;have g0:=Ay J (keepD fl);have T:=hd.out x fb fl (wr.alloc (Obj.cells #[.int .i64 x.seq,.int .i64 x.e.at_,.slice x.A x.e.fs.length x.c] 71)) (f0.out.ext ((Ext.refl wr).alloc _));obtain⟨v,hv⟩:=Ab (decide (x.e.at_<fl));have t0:keepD fl x = !v:=by rw[hv];rfl
    rw[<-hv]at T;rw[t0]at g0;have G:=TM D i x (by omega);obtain⟨sq,⟨at_,fs⟩,xA,xc⟩:=x;simp only at k0 k1 k2 T G;obtain⟨m,hm⟩:=Ab fs.length;rw[<-hm]at k2 T G;obtain⟨W,hW⟩:=Ab (wr.alloc (Obj.cells #[Value.int .i64 sq,.int .i64 at_,.slice xA m xc] 71));have e0:Ext wr W:=by rw[hW];exact(Ext.refl wr).alloc _
    have p0:Row W wr.heap.size 71 #[.int .i64 sq,.int .i64 at_,.slice xA m xc]:=by rw[hW];exact Row.new wr _ _
    obtain⟨gq,m0⟩:=Ab wr.heap.size;rw[<-m0]at p0;have q4:g≠gq:=by have hl:g<wr.heap.size:=H.lt;omega
    have q0:=p0.cell 0 rfl;have q1:=p0.cell 1 rfl;have q2:=p0.cell 2 rfl;rw[<-hW]at T;replace T:=Aa T;replace g0:=Aa g0;replace G:=Aa G;replace hm:=Aa hm;replace hv:=Aa hv;replace e0:=Aa e0;replace p0:=Aa p0;replace H:=Aa H;replace hD:=Aa hD;clear t0 m1 a1 j1 hd;cases v with
    | true =>
     go_wp2_with fail;rw[<-hW,<-m0];clear hW m0;refine T.out.mono ?_;rintro e w4 ⟨rfl,b⟩;replace b:=Aa (e0.out.trans b);go_wp2_with fail;go_roundw
     case rel=>exact⟨i,j+1,D,rfl,by go_num,by omega,by omega,Aa ⟨hD.out.1,by rw[hD.out.2.1,g0.out];simp,fun k hk=>hD.out.2.2 k (by omega)⟩,Aa (b.out.owns ho.out),Aa (fun x J=>⟨b.out.owns (hs.out x J).1,(hs.out x J).2⟩),Aa (f0.out.ext b.out),Aa (hC.out.trans (Chg.of_ext b.out _) fun _ _ h=>h)⟩
     case measure=>simp only[intOf];omega
    | false =>
     go_wp2_with fail;rw[<-hW,<-m0];clear hW m0;refine T.out.mono ?_;rintro e w4 ⟨rfl,b⟩;have x0:=b.cell q0;have x1:=b.cell q1;have x2:=b.cell q2;replace b:=Aa (e0.out.trans b);have o2:=Aa (b.out.owns ho.out);obtain⟨g',o',o0,y0,y1,y2⟩:=AR (Cells.of_own o2.out) hy;cases o0;rw[Nat.zero_add]at y0 y1 y2;have h4:=(H.out.ext b.out).free;go_wp2_with fail;go_roundw
     case rel =>
      obtain⟨w5,j2⟩:=Ab (((w4.setCell ⟨g,i*3,none⟩ (.int .i64 sq)).setCell ⟨g,i*3+1,none⟩ (.int .i64 at_)).setCell ⟨g,i*3+2,none⟩ (.slice xA m xc));have r0:Chg (fun k=>k=g) w4 w5:=by
       rw[j2];exact((Chg.of_set (S:=fun k=>k=g) w4 (a:=⟨g,i*3,none⟩) _ rfl).trans (Chg.of_set (S:=fun k=>k=g) _ (a:=⟨g,i*3+1,none⟩) _ rfl) fun _ _ h=>h).trans (Chg.of_set (S:=fun k=>k=g) _ (a:=⟨g,i*3+2,none⟩) _ rfl) fun _ _ h=>h
      have e3:w5.ownsRow base 71 3 (.slice (some ⟨g,0,none⟩) n c) n (dcells (D.set i ⟨sq,⟨at_,fs⟩,xA,xc⟩)):=by
       rw[j2,<-G.out];exact M7 (M7 (M7 o2.out _ _) _ _) _ _
      have p3:∀k t cs,Row w4 k t cs->t≠71->¬ k=g:=fun k t cs hk ht=>Row.unlike hk (H.out.ext b.out) ht;rw[<-j2];have I:i<D.length:=by rw[hD.out.1];omega
      refine⟨i+1,j+1,D.set i ⟨sq,⟨at_,fs⟩,xA,xc⟩,rfl,by go_num,by omega,by omega,Aa ⟨by rw[List.length_set];exact hD.out.1,?_,fun k hk=>by rw[List.getElem?_set,if_neg (by omega)];exact hD.out.2.2 k (by omega)⟩,Aa e3,Aa fun x J=>⟨r0.owns (b.out.owns (hs.out x J).1) fun k hk=>?_,(hs.out x J).2⟩,Aa (r0.row (f0.out.ext b.out) (p3 _ _ _ (f0.out.ext b.out) (by decide))),Aa ((hC.out.trans (Chg.of_ext b.out _) fun _ _ h=>h).trans r0 fun k _ h=>by rw[h];exact f2)⟩
      ·rw[g0.out,<-hD.out.2.1,List.take_add_one,List.getElem?_set,if_pos rfl,if_pos I,List.take_set,List.set_eq_of_length_le (by rw[List.length_take];omega)];rfl
      ·obtain⟨cs,hr,_⟩:=Ae (b.out.owns (hs.out x J).1) hk;exact p3 _ _ _ hr (by decide)
     case measure=>simp only[intOf];omega
   ·obtain rfl:j=n:=by omega
    have Z:D.take i=l.filter (keepD fl):=by rw[a1,List.take_of_length_le (by rw[<-hn.out];exact Nat.le_refl _)]
    have l3:cur.size=c*3:=by
     rcases ho.out.2 with ⟨hv,_⟩ | ⟨_,_,cur',hv,_,x3,_,_,f3,_⟩
     ·cases hv
     ·cases hv;have:=H.symm.trans x3;injection this with this;injection this with this;rw[this];exact f3
    have z3:=n0.1;obtain⟨vs,d2⟩:=S3 wr g (i*3) (j - i) (c - i) (by omega) (fun q hq=>by rw[H.get,Array.getElem?_eq_getElem (by omega)];rfl) (fun q _=>H.free _);have v0:=TY vs (i*3) wr (Tq ho.out (i:=i) (by omega) (by simp)) (Nat.le_refl _);rw[show (dcells D).take (i*3)=dcells (D.take i)from(Bh (f:=DocC.cells) (k:=3) (fun _=>rfl) D i).symm,Z]at v0;have I:i=(l.filter (keepD fl)).length:=by rw[<-Z,List.length_take,m1];omega
    have h1:=TT (g:=g) vs (i*3) wr;have l0:∀x∈l.filter (keepD fl),x.e.Own (wr.setCells g (i*3) vs) base x.A x.c:=fun x J=>by
     have J:=(List.mem_filter.1 J).1;refine⟨h1.owns (hs.out x J).1 fun k hk=>?_,(hs.out x J).2⟩;obtain⟨cs,hr,_⟩:=Ae (hs.out x J).1 hk;exact Row.unlike hr H (by decide)
    have d0:Chg (fun k=>base<=k) w (wr.setCells g (i*3) vs):=hC.out.trans h1 fun k _ h=>by rw[h];exact f2
    obtain⟨Wc,a2⟩:=Ab (wr.setCells g (i*3) vs);rw[<-a2]at d2 v0 l0 d0;have i3:=fun W:World=>Tg (g:=g) (n:=j) (c:=c) (k:=i) (by omega) z3 W;obtain⟨ji,h2⟩:=Ab (j - i);obtain⟨ci,f1⟩:=Ab (c - i);rw[<-h2,<-f1]at d2 i3;replace v0:=Aa v0;replace l0:=Aa l0;replace d0:=Aa d0;replace H:=Aa H;replace I:=Aa I;replace hD:=Aa hD;replace h2:=Aa h2;replace f1:=Aa f1;clear a2 h1 Z m1 a1 j1 l3;go_wp2_with fail;go_ret;exact⟨some ⟨g,0,none⟩,i,c,rfl,I.out,⟨by rw[<-I.out];exact v0.out,l0.out,fun x J=>o1.out x (List.mem_filter.1 J).1⟩,d0.out⟩
end
section
open Go.RowKit Go.Maps
def keepP (fl:Int) (d:Dc):Bool:= !decide (d.2.at_<fl)
def docsM (fl:Int) (Ps:List (List Dc)):List Dc:=Ps.flatten.filter (keepP fl)
theorem S5 (fl:Int) (l:List DocC):dcs (l.filter (keepD fl))=(dcs l).filter (keepP fl):=by
 unfold dcs;rw[List.filter_map];rfl
theorem DocsOwn.app {base c c2 c8:Nat} {B A2 A8:Option Addr} {l l2:List DocC} (h:DocsOwn w base B c l) (h2:DocsOwn w base A2 c2 l2)
 (U:w8.ownsRow base 71 3 (.slice A8 (l.length+l2.length) c8) (l.length+l2.length) (dcells l++dcells l2)) (J:w.grownBy w8 (Value.slice B l.length c).ownBlock):DocsOwn w8 base A8 c8 (l++l2):=by
 have a:Chg (fun k'=>(Value.slice B l.length c).ownBlock=some k') w w8:=Chg.of_grown J fun k' _ Y=>Y;refine⟨by rw[List.length_append];unfold dcells;rw[List.flatMap_append];exact U,fun y j=>?_,fun y j=>?_⟩
 ·have b:y.e.Own w base y.A y.c:=by rcases List.mem_append.1 j with j | j;exact h.each y j;exact h2.each y j
  exact⟨a.owns b.1 fun g' H=>by obtain⟨cs,O,_⟩:=Ae b.1 H;exact Am h.own O (by decide),b.2⟩
 ·rcases List.mem_append.1 j with j | j
  ·exact h.ints y j
  ·exact h2.ints y j
theorem S4 (l:List DocC):∀u∈dcells l,u.oneCell'=true:=fun u j=>by
 unfold dcells at j;obtain⟨x,_,h⟩:=List.mem_flatMap.1 j;unfold DocC.cells at h;simp only[List.mem_cons,List.not_mem_nil,or_false]at h;rcases h with rfl | rfl | rfl <;> rfl
def MdA (w:World) (fl:Int) (r:Option (List (List Dc))) (e:Ending) (w':World):Prop:=Ext w w'/\match r with
 | some Ps=>∃(l:List DocC) (A:Option Addr) (n c:Nat),dcs l=docsM fl Ps/\n=l.length/\e = .returned (.tuple #[.slice A n c,.int .i64 0])/\DocsOwn w' w.heap.size A c l
 | none=>e = .returned (.tuple #[.slice none 0 0,.int .i64 330])
theorem MdA.no {r:Option (List (List Dc))} (j:Ext w w') (h:r=none):MdA w fl r (.returned (.tuple #[.slice none 0 0,.int .i64 330])) w':=by subst h;exact⟨j,rfl⟩
theorem S6 {Ps:List (List Dc)} (h:mergeD bs=some Ps):Ps.length<=bs.length:=by
 unfold mergeD at h;split at h
 ·rename_i Qs j;split at h
  ·injection h with h;subst h;exact TJ j
  ·cases h
 ·cases h
theorem Te (bs:List BsC) (A:Option Addr) (n c:Nat) (fl:Int) (w:World) (hn:n=bs.length) (h:BssR w A bs) (y2:n<=10) :
 Calls prog 10 #[.int .i64 fl,.slice A n c] w (MdA w fl (mergeD (bs.map BsC.b))):=by
 obtain⟨W,hW⟩:=Ab (w.alloc (.cells #[.int .i64 fl] 3));have Y:Ext w W:=by rw[hW];exact(Ext.refl w).alloc _
 have T:Row W w.heap.size 3 #[.int .i64 fl]:=by rw[hW];exact Row.new w _ _
 have O:=S7 bs A n c W hn (h.ext Y) (by omega);obtain⟨Z,hZ⟩:=Ab (mergeD (bs.map BsC.b));rw[<-hZ]at O ⊢;have hlen:∀Ps,Z=some Ps->Ps.length<=10:=fun Ps hp=>by
  have:=S6 (hZ.symm.trans hp);rw[List.length_map,<-hn]at this;omega
 obtain⟨fb,G⟩:=Ab w.heap.size;rw[<-G]at T;have k2:=Aa G;replace O:=Aa O;replace hlen:=Aa hlen;replace T:=Aa T;replace Y:=Aa Y;clear hZ h hn
 go_in
 go_wp2_with fail;rw[<-hW,<-G];clear hW G;refine O.out.mono ?_;rintro e w1 ⟨H,hr⟩;cases Z with
 | none =>
  simp only at hr;subst hr;go_wp2_with fail;go_ret2;exact MdA.no (Y.out.trans H) rfl
 | some Ps =>
  obtain⟨l,B,k,d,hl,hk,rfl,hs⟩:=hr;have m2:k<=10:=by rw[hk];have:=hlen.out Ps rfl;rw[<-hl,List.length_map]at this;exact this
  have i1:=Aa SS;have e0:=Aa Ti;have i0:=Aa (T.out.ext H);replace H:=Aa (Y.out.trans H);have a1:=hk;replace hs:=Aa hs;replace hl:=Aa hl;replace hk:=Aa hk;clear hlen T Y O a1;go_wp2_with fail
  go_loopw [8,21] (fun s8 s21 wr=>∃(i m q:Nat) (C:Option Addr) (D:List DocC),s8 = .slice C m q/\s21 = .int .i64 (i:Int)/\i<=k/\m<=i*65536/\Hid (m=D.length)/\Hid (dcs D=((l.take i).map (·.2)).flatten)/\Hid (DocsOwn wr w1.heap.size C q D)/\Hid (Ext w1 wr)) (fun _ s21 _=>k - (intOf s21).toNat)
  case atStart=>exact⟨0,0,0,none,[],rfl,rfl,by omega,by omega,Aa rfl,Aa rfl,Aa (DocsOwn.nil _ _),Aa (Ext.refl _)⟩
  case round =>
   obtain⟨i,m,q,C,D,rfl,rfl,hi,hm,U,hD,ho,hE⟩:=hrel;by_cases y1:i<k
   ·obtain⟨x,hx⟩:∃x,l[i]? = some x:=⟨_,List.getElem?_eq_getElem (by rw[<-hk.out];exact y1)⟩
    obtain⟨l0,c0⟩:=(hs.out.ext hE.out).2 x (List.mem_of_getElem? hx);obtain⟨g,o,rfl,hc⟩:=(hs.out.ext hE.out).1.at_ (by rw[List.length_map,<-hk.out];omega);have k0:=hc i x.val (by rw[List.getElem?_map,hx];rfl);have y0:=i1.out x.1 x.2 wr l0 c0;have d2:=c0.sm.seg.n;have x0:((l.take (i+1)).map (·.2)).flatten=((l.take i).map (·.2)).flatten++x.2:=by
     rw[List.take_add_one,hx,List.map_append,List.flatten_append];congr 1;show [x.2].flatten=_;rw[List.flatten_cons,List.flatten_nil,List.append_nil]
    unfold Sg.val at k0;replace y0:=Aa y0;replace x0:=Aa x0;clear hc hx l0 c0;go_wp2_with fail;refine y0.out.mono ?_;rintro e w4 ⟨J,l4,A4,c4,h0,rfl,q0⟩;obtain⟨m4,a⟩:=Ab l4.length;have x2:m4<=65536:=by rw[a];have:(dcs l4).length=l4.length:=List.length_map ..;rw[h0]at this;omega
    rw[<-a];have f0:=Aa (ho.out.ext J);have j:=f0.out.own;rw[<-U.out]at j;replace q0:=Aa (q0.lower hE.out.size);have g0:(dcells l4).length=m4*3:=by rw[Er,a]
    have m1:m+m4<=4294967296:=by omega
    have o1:w1.heap.size<=w4.heap.size:=(hE.out.trans J).size;replace J:=Aa (hE.out.trans J);replace j:=Aa j;replace g0:=Aa g0;replace a:=Aa a;replace h0:=Aa h0;go_wp2_with (at_builtin;refine AV (m:=m4) MQ j.out q0.out.ok.cells (.tmp 25) (.tmp 27) rfl rfl rfl rfl rfl g0.out (S4 _) m1 o1 (fun A8 c8 w8 v0 I d1=>?_);replace v0:=Aa v0;replace I:=Aa I;clear d1);have k1:Ext w1 w8:=J.out.grown I.out fun k hk=>by obtain⟨_,_,hb⟩:=Ae j.out hk;exact hb
    have d0:=f0.out.app q0.out (A8:=A8) (c8:=c8) (w8:=w8) (by rw[<-U.out,<-a.out];exact v0.out) (by rw[<-U.out];exact I.out);go_roundw
    case rel=>exact⟨i+1,m+m4,c8,A8,D++l4,rfl,by go_num,by omega,by omega,Aa (by rw[List.length_append,<-U.out,<-a.out]),Aa (by rw[x0.out,<-hD.out,<-h0.out];unfold dcs;rw[List.map_append]),Aa d0,Aa k1⟩
    case measure=>simp only[intOf];omega
   ·have j0:dcs D=Ps.flatten:=by rw[hD.out,List.take_of_length_le (by rw[<-hk.out];omega),hl.out]
    have x1:=Aa (e0.out D C m q fb w1.heap.size fl wr U.out ho.out (i0.out.ext hE.out) hE.out.size (by omega));replace j0:=Aa j0;clear e0;go_wp2_with fail;refine x1.out.mono ?_;rintro e w5 ⟨A5,n5,c5,rfl,m0,t0,h1⟩;replace m0:=Aa m0;replace t0:=Aa t0;go_wp2_with fail;go_ret2;have q1:Ext w1 w5:=hE.out.chg h1 fun k hk h=>by omega
    exact⟨H.out.trans q1,D.filter (keepD fl),A5,n5,c5,by rw[S5,j0.out];rfl,m0.out,rfl,t0.out.lower H.out.size⟩
def MrA (w:World) (fl:Int) (r:Option (List (List Dc))) (e:Ending) (w':World):Prop:=match r with
 | some Ps=>if docsM fl Ps = [] then e = .returned (.tuple #[.slice none 0 0,.int .i64 7])/\Ext w w' else OkB w (segL (docsM fl Ps)) e w'
 | none=>e = .returned (.tuple #[.slice none 0 0,.int .i64 330])/\Ext w w'
theorem TK (bs:List BsC) (A:Option Addr) (n c:Nat) (fl:Int) (w:World) (hn:n=bs.length) (h:BssR w A bs) (k0:n<=10) (J:∀Ps,mergeD (bs.map BsC.b)=some Ps->docsM fl Ps ≠ []->SmP (docsM fl Ps)) :
 Calls prog 8 #[.int .i64 fl,.slice A n c] w (MrA w fl (mergeD (bs.map BsC.b))):=by
 have G:=Aa (Te bs A n c fl w hn h k0);obtain⟨Z,hZ⟩:=Ab (mergeD (bs.map BsC.b));rw[<-hZ]at G J ⊢;have T:=Aa CY;replace J:=Aa J;clear hZ h hn
 go_in
 go_wp2_with fail;refine G.out.mono ?_;rintro e w1 ⟨Y,hr⟩;cases Z with
 | none =>
  simp only at hr;subst hr;go_wp2_with fail;go_ret2;exact⟨rfl,Y⟩
 | some Ps =>
  obtain⟨l,B,k,d,U,hk,rfl,O⟩:=hr;by_cases h0:k=0
  ·have j:docsM fl Ps = []:=by rw[<-U,List.length_eq_zero_iff.1 (hk.symm.trans h0)];rfl
   subst h0;replace j:=Aa j;replace U:=Aa U;replace hk:=Aa hk;replace O:=Aa O;go_wp2_with fail;go_ret2;unfold MrA;simp only;rw[if_pos j.out];exact⟨rfl,Y⟩
  ·have j:¬ docsM fl Ps = []:=fun e=>h0 (by rw[<-U]at e;rw[hk];have:=congrArg List.length e;unfold dcs at this;rw[List.length_map]at this;exact this);have m0:((k:Int)==0)=false:=beq_eq_false_iff_ne.2 (by omega);have H:=O.cap;rw[<-hk]at H;have a:=T.out l B k d w1 hk O.ok H.2 H.1 (by rw[U];exact J.out Ps rfl j) (by omega);rw[U]at a;replace a:=Aa a;replace j:=Aa j;replace U:=Aa U;replace hk:=Aa hk;replace O:=Aa O;clear T;go_wp2_with fail;refine a.out.mono ?_;rintro e w2 ⟨A2,c2,rfl,I,p0⟩;go_wp2_with fail;go_ret2;unfold MrA;simp only;rw[if_neg j.out];exact⟨A2,c2,rfl,⟨I.1,I.2.lower Y.size⟩,Y.trans p0⟩
end
end Go.Proofs.YtfifdilapbeiiaaGreat
