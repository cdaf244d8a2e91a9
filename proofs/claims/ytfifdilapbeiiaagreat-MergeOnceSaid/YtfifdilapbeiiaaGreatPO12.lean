/- Texts of one proof, joined. -/
import Derived.Test.YtfifdilapbeiiaaGreatPO11
set_option linter.unusedSimpArgs false
set_option linter.unusedVariables false
set_option maxRecDepth 100000
set_option maxHeartbeats 16000000
namespace Go.Proofs.YtfifdilapbeiiaaGreat
open _root_.Go.Proofs.Tryz
variable {fuel g q:Nat} {v:Value} {w w' w1:World}
section
open Go.RowKit Go.Maps
theorem SegRB.chg {base:Nat} {cur:Array Value} {P:List Dc} (h:SegRB base w g P) (j:Chg (fun k=>k=q) w w1) (J:Row w q 5 cur) (G:q<base):SegRB base w1 g P:=by
 obtain⟨ds,A,c,lo,hi,fi,la,B,cB,gd,gf,h1,h2,U,O,T,Y,b,cf,cc,f1,f2,f3,f4⟩:=h;have H:∀k t cs,Row w k t cs->t≠5->¬ k=q:=fun k t cs hk ht e=>Row.unlike hk J ht e;refine⟨ds,A,c,lo,hi,fi,la,B,cB,gd,gf,h1.keep (j.block _ h1.lt (H _ _ _ h1 (by decide))),h2,U,O.chg j (fun k t cs hk ht hb e=>by omega),T.chg j (fun k e=>⟨5,cur,by rw[show k=q from e];exact J,by decide,by decide⟩),Y.chg j (fun a Z e=>by have:=Y.base a Z;omega),b,cf,cc,f1.keep (j.block _ f1.lt (H _ _ _ f1 (by decide))),f2,f3.keep (j.block _ f3.lt (fun e=>by omega)),f4⟩
end
section
open Go.RowKit Go.Maps
theorem El (A B:Option Addr) (n c c2:Nat) (xs:List Int) (w:World) (hn:n=xs.length) (J:Cells w A (xs.map IV)) (U:Cells w B (xs.map IV)) (O:n<=1000000000) :
 Calls prog 41 #[.slice A n c,.slice B n c2] w fun e w'=>e = .returned (.bool true)/\Ext w w':=by
 replace hn:=Aa hn
 go_in
 go_wp2_with fail
 go_loopw [5] (fun s5 wr=>∃i:Nat,s5 = .int .i64 i/\i<=n/\Ext w wr) (fun s5 _=>n - (intOf s5).toNat)
 case atStart=>exact⟨0,rfl,by omega,Ext.refl _⟩
 case round =>
  obtain⟨i,rfl,hi,b⟩:=hrel;by_cases a:i<n
  ·have Y:i<xs.length:=by rw[<-hn.out];exact a
   obtain⟨g,o,rfl,H⟩:=J.at_ (by rw[List.length_map];omega);obtain⟨g2,o2,rfl,j⟩:=U.at_ (by rw[List.length_map];omega);obtain⟨x,h⟩:=Ab (xs[i]:Int);have k1:wr.cell? ⟨g,o+i,none⟩=some (.int .i64 x):=b.cell (H i _ (by simp[Y,h,IV]));have k2:wr.cell? ⟨g2,o2+i,none⟩=some (.int .i64 x):=b.cell (j i _ (by simp[Y,h,IV]));clear H j;replace h:=Aa h;go_wp2_with fail;refine AE (fun K T=>?_);go_wp2_with fail;refine⟨by kernel_rfl,?_⟩;go_wp2_with fail;go_roundw
   case rel=>exact⟨i+1,by go_num,by omega,b.drew⟩
   case measure=>simp[intOf];omega
  ·go_wp2_with fail;go_ret;exact⟨rfl,b⟩
end
section
open Go.RowKit
theorem Mq (ps qs:List PoC) (A B:Option Addr) (n c c2:Nat) (w:World) (hn:n=ps.length) (hm:n=qs.length) (ha:PosOk w A ps) (hb:PosOk w B qs) (Y:psP ps=psP qs) (t0:n<=1000000000) :
 Calls prog 21 #[.slice A n c,.slice B n c2] w fun e w'=>e = .returned (.bool true)/\Ext w w':=by
 replace hn:=Aa hn;replace hm:=Aa hm;replace ha:=Aa ha;replace hb:=Aa hb;replace Y:=Aa Y
 go_in
 go_wp2_with fail
 go_loopw [5] (fun s5 wr=>∃i:Nat,s5 = .int .i64 (i:Int)/\i<=n/\Hid (Ext w wr)) (fun s5 _=>n - (intOf s5).toNat)
 case atStart=>exact⟨0,rfl,by omega,Aa (Ext.refl _)⟩
 case round =>
  obtain⟨i,rfl,hi,h⟩:=hrel;by_cases G:i<n
  ·obtain⟨x,j⟩:∃x,ps[i]? = some x:=⟨_,List.getElem?_eq_getElem (by rw[<-hn.out];exact G)⟩
   obtain⟨y,hy⟩:∃y,qs[i]? = some y:=⟨_,List.getElem?_eq_getElem (by rw[<-hm.out];exact G)⟩
   have T:x.po=y.po:=by
    have h1:(psP ps)[i]? = some x.po:=by unfold psP;rw[List.getElem?_map,j];rfl
    have h2:(psP qs)[i]? = some y.po:=by unfold psP;rw[List.getElem?_map,hy];rfl
    rw[Y.out,h2]at h1;exact(Option.some.inj h1).symm
   obtain⟨O,U⟩:=ha.out.each x (List.mem_of_getElem? j);obtain⟨Z,_⟩:=hb.out.each y (List.mem_of_getElem? hy);obtain⟨g,o,hA,a0,a1⟩:=Bc ha.out.cells j;obtain⟨g2,o2,hB,b0,b1⟩:=Bc hb.out.cells hy;obtain⟨d,p,xA,xc⟩:=x;obtain⟨d2,p2,yA,yc⟩:=y;unfold PoC.po at T;simp only at T O Z U a0 a1 b0 b1;injection T with e1 e2;subst e1 e2;obtain⟨m,b⟩:=Ab p.length;rw[<-b]at a1 b1 U;have I:=fun W (h:Ext w W)=>El xA yA m xc yc p W b (O.ext h) (Z.ext h) U;have H:wr.cell? ⟨g,o+i*2,none⟩=some (.int .i64 d)/\wr.cell? ⟨g,o+i*2+1,none⟩=some (.slice xA m xc)/\wr.cell? ⟨g2,o2+i*2,none⟩=some (.int .i64 d)/\wr.cell? ⟨g2,o2+i*2+1,none⟩=some (.slice yA m yc)/\Ext w wr:=⟨h.out.cell a0,h.out.cell a1,h.out.cell b0,h.out.cell b1,h.out⟩
   have a:wr.drew.cell? ⟨g,o+i*2,none⟩=some (.int .i64 d)/\wr.drew.cell? ⟨g,o+i*2+1,none⟩=some (.slice xA m xc)/\wr.drew.cell? ⟨g2,o2+i*2,none⟩=some (.int .i64 d)/\wr.drew.cell? ⟨g2,o2+i*2+1,none⟩=some (.slice yA m yc)/\Ext w wr.drew:=⟨h.out.drew.cell a0,h.out.drew.cell a1,h.out.drew.cell b0,h.out.drew.cell b1,h.out.drew⟩
   have J:∀x,x.cell? ⟨g,o+i*2,none⟩=some (.int .i64 d)/\x.cell? ⟨g,o+i*2+1,none⟩=some (.slice xA m xc)/\x.cell? ⟨g2,o2+i*2,none⟩=some (.int .i64 d)/\x.cell? ⟨g2,o2+i*2+1,none⟩=some (.slice yA m yc)/\Ext w x->Calls prog 41 #[.slice xA m xc,.slice yA m yc] x fun e w'=>e = .returned (.bool true)/\(w'.cell? ⟨g,o+i*2,none⟩=some (.int .i64 d)/\w'.cell? ⟨g,o+i*2+1,none⟩=some (.slice xA m xc)/\w'.cell? ⟨g2,o2+i*2,none⟩=some (.int .i64 d)/\w'.cell? ⟨g2,o2+i*2+1,none⟩=some (.slice yA m yc)/\Ext w w'):=fun x j=>(I x j.2.2.2.2).mono (by
    rintro e w' ⟨rfl,h1⟩;exact⟨rfl,h1.cell j.1,h1.cell j.2.1,h1.cell j.2.2.1,h1.cell j.2.2.2.1,j.2.2.2.2.trans h1⟩)
   subst hA hB;replace J:=Aa J;replace a:=Aa a;replace H:=Aa H;replace b:=Aa b;clear I j hy a0 a1 b0 b1 O Z;go_wp2_with fail
   go_cut [41] (fun s41 wy=>s41 = .bool false/\Hid (Ext w wy))
   case first =>
    go_region_held3 (fun x=>x.cell? ⟨g,o+i*2,none⟩=some (.int .i64 d)/\x.cell? ⟨g,o+i*2+1,none⟩=some (.slice xA m xc)/\x.cell? ⟨g2,o2+i*2,none⟩=some (.int .i64 d)/\x.cell? ⟨g2,o2+i*2+1,none⟩=some (.slice yA m yc)/\Ext w x) (first | exact a.out | exact H.out | exact ‹_›) (first | (go_at_call 41;refine(J.out _ ‹_›).mono ?_;rintro e w3 ⟨rfl,k0⟩))
    all_goals
     go_wp2_with fail
     go_meet
     case rel=>exact⟨rfl,Aa k0.2.2.2.2⟩
   case rest =>
    obtain⟨rfl,p0⟩:=hcut;go_wp2_with fail;go_roundw
    case rel=>exact⟨i+1,by go_num,by omega,p0⟩
    case measure=>simp only[intOf];omega
  ·obtain rfl:i=n:=by omega
   go_wp2_with fail;go_ret;exact⟨rfl,h.out⟩
end
section
open Go.RowKit Go.Maps
def kPs (R:List Po) (v:Value) (w:World):Prop:=∃(A:Option Addr) (c:Nat) (ps:List PoC),v = .slice A ps.length c/\psP ps=R/\PosOk w A ps
theorem M9 {P:List Dc} {t:List UInt8} {r:List UInt8×List Po} (j:r∈rowsD P) (h:r.1=t):r.2=valsOf (pairsD 0 P) t:=by
 have:=(((BM (pairsD 0 P)).mem r).1 j).1;rw[<-h];exact this
theorem M8 {P:List Dc} {t:List UInt8} (h:∀r∈rowsD P,r.1≠t):valsOf (pairsD 0 P) t = []:=by
 apply Decidable.byContradiction;intro j;exact h (t,valsOf (pairsD 0 P) t) (((BM (pairsD 0 P)).mem (t,valsOf (pairsD 0 P) t)).2 ⟨rfl,j⟩) rfl
theorem QN (g:Nat) (P:List Dc) (t:List UInt8) (w:World) (h:SegR w g P) (H:SegP P):Calls prog 25 #[.pointer (some ⟨g,0,none⟩),.string ⟨t.toArray⟩] w fun e w'=>∃u,e = .returned u/\kPs (valsOf (pairsD 0 P) t) u w'/\Ext w w':=(Hy g P t w h H).mono fun e w' b=>by
 obtain⟨a,⟨r,b,ht,ps,A,c,h1,rfl,h2⟩ | ⟨j,rfl⟩⟩:=b
 ·refine⟨_,rfl,⟨A,c,ps,?_,by rw[h1];exact M9 b ht,h2⟩,a⟩;rw[<-h1];unfold psP;rw[List.length_map]
 ·exact⟨_,rfl,⟨none,0,[],rfl,by rw[M8 j];rfl,PosOk.nil _ _⟩,a⟩
end
section
open Go.RowKit Go.Maps
def PsA (w:World) (t:List UInt8) (r:Option (List (List Dc))) (e:Ending) (w':World):Prop:=Ext w w'/\match r with
 | some Ps=>∃(D:List PoC) (A:Option Addr) (n c:Nat),e = .returned (.tuple #[.slice A n c,.int .i64 0])/\n=D.length/\psP D=postsV t Ps.flatten/\PosOk w' A D/\n<=1000000
 | none=>e = .returned (.tuple #[.slice none 0 0,.int .i64 330])
theorem PsA.no {t:List UInt8} {r:Option (List (List Dc))} (j:Ext w w') (h:r=none):PsA w t r (.returned (.tuple #[.slice none 0 0,.int .i64 330])) w':=by subst h;exact⟨j,rfl⟩
theorem UQ (bs:List BsC) (A:Option Addr) (n c:Nat) (t:List UInt8) (w:World) (hn:n=bs.length) (h:BssR w A bs) (m3:n<=10) (p0:∀Ps,mergeD (bs.map BsC.b)=some Ps->Ps.length<=5/\∀P∈Ps,P.length<=5000/\(blockD 0 P).length<=70000) :
 Calls prog 19 #[.string ⟨t.toArray⟩,.slice A n c] w (PsA w t (mergeD (bs.map BsC.b))):=by
 have q1:=Aa (S7 bs A n c w hn h (by omega));obtain⟨Z,hZ⟩:=Ab (mergeD (bs.map BsC.b));rw[<-hZ]at q1 p0 ⊢;have x2:=Aa QN;have k2:=Aa UU;have a2:=Aa Fh;replace p0:=Aa p0;clear hZ h hn
 go_in
 go_wp2_with fail;refine q1.out.mono ?_;rintro e w1 ⟨g0,hr⟩;cases Z with
 | none =>
  simp only at hr;subst hr;go_wp2_with fail;go_ret2;exact PsA.no g0 rfl
 | some Ps =>
  obtain⟨l,B,k,d,hl,hk,rfl,hs⟩:=hr;obtain⟨l0,t0⟩:=p0.out Ps rfl;have j3:k<=5:=by rw[hk];rw[<-hl,List.length_map]at l0;exact l0
  have x0:∀i,((Ps.take i).flatten).length<=i*5000:=fun i=>Nat.le_trans (UJ _ fun P hP=>(t0 P (List.mem_of_mem_take hP)).1) (Nat.mul_le_mul_right _ (by rw[List.length_take];omega));replace hs:=Aa hs;replace hl:=Aa hl;replace hk:=Aa hk;replace g0:=Aa g0;replace t0:=Aa t0;replace x0:=Aa x0;clear p0 q1 l0;go_wp2_with fail
  go_loopw [8,9,25] (fun s8 s9 s25 wr=>∃(i m q ah:Nat) (C:Option Addr) (D:List PoC),s8 = .slice C m q/\s9 = .int .i64 (ah:Int)/\s25 = .int .i64 (i:Int)/\i<=k/\m<=70000*i/\ah<=i*5000/\Hid (m=D.length)/\Hid (ah=((Ps.take i).flatten).length)/\Hid (psP D=postsV t (Ps.take i).flatten)/\Hid (PosOk wr C D)/\Hid (Ext w1 wr)) (fun _ _ s25 _=>k - (intOf s25).toNat)
  case atStart=>exact⟨0,0,0,0,none,[],rfl,rfl,rfl,by omega,by omega,by omega,Aa rfl,Aa rfl,Aa rfl,Aa (PosOk.nil _ _),Aa (Ext.refl _)⟩
  case round =>
   obtain⟨i,m,q,ah,C,D,rfl,rfl,rfl,hi,hm,k3,c0,a1,hD,ho,hE⟩:=hrel;by_cases q2:i<k
   ·obtain⟨x,hx⟩:∃x,l[i]? = some x:=⟨_,List.getElem?_eq_getElem (by rw[<-hk.out];exact q2)⟩
    obtain⟨x1,e0⟩:=(hs.out.ext hE.out).2 x (List.mem_of_getElem? hx);obtain⟨g,o,rfl,hc⟩:=(hs.out.ext hE.out).1.at_ (by rw[List.length_map,<-hk.out];omega);have k0:=hc i x.val (by rw[List.getElem?_map,hx];rfl);have m1:Ps[i]? = some x.2:=by rw[<-hl.out,List.getElem?_map,hx];rfl
    have n0:=UE m1;obtain⟨d2,t3⟩:=t0.out x.2 (List.mem_of_getElem? m1);have I:=x2.out x.1 x.2 t wr x1 e0;have H:=UH t (Ps.take i).flatten x.2;have m2:=UI t x.2 0;have o2:=x0.out (i+1);have O:=UG (t:=t) (F:=(Ps.take i).flatten) (by have:=x0.out i;omega);have T:=UG (t:=t) (F:=x.2) (by omega);have G:=UG (t:=t) (F:=(Ps.take (i+1)).flatten) (by omega);have v0:=UB (t:=t) (F:=x.2) (by omega);have U:=fun W (o1:Ext wr W)=>a2.out x.1 x.2 W (x1.ext o1) e0.ne e0.few;obtain⟨V,hV⟩:=Ab (postsV t x.2);rw[show valsOf (pairsD 0 x.2) t=postsV t x.2 from rfl,<-hV]at I;rw[<-hV]at H m2 T v0;rw[<-n0,<-a1.out,<-hD.out]at H;rw[H]at G;rw[<-hD.out]at O;obtain⟨xl,j0⟩:=Ab x.2.length;rw[<-j0]at d2;simp only[<-j0]at U;have y0:ah+xl=((Ps.take (i+1)).flatten).length:=by rw[n0,List.length_append,<-a1.out,j0]
    unfold Sg.val at k0;replace I:=Aa I;replace H:=Aa H;replace O:=Aa O;replace T:=Aa T;replace G:=Aa G;replace v0:=Aa v0;replace y0:=Aa y0;replace U:=Aa U;replace hV:=Aa hV;replace j0:=Aa j0;clear hc hx x1 e0 n0 m1;go_wp2_with fail;refine I.out.mono ?_;rintro e w4 ⟨u,rfl,⟨A4,c4,p4,rfl,J,o0⟩,j⟩;obtain⟨m4,Y⟩:=Ab p4.length;have h3:m4<=70000:=by rw[Y,<-Ee,J];omega
    rw[<-Y];by_cases h0:0<m4
    ·have b0:=k2.out D p4 C A4 m q m4 c4 ah w4 c0.out Y (ho.out.ext j) o0 O.out (by rw[J];exact T.out) (by omega) (by rw[J];exact G.out) (by omega) (fun y hy=>by have:=v0.out y.po (by rw[<-J];exact List.mem_map.2 ⟨y,hy,rfl⟩);have h1 : -1<y.doc:=this.1;have h2:y.doc<65536:=this.2;omega);rw[J,<-H.out]at b0;replace b0:=Aa b0;replace Y:=Aa Y;replace j:=Aa j;clear o0;go_wp2_with fail;refine b0.out.mono ?_;rintro e w5 ⟨D5,C5,n5,q5,rfl,d0,a,r0,m0⟩;have q3:n5<=m+m4:=by rw[d0,<-Ee,a,H.out,List.length_append,Ee,<-c0.out];unfold shiftP;rw[List.length_map,<-J,Ee,<-Y.out];omega
     replace d0:=Aa d0;replace a:=Aa a;replace r0:=Aa r0;replace m0:=Aa (j.out.trans m0);have k1:=Aa (U.out w5 m0.out);go_wp2_with fail;refine k1.out.mono ?_;rintro e w6 ⟨rfl,j1⟩;obtain rfl:=j1.symm;go_wp2_with fail;go_roundw
     case rel=>exact⟨i+1,n5,q5,ah+xl,C5,D5,rfl,by go_num,by go_num,by omega,by omega,by omega,d0,y0,a,r0,Aa (hE.out.trans m0.out)⟩
     case measure=>simp only[intOf];omega
    ·have f0:V = []:=by rw[<-J];exact List.eq_nil_of_length_eq_zero (by rw[Ee];omega)
     have q0:=H.out;rw[f0]at q0;have a:psP D=postsV t (Ps.take (i+1)).flatten:=by
      rw[q0];show _=_ ++ [];rw[List.append_nil]
     replace a:=Aa a;have k1:=Aa (U.out w4 j);replace Y:=Aa Y;replace j:=Aa j;clear f0 q0 o0 J;go_wp2_with fail;refine k1.out.mono ?_;rintro e w6 ⟨rfl,j1⟩;obtain rfl:=j1.symm;go_wp2_with fail;go_roundw
     case rel=>exact⟨i+1,m,q,ah+xl,C,D,rfl,by go_num,by go_num,by omega,by omega,by omega,c0,y0,a,Aa (ho.out.ext j.out),Aa (hE.out.trans j.out)⟩
     case measure=>simp only[intOf];omega
   ·have i0:psP D=postsV t Ps.flatten:=by rw[hD.out,List.take_of_length_le (by rw[<-hl.out,List.length_map,<-hk.out];omega)]
    replace i0:=Aa i0;go_wp2_with fail;go_ret2;exact⟨g0.out.trans hE.out,D,C,m,q,rfl,c0.out,i0.out,ho.out,by omega⟩
end
section
open Go.RowKit Go.Maps
def segX (P:List Dc):List UInt8:=if okDs P=true/\0<P.length then segL P else []
def segC (P:List Dc):Int:=if okDs P=true/\0<P.length then 0 else 130
def EncA (w:World) (P:List Dc) (e:Ending) (w':World):Prop:=∃(A:Option Addr) (n c:Nat),e = .returned (.tuple #[.slice A n c,.int .i64 (segC P)])/\n=(segX P).length/\Bs w' A (segX P)/\Ext w w'
theorem EncA.ok {P:List Dc} (h:okDs P=true/\0<P.length) {e:Ending} (a:OkB w (segL P) e w'):EncA w P e w':=by
 obtain⟨A,c,rfl,b,j⟩:=a;have e1:segX P=segL P:=if_pos h;have e2:segC P=0:=if_pos h;exact⟨A,_,c,by rw[e2],by rw[e1],by rw[e1];exact b.2.cells,j⟩
theorem EncA.no {P:List Dc} (h:¬ (okDs P=true/\0<P.length)) {e:Ending} (b:e = .returned (.tuple #[.slice none 0 0,.int .i64 130])/\Ext w w'):EncA w P e w':=by
 obtain⟨rfl,j⟩:=b;have e1:segX P = []:=if_neg h;have e2:segC P=130:=if_neg h;exact⟨none,0,0,by rw[e2],by rw[e1];rfl,by rw[e1];exact .inl rfl,j⟩
theorem Sw (ds:List DocC) (A:Option Addr) (m c:Nat) (w:World) (b:m=ds.length) (h:DocsOk w A ds) (H:∀a,A=some a->a.spot=none) (j:m<=c) (hs:okDs (dcs ds)=true->SmP (dcs ds)) (J:m<=1000000) :
 Calls prog 23 #[.slice A m c] w fun e w'=>EncA w (dcs ds) e w':=by
 have U:(dcs ds).length=m:=by unfold dcs;rw[List.length_map,b]
 by_cases hk:okDs (dcs ds)=true/\0<(dcs ds).length
 ·exact(CY ds A m c w b h H j (hs hk.1) (by omega)).mono fun _ _=>EncA.ok hk
 ·exact(Fe ds A m c w b h H j (by omega) (by
   by_cases Y:m=0
   ·exact .inr Y
   ·exact .inl (by
     cases e:okDs (dcs ds)with
     | false=>rfl
     | true=>exact absurd ⟨e,by omega⟩ hk))).mono fun _ _=>EncA.no hk
end
section
open Go.RowKit Go.Maps
theorem AF (A0:Option Addr) (n0 c0:Nat) (ds:List DocC) (at_ more:Int) (t:List UInt8) (w:World) (hn:n0=ds.length) (hc:n0<=c0) (h:DocsOk w A0 ds) (b5:ds ≠ []->∀a,A0=some a->a.spot=none) (ha:0<=at_/\at_<256) (hm:0<=more/\more<256) :
 Calls prog 6 #[.slice A0 n0 c0,.int .u8 at_,.int .u8 more,.string ⟨t.toArray⟩] w fun e w'=>e = .returned (.bool true)/\Ext w w':=by
 obtain⟨k0,m5⟩:=Ab (min n0 20);have k6:=AQ (P:=prog) #[3,3] 3 (x:=(n0:Int)) (y:=20) (m:=(k0:Int)) (by omega);obtain⟨A',y6,hA⟩:=Oy (n:=n0) (c:=c0) (k:=k0) (A:=A0) (by omega);have hd:=h.take (A':=A') 20 (fun p4=>hA (b5 p4));have hlen:k0=(ds.take 20).length:=by rw[List.length_take,<-hn];omega
 have f0:=NI A' c0 k0 (ds.take 20) w hlen hd;have h8:Few8 (fewD (dcs (ds.take 20))):=by
  have:=QG (P:=dcs (ds.take 20)) fun d hd=>by
   unfold dcs at hd;obtain⟨x,hx,rfl⟩:=List.mem_map.1 hd;exact(h.each x (List.mem_of_mem_take hx)).2.1
  rw[List.take_of_length_le (by unfold dcs;rw[List.length_map,<-hlen];omega)]at this;exact this
 obtain⟨PF,k5⟩:=Ab (fewD (dcs (ds.take 20)));rw[<-k5]at f0 h8;replace f0:=Aa f0;replace m5:=Aa m5;have a4:=Aa AT;clear hd hlen k5 h b5 hA hn hc
 go_in
 go_wp2_with fail;refine f0.out.mono ?_;rintro e w1 ⟨i2,l,A,c,hl,rfl,k1⟩;have v0:=k1.ok;have O:=k1.cap;have p0:=k1.own;obtain⟨n,hn⟩:=Ab l.length;rw[<-hn]at O p0 ⊢;have e3:PF.length=n:=by rw[<-hl,hn];exact List.length_map ..
 have j6:n<=25:=by rw[<-e3];exact h8.n
 replace i2:=Aa i2;by_cases hk:okDs PF=true/\0<PF.length
 ·have hS:Sm3 PF:=⟨h8,hk.1,hk.2⟩
  have f5:0<n:=by omega
  have q0:=CY l A n c w1 hn v0 O.2 O.1 (by rw[hl];exact hS.seg.sm) f5;rw[hl]at q0;obtain⟨X,hX⟩:=Ab (segL PF);obtain⟨nX,r0⟩:=Ab X.length;unfold OkB at q0;rw[<-hX,<-r0]at q0;obtain⟨g,rfl⟩:∃g,A=some ⟨g,0,none⟩:=by
   rcases p0.2 with ⟨_,h0⟩ | ⟨g,_,_,hv,_⟩
   ·omega
   ·cases hv;exact⟨g,rfl⟩
  replace q0:=Aa q0;replace v0:=Aa v0;replace p0:=Aa p0;replace hX:=Aa hX;replace hS:=Aa hS;replace hl:=Aa hl;replace hn:=Aa hn;replace e3:=Aa e3;replace r0:=Aa r0;clear hk k1 f0 p0;go_wp2_with fail;refine q0.out.mono ?_;rintro e w2 ⟨A2,c2,rfl,j,x0⟩;replace j:=Aa j.low;replace x0:=Aa x0;by_cases h3:n<3
  ·go_wp2_with fail;refine(a4.out _).mono ?_;rintro e w3 ⟨rfl,j0⟩;go_wp2_with fail;go_ret;exact⟨rfl,(i2.out.trans x0.out).trans j0⟩
  ·have x5:(0:Int)<(n:Int) - 2:=by omega
   have l4:=Int.emod_lt_of_pos at_ x5;have i4:=Int.emod_nonneg at_ (show (n:Int) - 2≠0 by omega);obtain⟨i,hi⟩:∃i:Nat,at_%((n:Int) - 2)=(i:Int) - 1:=⟨(at_%((n:Int) - 2)+1).toNat,by omega⟩
   have hi1:1<=i/\i+2<=n:=by omega
   have e1:wrap64 (1+at_%((n:Int) - 2))=(i:Int):=by unfold wrap64;omega
   replace hi:=Aa hi;replace l4:=Aa l4;replace i4:=Aa i4;have v4:(0:Int)<(n:Int) - (i:Int) - 1:=by omega
   have g4:=Int.emod_lt_of_pos more v4;have j3:=Int.emod_nonneg more (show (n:Int) - (i:Int) - 1≠0 by omega);replace g4:=Aa g4;replace j3:=Aa j3;obtain⟨k,hk⟩:∃k:Nat,more%((n:Int) - (i:Int) - 1)=(k:Int) - (i:Int) - 1:=⟨(more%((n:Int) - (i:Int) - 1)+(i:Int)+1).toNat,by have:=j3.out;omega⟩
   have x6:i<k/\k<n:=by have:=j3.out;have:=g4.out;omega
   have e2:wrap64 ((i:Int)+1+more%((n:Int) - (i:Int) - 1))=(k:Int):=by unfold wrap64;omega
   obtain⟨g5,j5⟩:=B7 (l:=l) (i:=i) (k:=k) (n:=n) (by omega) (by omega) hn.out;have d1:=v0.out.take (A':=some ⟨g,0,none⟩) i (fun _=>rfl);have d2:=v0.out.mid i (k - i);have d3:=v0.out.mid k (n - k);have d12:=v0.out.take (A':=some ⟨g,0,none⟩) k (fun _=>rfl);have l1:i=(l.take i).length:=by rw[List.length_take,<-hn.out];omega
   have l2:k - i=((l.drop i).take (k - i)).length:=by rw[List.length_take,List.length_drop,<-hn.out];omega
   have l3:n - k=((l.drop k).take (n - k)).length:=by rw[List.length_take,List.length_drop,<-hn.out];omega
   have l12:k=(l.take k).length:=by rw[List.length_take,<-hn.out];omega
   have o3:∀x:List DocC,(dcs x).length=x.length:=fun x=>List.length_map ..;have x2:∀x y:List DocC,dcs (x++y)=dcs x++dcs y:=fun x y=>List.map_append ..;have H:=F2 (F:=PF) (a:=dcs (l.take i)) (b:=dcs ((l.drop i).take (k - i))) (c:=dcs ((l.drop k).take (n - k))) hS.out (by rw[<-x2,<-x2,g5,hl.out]) (by rw[o3,<-l1];omega) (by rw[o3,<-l2];omega) (by rw[o3,<-l3];omega)
    (EV d1 l1 (by omega)) (EV d2 l2 (by omega)) (EV d3 l3 (by omega)) (by rw[<-x2,<-j5];exact EV d12 l12 (by omega)) (by rw[<-hl.out];exact EV v0.out hn.out (by omega))
   obtain⟨m2,h4⟩:=Ab (k - i);obtain⟨m3,q4⟩:=Ab (n - k);have n5:=fun W=>EB (g:=g) (n:=n) (c:=c) (k:=i) (m:=k) (by omega) (by omega) O.1 (by have:=O.1;omega) W;have o5:=fun W=>Tg (g:=g) (n:=n) (c:=c) (k:=k) (by omega) O.1 W;obtain⟨r2,y5⟩:=Ab (c - i);obtain⟨r3,z5⟩:=Ab (c - k);have e5:=O.1;have y1:=fun W (hE:Ext w1 W)=>CY (l.take i) _ i c W l1 (d1.ext hE) (fun a ha=>by cases ha;rfl) (by omega) H.oa.sm.seg.sm (by omega);have y0:=fun W (hE:Ext w1 W)=>CY ((l.drop i).take (k - i)) _ (k - i) (c - i) W l2 (d2.ext hE) (fun a ha=>by cases ha;rfl) (by omega) H.ob.sm.seg.sm (by omega);have b0:=fun W (hE:Ext w1 W)=>CY ((l.drop k).take (n - k)) _ (n - k) (c - k) W l3 (d3.ext hE) (fun a ha=>by cases ha;rfl) (by omega) H.oc.sm.seg.sm (by omega);rw[<-h4,<-y5]at n5 y0;rw[<-q4,<-z5]at o5 b0;rw[<-h4,<-q4]at H;obtain⟨P1,x4⟩:∃P,P=dcs (l.take i):=⟨_,rfl⟩
   obtain⟨P2,y4⟩:∃P,P=dcs ((l.drop i).take m2):=⟨_,rfl⟩
   obtain⟨P3,z4⟩:∃P,P=dcs ((l.drop k).take m3):=⟨_,rfl⟩
   unfold OkB at y1 y0 b0;rw[<-x4,<-y4,<-z4]at H;rw[<-x4]at y1;rw[<-y4]at y0;rw[<-z4]at b0;obtain⟨q1,t3⟩:∃q,q=(segL P1).length:=⟨_,rfl⟩
   obtain⟨q2,d4⟩:∃q,q=(segL P2).length:=⟨_,rfl⟩
   obtain⟨q3,e4⟩:∃q,q=(segL P3).length:=⟨_,rfl⟩
   rw[<-t3]at y1;rw[<-d4]at y0;rw[<-e4]at b0;replace hk:=Aa hk;replace t3:=Aa t3;replace d4:=Aa d4;replace e4:=Aa e4;replace y1:=Aa y1;replace y0:=Aa y0;replace b0:=Aa b0;replace H:=Aa H;replace h4:=Aa h4;replace q4:=Aa q4;clear g5 j5 d1 d2 d3 d12 l1 l2 l3 l12 o3 x2 y5 z5 x4 y4 z4 e5 v0 hn x5 v4 j3 g4 i4 l4;go_wp2_with fail;rw[e1,e2];replace e1:=Aa e1;replace e2:=Aa e2;refine(y1.out w2 x0.out).mono ?_;rintro e w3 ⟨A3,c3,rfl,Y,j0⟩;replace Y:=Aa Y.low;replace y0:=Aa (y0.out w3 (x0.out.trans j0));replace j:=Aa (j.out.ext j0);replace j0:=Aa (x0.out.trans j0);clear y1;go_wp2_with fail;refine y0.out.mono ?_;rintro e w4 ⟨A4,c4,rfl,J,j1⟩;replace Y:=Aa (Y.out.ext j1);replace j:=Aa (j.out.ext j1);replace J:=Aa J.low;replace b0:=Aa (b0.out w4 (j0.out.trans j1));replace j1:=Aa (j0.out.trans j1);clear y0 j0;go_wp2_with fail;refine b0.out.mono ?_;rintro e w5 ⟨A5,c5,rfl,G,x1⟩;replace Y:=Aa (Y.out.ext x1);replace J:=Aa (J.out.ext x1);replace j:=Aa (j.out.ext x1);replace G:=Aa G.low;replace x1:=Aa (j1.out.trans x1);clear b0 j1;obtain⟨W6,f3⟩:=Ab (w5.alloc (Obj.cells #[.slice A3 q1 c3,.slice A4 q2 c4,.slice A5 q3 c5] 24));have y3:Ext w5 W6:=by rw[f3];exact(Ext.refl _).alloc _
   have p4:¬ PF = []:=fun e=>by have:=hS.out.ne;rw[e]at this;simp at this
   have l0:=TK [⟨segL P1,A3,c3⟩,⟨segL P2,A4,c4⟩,⟨segL P3,A5,c5⟩] _ 3 3 (-9223372036854775808) W6 rfl (by rw[f3];exact H4 Y.out J.out G.out H.out.oa.by_ H.out.ob.by_ H.out.oc.by_ _) (by omega) (fun Ps m0 _=>by rw[show List.map BsC.b _ = [segL P1,segL P2,segL P3] from rfl,H.out.m3]at m0;rw[<-Option.some.inj m0,H.out.d3];exact hS.out.seg.sm);rw[show List.map BsC.b _ = [segL P1,segL P2,segL P3] from rfl,H.out.m3]at l0;unfold MrA at l0;simp only[H.out.d3,if_neg p4]at l0;unfold OkB at l0;rw[<-hX.out,<-r0.out]at l0;replace l0:=Aa l0;replace y3:=Aa y3;go_wp2_with fail;rw[<-f3];clear f3;refine l0.out.mono ?_;rintro e w7 ⟨A7,c7,rfl,d0,z3⟩;have e0:=y3.out.trans z3;replace Y:=Aa (Y.out.ext e0);replace J:=Aa (J.out.ext e0);replace G:=Aa (G.out.ext e0);replace j:=Aa (j.out.ext e0);replace d0:=Aa d0.low;replace z3:=Aa (x1.out.trans e0);clear l0 y3 x1 e0;obtain⟨W8,i3⟩:=Ab (w7.alloc (Obj.cells #[.slice A3 q1 c3,.slice A4 q2 c4] 24));have a3:Ext w7 W8:=by rw[i3];exact(Ext.refl _).alloc _
   have v5:¬ P1++P2 = []:=fun e=>by have:=H.out.oab.sm.ne;rw[e]at this;simp at this
   have o0:=TK [⟨segL P1,A3,c3⟩,⟨segL P2,A4,c4⟩] _ 2 2 (-9223372036854775808) W8 rfl (by rw[i3];exact Tz Y.out J.out H.out.oa.by_ H.out.ob.by_ _) (by omega) (fun Ps m0 _=>by rw[show List.map BsC.b _ = [segL P1,segL P2] from rfl,H.out.m2]at m0;rw[<-Option.some.inj m0,H.out.d2];exact H.out.oab.sm.seg.sm);rw[show List.map BsC.b _ = [segL P1,segL P2] from rfl,H.out.m2]at o0;unfold MrA at o0;simp only[H.out.d2,if_neg v5]at o0;unfold OkB at o0;obtain⟨q9,f4⟩:∃q,q=(segL (P1++P2)).length:=⟨_,rfl⟩
   rw[<-f4]at o0;replace o0:=Aa o0;replace a3:=Aa a3;replace f4:=Aa f4;go_wp2_with fail;rw[<-i3];clear i3;refine o0.out.mono ?_;rintro e w9 ⟨A9,c9,rfl,k4,b3⟩;have g0:=a3.out.trans b3;replace Y:=Aa (Y.out.ext g0);replace J:=Aa (J.out.ext g0);replace G:=Aa (G.out.ext g0);replace j:=Aa (j.out.ext g0);replace d0:=Aa (d0.out.ext g0);replace k4:=Aa k4.low;replace b3:=Aa (z3.out.trans g0);clear o0 a3 z3 g0;obtain⟨W10,k2⟩:=Ab (w9.alloc (Obj.cells #[.slice A9 q9 c9,.slice A5 q3 c5] 24));have a1:Ext w9 W10:=by rw[k2];exact(Ext.refl _).alloc _
   have Z:=TK [⟨segL (P1++P2),A9,c9⟩,⟨segL P3,A5,c5⟩] _ 2 2 (-9223372036854775808) W10 rfl (by rw[k2];exact Tz k4.out G.out H.out.oab.by_ H.out.oc.by_ _) (by omega) (fun Ps m0 _=>by rw[show List.map BsC.b _ = [segL (P1++P2),segL P3] from rfl,H.out.m1]at m0;rw[<-Option.some.inj m0,H.out.d1];exact hS.out.seg.sm);rw[show List.map BsC.b _ = [segL (P1++P2),segL P3] from rfl,H.out.m1]at Z;unfold MrA at Z;simp only[H.out.d1,if_neg p4]at Z;unfold OkB at Z;rw[<-hX.out,<-r0.out]at Z;replace Z:=Aa Z;replace a1:=Aa a1;go_wp2_with fail;rw[<-k2];clear k2;refine Z.out.mono ?_;rintro e w11 ⟨A11,c11,rfl,i0,f1⟩;have T:=a1.out.trans f1;replace Y:=Aa (Y.out.ext T);replace J:=Aa (J.out.ext T);replace G:=Aa (G.out.ext T);replace j:=Aa (j.out.ext T);replace d0:=Aa (d0.out.ext T);replace i0:=Aa i0.low;replace f1:=Aa (b3.out.trans T);have j4:=KW A2 nX c2 X w11 j.out.2.in8 (by have:=H.out.oF.by_.1;rw[<-hX.out,<-r0.out]at this;exact this) (by rw[hX.out];exact H.out.oF.by_.2);have a2:=H.out.oF.opn;rw[<-hX.out]at a2;replace j4:=Aa j4;replace a2:=Aa a2;clear Z a1 b3 T k4;go_wp2_with fail;refine j4.out.mono ?_;rintro e w12 ⟨U,hr⟩;rw[a2.out]at hr;obtain⟨gs,rfl,n4⟩:=hr;replace Y:=Aa (Y.out.ext U);replace J:=Aa (J.out.ext U);replace G:=Aa (G.out.ext U);replace j:=Aa (j.out.ext U);replace d0:=Aa (d0.out.ext U);replace i0:=Aa (i0.out.ext U);replace n4:=Aa n4;replace U:=Aa (f1.out.trans U);clear j4 f1;obtain⟨W13,j2⟩:=Ab (w12.alloc (Obj.cells #[.slice A3 q1 c3,.slice A4 q2 c4,.slice A5 q3 c5] 24));have i1:Ext w12 W13:=by rw[j2];exact(Ext.refl _).alloc _
   have m4:∀P,Opn P->P.length<=5000/\(blockD 0 P).length<=70000:=fun P h=>⟨by have:=h.sm.few.n;omega,h.sm.seg.sm.sz⟩
   have t0:=UQ [⟨segL P1,A3,c3⟩,⟨segL P2,A4,c4⟩,⟨segL P3,A5,c5⟩] _ 3 3 t W13 rfl (by rw[j2];exact H4 Y.out J.out G.out H.out.oa.by_ H.out.ob.by_ H.out.oc.by_ _) (by omega) (fun Ps m0=>by
    rw[show List.map BsC.b _ = [segL P1,segL P2,segL P3] from rfl,H.out.m3]at m0;rw[<-Option.some.inj m0];refine⟨by simp,fun P hP=>?_⟩;simp only[List.mem_cons,List.not_mem_nil,or_false]at hP;rcases hP with rfl | rfl | rfl
    ·exact m4 _ H.out.oa
    ·exact m4 _ H.out.ob
    ·exact m4 _ H.out.oc)
   rw[show List.map BsC.b _ = [segL P1,segL P2,segL P3] from rfl,H.out.m3]at t0;unfold PsA at t0;simp only[H.out.fl]at t0;replace t0:=Aa t0;replace i1:=Aa i1;clear m4;go_wp2_with fail;rw[<-j2];clear j2;refine t0.out.mono ?_;rintro e w14 ⟨o1,D,A14,n14,c14,rfl,y2,hD,b4,i5⟩;have I:=i1.out.trans o1;have m6:=CT (A:=A2) (l:=X) (w:=w14) (j.out.2.cells.ext I) nX c2 r0.out;have t6:=CT (A:=A7) (l:=X) (w:=w14) (d0.out.2.cells.ext I) nX c7 r0.out;have h6:=CT (A:=A11) (l:=X) (w:=w14) (i0.out.2.cells.ext I) nX c11 r0.out;have p3:=QN gs PF t w14 (n4.out.ext I) hS.out.seg;rw[show valsOf (pairsD 0 PF) t=postsV t PF from rfl]at p3;replace p3:=Aa p3;replace y2:=Aa y2;replace hD:=Aa hD;replace b4:=Aa b4;replace o1:=Aa (U.out.trans I);clear t0 i1 U I Y J G d0 i0 j;go_wp2_with fail;refine p3.out.mono ?_;rintro e w15 ⟨u,rfl,⟨A15,c15,p15,rfl,f2,k3⟩,h2⟩;obtain⟨n15,h1⟩:=Ab p15.length;have l5:n14=n15:=by rw[y2.out,h1,<-Ee,<-Ee,hD.out,f2]
   rw[<-h1];subst l5;have r5:=Aa (Mq D p15 A14 A15 n14 c14 c15 w15 y2.out h1 (b4.out.ext h2) k3 (hD.out.trans f2.symm) (by omega));replace h1:=Aa h1;replace f2:=Aa f2;replace k3:=Aa k3;replace h2:=Aa (o1.out.trans h2);clear p3 o1;go_wp2_with fail;refine r5.out.mono ?_;rintro e w16 ⟨rfl,q5⟩;go_wp2_with fail;refine(a4.out _).mono ?_;rintro e w17 ⟨rfl,p5⟩;go_wp2_with fail;go_ret;exact⟨rfl,((i2.out.trans h2.out).trans q5).trans p5⟩
 ·have a5:segC PF=130:=if_neg hk;have q0:=Sw l A n c w1 hn v0 O.2 O.1 (by rw[hl];exact fun hk=>h8.sm hk) (by omega);rw[hl]at q0;unfold EncA at q0;obtain⟨X,hX⟩:=Ab (segX PF);rw[a5,<-hX]at q0;replace q0:=Aa q0;clear hk v0 p0 k1 f0 a5 hX hn hl e3 O h8;go_wp2_with fail;refine q0.out.mono ?_;rintro e w2 ⟨A2,n2,c2,rfl,t5,j,x0⟩;replace t5:=Aa t5;replace j:=Aa j;replace x0:=Aa x0;go_wp2_with fail;refine(a4.out _).mono ?_;rintro e w3 ⟨rfl,j0⟩;go_wp2_with fail;go_ret;exact⟨rfl,(i2.out.trans x0.out).trans j0⟩
end
section
open Go.ChangeShapes Go.WideShapes Go.Deep Go.RowKit
section
variable {H:Type} {enc:TypeId×Value->H} {w:World} {base:Nat} {spare:Nat->Bool} {held:Bool}
theorem RY {cs:List Value} {y:DataW H×List MemPlace} (j:cs.length=2) (h:DataW.trod enc prog w base spare held fuel 91 cs=some y) :
 ∃f:Fd,(f.1.length<=9223372036854775807/\f.2.length<=9223372036854775807)/\f.cells=cs:=by
 obtain⟨n,one⟩:=IE (tys:=#[9,9]) underlying91 (by kernel_rfl) (by kernel_rfl) h
 match cs,j with
 | [v0,v1],_ =>
  obtain⟨z0,b⟩:=one 0 _ v0 rfl rfl;obtain⟨s0,e0,_,w0⟩:=DataW.trod_string underlying9 b;obtain rfl:v0 = .string s0:=by simpa using e0
  obtain⟨z1,h1⟩:=one 1 _ v1 rfl rfl;obtain⟨s1,e1,_,w1⟩:=DataW.trod_string underlying9 h1;obtain rfl:v1 = .string s1:=by simpa using e1
  refine⟨(s0.data.toList,s1.data.toList),⟨(Fp w0).2,(Fp w1).2⟩,?_⟩;unfold Fd.cells;rw[(Fp w0).1,(Fp w1).1]
theorem RX {cs:List Value} {y:DataW H×List MemPlace} (j:cs.length=2) (h:DataW.trod enc prog w base spare held fuel 69 cs=some y) :
 ∃x:EvC,(x.e.Ok w x.A/\I64ok' x.e.at_)/\x.cells=cs:=by
 obtain⟨n,one⟩:=IE (tys:=#[3,67]) underlying69 (by kernel_rfl) (by kernel_rfl) h
 match cs,j with
 | [v0,v1],_ =>
  obtain⟨z0,J⟩:=one 0 _ v0 rfl rfl;obtain⟨k0,e0,_,w0⟩:=DataW.trod_int underlying3 J;obtain rfl:v0 = .int .i64 k0:=by simpa using e0
  obtain⟨z1,h1⟩:=one 1 _ v1 rfl rfl;obtain⟨A,c,fs,rfl,U,_,_,O,Y⟩:=IF (cellsA:=Fd.cells) underlying67 (by kernel_rfl) (by omega:0<2) (fun _=>rfl) (fun _ _ _ a b=>RY a b) h1;exact⟨⟨⟨k0,fs⟩,A,c⟩,⟨⟨U,O,Y⟩,HN w0⟩,rfl⟩
end
end
section
open Go.ChangeShapes Go.WideShapes Go.Deep Go.RowKit
section
variable {H:Type} {enc:TypeId×Value->H} {w:World} {base:Nat} {spare:Nat->Bool} {held:Bool}
theorem RE {cs:List Value} {y:DataW H×List MemPlace} (U:cs.length=3) (h:DataW.trod enc prog w base spare held fuel 71 cs=some y) :
 ∃x:DocC,(x.e.Ok w x.A/\I64ok' x.e.at_/\I64ok' x.seq)/\x.cells=cs:=by
 obtain⟨y0,y1,n,_,_,Z,h1⟩:=trod_struct2 underlying71 h
 match cs,U with
 | [v0,v1,v2],_ =>
  have Y:prog.cellsOf 3=1:=by kernel_rfl
  have J:prog.cellsOf 69=2:=by kernel_rfl
  have b:DataW.trod enc prog w base spare held n 3 [v0]=some y0:=by
   have h2:=Z;simp only[Y]at h2;exact h2
  have a:DataW.trod enc prog w base spare held n 69 [v1,v2]=some y1:=by
   have h2:=h1;simp only[J]at h2;exact h2
  obtain⟨k0,e0,_,w0⟩:=DataW.trod_int underlying3 b;obtain rfl:v0 = .int .i64 k0:=by simpa using e0
  obtain⟨x,⟨O,T⟩,j⟩:=RX rfl a;refine⟨⟨k0,x.e,x.A,x.c⟩,⟨O,T,HN w0⟩,?_⟩;unfold EvC.cells at j;unfold DocC.cells;rw[<-j]
theorem QM {x:DataW H×List MemPlace} (h:DataW.trod enc prog w base spare held fuel 30 [v]=some x) :
 ∃(A:Option Addr) (c:Nat) (l:List DocC),v = .slice A l.length c/\DocsOk w A l/\l.length<=c/\l.length<=9223372036854775807/\(l ≠ []->∀a,A=some a->a.spot=none):=by
 obtain⟨A,c,l,rfl,U,hs,j,O,T⟩:=IF (cellsA:=DocC.cells) (Q:=fun x:DocC=>x.e.Ok w x.A/\I64ok' x.e.at_/\I64ok' x.seq) underlying30 (by kernel_rfl) (by omega:0<3) (fun _=>rfl) (fun _ _ _ a b=>RE a b) h;exact⟨A,c,l,rfl,⟨U,T⟩,j,O,fun Y a J=>(hs Y a J).2⟩
end
end
end Go.Proofs.YtfifdilapbeiiaaGreat
