/- Texts of one proof, joined. -/
import Derived.Test.YtfifdilapbeiiaaGreatPP15
set_option linter.unusedSimpArgs false
set_option linter.unusedVariables false
set_option maxRecDepth 100000
set_option maxHeartbeats 16000000
namespace Go.Proofs.YtfifdilapbeiiaaGreat
open _root_.Go.Proofs.Tryz
variable {bs:List (List UInt8)} {l l1 l2:List UInt8} {xs:List Value} {c c1 c2 g i k n n1 n2 q:Nat} {S:Nat → Prop} {A A1 A2:Option Addr} {v:Value} {w w' w1 w8:World}
section
open Go.RowKit Go.Maps
def rowsM:Int->List (List UInt8)->Option (List (List Dc))
 | _,[]=>some []
 | la,b::t=>match openD b with
  | none=>none
  | some P=>if la<fstD P then (rowsM (lastD 0 P) t).map (P :: ·) else none
theorem Ua:∀(bs:List (List UInt8)) (la:Int),(match opensD bs with | some Ps=>if chainD la Ps=true then some Ps else none | none=>none)=rowsM la bs
 | [],la=>rfl
 | b::t,la=>by
  unfold rowsM;cases hb:openD b with
  | none =>
   have:opensD (b::t)=none:=Tf (i:=0) rfl hb;rw[this]
  | some P =>
   have h:opensD (b::t)=(opensD t).map (P :: ·):=by
    unfold opensD;simp only[List.all_cons,hb,Option.isSome_some,Bool.true_and,List.filterMap_cons];split <;> rfl
   rw[h];simp only;rw[<-Ua t];cases opensD t with
   | none=>simp
   | some Ps =>
    show (if (decide (la<fstD P)&&chainD (lastD 0 P) Ps)=true then some (P::Ps) else none)=_;by_cases h1:la<fstD P
    ·rw[decide_eq_true h1,Bool.true_and,if_pos h1];simp only;split <;> rfl
    ·rw[decide_eq_false h1,Bool.false_and,if_neg h1];rfl
theorem T7 (bs:List (List UInt8)):mergeD bs=if bs = [] then none else rowsM 0 bs:=by
 rw[<-Ua];unfold mergeD;cases bs with
 | nil=>rfl
 | cons b t =>
  rw[if_neg (by simp)];cases h:opensD (b::t)with
  | none=>rfl
  | some Ps =>
   have H:0<Ps.length:=by
    unfold opensD at h;split at h
    ·rename_i j;injection h with h;rw[<-h];rw[List.all_cons,Bool.and_eq_true]at j;obtain⟨P,a⟩:=Option.isSome_iff_exists.1 j.1;rw[List.filterMap_cons,a];simp
    ·cases h
   simp[H]
theorem Ur {b:List UInt8} (h:bs[i]? = some b) (la:Int):rowsM la (bs.drop i)=match openD b with | none=>none | some P=>if la<fstD P then (rowsM (lastD 0 P) (bs.drop (i+1))).map (P :: ·) else none:=by
 obtain⟨hi,rfl⟩:=List.getElem?_eq_some_iff.1 h;rw[List.drop_eq_getElem_cons hi];rfl
structure DrC where
  l:List DocC
  A:Option Addr
  c:Nat
def DrC.val (x:DrC):Value:= .slice x.A x.l.length x.c
def DrC.ds (x:DrC):List Dc:=dcs x.l
def RowA (w:World) (r:Option (List (List Dc))) (e:Ending) (w':World):Prop:=Ext w w'/\match r with
 | some Ps=>∃(l:List DrC) (A:Option Addr) (n c:Nat),l.map DrC.ds=Ps/\n=l.length/\e = .returned (.tuple #[.slice A n c,.bool true])/\Cells w' A (l.map DrC.val)/\∀x∈l,DocsOk w' x.A x.l/\x.l.length<=65536
 | none=>∃v,e = .returned (.tuple #[v,.bool false])
theorem RowA.no {r:Option (List (List Dc))} (j:Ext w w') (h:r=none):RowA w r (.returned (.tuple #[v,.bool false])) w':=by subst h;exact⟨j,v,rfl⟩
theorem Uv:Elem prog 73 30 1 24:=⟨underlying73,⟨_,_,rfl,rfl,rfl,rfl,rfl⟩,by omega,by omega⟩
theorem Uq (A:Option Addr) (n c:Nat) (b:List UInt8) (w:World) (h:In8e w A n c b) (j:b.length<=60000):Calls prog 73 #[.slice A n c] w (DecA w (openD b)):=by
 rcases h with h | ⟨rfl,rfl,rfl⟩
 ·exact Sz A n c b w h j
 ·go_in
  go_wp2_with fail;go_ret2;exact DecA.no (Ext.refl _) rfl
theorem Ug (bs:List BsC) (A:Option Addr) (n c:Nat) (w:World) (hn:n=bs.length) (h:BssR w A bs) (z3:n<=1000000) :
 Calls prog 31 #[.slice A n c] w (RowA w (mergeD (bs.map BsC.b))):=by
 have n0:=T7 (bs.map BsC.b);obtain⟨Z,hZ⟩:=Ab (rowsM 0 (bs.map BsC.b));rw[<-hZ]at n0;rw[n0];obtain⟨Y,hY⟩:=Ab (if bs.map BsC.b = [] then none else Z);rw[<-hY];replace hY:=Aa hY;have m2:=Aa Uq;replace hn:=Aa hn;replace h:=Aa h;replace hZ:=Aa (show Z=(rowsM 0 ((bs.map BsC.b).drop 0)).map (fun t=> []++t)by rw[hZ,List.drop_zero];cases rowsM 0 (bs.map BsC.b) <;> rfl);clear n0
 go_in
 go_wp2_with fail
 go_loopw [4,5,6] (fun s4 s5 s6 wr=>∃(i d:Nat) (la:Int) (B:Option Addr) (l:List DrC),s4 = .slice B i d/\s5 = .int .i64 la/\s6 = .int .i64 (i:Int)/\i<=n/\Hid (l.length=i)/\Hid (Z=(rowsM la ((bs.map BsC.b).drop i)).map (fun t=>l.map DrC.ds++t))/\Hid (wr.ownsRow w.heap.size 30 1 (.slice B i d) i (l.map DrC.val))/\Hid (∀x∈l,DocsOwn wr 0 x.A x.c x.l/\x.l.length<=65536)/\Hid (Ext w wr)) (fun _ _ s6 _=>n - (intOf s6).toNat)
 case atStart=>exact⟨0,0,0,none,[],rfl,rfl,rfl,by omega,Aa rfl,hZ,Aa ⟨rfl,.inl ⟨rfl,rfl⟩⟩,Aa nofun,Aa (Ext.refl _)⟩
 case round =>
  obtain⟨i,d,la,B,l,rfl,rfl,rfl,hi,hl,hz,ho,hs,hE⟩:=hrel;by_cases x2:i<n
  ·obtain⟨x,O⟩:∃x,bs[i]? = some x:=⟨_,List.getElem?_eq_getElem (by rw[<-hn.out];exact x2)⟩
   obtain⟨f1,k1⟩:=h.out.each x (List.mem_of_getElem? O);obtain⟨g,o,rfl,hc⟩:=(h.out.cells.ext hE.out).at_ (by rw[List.length_map,<-hn.out];omega);have k0:=hc i x.val (by rw[List.getElem?_map,O];rfl);have d1:(bs.map BsC.b)[i]? = some x.b:=by rw[List.getElem?_map,O];rfl
   have T:=m2.out x.A x.b.length x.c x.b wr (f1.ext hE.out) k1;have j:=Ur d1 la;have y0:∀r,rowsM la ((bs.map BsC.b).drop i)=r->r=none->Y=none:=fun r hr h0=>by
    rw[hY.out,hz.out,hr,h0];split <;> rfl
   unfold BsC.val at k0;obtain⟨xb,xA,xc⟩:=x;simp only at k0 T k1 j;obtain⟨xn,j1⟩:=Ab xb.length;rw[<-j1]at k0 T;replace T:=Aa T;replace j1:=Aa j1;replace y0:=Aa y0;clear hc O f1 d1;cases hq:openD xb with
   | none =>
    rw[hq]at j;have f0:=Aa (y0.out _ j rfl);replace hq:=Aa hq;clear j;go_wp2_with fail;refine(T.out).mono ?_;rintro e w4 ⟨a,hr⟩;rw[hq.out]at hr;simp only at hr;subst hr;go_wp2_with fail;go_ret2;exact RowA.no (hE.out.trans a) f0.out
   | some P =>
    have hP:=SF hq k1;rw[hq]at j;simp only at j;have j2:=hP.sm.seg.n;replace hq:=Aa hq;replace j:=Aa j;go_wp2_with fail;refine(T.out).mono ?_;rintro e w4 ⟨a,hr⟩;rw[hq.out]at hr;obtain⟨l4,A4,c4,G,rfl,p0⟩:=hr;obtain⟨m,hm⟩:=Ab l4.length;have k2:P.length=m:=by rw[<-G,hm];exact List.length_map ..
    have a1:=hP.ne;obtain⟨x0,q1⟩:∃x,l4[0]? = some x:=⟨_,List.getElem?_eq_getElem (by omega)⟩
    obtain⟨xl,j0⟩:∃x,l4[m - 1]? = some x:=⟨_,List.getElem?_eq_getElem (by omega)⟩
    have r0:=C7 hm q1 j0;rw[G]at r0;obtain⟨lo,hh,nn,H⟩:=Tr a1;rw[r0]at H;injection H with _ H;injection H with _ H;injection H with e1 H;injection H with e2 _;obtain⟨g4,o4,o1,q0,_⟩:=AR p0.ok.cells q1;obtain⟨g4',o4',y1,ql,_⟩:=AR p0.ok.cells j0;subst o1;cases y1;rw[Nat.zero_mul,Nat.add_zero,e1]at q0;rw[e2]at ql;obtain⟨m1,l0⟩:=Ab (m - 1);have x3:(m:Int) - 1=(m1:Int):=by omega
    have y3:((m:Int)==0)=false:=beq_eq_false_iff_ne.2 (by omega);have k3:m1<m:=by omega
    have t3:0<m:=by omega
    rw[<-l0]at ql;rw[<-hm];obtain⟨fi,t0⟩:=Ab (fstD P);obtain⟨lx,I⟩:=Ab (lastD 0 P);rw[<-t0]at q0;rw[<-I]at ql;have J:=j.out;rw[<-t0,<-I]at J;replace J:=Aa J;have a2:m<=65536:=by omega
    replace hm:=Aa hm;replace l0:=Aa l0;replace G:=Aa G;replace p0:=Aa p0;replace t0:=Aa t0;replace I:=Aa I;replace a:=Aa a;clear r0 q1 j0 j k2 a1 j2 hP e1 e2;by_cases m3:fi<=la
    ·have f0:=Aa (y0.out _ J.out (if_neg (by omega)));go_wp2_with fail;go_ret2;exact RowA.no (hE.out.trans a.out) f0.out
    ·have d0:=hz.out;rw[J.out,if_pos (by omega)]at d0;replace d0:=Aa d0;have h1:=Aa (a.out.owns ho.out);have f2:w.heap.size<=w4.heap.size:=(hE.out.trans a.out).size;go_wp2_with (at_builtin;refine AS (us:= [.slice (some ⟨g4,o4,none⟩) m c4]) (m:=1) Uv h1.out rfl (.tmp 45) (.tmp 47) rfl rfl rfl rfl rfl (Az rfl) (by omega) f2 (fun A8 c8 w8 o0 v0 y2=>?_);replace o0:=Aa o0;replace v0:=Aa v0;clear y2);have h2:Ext w w8:=(hE.out.trans a.out).grown v0.out fun k hk=>by obtain⟨_,_,hb⟩:=Ae h1.out hk;exact hb
     have hC:Chg (fun k=>(Value.slice B i d).ownBlock=some k) w4 w8:=Chg.of_grown v0.out fun _ _ h=>h;have hk:∀g t cs,Row w4 g t cs->t=91\/t=71->0<=g->¬ (Value.slice B i d).ownBlock=some g:=fun g t cs hr ht _=>Am h1.out hr (by rcases ht with rfl | rfl <;> decide);have d2:∀x∈l ++ [(⟨l4,some ⟨g4,o4,none⟩,c4⟩:DrC)],DocsOwn w8 0 x.A x.c x.l/\x.l.length<=65536:=fun x O=>by
      rcases List.mem_append.1 O with O | O
      ·exact⟨((hs.out x O).1.ext a.out).chg hC hk,(hs.out x O).2⟩
      ·rw[List.mem_singleton.1 O];exact⟨(p0.out.lower (Nat.zero_le _)).chg hC hk,by show l4.length<=_;rw[<-hm.out];exact a2⟩
     go_roundw
     case rel=>exact⟨i+1,c8,lx,A8,l ++ [⟨l4,some ⟨g4,o4,none⟩,c4⟩],rfl,rfl,by go_num,by omega,Aa (by rw[List.length_append,hl.out];rfl),Aa (by rw[d0.out,Option.map_map,List.map_append];unfold DrC.ds;rw[show lx=lastD 0 P from I.out];congr 1;funext t;simp[G.out]),Aa (by rw[List.map_append];show World.ownsRow _ _ _ _ _ _ (_ ++ [.slice _ l4.length c4]);rw[<-hm.out];exact o0.out),Aa d2,Aa h2⟩
     case measure=>simp only[intOf];omega
  ·have g0:Z=some (l.map DrC.ds):=by
    rw[hz.out,List.drop_of_length_le (by rw[List.length_map,<-hn.out];omega)];show some (l.map DrC.ds ++ [])=_;rw[List.append_nil]
   by_cases h0:0<n
   ·have U:Y=some (l.map DrC.ds):=by
     rw[hY.out,if_neg,g0];intro e;have:=congrArg List.length e;rw[List.length_map,<-hn.out]at this;exact absurd this (by show ¬ n=0;omega)
    replace U:=Aa U;have hd:decide ((0:Int)<(n:Int))=true:=decide_eq_true (by omega);replace g0:=Aa g0;go_wp2_with fail;go_ret2;refine⟨hE.out,?_⟩;rw[U.out];exact⟨l,B,i,d,rfl,hl.out.symm,by first | rfl | (rw[hd]),Cells.of_own ho.out,fun x O=>⟨(hs.out x O).1.ok,(hs.out x O).2⟩⟩
   ·have U:Y=none:=by
     rw[hY.out,if_pos];exact List.eq_nil_of_length_eq_zero (by rw[List.length_map,<-hn.out];omega)
    replace U:=Aa U;have hd:decide ((0:Int)<(n:Int))=false:=decide_eq_false (by omega);replace g0:=Aa g0;go_wp2_with fail;go_ret2;exact RowA.no hE.out U.out
end
section
open Go.RowKit Go.Maps
theorem DI {B:Option Addr} {E:List IdE} (hn:n=E.length) (h:Cells w B (idcells E)) (hi:i<n):∃(x:IdE) (g o:Nat),E[i]? = some x/\B=some ⟨g,o,none⟩/\∀W,Ext w W->W.cell? ⟨g,o+i*2,none⟩=some (.string ⟨x.s.toArray⟩)/\W.cell? ⟨g,o+i*2+1,none⟩=some (.slice x.A x.ps.length x.c):=by
 obtain⟨x,b⟩:∃x,E[i]? = some x:=⟨_,List.getElem?_eq_getElem (by rw[<-hn];exact hi)⟩
 obtain⟨g,o,a,j⟩:=CC h b;exact⟨x,g,o,b,a,j⟩
def PosE (E:List IdE) (t:List UInt8) (w:World) (e:Ending) (w':World):Prop:=Ext w w'/\((∃x∈E,x.s=t/\e = .returned (.slice x.A x.ps.length x.c))\/((∀x∈E,x.s≠t)/\e = .returned (.slice none 0 0)))
theorem PlaP.none {E:List IdE} {t:List UInt8} (h:PlaP (idR E) t k) (J:Ris (idR E)) (hk:∀x,E[k]? = some x->x.s≠t):∀x∈E,x.s≠t:=fun x U e=>by
 obtain⟨i,hi⟩:=List.mem_iff_getElem?.1 U;have j:=Eb hi;rcases Nat.lt_trichotomy i k with Y | rfl | Y
 ·have:=h.low i _ Y j;rw[e]at this;exact absurd this (by simp)
 ·exact hk x hi e
 ·obtain⟨y,O⟩:∃y,E[k]? = some y:=⟨_,List.getElem?_eq_getElem (by have:=(List.getElem?_eq_some_iff.1 hi).1;omega)⟩
  have b:=Eb O;have h1:=h.high _ b;obtain⟨hi1,hi2⟩:=List.getElem?_eq_some_iff.1 j;obtain⟨a,H⟩:=List.getElem?_eq_some_iff.1 b;have h2:=List.pairwise_iff_getElem.1 J k i a hi1 Y;rw[hi2,H]at h2;simp only at h1 h2;rw[e]at h2;exact h1 h2
theorem Js (E:List IdE) (B:Option Addr) (n c:Nat) (t:List UInt8) (w:World) (hn:n=E.length) (h:Cells w B (idcells E)) (Z:Ris (idR E)) (I:n<=1000000000) :
 Calls prog 39 #[.slice B n c,.string ⟨t.toArray⟩] w fun e w'=>PosE E t w e w':=by
 have q0:=Aa (Fc E B n c t w hn h I);replace Z:=Aa Z;replace hn:=Aa hn;replace h:=Aa h
 go_in
 go_wp2_with fail;refine q0.out.mono ?_;rintro e w1 ⟨k,rfl,Y,H⟩;have j0:k<=n:=by have:=Y.le;rw[Dn,<-hn.out]at this;exact this
 by_cases hk:k<n
 ·obtain⟨x,g,o,G,hB,U⟩:=DI hn.out h.out hk;obtain⟨l0,l1⟩:=U w1 H;have k0:((k:Int)==n)=false:=by simp;omega
  have hm:=List.mem_of_getElem? G;have j:=Aa (fun(h0:x.s≠t)=>Y.none Z.out fun y T=>by rw[G]at T;cases T;exact h0);have b:=Aa (fun(a:x.s=t)=>show PosE E t w (.returned (.slice x.A x.ps.length x.c)) w1 from⟨H,.inl ⟨x,hm,a,rfl⟩⟩);obtain⟨xs,ps,xA,xc⟩:=x;simp only at l0 l1 j b;obtain⟨np,J⟩:=Ab ps.length;rw[<-J]at l1 b;subst hB;replace J:=Aa J;replace G:=Aa G;replace Y:=Aa Y;clear U;by_cases a:xs=t
  ·have hq:(!(xs==t))=false:=by simp[a]
   have O:=Aa (b.out a);replace a:=Aa a;clear b j;go_wp2_with fail;go_ret;exact O.out
  ·have hq:(!(xs==t))=true:=by simp[a]
   have O:=Aa (j.out a);replace a:=Aa a;clear b j;go_wp2_with fail;go_ret;exact⟨H,.inr ⟨O.out,rfl⟩⟩
 ·obtain rfl:k=n:=by omega
  have O:=Aa (Y.none Z.out fun y T=>by rw[List.getElem?_eq_none (by rw[<-hn.out];exact Nat.le_refl _)]at T;cases T);replace Y:=Aa Y;go_wp2_with fail;go_ret;exact⟨H,.inr ⟨O.out,rfl⟩⟩
end
section
open Go.RowKit Go.Maps
theorem SegRB.chg {base:Nat} {cur:Array Value} {P:List Dc} (h:SegRB base w g P) (j:Chg (fun k=>k=q) w w1) (J:Row w q 5 cur) (G:q<base):SegRB base w1 g P:=by
 obtain⟨ds,A,c,lo,hi,fi,la,B,cB,gd,gf,h1,h2,U,O,T,Y,b,cf,cc,f1,f2,f3,f4⟩:=h;have H:∀k t cs,Row w k t cs->t≠5->¬ k=q:=fun k t cs hk ht e=>Row.unlike hk J ht e;refine⟨ds,A,c,lo,hi,fi,la,B,cB,gd,gf,h1.keep (j.block _ h1.lt (H _ _ _ h1 (by decide))),h2,U,O.chg j (fun k t cs hk ht hb e=>by omega),T.chg j (fun k e=>⟨5,cur,by rw[show k=q from e];exact J,by decide,by decide⟩),Y.chg j (fun a Z e=>by have:=Y.base a Z;omega),b,cf,cc,f1.keep (j.block _ f1.lt (H _ _ _ f1 (by decide))),f2,f3.keep (j.block _ f3.lt (fun e=>by omega)),f4⟩
end
section
open Go.RowKit Go.Maps
theorem El (A B:Option Addr) (n c c2:Nat) (xs:List Int) (w:World) (hn:n=xs.length) (J:Cells w A (xs.map IV)) (U:Cells w B (xs.map IV)) (O:n<=1000000000) :
 Calls prog 41 #[.slice A n c,.slice B n c2] w fun e w'=>e = .returned (.bool true)/\Ext w w':=by
 replace hn:=Aa hn
 go_in
 go_wp2_with fail
 go_loopw [5] (fun s5 wr=>∃i:Nat,s5 = .int .i64 i/\i<=n/\Ext w wr) (fun s5 _=>n - (intOf s5).toNat)
 case atStart=>exact⟨0,rfl,by omega,Ext.refl _⟩
 case round =>
  obtain⟨i,rfl,hi,b⟩:=hrel;by_cases a:i<n
  ·have Y:i<xs.length:=by rw[<-hn.out];exact a
   obtain⟨g,o,rfl,H⟩:=J.at_ (by rw[List.length_map];omega);obtain⟨g2,o2,rfl,j⟩:=U.at_ (by rw[List.length_map];omega);obtain⟨x,h⟩:=Ab (xs[i]:Int);have k1:wr.cell? ⟨g,o+i,none⟩=some (.int .i64 x):=b.cell (H i _ (by simp[Y,h,IV]));have k2:wr.cell? ⟨g2,o2+i,none⟩=some (.int .i64 x):=b.cell (j i _ (by simp[Y,h,IV]));clear H j;replace h:=Aa h;go_wp2_with fail;refine AE (fun K T=>?_);go_wp2_with fail;refine⟨by kernel_rfl,?_⟩;go_wp2_with fail;go_roundw
   case rel=>exact⟨i+1,by go_num,by omega,b.drew⟩
   case measure=>simp[intOf];omega
  ·go_wp2_with fail;go_ret;exact⟨rfl,b⟩
end
section
open Go.RowKit
theorem Mq (ps qs:List PoC) (A B:Option Addr) (n c c2:Nat) (w:World) (hn:n=ps.length) (hm:n=qs.length) (ha:PosOk w A ps) (hb:PosOk w B qs) (Y:psP ps=psP qs) (t0:n<=1000000000) :
 Calls prog 21 #[.slice A n c,.slice B n c2] w fun e w'=>e = .returned (.bool true)/\Ext w w':=by
 replace hn:=Aa hn;replace hm:=Aa hm;replace ha:=Aa ha;replace hb:=Aa hb;replace Y:=Aa Y
 go_in
 go_wp2_with fail
 go_loopw [5] (fun s5 wr=>∃i:Nat,s5 = .int .i64 (i:Int)/\i<=n/\Hid (Ext w wr)) (fun s5 _=>n - (intOf s5).toNat)
 case atStart=>exact⟨0,rfl,by omega,Aa (Ext.refl _)⟩
 case round =>
  obtain⟨i,rfl,hi,h⟩:=hrel;by_cases G:i<n
  ·obtain⟨x,j⟩:∃x,ps[i]? = some x:=⟨_,List.getElem?_eq_getElem (by rw[<-hn.out];exact G)⟩
   obtain⟨y,hy⟩:∃y,qs[i]? = some y:=⟨_,List.getElem?_eq_getElem (by rw[<-hm.out];exact G)⟩
   have T:x.po=y.po:=by
    have h1:(psP ps)[i]? = some x.po:=by unfold psP;rw[List.getElem?_map,j];rfl
    have h2:(psP qs)[i]? = some y.po:=by unfold psP;rw[List.getElem?_map,hy];rfl
    rw[Y.out,h2]at h1;exact(Option.some.inj h1).symm
   obtain⟨O,U⟩:=ha.out.each x (List.mem_of_getElem? j);obtain⟨Z,_⟩:=hb.out.each y (List.mem_of_getElem? hy);obtain⟨g,o,hA,a0,a1⟩:=Bc ha.out.cells j;obtain⟨g2,o2,hB,b0,b1⟩:=Bc hb.out.cells hy;obtain⟨d,p,xA,xc⟩:=x;obtain⟨d2,p2,yA,yc⟩:=y;unfold PoC.po at T;simp only at T O Z U a0 a1 b0 b1;injection T with e1 e2;subst e1 e2;obtain⟨m,b⟩:=Ab p.length;rw[<-b]at a1 b1 U;have I:=fun W (h:Ext w W)=>El xA yA m xc yc p W b (O.ext h) (Z.ext h) U;have H:wr.cell? ⟨g,o+i*2,none⟩=some (.int .i64 d)/\wr.cell? ⟨g,o+i*2+1,none⟩=some (.slice xA m xc)/\wr.cell? ⟨g2,o2+i*2,none⟩=some (.int .i64 d)/\wr.cell? ⟨g2,o2+i*2+1,none⟩=some (.slice yA m yc)/\Ext w wr:=⟨h.out.cell a0,h.out.cell a1,h.out.cell b0,h.out.cell b1,h.out⟩
   have a:wr.drew.cell? ⟨g,o+i*2,none⟩=some (.int .i64 d)/\wr.drew.cell? ⟨g,o+i*2+1,none⟩=some (.slice xA m xc)/\wr.drew.cell? ⟨g2,o2+i*2,none⟩=some (.int .i64 d)/\wr.drew.cell? ⟨g2,o2+i*2+1,none⟩=some (.slice yA m yc)/\Ext w wr.drew:=⟨h.out.drew.cell a0,h.out.drew.cell a1,h.out.drew.cell b0,h.out.drew.cell b1,h.out.drew⟩
   have J:∀x,x.cell? ⟨g,o+i*2,none⟩=some (.int .i64 d)/\x.cell? ⟨g,o+i*2+1,none⟩=some (.slice xA m xc)/\x.cell? ⟨g2,o2+i*2,none⟩=some (.int .i64 d)/\x.cell? ⟨g2,o2+i*2+1,none⟩=some (.slice yA m yc)/\Ext w x->Calls prog 41 #[.slice xA m xc,.slice yA m yc] x fun e w'=>e = .returned (.bool true)/\(w'.cell? ⟨g,o+i*2,none⟩=some (.int .i64 d)/\w'.cell? ⟨g,o+i*2+1,none⟩=some (.slice xA m xc)/\w'.cell? ⟨g2,o2+i*2,none⟩=some (.int .i64 d)/\w'.cell? ⟨g2,o2+i*2+1,none⟩=some (.slice yA m yc)/\Ext w w'):=fun x j=>(I x j.2.2.2.2).mono (by
    rintro e w' ⟨rfl,h1⟩;exact⟨rfl,h1.cell j.1,h1.cell j.2.1,h1.cell j.2.2.1,h1.cell j.2.2.2.1,j.2.2.2.2.trans h1⟩)
   subst hA hB;replace J:=Aa J;replace a:=Aa a;replace H:=Aa H;replace b:=Aa b;clear I j hy a0 a1 b0 b1 O Z;go_wp2_with fail
   go_cut [41] (fun s41 wy=>s41 = .bool false/\Hid (Ext w wy))
   case first =>
    go_region_held3 (fun x=>x.cell? ⟨g,o+i*2,none⟩=some (.int .i64 d)/\x.cell? ⟨g,o+i*2+1,none⟩=some (.slice xA m xc)/\x.cell? ⟨g2,o2+i*2,none⟩=some (.int .i64 d)/\x.cell? ⟨g2,o2+i*2+1,none⟩=some (.slice yA m yc)/\Ext w x) (first | exact a.out | exact H.out | exact ‹_›) (first | (go_at_call 41;refine(J.out _ ‹_›).mono ?_;rintro e w3 ⟨rfl,k0⟩))
    all_goals
     go_wp2_with fail
     go_meet
     case rel=>exact⟨rfl,Aa k0.2.2.2.2⟩
   case rest =>
    obtain⟨rfl,p0⟩:=hcut;go_wp2_with fail;go_roundw
    case rel=>exact⟨i+1,by go_num,by omega,p0⟩
    case measure=>simp only[intOf];omega
  ·obtain rfl:i=n:=by omega
   go_wp2_with fail;go_ret;exact⟨rfl,h.out⟩
end
section
open Go.RowKit Go.Maps
def kPs (R:List Po) (v:Value) (w:World):Prop:=∃(A:Option Addr) (c:Nat) (ps:List PoC),v = .slice A ps.length c/\psP ps=R/\PosOk w A ps
theorem M9 {P:List Dc} {t:List UInt8} {r:List UInt8×List Po} (j:r∈rowsD P) (h:r.1=t):r.2=valsOf (pairsD 0 P) t:=by
 have:=(((BM (pairsD 0 P)).mem r).1 j).1;rw[<-h];exact this
theorem M8 {P:List Dc} {t:List UInt8} (h:∀r∈rowsD P,r.1≠t):valsOf (pairsD 0 P) t = []:=by
 apply Decidable.byContradiction;intro j;exact h (t,valsOf (pairsD 0 P) t) (((BM (pairsD 0 P)).mem (t,valsOf (pairsD 0 P) t)).2 ⟨rfl,j⟩) rfl
theorem QN (g:Nat) (P:List Dc) (t:List UInt8) (w:World) (h:SegR w g P) (H:SegP P):Calls prog 25 #[.pointer (some ⟨g,0,none⟩),.string ⟨t.toArray⟩] w fun e w'=>∃u,e = .returned u/\kPs (valsOf (pairsD 0 P) t) u w'/\Ext w w':=(Hy g P t w h H).mono fun e w' b=>by
 obtain⟨a,⟨r,b,ht,ps,A,c,h1,rfl,h2⟩ | ⟨j,rfl⟩⟩:=b
 ·refine⟨_,rfl,⟨A,c,ps,?_,by rw[h1];exact M9 b ht,h2⟩,a⟩;rw[<-h1];unfold psP;rw[List.length_map]
 ·exact⟨_,rfl,⟨none,0,[],rfl,by rw[M8 j];rfl,PosOk.nil _ _⟩,a⟩
end
section
open Go.RowKit Go.Maps
def PsA (w:World) (t:List UInt8) (r:Option (List (List Dc))) (e:Ending) (w':World):Prop:=Ext w w'/\match r with
 | some Ps=>∃(D:List PoC) (A:Option Addr) (n c:Nat),e = .returned (.tuple #[.slice A n c,.int .i64 0])/\n=D.length/\psP D=postsV t Ps.flatten/\PosOk w' A D/\n<=1000000
 | none=>e = .returned (.tuple #[.slice none 0 0,.int .i64 330])
theorem PsA.no {t:List UInt8} {r:Option (List (List Dc))} (j:Ext w w') (h:r=none):PsA w t r (.returned (.tuple #[.slice none 0 0,.int .i64 330])) w':=by subst h;exact⟨j,rfl⟩
theorem UQ (bs:List BsC) (A:Option Addr) (n c:Nat) (t:List UInt8) (w:World) (hn:n=bs.length) (h:BssR w A bs) (x3:n<=10) (p0:∀Ps,mergeD (bs.map BsC.b)=some Ps->Ps.length<=5/\∀P∈Ps,P.length<=5000/\(blockD 0 P).length<=5000) :
 Calls prog 19 #[.string ⟨t.toArray⟩,.slice A n c] w (PsA w t (mergeD (bs.map BsC.b))):=by
 have k1:=Aa (S7 bs A n c w hn h (by omega));obtain⟨Z,hZ⟩:=Ab (mergeD (bs.map BsC.b));rw[<-hZ]at k1 p0 ⊢;have a2:=Aa QN;have m2:=Aa UU;have f2:=Aa Fh;replace p0:=Aa p0;clear hZ h hn
 go_in
 go_wp2_with fail;refine k1.out.mono ?_;rintro e w1 ⟨g0,hr⟩;cases Z with
 | none =>
  simp only at hr;subst hr;go_wp2_with fail;go_ret2;exact PsA.no g0 rfl
 | some Ps =>
  obtain⟨l,B,k,d,hl,hk,rfl,hs⟩:=hr;obtain⟨n0,t0⟩:=p0.out Ps rfl;have t3:k<=5:=by rw[hk];rw[<-hl,List.length_map]at n0;exact n0
  have x0:∀i,((Ps.take i).flatten).length<=i*5000:=fun i=>Nat.le_trans (UJ _ fun P hP=>(t0 P (List.mem_of_mem_take hP)).1) (Nat.mul_le_mul_right _ (by rw[List.length_take];omega));replace hs:=Aa hs;replace hl:=Aa hl;replace hk:=Aa hk;replace g0:=Aa g0;replace t0:=Aa t0;replace x0:=Aa x0;clear p0 k1 n0;go_wp2_with fail
  go_loopw [8,9,25] (fun s8 s9 s25 wr=>∃(i m q ah:Nat) (C:Option Addr) (D:List PoC),s8 = .slice C m q/\s9 = .int .i64 (ah:Int)/\s25 = .int .i64 (i:Int)/\i<=k/\m<=i*5000/\ah<=i*5000/\Hid (m=D.length)/\Hid (ah=((Ps.take i).flatten).length)/\Hid (psP D=postsV t (Ps.take i).flatten)/\Hid (PosOk wr C D)/\Hid (Ext w1 wr)) (fun _ _ s25 _=>k - (intOf s25).toNat)
  case atStart=>exact⟨0,0,0,0,none,[],rfl,rfl,rfl,by omega,by omega,by omega,Aa rfl,Aa rfl,Aa rfl,Aa (PosOk.nil _ _),Aa (Ext.refl _)⟩
  case round =>
   obtain⟨i,m,q,ah,C,D,rfl,rfl,rfl,hi,hm,m3,d0,d1,hD,ho,hE⟩:=hrel;by_cases j2:i<k
   ·obtain⟨x,hx⟩:∃x,l[i]? = some x:=⟨_,List.getElem?_eq_getElem (by rw[<-hk.out];exact j2)⟩
    obtain⟨y1,f0⟩:=(hs.out.ext hE.out).2 x (List.mem_of_getElem? hx);obtain⟨g,o,rfl,hc⟩:=(hs.out.ext hE.out).1.at_ (by rw[List.length_map,<-hk.out];omega);have k0:=hc i x.val (by rw[List.getElem?_map,hx];rfl);have x1:Ps[i]? = some x.2:=by rw[<-hl.out,List.getElem?_map,hx];rfl
    have o0:=UE x1;obtain⟨i2,y3⟩:=t0.out x.2 (List.mem_of_getElem? x1);have I:=a2.out x.1 x.2 t wr y1 f0;have H:=UH t (Ps.take i).flatten x.2;have y2:=UI t x.2 0;have q3:=x0.out (i+1);have O:=UG (t:=t) (F:=(Ps.take i).flatten) (by have:=x0.out i;omega);have T:=UG (t:=t) (F:=x.2) (by omega);have G:=UG (t:=t) (F:=(Ps.take (i+1)).flatten) (by omega);have v0:=UB (t:=t) (F:=x.2) (by omega);have U:=fun W (k2:Ext wr W)=>f2.out x.1 x.2 W (y1.ext k2) f0.ne f0.few;obtain⟨V,hV⟩:=Ab (postsV t x.2);rw[show valsOf (pairsD 0 x.2) t=postsV t x.2 from rfl,<-hV]at I;rw[<-hV]at H y2 T v0;rw[<-o0,<-d1.out,<-hD.out]at H;rw[H]at G;rw[<-hD.out]at O;obtain⟨xl,j0⟩:=Ab x.2.length;rw[<-j0]at i2;simp only[<-j0]at U;have y0:ah+xl=((Ps.take (i+1)).flatten).length:=by rw[o0,List.length_append,<-d1.out,j0]
    unfold Sg.val at k0;replace I:=Aa I;replace H:=Aa H;replace O:=Aa O;replace T:=Aa T;replace G:=Aa G;replace v0:=Aa v0;replace y0:=Aa y0;replace U:=Aa U;replace hV:=Aa hV;replace j0:=Aa j0;clear hc hx y1 f0 o0 x1;go_wp2_with fail;refine I.out.mono ?_;rintro e w4 ⟨u,rfl,⟨A4,c4,p4,rfl,J,r0⟩,j⟩;obtain⟨m4,Y⟩:=Ab p4.length;have p3:m4<=5000:=by rw[Y,<-Ee,J];omega
    rw[<-Y];by_cases h0:0<m4
    ·have c0:=m2.out D p4 C A4 m q m4 c4 ah w4 d0.out Y (ho.out.ext j) r0 O.out (by rw[J];exact T.out) (by omega) (by rw[J];exact G.out) (by omega) (fun y hy=>by have:=v0.out y.po (by rw[<-J];exact List.mem_map.2 ⟨y,hy,rfl⟩);have h1 : -1<y.doc:=this.1;have h2:y.doc<65536:=this.2;omega);rw[J,<-H.out]at c0;replace c0:=Aa c0;replace Y:=Aa Y;replace j:=Aa j;clear r0;go_wp2_with fail;refine c0.out.mono ?_;rintro e w5 ⟨D5,C5,n5,q5,rfl,e0,a,q1,m0⟩;have k3:n5<=m+m4:=by rw[e0,<-Ee,a,H.out,List.length_append,Ee,<-d0.out];unfold shiftP;rw[List.length_map,<-J,Ee,<-Y.out];omega
     replace e0:=Aa e0;replace a:=Aa a;replace q1:=Aa q1;replace m0:=Aa (j.out.trans m0);have j1:=Aa (U.out w5 m0.out);go_wp2_with fail;refine j1.out.mono ?_;rintro e w6 ⟨rfl,m1⟩;obtain rfl:=m1.symm;go_wp2_with fail;go_roundw
     case rel=>exact⟨i+1,n5,q5,ah+xl,C5,D5,rfl,by go_num,by go_num,by omega,by omega,by omega,e0,y0,a,q1,Aa (hE.out.trans m0.out)⟩
     case measure=>simp only[intOf];omega
    ·have i0:V = []:=by rw[<-J];exact List.eq_nil_of_length_eq_zero (by rw[Ee];omega)
     have q0:=H.out;rw[i0]at q0;have a:psP D=postsV t (Ps.take (i+1)).flatten:=by
      rw[q0];show _=_ ++ [];rw[List.append_nil]
     replace a:=Aa a;have j1:=Aa (U.out w4 j);replace Y:=Aa Y;replace j:=Aa j;clear i0 q0 r0 J;go_wp2_with fail;refine j1.out.mono ?_;rintro e w6 ⟨rfl,m1⟩;obtain rfl:=m1.symm;go_wp2_with fail;go_roundw
     case rel=>exact⟨i+1,m,q,ah+xl,C,D,rfl,by go_num,by go_num,by omega,by omega,by omega,d0,y0,a,Aa (ho.out.ext j.out),Aa (hE.out.trans j.out)⟩
     case measure=>simp only[intOf];omega
   ·have l0:psP D=postsV t Ps.flatten:=by rw[hD.out,List.take_of_length_le (by rw[<-hl.out,List.length_map,<-hk.out];omega)]
    replace l0:=Aa l0;go_wp2_with fail;go_ret2;exact⟨g0.out.trans hE.out,D,C,m,q,rfl,d0.out,l0.out,ho.out,by omega⟩
end
section
open Go.RowKit Go.Maps
theorem UR (E:List IdE) (B:Option Addr) (n c base:Nat) (P:List Dc) (t:List UInt8) (w:World) (h:RowsO base w B n c E (pairsD 0 P)) (hn:n<=1000000000) :
 Calls prog 39 #[.slice B n c,.string ⟨t.toArray⟩] w fun e w'=>∃(ps:List PoC) (A:Option Addr) (q:Nat),e = .returned (.slice A ps.length q)/\psP ps=postsV t P/\Cells w' A (pcells ps)/\(∀y∈ps,posAt 0 w' y)/\(∀a,A=some a->base<=a.block/\a.block<w'.heap.size)/\Ext w w':=by
 have j:idR E=rowsD P:=h.rows;refine(Js E B n c t w h.len (Cells.of_own h.own) (by rw[j];exact Jx P) hn).mono fun e w' H=>?_;obtain⟨Y,⟨x,b,ht,rfl⟩ | ⟨J,rfl⟩⟩:=H
 ·have T:x.rw'∈rowsD P:=by rw[<-j];exact List.mem_map.2 ⟨x,b,rfl⟩
  exact⟨x.ps,x.A,x.c,rfl,M9 (r:=x.rw') T ht,(Cells.of_own (h.each x b)).ext Y,fun y U=>⟨(h.pos x b y U).1.ext Y,(h.pos x b y U).2⟩,fun a O=>by
   obtain⟨cs,H,hb⟩:=Ae (h.each x b) (show (Value.slice x.A x.ps.length x.c).ownBlock=some a.block by rw[O];rfl);exact⟨hb,Nat.lt_of_lt_of_le H.lt Y.size⟩,Y⟩
 ·refine⟨[],none,0,rfl,?_,.inl rfl,nofun,nofun,Y⟩;show []=valsOf (pairsD 0 P) t;rw[M8];intro r H e;rw[<-j]at H;obtain⟨x,b,rfl⟩:=List.mem_map.1 H;exact J x b e
theorem UM {base i q:Nat} {C:Option Addr} {y:PoC} (h:posAt 0 w y) (H:w.ownsRow base 89 2 (.slice C i q) i xs) (b:w.grownBy w8 (Value.slice C i q).ownBlock):posAt 0 w8 y :=
 ⟨h.1.chg (Chg.of_grown b fun _ _ h=>h:Chg (fun k=>(Value.slice C i q).ownBlock=some k) w w8) fun a j hs=>by
  obtain⟨cs,Y,_⟩:=Ae H hs;exact h.1.unlike Y (by decide) a j rfl,h.2⟩
theorem UO (k:Int) (l:List Po) (j:Nat) {p:Po} (h:l[j]? = some p):shiftP k (l.take (j+1))=shiftP k (l.take j) ++ [(p.1+k,p.2)]:=by
 unfold shiftP;rw[List.take_add_one,h,List.map_append];rfl
theorem UK (bs:List BsC) (A:Option Addr) (n c:Nat) (t:List UInt8) (w:World) (hn:n=bs.length) (h:BssR w A bs) (r4:n<=10) (t0:∀Ps,mergeD (bs.map BsC.b)=some Ps->Ps.length<=5/\∀P∈Ps,P.length<=5000/\(blockD 0 P).length<=5000) :
 Calls prog 20 #[.string ⟨t.toArray⟩,.slice A n c] w (PsA w t (mergeD (bs.map BsC.b))):=by
 have h3:=Aa (Ug bs A n c w hn h (by omega));obtain⟨Z,hZ⟩:=Ab (mergeD (bs.map BsC.b));rw[<-hZ]at h3 t0 ⊢;have m4:=Aa UR;have t4:=Aa IS;replace t0:=Aa t0;clear hZ h hn
 go_in
 go_wp2_with fail;refine h3.out.mono ?_;rintro e w1 ⟨d0,hr⟩;cases Z with
 | none =>
  obtain⟨v,rfl⟩:=hr;go_wp2_with fail;go_ret2;exact PsA.no d0 rfl
 | some Ps =>
  obtain⟨l,B,k,d,hl,hk,rfl,q2,k2⟩:=hr;obtain⟨o1,i0⟩:=t0.out Ps rfl;have l4:k<=5:=by rw[hk];rw[<-hl,List.length_map]at o1;exact o1
  have j2:∀i,((Ps.take i).flatten).length<=i*5000:=fun i=>Nat.le_trans (UJ _ fun P hP=>(i0 P (List.mem_of_mem_take hP)).1) (Nat.mul_le_mul_right _ (by rw[List.length_take];omega));replace q2:=Aa q2;replace k2:=Aa k2;replace hl:=Aa hl;replace hk:=Aa hk;replace d0:=Aa d0;replace i0:=Aa i0;replace j2:=Aa j2;clear t0 h3 o1;go_wp2_with fail
  go_loopw [8,9,10] (fun s8 s9 s10 wr=>∃(i m q ah:Nat) (C:Option Addr) (D:List PoC),s8 = .slice C m q/\s9 = .int .i64 (ah:Int)/\s10 = .int .i64 (i:Int)/\i<=k/\m<=i*5000/\ah<=i*5000/\Hid (ah=((Ps.take i).flatten).length)/\Hid (psP D=postsV t (Ps.take i).flatten)/\Hid (m=D.length)/\Hid (wr.ownsRow w1.heap.size 89 2 (.slice C m q) m (pcells D))/\Hid (∀y∈D,posAt 0 wr y)/\Hid (Ext w1 wr)) (fun _ _ s10 _=>k - (intOf s10).toNat)
  case atStart=>exact⟨0,0,0,0,none,[],rfl,rfl,rfl,by omega,by omega,by omega,Aa rfl,Aa rfl,Aa rfl,Aa ⟨rfl,.inl ⟨rfl,rfl⟩⟩,Aa nofun,Aa (Ext.refl _)⟩
  case round =>
   obtain⟨i,m,q,ah,C,D,rfl,rfl,rfl,hi,hm,f4,m3,hD,h0,ho,J,hE⟩:=hrel;by_cases j4:i<k
   ·obtain⟨x,hx⟩:∃x,l[i]? = some x:=⟨_,List.getElem?_eq_getElem (by rw[<-hk.out];exact j4)⟩
    obtain⟨k3,_⟩:=k2.out x (List.mem_of_getElem? hx);obtain⟨g,o,rfl,hc⟩:=q2.out.at_ (by rw[List.length_map,<-hk.out];omega);have k00:=hc i x.val (by rw[List.getElem?_map,hx];rfl);have q3:Ps[i]? = some x.ds:=by rw[<-hl.out,List.getElem?_map,hx];rfl
    have x2:=UE q3;obtain⟨k1,p3⟩:=i0.out x.ds (List.mem_of_getElem? q3);have U:=UH t (Ps.take i).flatten x.ds;have e3:=UI t x.ds 0;have a4:=j2.out (i+1);have n0:=UB (t:=t) (F:=x.ds) (by omega);unfold DrC.val at k00;obtain⟨xl,xA,xc⟩:=x;have f3:xl.length<=5000:=by unfold DrC.ds dcs at k1;rw[List.length_map]at k1;exact k1
    obtain⟨xn,c0⟩:=Ab xl.length;simp only at k00 k3;rw[<-c0]at k00 f3;have r0:=t4.out xl xA xn xc wr c0 (k3.ext hE.out) (by omega) (Nat.le_trans (G4 _ 0 0) (by show (blockD 0 (dcs xl)).length<=_;have:(blockD 0 (dcs xl)).length<=5000:=p3;omega));obtain⟨V,hV⟩:=Ab (postsV t (DrC.ds ⟨xl,xA,xc⟩));rw[<-hV]at U e3 n0;rw[<-x2,<-m3.out,<-hD.out]at U;have h5:(pairsD 0 (dcs xl)).length<=5000:=Nat.le_trans (G4 _ 0 0) p3;have t3:=Aa (UB (t:=t) (F:=(Ps.take (i+1)).flatten) (by omega));have m2:ah+xn=((Ps.take (i+1)).flatten).length:=by rw[x2,List.length_append,<-m3.out,c0];unfold DrC.ds dcs;rw[List.length_map]
    have k0:=hE.out.cell k00;replace r0:=Aa r0;replace U:=Aa U;replace n0:=Aa n0;replace m2:=Aa m2;replace hV:=Aa hV;replace c0:=Aa c0;replace k00:=Aa k00;have p4:V.length<=5000:=by omega
    clear hc hx k3 x2 q3 k1 p3 e3;go_wp2_with fail;refine r0.out.mono ?_;rintro e w4 ⟨E4,B4,n4,c4,rfl,o0,e0⟩;have z3:n4<=1000000000:=by
     have e1:(idR E4).length=E4.length:=List.length_map ..;have e2:=EX (pairsD 0 (dcs xl));rw[o0.len,<-e1,o0.rows];omega
    have y0:=m4.out E4 B4 n4 c4 wr.heap.size _ t w4 o0 z3;rw[show postsV t (dcs xl)=V from hV.out.symm]at y0;replace y0:=Aa y0;replace e0:=Aa e0;clear o0;go_wp2_with fail;refine y0.out.mono ?_;rintro e w5 ⟨p5,A5,q5,rfl,x0,T,O,h2,i1⟩;have j0:=hE.out.trans (e0.out.trans i1);have g0:=e0.out.trans i1;obtain⟨m5,I⟩:=Ab p5.length;have b4:m5<=5000:=by rw[I,<-Ee,x0];exact p4
    rw[<-I];have j3:=Aa (show psP D=postsV t (Ps.take i).flatten++shiftP ah (V.take 0)by rw[hD.out];exact(List.append_nil _).symm);have a3:=Aa (g0.owns ho.out);have a1:=Aa (show ∀y∈D,posAt 0 w5 y from fun y Y=>⟨(J.out y Y).1.ext g0,(J.out y Y).2⟩);replace j0:=Aa j0;replace x0:=Aa x0;replace T:=Aa T;replace O:=Aa O;replace I:=Aa I;have v0:=Aa (show ∀k,(Value.slice C m q).ownBlock=some k->k<wr.heap.size\/w5.heap.size<=k from fun k hk=>by obtain⟨_,hr,_⟩:=Ae ho.out hk;exact .inl hr.lt);replace h2:=Aa h2;obtain⟨wo,rfl⟩:=Ab wr;rw[hD.out]at U;clear hD ho J g0 y0 r0 i1;go_wp2_with fail
    go_loopw [8,12] (fun s8 s12 wi=>∃(j m' q:Nat) (C:Option Addr) (D:List PoC),s8 = .slice C m' q/\s12 = .int .i64 (j:Int)/\j<=m5/\m'<=m+j/\Hid (psP D=postsV t (Ps.take i).flatten++shiftP ah (V.take j))/\Hid (m'=D.length)/\Hid (wi.ownsRow w1.heap.size 89 2 (.slice C m' q) m' (pcells D))/\Hid (∀y∈D,posAt 0 wi y)/\Hid (∀y∈p5,posAt 0 wi y)/\Hid (Cells wi A5 (pcells p5))/\Hid (∀k,(Value.slice C m' q).ownBlock=some k->k<wo.heap.size\/w5.heap.size<=k)/\Hid (w5.heap.size<=wi.heap.size)/\Hid (Ext w1 wi)) (fun _ s12 _=>m5 - (intOf s12).toNat)
    case atStart=>exact⟨0,m,q,C,D,rfl,rfl,by omega,by omega,j3,h0,a3,a1,O,T,v0,Aa (Nat.le_refl _),j0⟩
    case round =>
     clear j3 h0 a3 a1 O T v0;obtain⟨j,m',q,C,D,rfl,rfl,hj,o4,hD,h0,ho,J,O,T,v0,d1,f0⟩:=hrel;have k0:=f0.out.cell k00.out;by_cases g4:j<m5
     ·obtain⟨y,Y⟩:∃y,p5[j]? = some y:=⟨_,List.getElem?_eq_getElem (by rw[<-I.out];exact g4)⟩
      obtain⟨gy,oy,rfl,q0,q1⟩:=Bc T.out Y;have m1:=O.out y (List.mem_of_getElem? Y);have j1:V[j]? = some y.po:=by rw[<-x0.out];unfold psP;rw[List.getElem?_map,Y];rfl
      have p0:=UO (ah:Int) V j j1;have i3:=n0.out y.po (List.mem_of_getElem? j1);obtain⟨yd,yp,yA,yc⟩:=y;unfold PoC.po at p0 i3;simp only at q0 q1 p0 i3 m1;obtain⟨yn,x1⟩:=Ab yp.length;rw[<-x1]at q1;obtain⟨dd,x3⟩:∃dd,yd+(ah:Int)=dd:=⟨_,rfl⟩
      rw[x3]at p0;have i4 : -1<dd/\dd<65536:=t3.out (dd,yp) (by rw[U.out];exact List.mem_append_right _ (List.mem_map.2 ⟨(yd,yp),List.mem_of_getElem? j1,by rw[<-x3]⟩));have k5:IntKind.i64.wrap dd=dd:=by rw[IntKind.wrap_i64];omega
      replace p0:=Aa p0;replace x1:=Aa x1;replace m1:=Aa m1;clear Y j1;go_wp2_with fail;refine AE (fun K hK=>?_);go_wp2_with fail;refine⟨by kernel_rfl,?_⟩;obtain⟨W9,l0⟩:=Ab ((wr.alloc (Obj.cells #[.int .i64 dd,.slice yA yn yc] 89)).drew);have H:Ext wr W9:=by rw[l0];exact((Ext.refl wr).alloc _).drew
      have r9:Row W9 wr.heap.size 89 #[.int .i64 dd,.slice yA yn yc]:=by rw[l0];exact Row.new wr _ _
      obtain⟨gq,y2⟩:=Ab wr.heap.size;rw[<-y2]at r9;have z0:=r9.cell 0 rfl;have z1:=r9.cell 1 rfl;have k9:=H.cell k0;have o2:=Aa (H.owns ho.out);have v4:w1.heap.size<=W9.heap.size:=(f0.out.trans H).size;rw[<-l0,<-y2];replace H:=Aa H;clear l0 y2 r9;go_wp2_with (at_builtin;refine AS (us:= [.int .i64 dd,.slice yA yn yc]) (m:=1) Pb o2.out rfl (.tmp 56) (.tmp 58) rfl rfl rfl rfl rfl (Az rfl) (by omega) v4 (fun A8 c8 w8 i2 G d2=>?_);replace i2:=Aa i2;replace G:=Aa G;replace d2:=Aa d2);have q4:Ext w1 w8:=(f0.out.trans H.out).grown G.out fun k hk=>by obtain⟨_,_,hb⟩:=Ae o2.out hk;exact hb
      have a2:∀y,posAt 0 wr y->posAt 0 w8 y:=fun y Y=>UM ⟨Y.1.ext H.out,Y.2⟩ o2.out G.out;have d3:∀y∈D ++ [(⟨dd,yp,yA,yc⟩:PoC)],posAt 0 w8 y:=fun y Y=>by
       rcases List.mem_append.1 Y with Y | Y
       ·exact a2 y (J.out y Y)
       ·rw[List.mem_singleton.1 Y];exact a2 ⟨yd,yp,yA,yc⟩ m1.out
      have b3:∀k,(Value.slice A8 (m'+1) c8).ownBlock=some k->k<wo.heap.size\/w5.heap.size<=k:=fun k hk=>by
       rcases d2.out with h | h
       ·exact v0.out k (h.symm.trans hk)
       ·have:=h.symm.trans hk;injection this with this;have:=H.out.size;have:=d1.out;omega
      have k4:Cells w8 (some ⟨gy,oy,none⟩) (pcells p5):=(Chg.of_grown G.out fun _ _ h=>h:Chg (fun k=>(Value.slice C m' q).ownBlock=some k) W9 w8).cells (T.out.ext H.out) fun a ha hs=>by
       have h1:=h2.out a ha;rcases v0.out _ hs with h | h <;> omega
      go_roundw
      case rel=>exact⟨j+1,m'+1,c8,A8,D ++ [⟨dd,yp,yA,yc⟩],rfl,by go_num,by omega,by omega,Aa (by rw[Kw,hD.out,p0.out,List.append_assoc];rfl),Aa (by rw[List.length_append,<-h0.out];rfl),Aa (by rw[F9];show World.ownsRow _ _ _ _ _ _ (_ ++ [.int .i64 dd,.slice yA yp.length yc]);rw[<-x1.out];exact i2.out),Aa d3,Aa (fun y Y=>a2 y (O.out y Y)),Aa k4,Aa b3,Aa (Nat.le_trans d1.out (Nat.le_trans H.out.size G.out.size)),Aa q4⟩
      case measure=>simp only[intOf];omega
     ·have m0:psP D=postsV t (Ps.take (i+1)).flatten:=by
       have x4:V.take j=V:=List.take_of_length_le (by rw[<-x0.out,Ee,<-I.out];omega);rw[hD.out,U.out,x4]
      replace m0:=Aa m0;go_wp2_with fail;go_roundw
      case rel=>exact⟨i+1,m',q,ah+xn,C,D,rfl,by go_num,by go_num,by omega,by omega,by omega,m2,m0,h0,ho,J,f0⟩
      case measure=>simp only[intOf];omega
   ·have f1:psP D=postsV t Ps.flatten:=by rw[hD.out,List.take_of_length_le (by rw[<-hl.out,List.length_map,<-hk.out];omega)]
    replace f1:=Aa f1;go_wp2_with fail;go_ret2;exact⟨d0.out.trans hE.out,D,C,m,q,rfl,h0.out,f1.out,⟨Cells.of_own ho.out,fun y Y=>⟨(J.out y Y).1.cells,(J.out y Y).2⟩⟩,by omega⟩
end
section
open Go.RowKit
structure Pg where
  id:Int
  st:Int
  lo:Int
  hi:Int
  fi:Int
  la:Int
  n:Int
def Pg.cells (p:Pg):List Value:= [.int .i64 p.id,.int .i64 p.st,.int .i64 p.lo,.int .i64 p.hi,.int .i64 p.fi,.int .i64 p.la,.int .i64 p.n]
def gcells (ps:List Pg):List Value:=ps.flatMap Pg.cells
theorem TV (R:List Pg) (i:Nat) (r:Pg) (k:Nat) (h:R[i]? = some r) (hk:k<7):(gcells R)[i*7+k]? = r.cells[k]? :=AW (cellsA:=Pg.cells) (k:=7) (fun _=>rfl) R i r k h hk
structure GS (w:World) (A:Option Addr) (n c:Nat) (ps:List Pg):Prop where
  len:n=ps.length
  cells:Cells w A (gcells ps)
  cap:n<=c
  most:n<=9223372036854775807
  ok:∀p∈ps,I64ok' p.n
theorem GS.ext {ps:List Pg} (h:GS w A n c ps) (j:Ext w w1):GS w1 A n c ps:=⟨h.len,h.cells.ext j,h.cap,h.most,h.ok⟩
def Pg.val (p:Pg):Value:= .agg #[.int .i64 p.id,.int .i64 p.st,.int .i64 p.lo,.int .i64 p.hi,.int .i64 p.fi,.int .i64 p.la,.int .i64 p.n]
def PgAt (w:World) (g o:Nat) (p:Pg):Prop:=w.cell? ⟨g,o,none⟩=some (.int .i64 p.id)/\w.cell? ⟨g,o+1,none⟩=some (.int .i64 p.st)/\w.cell? ⟨g,o+2,none⟩=some (.int .i64 p.lo)/\w.cell? ⟨g,o+3,none⟩=some (.int .i64 p.hi)/\w.cell? ⟨g,o+4,none⟩=some (.int .i64 p.fi)/\w.cell? ⟨g,o+5,none⟩=some (.int .i64 p.la)/\w.cell? ⟨g,o+6,none⟩=some (.int .i64 p.n)
theorem GS.at_ {ps:List Pg} (h:GS w A n c ps) (hi:i<n):∃g s p,A=some ⟨g,s,none⟩/\ps[i]? = some p/\I64ok' p.n/\∀W,Ext w W->PgAt W g (s+i*7) p:=by
 obtain⟨p,b⟩:∃p,ps[i]? = some p:=⟨_,List.getElem?_eq_getElem (by rw[<-h.len];exact hi)⟩
 have H:=TV ps i p 0 b (by omega);obtain⟨g,s,Y,J⟩:=h.cells.at_ (by have:=(List.getElem?_eq_some_iff.1 H).1;omega);have q:∀k v W,Ext w W->p.cells[k]? = some v->W.cell? ⟨g,s+i*7+k,none⟩=some v:=fun k v W j a=>by
  rw[Nat.add_assoc];exact j.cell (J _ _ ((TV ps i p k b (List.getElem?_eq_some_iff.1 a).1).trans a))
 exact⟨g,s,p,Y,b,h.ok p (List.mem_of_getElem? b),fun W j=>⟨q 0 _ W j rfl,q 1 _ W j rfl,q 2 _ W j rfl,q 3 _ W j rfl,q 4 _ W j rfl,q 5 _ W j rfl,q 6 _ W j rfl⟩⟩
theorem GS.drop {g s n c:Nat} {ps:List Pg} (h:GS w (some ⟨g,s,none⟩) n c ps) (hk:k<=n):GS w (some ⟨g,s+k*7,none⟩) (n - k) (c - k) (ps.drop k):=by
 refine⟨by rw[List.length_drop,<-h.len],?_,by have:=h.cap;omega,by have:=h.most;omega,fun p Y=>h.ok p (List.mem_of_mem_drop Y)⟩;rw[show gcells (ps.drop k)=(gcells ps).drop (k*7)from Bo (f:=Pg.cells) (k:=7) (fun _=>rfl) ps k];rcases h.cells with b | ⟨g',o,a,H⟩
 ·exact .inl (by rw[b,List.drop_nil])
 ·cases a;exact .inr ⟨g,s+k*7,rfl,fun i v j=>by rw[List.getElem?_drop]at j;rw[Nat.add_assoc];exact H _ _ j⟩
def docsP (p:Pg):Int:=max 0 p.n
def takeG:Int->List Pg->Nat
 | _,[]=>0
 | m,p::t=>if p.st=2/\docsP p<=m then takeG (m - docsP p) t+1 else 0
theorem Ub:∀(l:List Pg) (m:Int),takeG m l<=l.length
 | [],_=>Nat.le_refl _
 | p::t,m=>by
  unfold takeG;have:=Ub t (m - docsP p);split
  ·rw[List.length_cons];omega
  ·exact Nat.zero_le _
theorem Up {l:List Pg} {p:Pg} {m:Int} (h:l[i]? = some p) (h1:p.st=2) (h2:docsP p<=m):takeG m (l.drop i)=takeG (m - docsP p) (l.drop (i+1))+1:=by
 obtain⟨hi,rfl⟩:=List.getElem?_eq_some_iff.1 h;rw[List.drop_eq_getElem_cons hi];exact if_pos ⟨h1,h2⟩
theorem Uc {l:List Pg} {p:Pg} {m:Int} (h:l[i]? = some p) (h1:¬ (p.st=2/\docsP p<=m)):takeG m (l.drop i)=0:=by
 obtain⟨hi,rfl⟩:=List.getElem?_eq_some_iff.1 h;rw[List.drop_eq_getElem_cons hi];exact if_neg h1
def rowG (a k:Nat):List Int:=(List.range k).map fun i=>((a+i:Nat):Int)
def grpG (m:Int) (a:Nat) (l:List Pg):List (List Int) :=
 if h:l = [] then [] else if takeG m l<2 then grpG m (a+1) (l.drop 1) else rowG a (takeG m l)::grpG m (a+takeG m l) (l.drop (takeG m l))
termination_by l.length
decreasing_by
 all_goals (have:=List.length_pos_iff.2 h;simp only[List.length_drop];omega)
theorem T5 {m:Int} {l:List Pg} {a n:Nat} (h:n<=a) (hn:n=l.length):grpG m a (l.drop a) = []:=by
 rw[grpG,dif_pos (List.drop_of_length_le (by omega))]
section
variable {m:Int} {l:List Pg} {a n:Nat} (h:a<n) (hn:n=l.length)
include h hn
theorem TX (h2:takeG m (l.drop a)<2):grpG m a (l.drop a)=grpG m (a+1) (l.drop (a+1)):=by
 rw[grpG,dif_neg (fun e=>by have:=congrArg List.length e;simp only[List.length_drop,List.length_nil]at this;omega),if_pos h2,List.drop_drop]
theorem T6 (h2:¬ takeG m (l.drop a)<2):grpG m a (l.drop a)=rowG a (takeG m (l.drop a))::grpG m (a+takeG m (l.drop a)) (l.drop (a+takeG m (l.drop a))):=by
 conv=>lhs;rw[grpG]
 rw[dif_neg (fun e=>by have:=congrArg List.length e;simp only[List.length_drop,List.length_nil]at this;omega),if_neg h2,List.drop_drop]
end
def costG:Int->List Pg->Int
 | s,[]=>s
 | s,p::t=>costG (min (s+docsP p) 1099511627776) t
structure IsC where
  xs:List Int
  A:Option Addr
  c:Nat
def IsC.val (x:IsC):Value:= .slice x.A x.xs.length x.c
structure IsOwn (w:World) (base:Nat) (A:Option Addr) (n c:Nat) (l:List IsC):Prop where
  own:w.ownsRow base 43 1 (.slice A n c) n (l.map IsC.val)
  each:∀x∈l,w.ownsRow base 3 1 x.val x.xs.length (x.xs.map IV)
theorem IsOwn.nil (w:World) (base:Nat):IsOwn w base none 0 0 []:=⟨⟨rfl,.inl ⟨rfl,rfl⟩⟩,nofun⟩
theorem IsOwn.ext {base n c:Nat} {l:List IsC} (h:IsOwn w base A n c l) (j:Ext w w'):IsOwn w' base A n c l:=⟨j.owns h.own,fun x b=>j.owns (h.each x b)⟩
theorem IsOwn.chg {base n c:Nat} {l:List IsC} (h:IsOwn w base A n c l) (j:Chg S w w') (a:∀g,(Value.slice A n c).ownBlock=some g->¬ S g) (H:∀x∈l,∀g,x.val.ownBlock=some g->¬ S g):IsOwn w' base A n c l:=⟨j.owns h.own a,fun x b=>j.owns (h.each x b) (H x b)⟩
theorem IsOwn.push {base n c c8:Nat} {B A8:Option Addr} {l:List IsC} {x:IsC} (h:IsOwn w base B n c l) (J:w.ownsRow base 3 1 x.val x.xs.length (x.xs.map IV))
 (O:w8.ownsRow base 43 1 (.slice A8 (n+1) c8) (n+1) (l.map IsC.val ++ [x.val])) (U:w.grownBy w8 (Value.slice B n c).ownBlock):IsOwn w8 base A8 (n+1) c8 (l ++ [x]):=by
 have b:Chg (fun k'=>(Value.slice B n c).ownBlock=some k') w w8:=Chg.of_grown U fun k' _ Y=>Y;have a:∀y:IsC,w.ownsRow base 3 1 y.val y.xs.length (y.xs.map IV)->∀g,y.val.ownBlock=some g->¬ (Value.slice B n c).ownBlock=some g:=fun y j g H=>by
  obtain⟨cs,T,_⟩:=Ae j H;exact Am h.own T (by decide)
 refine⟨by rw[List.map_append];exact O,fun y j=>?_⟩;rcases List.mem_append.1 j with j | j
 ·exact b.owns (h.each y j) (a y (h.each y j))
 ·rw[List.mem_singleton.1 j];exact b.owns J (a x J)
end
section
open Go.RowKit
theorem TW (p:Pg) (w:World):Calls prog 37 #[p.val] w fun e w'=>e = .returned (.int .i64 (docsP p))/\Ext w w':=by
 have h:=fun(W:World)=>Eg (P:=prog) #[3,3] 3 (x:=0) (y:=p.n) (m:=docsP p) rfl W;unfold Pg.val
 go_in
 go_wp2_with fail;go_ret;exact⟨rfl,(Ext.refl w).alloc _⟩
theorem TU (p:Pg) (h:I64ok' p.n):0<=docsP p/\docsP p<=9223372036854775807:=by unfold docsP I64ok' at *;omega
theorem Tn (A:Option Addr) (n c:Nat) (m:Int) (ps:List Pg) (w:World) (h:GS w A n c ps) (hm:I64ok' m) :
 Calls prog 35 #[.int .i64 m,.slice A n c] w fun e w'=>e = .returned (.int .i64 (takeG m ps:Nat))/\Ext w w':=by
 have hd:=Aa TW;have h0:=Aa h.len;have v0:=h.most;replace h:=Aa h
 go_in
 go_wp2_with fail
 go_loopw [0,5] (fun s0 s5 wr=>∃(i:Nat) (m':Int),s0 = .int .i64 m'/\s5 = .int .i64 (i:Int)/\i<=n/\I64ok' m'/\Hid (takeG m ps=i+takeG m' (ps.drop i))/\Hid (Ext w wr)) (fun _ s5 _=>n - (intOf s5).toNat)
 case atStart=>exact⟨0,m,rfl,rfl,by omega,hm,Aa (by rw[Nat.zero_add];rfl),Aa (Ext.refl _)⟩
 case round =>
  obtain⟨i,m',rfl,rfl,hi,p0,J,O⟩:=hrel;unfold I64ok' at p0;by_cases I:i<n
  ·obtain⟨g,s,p,rfl,hp,g0,T⟩:=h.out.at_ I;have G:=TU p g0;obtain⟨k0,k1,k2,k3,k4,k5,k6⟩:=T wr O.out;replace T:=Aa T;obtain⟨d,a⟩:=Ab (docsP p);have Y:=Aa (hd.out p);unfold Pg.val at Y;rw[<-a]at Y G;replace a:=Aa a;by_cases b:p.st=2
   ·have m0:((p.st:Int)==2)=true:=by rw[b];rfl
    replace b:=Aa b;go_wp2_with fail;refine(Y.out _).mono ?_;rintro e w4 ⟨rfl,H⟩;replace H:=Aa (O.out.trans H);obtain⟨q0,q1,q2,q3,q4,q5,q6⟩:=T.out w4 H.out;by_cases U:d<=m'
    ·have j:=Up hp b.out (by rw[<-a.out];exact U);rw[<-a.out]at j;replace j:=Aa j;go_wp2_with fail;refine(Y.out _).mono ?_;rintro e w5 ⟨rfl,Z⟩;go_wp2_with fail;go_roundw
     case rel=>exact⟨i+1,m' - d,rfl,by go_num,by omega,by unfold I64ok';omega,Aa (by rw[J.out,j.out];omega),Aa (H.out.trans Z)⟩
     case measure=>simp only[intOf];omega
    ·have j:=Aa (Uc hp (m:=m') fun q=>U (by rw[a.out];exact q.2));go_wp2_with fail;go_ret;exact⟨by rw[J.out,j.out];rfl,H.out⟩
   ·have j:=Aa (Uc hp (m:=m') fun q=>b q.1);have m0:((p.st:Int)==2)=false:=beq_eq_false_iff_ne.2 b;replace b:=Aa b;go_wp2_with fail;go_ret;exact⟨by rw[J.out,j.out];rfl,O.out⟩
  ·go_wp2_with fail;go_ret;exact⟨by rw[J.out,List.drop_of_length_le (by rw[<-h0.out];omega)];rfl,O.out⟩
theorem SY {l:List Pg} {p:Pg} (h:l[i]? = some p) (s:Int):costG s (l.drop i)=costG (min (s+docsP p) 1099511627776) (l.drop (i+1)):=by
 obtain⟨hi,rfl⟩:=List.getElem?_eq_some_iff.1 h;rw[List.drop_eq_getElem_cons hi];rfl
theorem Uk (A:Option Addr) (n c:Nat) (ps:List Pg) (w:World) (h:GS w A n c ps) :
 Calls prog 17 #[.slice A n c] w fun e w'=>e = .returned (.int .i64 (costG 0 ps))/\Ext w w':=by
 have hd:=Aa TW;have p0:=Aa h.len;have y0:=h.most;replace h:=Aa h;obtain⟨Z,T⟩:=Ab (costG 0 ps);rw[<-T];replace T:=Aa (show Z=costG 0 (ps.drop 0)from T)
 go_in
 go_wp2_with fail
 go_loopw [3,8] (fun s3 s8 wr=>∃(i:Nat) (m:Int),s3 = .int .i64 m/\s8 = .int .i64 (i:Int)/\i<=n/\0<=m/\m<=1099511627776/\Hid (Z=costG m (ps.drop i))/\Hid (Ext w wr)) (fun _ s8 _=>n - (intOf s8).toNat)
 case atStart=>exact⟨0,0,rfl,rfl,by omega,by omega,by omega,T,Aa (Ext.refl _)⟩
 case round =>
  obtain⟨i,m,rfl,rfl,hi,hm,x0,U,G⟩:=hrel;by_cases q0:i<n
  ·obtain⟨g,s,p,rfl,hp,j0,hc⟩:=h.out.at_ q0;have h0:=TU p j0;obtain⟨k0,k1,k2,k3,k4,k5,k6⟩:=hc wr G.out;obtain⟨d,J⟩:=Ab (docsP p);have b:=SY hp m;have H:=Aa (hd.out p);unfold Pg.val at H;rw[<-J]at H h0 b;obtain⟨r,hr⟩:=Ab (min d (1099511627776 - m));have Y:0<=r/\m+r=min (m+d) 1099511627776:=by omega
   have v0:=fun(W:World)=>AQ (P:=prog) #[3,3] 3 hr W;rw[<-Y.2]at b;have m0:m+r<=1099511627776:=by omega
   have d0:=Y.1;replace b:=Aa b;replace hr:=Aa hr;clear J Y hc;go_wp2_with fail;obtain⟨W,O⟩:=Ab (wr.alloc (Obj.cells #[.int .i64 p.id,.int .i64 p.st,.int .i64 p.lo,.int .i64 p.hi,.int .i64 p.fi,.int .i64 p.la,.int .i64 p.n] 79));have a:Ext wr W:=by rw[O];exact(Ext.refl wr).alloc _
   rw[<-O];replace a:=Aa a;replace O:=Aa O;refine(H.out _).mono ?_;rintro e w4 ⟨rfl,I⟩;go_wp2_with fail;go_roundw
   case rel=>exact⟨i+1,m+r,rfl,by go_num,by omega,by omega,m0,Aa (by rw[U.out,b.out]),Aa ((G.out.trans a.out).trans I)⟩
   case measure=>simp only[intOf];omega
  ·have j:Z=m:=by rw[U.out,List.drop_of_length_le (by rw[<-p0.out];omega)];rfl
   replace j:=Aa j;go_wp2_with fail;go_ret;rw[j.out];exact⟨rfl,G.out⟩
theorem Tl:Elem prog 39 43 1 24:=⟨underlying39,⟨_,_,rfl,rfl,rfl,rfl,rfl⟩,by omega,by omega⟩
theorem Th {g s n c k:Nat} (h:k<n) (hn:n<=c) (W:World) :
 (Instr.sliceAt 38 (.slice (some ⟨g,s,none⟩) n c) (some (.int .i64 (k:Int))) none none).run prog W = .ok (.slice (some ⟨g,s+k*7,none⟩) (n - k) (c - k)) W:=by
 have ht:=underlying38;have j:prog.elem 38=79:=by unfold Program.elem;rw[ht]
 have hs:∀W:World,(sizeOf 79).run prog W = .ok 7 W:=fun W=>by kernel_rfl
 have b:((k:Int)).toNat=k:=by omega
 rw[run_sliceAt_slice W _ _ _ _ _ (by rw[ht,j]),run_slice_l W _ _ n c (by rw[ht,j]) .i64 k (by omega) (by omega),j,hs];simp only[Result.andThen_ok];unfold sliced;rw[if_neg (by omega),b];simp[Addr.add_lit]
theorem Uo (a k:Nat):rowG a (k+1)=rowG a k ++ [((a+k:Nat):Int)]:=by
 unfold rowG;rw[List.range_succ,List.map_append];rfl
theorem S1 (a k:Nat):(rowG a k).length=k:=by unfold rowG;rw[List.length_map,List.length_range]
def GrpA (w:World) (L:List (List Int)) (e:Ending) (w':World):Prop:=Ext w w'/\∃(l:List IsC) (A:Option Addr) (n c:Nat),l.map IsC.xs=L/\e = .returned (.slice A n c)/\n=l.length/\IsOwn w' w.heap.size A n c l
theorem Uf (A:Option Addr) (n c:Nat) (m:Int) (ps:List Pg) (w:World) (h:GS w A n c ps) (hm:I64ok' m) (x1:n<=1000000) :
 Calls prog 14 #[.int .i64 m,.slice A n c] w (GrpA w (grpG m 0 ps)):=by
 obtain⟨Z,hZ⟩:=Ab (grpG m 0 ps);rw[<-hZ];replace hZ:=Aa (show Z=grpG m 0 (ps.drop 0)from hZ);have T:=Aa h.len;have t0:=h.cap;have h1:=Aa Tn;replace hm:=Aa hm;replace h:=Aa h
 go_in
 go_wp2_with fail
 go_loopw [5,6] (fun s5 s6 wr=>∃(a k d:Nat) (B:Option Addr) (l:List IsC),s5 = .slice B k d/\s6 = .int .i64 (a:Int)/\a<=n/\k<=a/\Hid (k=l.length)/\Hid (IsOwn wr w.heap.size B k d l)/\Hid (Z=l.map IsC.xs++grpG m a (ps.drop a))/\Hid (Ext w wr)) (fun _ s6 _=>n - (intOf s6).toNat)
 case atStart=>exact⟨0,0,0,none,[],rfl,rfl,by omega,by omega,Aa rfl,Aa (IsOwn.nil _ _),hZ,Aa (Ext.refl _)⟩
 case round =>
  obtain⟨a,k,d,B,l,rfl,rfl,ha,hk,q0,hB,hz,hE⟩:=hrel;by_cases O:a<n
  ·obtain⟨g,s,p,rfl,hp,r0,hc⟩:=h.out.at_ O;clear hp r0 hc;have y0:=fun W=>Th (g:=g) (s:=s) (k:=a) (n:=n) (c:=c) O t0 W;obtain⟨t,ht⟩:=Ab (takeG m (ps.drop a));have a1:t<=n - a:=by rw[ht];exact Nat.le_trans (Ub _ _) (by rw[List.length_drop,<-T.out];exact Nat.le_refl _)
   have J:=h1.out _ _ _ m _ wr ((h.out.ext hE.out).drop (k:=a) ha) hm.out;rw[<-ht]at J;replace J:=Aa J;obtain⟨n3,k0⟩:=Ab (n - a);obtain⟨c3,h0⟩:=Ab (c - a);rw[<-k0,<-h0]at J y0;replace k0:=Aa k0;replace h0:=Aa h0;by_cases h2:t<2
   ·have b:=hz.out;rw[TX O T.out (by rw[<-ht];exact h2)]at b;replace b:=Aa b;replace ht:=Aa ht;go_wp2_with fail;refine(J.out).mono ?_;rintro e w4 ⟨rfl,j⟩;go_wp2_with fail;go_roundw
    case rel=>exact⟨a+1,k,d,B,l,rfl,by go_num,by omega,by omega,q0,Aa (hB.out.ext j),b,Aa (hE.out.trans j)⟩
    case measure=>simp only[intOf];omega
   ·have b:=hz.out;rw[T6 O T.out (by rw[<-ht];exact h2),<-ht]at b;replace b:=Aa b;replace ht:=Aa ht;clear hz;go_wp2_with fail;refine(J.out).mono ?_;rintro e w4 ⟨rfl,j⟩;have i0:=Aa (hB.out.ext j);replace j:=Aa (hE.out.trans j);clear hE hB J y0;go_wp2_with fail
    go_loopw [8,24] (fun s8 s24 wi=>∃(i q:Nat) (C:Option Addr),s8 = .slice C i q/\s24 = .int .i64 (i:Int)/\i<=t/\Hid (wi.ownsRow w4.heap.size 3 1 (.slice C i q) i ((rowG a i).map IV))/\Hid (Ext w4 wi)) (fun _ s24 _=>t - (intOf s24).toNat)
    case atStart=>exact⟨0,0,none,rfl,rfl,by omega,Aa ⟨rfl,.inl ⟨rfl,rfl⟩⟩,Aa (Ext.refl _)⟩
    case round =>
     obtain⟨i,q,C,rfl,rfl,hi,ho,U⟩:=hrel;by_cases m1:i<t
     ·have c0:=Aa (Uo a i);obtain⟨y,hy⟩:=Ab (a+i);have f1:(a:Int)+(i:Int)=(y:Int):=by omega
      rw[<-hy]at c0;have d1:y<=1000000:=by omega
      have g0:=U.out.size;replace hy:=Aa hy;go_wp2_with (at_builtin;refine AS (us:= [.int .i64 (y:Int)]) (m:=1) FY ho.out rfl (.tmp 27) (.tmp 31) rfl rfl rfl rfl rfl (Az rfl) (by omega) g0 (fun A8 c8 w8 Y H p0=>?_);have I:=Aa (U.out.grown H (fun k hk=>by obtain⟨_,_,hb⟩:=Ae ho.out hk;exact hb));replace Y:=Aa Y;clear H p0);go_roundw
      case rel=>exact⟨i+1,c8,A8,rfl,by go_num,by omega,Aa (by rw[c0.out,List.map_append];exact Y.out),I⟩
      case measure=>simp only[intOf];omega
     ·obtain rfl:i=t:=by omega
      have G:=Aa (i0.out.ext U.out);have g0:w.heap.size<=wr.heap.size:=(j.out.trans U.out).size;have l0:k+1<=4294967296:=by omega
      go_wp2_with (at_builtin;refine AS (us:= [.slice C i q]) (m:=1) Tl G.out.own rfl (.tmp 34) (.tmp 36) rfl rfl rfl rfl rfl (Az rfl) l0 g0 (fun A8 c8 w8 Y H p0=>?_);replace Y:=Aa Y;replace H:=Aa H;clear p0);have v0:w.heap.size<=w4.heap.size:=j.out.size;have x0:=S1 a i;have j0:=G.out.push (x:=⟨rowG a i,C,q⟩) (by show World.ownsRow _ _ _ _ (.slice C (rowG a i).length q) _ _;rw[x0];exact AD ho.out v0) (by show World.ownsRow _ _ _ _ _ _ (_ ++ [.slice C (rowG a i).length q]);rw[x0];exact Y.out) H.out;have I:Ext w w8:=(j.out.trans U.out).grown H.out fun k hk=>by obtain⟨_,_,hb⟩:=Ae G.out.own hk;exact hb
      go_roundw
      case rel=>exact⟨a+i,k+1,c8,A8,_,rfl,by go_num,by omega,by omega,Aa (by rw[List.length_append,<-q0.out];rfl),Aa j0,Aa (by rw[b.out,List.map_append,List.append_assoc];rfl),Aa I⟩
      case measure=>simp only[intOf];omega
  ·go_wp2_with fail;go_ret;refine⟨hE.out,l,B,k,d,?_,rfl,q0.out,hB.out⟩;rw[hz.out,T5 (by omega) T.out,List.append_nil]
end
section
open Go.RowKit Go.Maps
def awo (k:Int):List Dc:= [(k,⟨k,[([109,115,103],[97])]⟩)]
def awm:List Dc:= [(3,⟨3,[([109,115,103],[97])]⟩),(5,⟨5,[([109,115,103],[97])]⟩)]
def awB (P:List Dc):Bool:=okDs P&&decide ((blockD 0 P).length<=70000)&&decide (0<P.length)&&(framesD P).all (fun p=>decide (p.length<=16777216))&&decide ((segL P).length<=60000)&&P.all fun d=>decide (-9223372036854775808<=d.2.at_)&&decide (d.2.at_<=9223372036854775807)
structure AwP (P:List Dc):Prop where
  seg:SegP P
  opn:openD (segL P)=some P
  len:(segL P).length<=60000
theorem S2 {P:List Dc} (h:awB P=true):AwP P:=by
 unfold awB at h;simp only[Bool.and_eq_true,decide_eq_true_eq,List.all_eq_true]at h;obtain⟨⟨⟨⟨⟨h1,h2⟩,j⟩,b⟩,a⟩,H⟩:=h;have hs:SegP P:=⟨⟨h1,h2⟩,j⟩
 exact⟨hs,FI hs b fun d hd=>H d hd,a⟩
theorem Tu:AwP (awo 3):=S2 (by kernel_rfl)
theorem Tv:AwP (awo 5):=S2 (by kernel_rfl)
theorem Tt:AwP awm:=S2 (by kernel_rfl)
theorem Ta:mergeD [segL (awo 3),segL (awo 5)]=some [awo 3,awo 5]:=by
 have h:opensD [segL (awo 3),segL (awo 5)]=some [awo 3,awo 5]:=by
  unfold opensD;rw[if_pos (by simp[Tu.opn,Tv.opn])];simp[List.filterMap_cons,Tu.opn,Tv.opn]
 unfold mergeD;rw[h];exact if_pos ⟨by decide,by decide⟩
theorem Tb:mergeD [segL (awo 5),segL (awo 3)]=none:=by
 have j:opensD [segL (awo 5),segL (awo 3)]=some [awo 5,awo 3]:=by
  unfold opensD;rw[if_pos (by simp[Tu.opn,Tv.opn])];simp[List.filterMap_cons,Tu.opn,Tv.opn]
 unfold mergeD;rw[j];exact if_neg fun h=>absurd h.2 (by decide)
theorem Tj:docsM 0 [awo 3,awo 5]=awm:=by kernel_rfl
theorem Tc (k : Int) (w : World) (hk : AwP (awo k)) (T : I64ok' k) :
    Calls prog 33 #[.int .i64 k] w fun e w' => ∃ A n c, e = .returned (.slice A n c) ∧ Own8 w' w.heap.size A n c (segL (awo k)) ∧ Ext w w' := by
  obtain ⟨W, H⟩ := Ab ((w.alloc (Obj.cells #[.string ⟨#[109, 115, 103]⟩, .string ⟨#[97]⟩] 91)).alloc (Obj.cells #[.int .i64 k, .int .i64 k, .slice (some ⟨w.heap.size, 0, none⟩) 1 1] 71))
  have Y : Ext w W := by rw [H]; exact ((Ext.refl w).alloc _).alloc _
  have J : Cells W (some ⟨w.heap.size, 0, none⟩) (fcells [([109, 115, 103], [97])]) := by
    rw [H]
    exact (AN w [.string ⟨#[109, 115, 103]⟩, .string ⟨#[97]⟩] _).ext ((Ext.refl _).alloc _)
  have U : Cells W (some ⟨w.heap.size + 1, 0, none⟩) (dcells [⟨k, ⟨k, [([109, 115, 103], [97])]⟩, some ⟨w.heap.size, 0, none⟩, 1⟩]) := by
    have h1 := AN (w.alloc (Obj.cells #[.string ⟨#[109, 115, 103]⟩, .string ⟨#[97]⟩] 91)) [.int .i64 k, .int .i64 k, .slice (some ⟨w.heap.size, 0, none⟩) 1 1] 71
    rw [World.size_alloc] at h1
    rw [H]
    exact h1
  have O : DocsOk W (some ⟨w.heap.size + 1, 0, none⟩) [⟨k, ⟨k, [([109, 115, 103], [97])]⟩, some ⟨w.heap.size, 0, none⟩, 1⟩] := ⟨U, fun x hx => by
    rw [List.mem_singleton.1 hx]
    exact ⟨⟨J, by show (1 : Nat) ≤ _; omega, fun f hf => by
      rw [List.mem_singleton.1 hf]
      exact ⟨by show (3 : Nat) ≤ _; omega, by show (1 : Nat) ≤ _; omega⟩⟩, T, T⟩⟩
  have j := CY [⟨k, ⟨k, [([109, 115, 103], [97])]⟩, some ⟨w.heap.size, 0, none⟩, 1⟩] (some ⟨w.heap.size + 1, 0, none⟩) 1 1 W rfl O (fun a I => by cases I; rfl) (by omega) hk.seg.sm (by omega)
  replace j := Aa j
  replace H := Aa H
  clear J U O hk
  go_in
  go_wp2_with fail
  rw [← H.out]
  refine j.out.mono ?_
  rintro e w1 ⟨A1, c1, rfl, h, G⟩
  have Z : segL (dcs [⟨k, ⟨k, [([109, 115, 103], [97])]⟩, some ⟨w.heap.size, 0, none⟩, 1⟩]) = segL (awo k) := rfl
  rw [Z] at h ⊢
  obtain ⟨n1, b⟩ := Ab ((segL (awo k)).length)
  rw [← b] at h ⊢
  replace b := Aa b
  replace h := Aa h
  clear Z
  go_wp2_with fail
  go_ret
  exact ⟨A1, n1, c1, rfl, ⟨h.out.1, h.out.2.lower Y.size⟩, Y.trans G⟩
end
section
open Go.RowKit Go.Maps
def awG (n:Int):Pg:=⟨0,2,0,0,0,0,n⟩
theorem TB:grpG 10 0 [awG 4,awG 5,awG 6] = [[0,1]]:=by
 have h1:=T6 (m:=10) (l:= [awG 4,awG 5,awG 6]) (a:=0) (n:=3) (by omega) rfl (by decide);have h2:=TX (m:=10) (l:= [awG 4,awG 5,awG 6]) (a:=2) (n:=3) (by omega) rfl (by decide);have h:=T5 (m:=10) (l:= [awG 4,awG 5,awG 6]) (a:=3) (n:=3) (by omega) rfl;have j:takeG 10 ([awG 4,awG 5,awG 6].drop 0)=2:=by decide
 rw[j]at h1;rw[show [awG 4,awG 5,awG 6] = [awG 4,awG 5,awG 6].drop 0 from rfl,h1];rw[show 0+2=2 from rfl,h2,show 2+1=3 from rfl,h];rfl
theorem Own8.low {base n c:Nat} (h:Own8 w base A n c l):Own8 w 0 A n c l:=⟨h.1,h.2.lower (Nat.zero_le _)⟩
theorem Tz (h1:Own8 w 0 A1 n1 c1 l1) (h2:Own8 w 0 A2 n2 c2 l2) (q1:l1.length<=60000) (q2:l2.length<=60000) (T:TypeId) :
 BssR (w.alloc (Obj.cells #[.slice A1 n1 c1,.slice A2 n2 c2] T)) (some ⟨w.heap.size,0,none⟩) [⟨l1,A1,c1⟩,⟨l2,A2,c2⟩]:=by
 obtain⟨rfl,b1⟩:=h1;obtain⟨rfl,b2⟩:=h2;refine⟨AN w [.slice A1 l1.length c1,.slice A2 l2.length c2] T,fun x h=>?_⟩;simp only[List.mem_cons,List.not_mem_nil,or_false]at h;rcases h with rfl | rfl
 ·exact⟨.inl (b1.in8.ext ((Ext.refl w).alloc _)),q1⟩
 ·exact⟨.inl (b2.in8.ext ((Ext.refl w).alloc _)),q2⟩
theorem PF (w : World) : Calls prog 13 #[] w fun e w' => e = .returned (.bool true) ∧ Ext w w' := by
  have h0 := Aa fun W => Tc 3 W Tu (by unfold I64ok'; omega)
  have d0 := Aa fun W => Tc 5 W Tv (by unfold I64ok'; omega)
  obtain ⟨W, hW⟩ := Ab (w.alloc (Obj.cells #[.int .i64 0, .int .i64 2, .int .i64 0, .int .i64 0, .int .i64 0, .int .i64 0, .int .i64 4, .int .i64 0, .int .i64 2, .int .i64 0, .int .i64 0, .int .i64 0, .int .i64 0, .int .i64 5, .int .i64 0, .int .i64 2, .int .i64 0, .int .i64 0, .int .i64 0, .int .i64 0, .int .i64 6] 79))
  have h1 : Ext w W := by rw [hW]; exact (Ext.refl w).alloc _
  have h2 : GS W (some ⟨w.heap.size, 0, none⟩) 3 3 [awG 4, awG 5, awG 6] := ⟨rfl, by rw [hW]; exact AN w _ _, by omega, by omega, fun p hp => by
    simp only [List.mem_cons, List.not_mem_nil, or_false] at hp
    unfold I64ok'
    rcases hp with rfl | rfl | rfl <;> decide⟩
  have Z := Uf _ 3 3 10 _ W h2 (by unfold I64ok'; omega) (by omega)
  rw [TB] at Z
  replace Z := Aa Z
  replace h1 := Aa h1
  clear h2
  go_in
  go_wp2_with fail
  rw [← hW]
  clear hW
  refine Z.out.mono ?_
  rintro e w1 ⟨e0, l1, B1, k1, d1, c0, rfl, x2, q1⟩
  obtain ⟨x1, a2⟩ : ∃ x1, l1 = [x1] ∧ x1.xs = [0, 1] := by
    cases l1 with
    | nil => cases c0
    | cons x t =>
      cases t with
      | nil => exact ⟨x, rfl, by injection c0⟩
      | cons y u => exact absurd (congrArg List.length c0) (by simp)
  obtain ⟨rfl, d2⟩ := a2
  obtain rfl : k1 = 1 := x2
  replace q1 := Aa q1
  replace e0 := Aa (h1.out.trans e0)
  clear c0 Z
  go_wp2_with fail
  refine (h0.out w1).mono ?_
  rintro e w2 ⟨A2, n2, c2, rfl, v0, f0⟩
  replace v0 := Aa v0.low
  replace f0 := Aa f0
  go_wp2_with fail
  refine (d0.out w2).mono ?_
  rintro e w3 ⟨A3, n3, c3, rfl, a1, i0⟩
  obtain ⟨W4, m0⟩ := Ab (w3.alloc (Obj.cells #[.slice A2 n2 c2, .slice A3 n3 c3] 24))
  have l0 : Ext w1 W4 := by rw [m0]; exact (f0.out.trans i0).alloc _
  have h := TK _ _ 2 2 0 W4 rfl (by rw [m0]; exact Tz (v0.out.ext i0) a1.low Tu.len Tv.len _) (by omega) (fun Ps T _ => by rw [show List.map BsC.b _ = [segL (awo 3), segL (awo 5)] from rfl, Ta] at T; rw [← Option.some.inj T, Tj]; exact Tt.seg.sm)
  rw [show List.map BsC.b _ = [segL (awo 3), segL (awo 5)] from rfl, Ta] at h
  unfold MrA at h
  simp only [Tj, if_neg (show ¬ awm = [] from nofun)] at h
  obtain ⟨nm, G⟩ := Ab ((segL awm).length)
  unfold OkB at h
  rw [← G] at h
  replace h := Aa h
  replace l0 := Aa l0
  replace G := Aa G
  clear v0 a1 i0
  go_wp2_with fail
  rw [← m0]
  clear m0
  refine h.out.mono ?_
  rintro e w5 ⟨A5, c5, rfl, f1, n0⟩
  have q0 := J8 awm Tt.seg Tt.opn Tt.len A5 c5 w5 (by rw [← G.out]; exact f1.low)
  rw [← G.out] at q0
  replace q0 := Aa q0
  replace n0 := Aa (l0.out.trans n0)
  clear f1 h
  go_wp2_with fail
  refine q0.out.mono ?_
  rintro e w6 ⟨g6, rfl, H, o0⟩
  replace H := Aa H
  replace o0 := Aa (n0.out.trans o0)
  clear q0
  go_wp2_with fail
  refine (d0.out w6).mono ?_
  rintro e w7 ⟨A7, n7, c7, rfl, x0, j0⟩
  replace x0 := Aa x0.low
  replace H := Aa (H.out.ext j0)
  replace j0 := Aa (o0.out.trans j0)
  go_wp2_with fail
  refine (h0.out w7).mono ?_
  rintro e w8 ⟨A8, n8, c8, rfl, i1, r0⟩
  obtain ⟨W9, t0⟩ := Ab (w8.alloc (Obj.cells #[.slice A7 n7 c7, .slice A8 n8 c8] 24))
  have g0 : Ext w7 W9 := by rw [t0]; exact r0.alloc _
  have h := TK _ _ 2 2 0 W9 rfl (by rw [t0]; exact Tz (x0.out.ext r0) i1.low Tv.len Tu.len _) (by omega) (fun Ps T _ => by rw [show List.map BsC.b _ = [segL (awo 5), segL (awo 3)] from rfl, Tb] at T; cases T)
  rw [show List.map BsC.b _ = [segL (awo 5), segL (awo 3)] from rfl, Tb] at h
  unfold MrA at h
  simp only at h
  replace h := Aa h
  replace g0 := Aa g0
  clear x0 i1 r0
  go_wp2_with fail
  rw [← t0]
  clear t0
  refine h.out.mono ?_
  rintro e w10 ⟨rfl, j⟩
  replace H := Aa (H.out.ext (g0.out.trans j))
  replace j := Aa ((j0.out.trans g0.out).trans j)
  have I := q1.out.ext j.out
  obtain ⟨gB, oB, rfl, o1⟩ := (Cells.of_own I.own).at_ (by show 0 < 1; omega)
  have k0 := o1 0 x1.val rfl
  have p0 := Cells.of_own (I.each x1 (List.mem_singleton.2 rfl))
  rw [Nat.add_zero] at k0
  unfold IsC.val at k0
  rw [d2] at k0 p0
  have y2 := Fh g6 awm w10 H.out (by decide) (by decide)
  have m1 := fun W (hE : Ext w10 W) B hB => Uh x1.A B 2 x1.c 2 [0, 1] W rfl (p0.ext hE) hB (by omega)
  replace m1 := Aa m1
  clear o1 p0 I
  have k0' : w10.cell? ⟨gB, oB, none⟩ = some (.slice x1.A 2 x1.c) := k0
  clear k0
  replace h0 := Aa True.intro
  obtain ⟨W11, a⟩ := Ab (w10.alloc (Obj.cells #[.int .i64 0, .int .i64 1] 3))
  have j1 := m1.out W11 (by rw [a]; exact (Ext.refl _).alloc _) (some ⟨w10.heap.size, 0, none⟩) (by rw [a]; exact AN w10 _ _)
  have U : Ext w10 W11 := by rw [a]; exact (Ext.refl _).alloc _
  replace j1 := Aa j1
  replace U := Aa U
  go_wp2_with fail
  rw [← a]
  clear a
  refine j1.out.mono ?_
  rintro e w12 ⟨rfl, Y⟩
  replace Y := Aa (U.out.trans Y)
  have q2 := Aa (Fh g6 awm w12 (H.out.ext Y.out) (by decide) (by decide))
  clear y2
  go_wp2_with fail
  refine q2.out.mono ?_
  rintro e w13 ⟨rfl, k2⟩
  obtain rfl := k2.symm
  obtain ⟨W14, J⟩ := Ab (w12.alloc (Obj.cells #[.int .i64 0, .int .i64 0, .int .i64 0, .int .i64 0, .int .i64 0, .int .i64 0, .int .i64 7] 79))
  have O : Ext w12 W14 := by rw [J]; exact (Ext.refl _).alloc _
  have y0 := Uk (some ⟨w12.heap.size, 0, none⟩) 1 1 [⟨0, 0, 0, 0, 0, 0, 7⟩] W14 ⟨rfl, by rw [J]; exact AN w12 _ _, by omega, by omega, fun p hp => by rw [List.mem_singleton.1 hp]; unfold I64ok'; decide⟩
  rw [show costG 0 [⟨0, 0, 0, 0, 0, 0, 7⟩] = 7 by decide] at y0
  replace y0 := Aa y0
  replace O := Aa O
  go_wp2_with fail
  rw [← J]
  clear J
  refine y0.out.mono ?_
  rintro e w15 ⟨rfl, y1⟩
  go_wp2_with fail
  go_ret
  exact ⟨rfl, (((e0.out.trans j.out).trans Y.out).trans O.out).trans y1⟩
end
section
open Go.RowKit Go.Maps
def psC:Option (List (List Dc))->Int
 | none=>330
 | some _=>0
def psL (t:List UInt8):Option (List (List Dc))->List Po
 | none=> []
 | some Ps=>postsV t Ps.flatten
def PsB (w:World) (t:List UInt8) (r:Option (List (List Dc))) (e:Ending) (w':World):Prop:=∃(D:List PoC) (A:Option Addr) (n c:Nat),e = .returned (.tuple #[.slice A n c,.int .i64 (psC r)])/\n=D.length/\psP D=psL t r/\PosOk w' A D/\n<=1000000/\Ext w w'
theorem PsA.b {t:List UInt8} {r:Option (List (List Dc))} {e:Ending} (h:PsA w t r e w'):PsB w t r e w':=by
 obtain⟨j,h⟩:=h;cases r with
 | none =>
  simp only at h;subst h;exact⟨[],none,0,0,rfl,rfl,rfl,PosOk.nil _ _,Nat.zero_le _,j⟩
 | some Ps =>
  obtain⟨D,A,n,c,rfl,h2,h1,a,H⟩:=h;exact⟨D,A,n,c,rfl,h2,h1,a,H,j⟩
theorem UC {l:List BsC} (a:l.map BsC.b=(bs.take 5).map cut5) (hk:k=l.length) (h:k<=5) {Ps:List (List Dc)} (j:mergeD (l.map BsC.b)=some Ps):Ps.length<=5/\∀P∈Ps,P.length<=5000/\(blockD 0 P).length<=5000:=UT (by
 rw[a];intro b hb;obtain⟨x,_,rfl⟩:=List.mem_map.1 hb;unfold cut5;rw[List.length_take];omega) (by rw[List.length_map,<-hk];exact h) j
theorem UF (t:List UInt8) (bs:List BsC) (A:Option Addr) (n c:Nat) (w:World) (hn:n=bs.length) (h:BssE w A bs) :
 Calls prog 5 #[.string ⟨t.toArray⟩,.slice A n c] w fun e w'=>e = .returned (.bool true)/\Ext w w':=by
 have G:=Aa (Uj bs A n c w hn h);have m0:=Aa PF;clear hn h
 go_in
 go_wp2_with fail;refine G.out.mono ?_;rintro e w1 ⟨I,l,B,k,d,hl,hk,k0,rfl,hb⟩;have a:=(UQ l B k d t w1 hk hb (by omega) fun Ps=>UC hl hk k0).mono fun _ _ h=>h.b;have j:=fun W (hE:Ext w1 W)=>(UK l B k d t W hk (hb.ext hE) (by omega) fun Ps=>UC hl hk k0).mono fun _ _ h=>h.b;obtain⟨Z,hZ⟩:=Ab (mergeD (l.map BsC.b));rw[<-hZ]at a j;unfold PsB at a j;obtain⟨X,hX⟩:=Ab (psL t Z);obtain⟨C,hC⟩:=Ab (psC Z);rw[<-hX,<-hC]at a j;replace a:=Aa a;replace j:=Aa j;replace I:=Aa I;clear G hl hk hb hZ hX hC;go_wp2_with fail;refine a.out.mono ?_;rintro e w2 ⟨D2,A2,n2,c2,rfl,O,Y,h0,d0,H⟩;replace O:=Aa O;replace Y:=Aa Y;replace h0:=Aa h0;replace j:=Aa (j.out w2 H);replace H:=Aa H;go_wp2_with fail;refine j.out.mono ?_;rintro e w3 ⟨D3,A3,n3,c3,rfl,T,J,q0,e0,U⟩;obtain rfl:n2=n3:=by rw[O.out,T,<-Ee,Y.out,<-J,Ee]
 have p0:=Mq D2 D3 A2 A3 n2 c2 c3 w3 O.out T (h0.out.ext U) q0 (Y.out.trans J.symm) (by omega);replace p0:=Aa p0;replace T:=Aa T;replace J:=Aa J;replace q0:=Aa q0;replace U:=Aa (H.out.trans U);clear j a H;go_wp2_with fail;refine p0.out.mono ?_;rintro e w6 ⟨rfl,j0⟩;go_wp2_with fail;refine(m0.out _).mono ?_;rintro e w7 ⟨rfl,g0⟩;go_wp2_with fail;go_ret;exact⟨rfl,((I.out.trans U.out).trans j0).trans g0⟩
end
end Go.Proofs.YtfifdilapbeiiaaGreat
