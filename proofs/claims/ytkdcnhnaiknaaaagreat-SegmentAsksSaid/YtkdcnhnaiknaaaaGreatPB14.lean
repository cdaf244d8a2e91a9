/- Texts of one proof, joined. -/
import Derived.Test.YtkdcnhnaiknaaaaGreatPB13
import Derived.Test.YtkdcnhnaiknaaaaGreatPB11
import Derived.Test.YtkdcnhnaiknaaaaGreatPB08
import Derived.Test.YtkdcnhnaiknaaaaGreatPB10
import Derived.Test.YtkdcnhnaiknaaaaGreatPBShelf
import Derived.Deep.RegionHeld3
import Derived.Test.YtkdcnhnaiknaaaaGreatPB07
import Derived.Test.YtkdcnhnaiknaaaaGreatPB03
import Derived.Test.YtkdcnhnaiknaaaaGreatPB02
import Derived.Test.YtkdcnhnaiknaaaaGreatPB01
import Derived.Test.YtkdcnhnaiknaaaaGreatPB12
import Derived.Test.YtkdcnhnaiknaaaaGreatPB04
import Derived.Test.YtkdcnhnaiknaaaaGreatPB09
import Derived.BigQuiet
set_option linter.unusedSimpArgs false
set_option linter.unusedVariables false
set_option maxRecDepth 100000
set_option maxHeartbeats 16000000
namespace Go.Proofs.YtkdcnhnaiknaaaaGreat
section
open Go.RowKit Go.Maps
theorem ZFb (n:Nat) (w:World) (hn:n<=262144):Calls Tryz.prog 167 #[.int .i64 (n:Int)] w fun e w'=>e = .returned (.int .i64 (filL n:Int))/\w'=w:=by
 obtain⟨x,hx⟩:∃x:Nat,(x:Int)=max (10*(n:Int)) 64:=⟨max (10*n) 64,by omega⟩
 obtain⟨y,hy⟩:∃y:Nat,(y:Int)=min (x:Int) 1048576:=⟨min x 1048576,by omega⟩
 have p0:=fun(W:World)=>ZBH (P:=Tryz.prog) #[3,3] 3 hx W;have k0:=fun(W:World)=>Zf (P:=Tryz.prog) #[3,3] 3 hy W;obtain⟨k,hk⟩:∃k,k=(y+7) / 8:=⟨_,rfl⟩
 have h0:k=filL n:=by unfold filL;omega
 have j0:y<=1048576:=by omega
 have q0:((y:Int)+7) / 8=(k:Int):=by omega
 rw[<-h0];replace hx:=ZA hx;replace hy:=ZA hy;replace hk:=ZA hk;replace h0:=ZA h0;go_enter Tryz.func167,Tryz.ntmps167;go_wp2_with fail;go_ret;exact⟨ZCc q0,rfl⟩
def NewQ (w:World) (n:Nat) (e:Ending) (w':World):Prop:=∃(A:Option Addr) (c:Nat),e = .returned (.tuple #[.agg #[.slice A n c],.int .i64 0])/\In8 w' A n c (List.replicate n 0)/\Ext w w'
theorem ZM1 (n:Nat) (w:World) (hn:n<=262144):Calls Tryz.prog 121 #[.int .i64 (n:Int)] w (NewQ w (filL n)):=by
 have h0:=ZFb n (w.alloc (.cells #[.slice none 0 0] 61)) hn;obtain⟨k,hk⟩:∃k,k=filL n:=⟨_,rfl⟩
 have k0:k<=131072:=by rw[hk];exact(ZDU n).2
 rw[<-hk]at h0 ⊢;have j0:∀W:World,(Instr.makeSlice 25 (.int .i64 (k:Int)) (.int .i64 (k:Int))).run Tryz.prog W = .ok (.slice (some ⟨W.heap.size,0,none⟩) k k) (W.alloc (.cells (madeCells #[.int .u8 0] k) 5)):=fun W=>by
  have h:=run_make (P:=Tryz.prog) W 25 5 _ _ Tryz.underlying25 rfl rfl .i64 .i64 (k:Int) (k:Int) (by omega) (by omega) (by show (1:Int)*k<=_;omega) (by omega);rw[h];simp only[Int.toNat_natCast];show Result.ok _ (W.alloc (.cells (madeCells #[.int .u8 0] (k*1)) 5))=_;rw[Nat.mul_one]
 have r1:=Row.new w 61 #[.slice none 0 0];have r1':=r1.alloc (.cells (madeCells #[.int .u8 0] k) 5);have z0:=r1'.cell 0 rfl;have zf:=r1'.free 0;have r2:=Row.new (w.alloc (.cells #[.slice (some ⟨w.heap.size+1,0,none⟩) k k] 61)) 5 (madeCells #[.int .u8 0] k);have hb:Buf (((w.alloc (.cells #[.slice (some ⟨w.heap.size+1,0,none⟩) k k] 61))).alloc (.cells (madeCells #[.int .u8 0] k) 5)) ((w.alloc (.cells #[.slice (some ⟨w.heap.size+1,0,none⟩) k k] 61))).heap.size 5 (some ⟨((w.alloc (.cells #[.slice (some ⟨w.heap.size+1,0,none⟩) k k] 61))).heap.size,0,none⟩) k k ((List.replicate k (0:UInt8)).map B8) :=
  ⟨by simp,Nat.le_refl _,.inr ⟨_,_,rfl,Nat.le_refl _,r2,by rw[size_madeCells];exact Nat.le_refl _,by rw[toList_madeCells_one,List.take_of_length_le (by simp),List.map_replicate];rfl⟩⟩
 rw[World.size_alloc]at hb;have q0:=(Row.new w 61 #[.slice (some ⟨w.heap.size+1,0,none⟩) k k]).alloc (.cells (madeCells #[.int .u8 0] k) 5);replace h0:=ZA h0;replace hk:=ZA hk;replace hb:=ZA hb;replace q0:=ZA q0;clear r1 r2 r1';go_enter Tryz.func121,Tryz.ntmps121;go_wp2_with fail;refine h0.out.mono ?_;rintro e w1 ⟨rfl,p0⟩;obtain rfl:=p0.symm;go_wp2_with fail;exact bodyPost_ret (ZT rfl _ _ w.heap.size #[.slice (some ⟨w.heap.size+1,0,none⟩) k k] rfl (run_loadVar_row _ w.heap.size 61 61 _ (0,0) _ q0.out Tryz.underlying61 rfl (by kernel_rfl))) rfl ⟨_,k,rfl,hb.out.in8,((Ext.refl w).alloc _).alloc _⟩
theorem ZN1 (ts:List (List UInt8)) (B:Option Addr) (k c2:Nat) (w:World) (hk:k=ts.length) (hB:Cells w B (ts.map strV)) (hs:∀s∈ts,s.length<=9223372036854775807) (l0:k<=1000000000) :
 Calls Tryz.prog 67 #[.slice B k c2] w fun e w'=>∃(A:Option Addr) (n c:Nat),e = .returned (.agg #[.slice A n c])/\In8 w' A n c (ofB ts)/\Ext w w':=by
 obtain⟨x,hx⟩:∃x:Nat,(x:Int)=min (k:Int) 262144:=⟨min k 262144,by omega⟩
 have n0:=fun(W:World)=>Zf (P:=Tryz.prog) #[3,3] 3 hx W;have c0:x=min ts.length 262144:=by omega
 have x0:Ext w (w.alloc (.cells #[.slice none 0 0] 61)):=(Ext.refl w).alloc _;have r1:=Row.new w 61 #[.slice none 0 0];have m0:=ZM1 x (w.alloc (.cells #[.slice none 0 0] 61)) (by omega);obtain⟨n,hn⟩:∃n,n=filL x:=⟨_,rfl⟩
 have o0:8<=n/\n<=131072:=by rw[hn];exact ZDU x
 rw[<-hn]at m0;have f0:ts.foldl addB (List.replicate n 0)=ofB ts:=by unfold ofB;rw[hn,c0]
 have k0:=ZA (fun A c W (hE:Ext w W) (hf:In8 W A n c (List.replicate n 0))=>ZHh (List.replicate n 0) ts A B n c k c2 W hf hk (hB.ext hE) hs (by omega) o0.2 l0);rw[f0]at k0;replace m0:=ZA m0;replace hx:=ZA hx;replace c0:=ZA c0;replace hn:=ZA hn;replace r1:=ZA r1;replace x0:=ZA x0;clear f0 hk hB hs;go_enter Tryz.func67,Tryz.ntmps67;go_wp2_with fail;refine m0.out.mono ?_;rintro e w1 ⟨A1,c1,rfl,j0,d0⟩;have r2:=ZA (r1.out.ext d0);have y0:=ZA (x0.out.trans d0);have q0:=j0.ext ((Ext.refl w1).alloc (.cells #[.slice A1 n c1] 61));have r3:=Row.new w1 61 #[.slice A1 n c1];have y3:(w1.alloc (.cells #[.slice A1 n c1] 61)).cell? ⟨w1.heap.size,0,none⟩=some (.slice A1 n c1):=r3.cell 0 rfl;have h0:=y0.out.alloc (.cells #[.slice A1 n c1] 61);have e0:=ZA (k0.out A1 c1 _ h0 q0);replace r3:=ZA r3;replace h0:=ZA h0;clear j0 q0 m0;go_wp2_with fail;refine e0.out.mono ?_;rintro e w3 ⟨A3,c3,cnt,rfl,g0,t0⟩;have r33:=r3.out.ext t0;have r23:=(r2.out.alloc (.cells #[.slice A1 n c1] 61)).ext t0;have u0:=ZA (h0.out.trans t0);obtain⟨g3,a0⟩:∃g3,g3=w1.heap.size:=⟨_,rfl⟩
 obtain⟨g2,v0⟩:∃g2,g2=w.heap.size:=⟨_,rfl⟩
 have i0:g2<g3:=by have:=r2.out.lt;omega
 rw[<-a0]at r33 ⊢;rw[<-v0]at r23 ⊢;have z3:=r33.cell 0 rfl;have f3:=r33.free 0;have p3:=r33.put 0 (.slice A3 n c3);have p2:=r23.away (p:=⟨g3,0,none⟩) (by simp only;omega) (.slice A3 n c3);have p0:=ZFG g0 z3 (.slice A3 n c3);have z0:=u0.out.setCell (p:=⟨g3,0,none⟩) (by simp only;omega) (.slice A3 n c3);have y3:(w3.setCell ⟨g3,0,none⟩ (.slice A3 n c3)).cell? ⟨g3,0,none⟩=some (.slice A3 n c3):=p3.cell 0 rfl;have z2:=p2.cell 0 rfl;have f2:=p2.free 0;have r0:g2≠g3:=by omega
 replace r33:=ZA r33;replace r23:=ZA r23;replace a0:=ZA a0;replace v0:=ZA v0;replace p3:=ZA p3;replace p2:=ZA p2;replace p0:=ZA p0;replace z0:=ZA z0;clear g0 t0 e0;go_wp2_with fail;have p9:=p2.out.put 0 (.slice A3 n c3);have b0:=ZFG p0.out z2 (.slice A3 n c3);exact bodyPost_ret (results_cell_row rfl _ _ g2 61 #[.slice A3 n c3] (0,0) _ rfl p9 Tryz.underlying61 rfl (by kernel_rfl)) rfl ⟨A3,n,c3,rfl,b0,z0.out.setCell (p:=⟨g2,0,none⟩) (by have:=v0.out;simp only;omega) _⟩
end
section
open Go.RowKit
def begB (p t:List UInt8):Bool:=decide (t.take p.length=p)
theorem ZPX:∀ {p t:List UInt8},begB p t=true->¬ t<p
 | [],t,_=>List.not_lt_nil _
 | x::p,[],h=>by simp[begB]at h
 | x::p,y::t,h=>by
  unfold begB at h;have h1:=of_decide_eq_true h;rw[List.length_cons,List.take_succ_cons]at h1;injection h1 with h2 h3;subst h2;intro hl;rw[List.cons_lt_cons_iff]at hl;rcases hl with hl | ⟨_,hl⟩
  ·exact UInt8.lt_irrefl _ hl
  ·exact ZPX (p:=p) (t:=t) (decide_eq_true h3) hl
theorem ZPY:∀ {p a b:List UInt8},¬ a<p->begB p a=false->a<b->begB p b=false
 | [],a,b,_,h,_=>by simp[begB]at h
 | x::p,[],b,h,_,_=>absurd (List.nil_lt_cons x p) h
 | x::p,y::a,[],_,_,h=>absurd h (List.not_lt_nil _)
 | x::p,y::a,z::b,h,hb,hl=>by
  unfold begB at hb ⊢;rw[List.length_cons,List.take_succ_cons]at hb ⊢;refine decide_eq_false fun e=>?_;injection e with e1 e2;subst e1;have hn:=of_decide_eq_false hb;rw[List.cons_lt_cons_iff]at h hl;rcases hl with hl | ⟨rfl,hl⟩
  ·exact h (.inl hl)
  ·have h1:¬ a<p:=fun h2=>h (.inr ⟨rfl,h2⟩);have h2:begB p a=false:=decide_eq_false fun e3=>hn (by rw[e3]);have h3:=ZPY h1 h2 hl;exact of_decide_eq_false h3 e2
def prefE (p:List UInt8) (l:List En):List En:=l.filter fun x=>begB p x.t
theorem ZPL (p:List UInt8):∀(l:List En),(l.Pairwise fun a b=>a.t<b.t)->(∀x∈l,¬ x.t<p)->l.takeWhile (fun x=>begB p x.t)=prefE p l
 | [],_,_=>rfl
 | x::t,h,hg=>by
  obtain⟨h1,h2⟩:=List.pairwise_cons.1 h;have ih:=ZPL p t h2 fun y hy=>hg y (List.mem_cons_of_mem _ hy);unfold prefE at ih ⊢;rw[List.takeWhile_cons,List.filter_cons];cases hb:begB p x.t with
  | true=>simp[ih]
  | false =>
   simp only[Bool.false_eq_true,if_false];exact(List.filter_eq_nil_iff.2 fun y hy=>by simp[ZPY (hg x (List.mem_cons_self ..)) hb (h1 y hy)]).symm
theorem ZPP {p:List UInt8} {l:List En} {k:Nat} (h0:l.Pairwise fun a b=>a.t<b.t) (hf:FloP l p k):(l.drop k).takeWhile (fun x=>begB p x.t)=prefE p l:=by
 have hd:(l.drop k).Pairwise fun a b=>a.t<b.t:=h0.sublist (List.drop_sublist k l);rw[ZPL p (l.drop k) hd fun x hx=>?_]
 ·have h1:l=l.take k++l.drop k:=(List.take_append_drop k l).symm;have h2:prefE p (l.take k) = []:=List.filter_eq_nil_iff.2 fun x hx=>by
   obtain⟨j,hj,rfl⟩:=List.mem_iff_getElem.1 hx;rw[List.length_take]at hj;have h3:=(hf.iff j l[j] (List.getElem?_eq_getElem (by omega))).1 (by omega);rw[List.getElem_take];intro hb;exact ZPX hb h3
  conv=>rhs;rw[h1]
  unfold prefE at h2 ⊢;rw[List.filter_append,h2,List.nil_append]
 ·obtain⟨j,hj,rfl⟩:=List.mem_iff_getElem.1 hx;rw[List.length_drop]at hj;rw[List.getElem_drop];exact fun hl=>absurd ((hf.iff (k+j) l[k+j] (List.getElem?_eq_getElem (by omega))).2 hl) (by omega)
end
section
open Go.RowKit Go.Maps
theorem ZPB {w:World} {B:Option Addr} {n:Nat} {E:List IdE} (hn:n=E.length) (h:Cells w B (idcells E)) {i:Nat} (hi:i<n):∃(x:IdE) (g o:Nat),E[i]? = some x/\B=some ⟨g,o,none⟩/\∀W,Ext w W->W.cell? ⟨g,o+i*2,none⟩=some (.string ⟨x.s.toArray⟩)/\W.cell? ⟨g,o+i*2+1,none⟩=some (.slice x.A x.ps.length x.c):=by
 obtain⟨x,hx⟩:∃x,E[i]? = some x:=⟨_,List.getElem?_eq_getElem (by rw[<-hn];exact hi)⟩
 obtain⟨g,o,hA,h0⟩:=ZBT h hx;exact⟨x,g,o,hx,hA,h0⟩
def PosE (E:List IdE) (t:List UInt8) (w:World) (e:Ending) (w':World):Prop:=Ext w w'/\((∃x∈E,x.s=t/\e = .returned (.slice x.A x.ps.length x.c))\/((∀x∈E,x.s≠t)/\e = .returned (.slice none 0 0)))
theorem PlaP.none {E:List IdE} {t:List UInt8} {k:Nat} (h:PlaP (idR E) t k) (hr:Ris (idR E)) (hk:∀x,E[k]? = some x->x.s≠t):∀x∈E,x.s≠t:=fun x hx e=>by
 obtain⟨i,hi⟩:=List.mem_iff_getElem?.1 hx;have h0:=ZFi hi;rcases Nat.lt_trichotomy i k with hl | rfl | hl
 ·have:=h.low i _ hl h0;rw[e]at this;exact absurd this (by simp)
 ·exact hk x hi e
 ·obtain⟨y,hy⟩:∃y,E[k]? = some y:=⟨_,List.getElem?_eq_getElem (by have:=(List.getElem?_eq_some_iff.1 hi).1;omega)⟩
  have q0:=ZFi hy;have h1:=h.high _ q0;obtain⟨hi1,hi2⟩:=List.getElem?_eq_some_iff.1 h0;obtain⟨p0,k0⟩:=List.getElem?_eq_some_iff.1 q0;have h2:=List.pairwise_iff_getElem.1 hr k i p0 hi1 hl;rw[hi2,k0]at h2;simp only at h1 h2;rw[e]at h2;exact h1 h2
theorem ZPM (E:List IdE) (B:Option Addr) (n c:Nat) (t:List UInt8) (w:World) (hn:n=E.length) (h:Cells w B (idcells E)) (hr:Ris (idR E)) (g0:n<=1000000000) :
 Calls Tryz.prog 25 #[.slice B n c,.string ⟨t.toArray⟩] w fun e w'=>PosE E t w e w':=by
 have t0:=ZA (ZGX E B n c t w hn h g0);replace hr:=ZA hr;replace hn:=ZA hn;replace h:=ZA h;go_enter Tryz.func25,Tryz.ntmps25;go_wp2_with fail;refine t0.out.mono ?_;rintro e w1 ⟨k,rfl,hP,p0⟩;have u0:k<=n:=by have:=hP.le;rw[ZDe,<-hn.out]at this;exact this
 by_cases hk:k<n
 ·obtain⟨x,g,o,hx,hB,j0⟩:=ZPB hn.out h.out hk;obtain⟨l0,l1⟩:=j0 w1 p0;have v0:((k:Int)==n)=false:=by simp;omega
  have hm:=List.mem_of_getElem? hx;have h0:=ZA (fun(m0:x.s≠t)=>hP.none hr.out fun y hy=>by rw[hx]at hy;cases hy;exact m0);have q0:=ZA (fun(he:x.s=t)=>show PosE E t w (.returned (.slice x.A x.ps.length x.c)) w1 from⟨p0,.inl ⟨x,hm,he,rfl⟩⟩);obtain⟨xs,ps,xA,xc⟩:=x;simp only at l0 l1 h0 q0;obtain⟨np,k0⟩:∃np,np=ps.length:=⟨_,rfl⟩
  rw[<-k0]at l1 q0;subst hB;replace k0:=ZA k0;replace hx:=ZA hx;replace hP:=ZA hP;clear j0;by_cases he:xs=t
  ·have hq:(!(xs==t))=false:=by simp[he]
   have hf:=ZA (q0.out he);replace he:=ZA he;clear q0 h0;go_wp2_with fail;go_ret;exact hf.out
  ·have hq:(!(xs==t))=true:=by simp[he]
   have hf:=ZA (h0.out he);replace he:=ZA he;clear q0 h0;go_wp2_with fail;go_ret;exact⟨p0,.inr ⟨hf.out,rfl⟩⟩
 ·obtain rfl:k=n:=by omega
  have hf:=ZA (hP.none hr.out fun y hy=>by rw[List.getElem?_eq_none (by rw[<-hn.out];exact Nat.le_refl _)]at hy;cases hy);replace hP:=ZA hP;go_wp2_with fail;go_ret;exact⟨p0,.inr ⟨hf.out,rfl⟩⟩
def NewTx (w:World) (l:List (List UInt8)) (e:Ending) (w':World):Prop:=∃(A:Option Addr) (n c:Nat),e = .returned (.slice A n c)/\n=l.length/\Cells w' A (l.map strV)/\Ext w w'
theorem ZPH (E:List IdE) (B:Option Addr) (n c:Nat) (w:World) (hn:n=E.length) (h:Cells w B (idcells E)) (hs:∀x∈E,x.s.length<=1000000000) (i0:n<=1000000000) :
 Calls Tryz.prog 23 #[.slice B n c] w fun e w'=>∃(A:Option Addr) (m c:Nat),e = .returned (.agg #[.slice A m c])/\In8 w' A m c (ofB (E.map (·.s)))/\Ext w w':=by
 replace hn:=ZA hn;replace h:=ZA h;replace hs:=ZA hs;obtain⟨b2,p0⟩:∃b2,b2=w.heap.size:=⟨_,rfl⟩
 obtain⟨W0,h0⟩:∃W0,W0=w.alloc (.cells #[.slice none 0 0] 61):=⟨_,rfl⟩
 have z0:Ext w W0:=by rw[h0];exact(Ext.refl w).alloc _
 have v0:Row W0 b2 61 #[.slice none 0 0]:=by rw[h0,p0];exact Row.new w _ _
 go_enter Tryz.func23,Tryz.ntmps23;go_wp2_with fail;rw[<-h0,<-p0];have g0:=ZA (Nat.le_of_eq p0.symm);replace p0:=ZA p0;replace h0:=ZA h0;replace v0:=ZA v0
 go_loopw [3,4] (fun s3 s4 wr=>∃(i cT:Nat) (TA:Option Addr),s4 = .int .i64 (i:Int)/\s3 = .slice TA i cT/\i<=n/\Hid (wr.ownsRow W0.heap.size 9 1 (.slice TA i cT) i (((E.take i).map (·.s)).map strV))/\Hid (Ext W0 wr)) (fun _ s4 _=>n - (intOf s4).toNat)
 case atStart=>exact⟨0,0,none,rfl,rfl,by omega,ZA (World.ownsRow_nil _ _ _ _),ZA (Ext.refl _)⟩
 case round =>
  obtain⟨i,cT,TA,rfl,rfl,hi,hT,hE⟩:=hrel;by_cases e0:i<n
  ·obtain⟨x,g,o,hx,hB,b0⟩:=ZPB hn.out h.out e0;obtain⟨l0,l1⟩:=b0 wr (z0.trans hE.out);have k0:((E.take (i+1)).map (·.s)).map strV=((E.take i).map (·.s)).map strV ++ [.string ⟨x.s.toArray⟩]:=by
    rw[List.take_add_one,hx,List.map_append,List.map_append];rfl
   obtain⟨xs,ps,xA,xc⟩:=x;simp only at l0 l1 k0;subst hB;have r0:=hE.out.size;replace k0:=ZA k0;clear hx b0 l1;go_wp2_with (at_builtin;refine ZR (us:= [.string ⟨xs.toArray⟩]) (m:=1) ZLF hT.out rfl (.tmp 11) (.tmp 17) rfl rfl rfl rfl rfl (by simp[Value.oneCell']) (by omega) r0 (fun A9 c9 w9 t0 c0 f0=>?_);have d0:=ZA (ZDw hT.out c0 hE.out (Nat.le_refl _));replace t0:=ZA t0;clear c0 f0);exact⟨⟨i+1,c9,A9,by go_num,rfl,by omega,ZA (by rw[k0.out];exact t0.out),d0⟩,by simp only[intOf];omega⟩
  ·obtain rfl:i=n:=by omega
   have q0:E.take i=E:=List.take_of_length_le (by rw[<-hn.out];exact Nat.le_refl _);have j0:=Cells.of_own hT.out;rw[q0]at j0;have n0:=ZA (ZN1 (E.map (·.s)) TA i cT wr (by rw[List.length_map];exact hn.out) j0 (fun s o0=>by obtain⟨y,hy,rfl⟩:=List.mem_map.1 o0;have:=hs.out y hy;omega) i0);clear j0 q0;go_wp2_with fail;refine n0.out.mono ?_;rintro e w2 ⟨A,m,cm,rfl,m0,a0⟩;have x0:=v0.out.ext (hE.out.trans a0);have y0:=x0.cell 0 rfl;have u0:=x0.free 0;go_wp2_with fail;have pf:Row (w2.setCell ⟨b2,0,none⟩ (.slice A m cm)) b2 61 #[.slice A m cm]:=x0.put 0 _;have hi2:=ZFG m0 y0 (.slice A m cm);exact bodyPost_ret (results_cell_row rfl _ _ b2 61 #[.slice A m cm] (0,0) _ rfl pf Tryz.underlying61 rfl (by kernel_rfl)) rfl ⟨A,m,cm,rfl,hi2,((z0.trans hE.out).trans a0).setCell (p:=⟨b2,0,none⟩) g0.out _⟩
theorem ZPI (E:List IdE) (B:Option Addr) (n c:Nat) (p:List UInt8) (w:World) (hn:n=E.length) (h:Cells w B (idcells E)) (hs:∀x∈E,x.s.length<=1000000000) (hp:p.length<=1000000000) (n0:n<=1000000000) :
 Calls Tryz.prog 29 #[.slice B n c,.string ⟨p.toArray⟩] w fun e w'=>NewTx w ((E.map (·.s)).filter fun t=>begB p t) e w':=by
 replace hn:=ZA hn;replace h:=ZA h;replace hs:=ZA hs;go_enter Tryz.func29,Tryz.ntmps29;go_wp2_with fail
 go_loopw [5,6] (fun s5 s6 wr=>∃(i k cT:Nat) (TA:Option Addr),s6 = .int .i64 (i:Int)/\s5 = .slice TA k cT/\i<=n/\k<=i/\Hid (k=(((E.take i).map (·.s)).filter fun t=>begB p t).length)/\Hid (wr.ownsRow w.heap.size 9 1 (.slice TA k cT) k ((((E.take i).map (·.s)).filter fun t=>begB p t).map strV))/\Hid (Ext w wr)) (fun _ s6 _=>n - (intOf s6).toNat)
 case atStart=>exact⟨0,0,0,none,rfl,rfl,by omega,by omega,ZA rfl,ZA (World.ownsRow_nil _ _ _ _),ZA (Ext.refl _)⟩
 case round =>
  obtain⟨i,k,cT,TA,rfl,rfl,hi,i0,hk,hT,hE⟩:=hrel;by_cases b0:i<n
  ·obtain⟨x,g,o,hx,hB,t0⟩:=ZPB hn.out h.out b0;obtain⟨l0,l1⟩:=t0 wr hE.out;have f0:=hs.out x (List.mem_of_getElem? hx);have h0:((E.take (i+1)).map (·.s)).filter (fun t=>begB p t)=(((E.take i).map (·.s)).filter fun t=>begB p t)++if begB p x.s=true then [x.s] else []:=by
    rw[List.take_add_one,hx,List.map_append,List.filter_append];congr 1;show (List.filter (fun t=>begB p t) [x.s])=_;by_cases hb:begB p x.s=true
    ·rw[if_pos hb,List.filter_cons_of_pos hb];rfl
    ·rw[if_neg hb,List.filter_cons_of_neg hb];rfl
   obtain⟨xs,ps,xA,xc⟩:=x;simp only at l0 l1 h0 f0;subst hB;have e0:=hE.out.size;have j0:=fun(hl:p.length<=xs.length)=>ZDK xs p.length hl;by_cases hb:begB p xs=true
   ·rw[if_pos hb]at h0;have y0:xs.take p.length=p:=of_decide_eq_true hb;have hlen:p.length<=xs.length:=by
     have:=congrArg List.length y0;rw[List.length_take]at this;omega
    have hg:(p.length:Int)<=(xs.length:Int):=by omega
    have g0:=j0 hlen;rw[y0]at g0;have v0:(((E.take (i+1)).map (·.s)).filter (fun t=>begB p t)).length=k+1:=by rw[h0,List.length_append,<-hk.out];rfl
    have q0:(((E.take (i+1)).map (·.s)).filter (fun t=>begB p t)).map strV=((((E.take i).map (·.s)).filter fun t=>begB p t).map strV) ++ [.string ⟨xs.toArray⟩]:=by rw[h0,List.map_append];rfl
    replace v0:=ZA v0;replace q0:=ZA q0;clear hx t0 l1 h0 hb y0 j0;go_wp2_with (at_builtin;refine ZR (us:= [.string ⟨xs.toArray⟩]) (m:=1) ZLF hT.out rfl (.tmp 34) (.tmp 40) rfl rfl rfl rfl rfl (by simp[Value.oneCell']) (by omega) e0 (fun A9 c9 w9 x0 z0 c0=>?_);have a0:=ZA (ZDw hT.out z0 hE.out (Nat.le_refl _));replace x0:=ZA x0;clear z0 c0);exact⟨⟨i+1,k+1,c9,A9,by go_num,rfl,by omega,by omega,ZA v0.out.symm,ZA (by rw[q0.out];exact x0.out),a0⟩,by simp only[intOf];omega⟩
   ·rw[if_neg hb,List.append_nil]at h0;have k0:=hk.out;have p0:=hT.out;rw[<-h0]at k0 p0;replace k0:=ZA k0;replace p0:=ZA p0;have u0:p.length<=xs.length->(xs.take p.length==p)=false:=fun _=>beq_eq_false_iff_ne.2 fun e=>hb (decide_eq_true e);clear hx t0 l1 h0 hk hT;by_cases hlen:p.length<=xs.length
    ·have hg:(p.length:Int)<=(xs.length:Int):=by omega
     have g0:=j0 hlen;have d0:=u0 hlen;clear j0 u0 hb;go_wp2_with fail;exact⟨⟨i+1,k,cT,TA,by go_num,rfl,by omega,by omega,k0,p0,hE⟩,by simp only[intOf];omega⟩
    ·have hg:¬ (p.length:Int)<=(xs.length:Int):=by omega
     clear j0 u0 hb;go_wp2_with fail;exact⟨⟨i+1,k,cT,TA,by go_num,rfl,by omega,by omega,k0,p0,hE⟩,by simp only[intOf];omega⟩
  ·obtain rfl:i=n:=by omega
   have m0:E.take i=E:=List.take_of_length_le (by rw[<-hn.out];exact Nat.le_refl _);rw[m0]at hk hT;go_wp2_with fail;go_ret;exact⟨TA,k,cT,rfl,hk.out,Cells.of_own hT.out,hE.out⟩
end
section
open Go.RowKit Go.Maps
theorem ZO9 {α:Type} {q:α->Bool}:∀ {D:List α} {j:Nat},(∀x∈D.take j,q x=true)->(∀x,D[j]? = some x->q x=false)->D.takeWhile q=D.take j
 | [],j,_,_=>by simp
 | x::t,0,_,h=>by
  rw[List.takeWhile_cons,h x rfl];rfl
 | x::t,j+1,h1,h2=>by
  rw[List.take_succ_cons]at h1 ⊢;rw[List.takeWhile_cons,h1 x (List.mem_cons_self ..),ZO9 (D:=t) (j:=j) (fun y hy=>h1 y (List.mem_cons_of_mem _ hy)) fun y hy=>h2 y (by simpa using hy)];rfl
theorem ZPo (t p:List UInt8):Lib.hasPrefix t p=begB p t:=by
 unfold Lib.hasPrefix begB;rw[Bool.eq_iff_iff,List.isPrefixOf_iff_prefix,List.prefix_iff_eq_take,decide_eq_true_iff];exact eq_comm
def NewE (w:World) (l:List En) (e:Ending) (w':World):Prop:=∃(A:Option Addr) (n c:Nat),e = .returned (.slice A n c)/\n=l.length/\Cells w' A (encells l)/\Ext w w'
theorem ZPO (g:Nat) (l:List En) (p:List UInt8) (w:World) (h:DicR w g l) (y0:OkEs l) :
 Calls Tryz.prog 75 #[.pointer (some ⟨g,0,none⟩),.string ⟨p.toArray⟩] w fun e w'=>NewE w (prefE p l) e w':=by
 have r0:=ZA (ZJ6 g l p w h y0);have hlen:=ZA (fun W (hE:Ext w W)=>ZFZ g l W (h.ext hE));have j1:=ZA y0.up;have q1:=y0.few;obtain⟨m,hm⟩:∃m,m=l.length:=⟨_,rfl⟩
 rw[<-hm]at hlen q1;have s0:=ZA (fun(t:List UInt8) W=>(by
  have h1:=Tryz.strings_HasPrefix ⟨t.toArray⟩ ⟨p.toArray⟩ W;simpa [ZPo]using h1:Calls Tryz.prog 48 #[.string ⟨t.toArray⟩,.string ⟨p.toArray⟩] W fun e w'=>e = .returned (.bool (begB p t))/\w'=W))
 obtain⟨A,c,hr,hc⟩:=h;rw[<-hm]at hr;replace hr:=ZA hr;replace hc:=ZA hc;replace hm:=ZA hm;clear y0;go_enter Tryz.func75,Tryz.ntmps75;go_wp2_with fail;refine r0.out.mono ?_;rintro e w1 ⟨k,rfl,a0,v0⟩;have w0:k<=m:=by have:=a0.le;rw[hm.out];exact this
 have n0:=ZA (ZPP j1.out a0);have v0:=ZA v0;clear a0;go_wp2_with fail
 go_loopw [5,6] (fun s5 s6 wr=>∃(i j n c5:Nat) (B:Option Addr),s5 = .slice B n c5/\s6 = .int .i64 (i:Int)/\i<=m/\n<=i/\Hid (i=k+j)/\Hid (n=((l.drop k).take j).length)/\Hid (∀x∈(l.drop k).take j,begB p x.t=true)/\Hid (wr.ownsRow w.heap.size 97 4 (.slice B n c5) n (encells ((l.drop k).take j)))/\Hid (Ext w wr)) (fun _ s6 _=>m - (intOf s6).toNat)
 case atStart=>exact⟨k,0,0,0,none,rfl,rfl,w0,by omega,ZA (by omega),ZA rfl,ZA nofun,ZA ⟨rfl,.inl ⟨rfl,rfl⟩⟩,v0⟩
 case round =>
  clear v0;obtain⟨i,j,n,c5,B,rfl,rfl,hi,g1,c0,hn,m0,ho,hE⟩:=hrel;have p0:=hlen.out wr hE.out;have k0:wr.cell? ⟨g,0,none⟩=some (.slice A m c):=(hr.out.ext hE.out).cell 0 rfl;by_cases him:i<m
  ·obtain⟨x,hx⟩:∃x,l[i]? = some x:=⟨_,List.getElem?_eq_getElem (by rw[<-hm.out];exact him)⟩
   obtain⟨ga,oa,hA,x0,x1,x2,x3⟩:=Z0 (hc.out.ext hE.out) hx;have i0:(l.drop k)[j]? = some x:=by rw[List.getElem?_drop,<-c0.out];exact hx
   have z0:(l.drop k).take (j+1)=(l.drop k).take j ++ [x]:=by rw[List.take_add_one,i0];rfl
   have q0:=s0.out x.t wr;have h0:begB p x.t=false->(l.drop k).takeWhile (fun x=>begB p x.t)=(l.drop k).take j:=fun hb=>ZO9 m0.out fun y hy=>by
    rw[i0]at hy;rw[<-Option.some.inj hy];exact hb
   have u0:begB p x.t=true->∀y∈(l.drop k).take (j+1),begB p y.t=true:=fun hb y hy=>by
    rw[z0]at hy;rcases List.mem_append.1 hy with hy | hy
    ·exact m0.out y hy
    ·rw[List.mem_singleton.1 hy];exact hb
   have g0:=ZCg ((l.drop k).take j) x;rw[<-z0]at g0;have d0:((l.drop k).take (j+1)).length=n+1:=by rw[z0,List.length_append,<-hn.out];rfl
   obtain⟨t,off,len,nn⟩:=x;unfold En.cells at g0;simp only at x0 x1 x2 x3 q0 h0 u0 g0;have k1:=hE.out.size;subst hA;replace p0:=ZA p0;replace g0:=ZA g0;replace d0:=ZA d0;clear hx i0 z0;cases hb:begB p t with
   | true =>
    rw[hb]at q0;have b0:=ZA (u0 hb);replace q0:=ZA q0;clear h0 u0 hb;go_wp2_with fail;refine p0.out.mono ?_;rintro e w2 ⟨rfl,t0⟩;obtain rfl:=t0.symm;go_wp2_with fail;refine q0.out.mono ?_;rintro e w3 ⟨rfl,f0⟩;obtain rfl:=f0.symm;go_wp2_with (at_builtin;refine ZR (us:= [.string ⟨t.toArray⟩,.int .i64 (off:Int),.int .i64 (len:Int),.int .i64 (nn:Int)]) (m:=1) ZOL ho.out rfl (.tmp 28) (.tmp 36) rfl rfl rfl rfl rfl (ZS rfl) (by omega) k1 (fun A8 c8 w8 e0 l0 p1=>?_);have o0:=ZA (hE.out.grown l0 (fun k hk=>by obtain⟨_,_,hb⟩:=ZC ho.out hk;exact hb));replace e0:=ZA e0;clear l0 p1);go_roundw
    case rel=>exact⟨i+1,j+1,n+1,c8,A8,rfl,by go_num,by omega,by omega,ZA (by have:=c0.out;omega),ZA d0.out.symm,b0,ZA (by rw[g0.out];exact e0.out),o0⟩
    case measure=>simp only[intOf];omega
   | false =>
    rw[hb]at q0;have j0:=h0 hb;rw[n0.out]at j0;rw[<-j0]at hn ho;replace q0:=ZA q0;clear h0 u0 hb m0 j0;go_wp2_with fail;refine p0.out.mono ?_;rintro e w2 ⟨rfl,t0⟩;obtain rfl:=t0.symm;go_wp2_with fail;refine q0.out.mono ?_;rintro e w3 ⟨rfl,f0⟩;obtain rfl:=f0.symm;go_wp2_with fail;go_ret;exact⟨B,n,c5,rfl,hn.out,Cells.of_own ho.out,hE.out⟩
  ·obtain rfl:i=m:=by omega
   have j0:(l.drop k).takeWhile (fun x=>begB p x.t)=(l.drop k).take j:=ZO9 m0.out fun y hy=>by
    rw[List.getElem?_drop,<-c0.out,hm.out,List.getElem?_eq_none (Nat.le_refl _)]at hy;cases hy
   rw[n0.out]at j0;rw[<-j0]at hn ho;replace p0:=ZA p0;clear m0 j0 k0;go_wp2_with fail;refine p0.out.mono ?_;rintro e w2 ⟨rfl,t0⟩;obtain rfl:=t0.symm;go_wp2_with fail;go_ret;exact⟨B,n,c5,rfl,hn.out,Cells.of_own ho.out,hE.out⟩
end
section
open Go.RowKit Go.Maps
theorem ZPE (p:List UInt8):∀(R:List (List UInt8×List Po)) (o:Nat),(prefE p (enOf o R)).map (·.t)=(R.map (·.1)).filter fun t=>begB p t
 | [],o=>rfl
 | r::R,o=>by
  have ih:=ZPE p R (o+(encPs r.2).length);unfold prefE at ih ⊢;unfold enOf;rw[List.map_cons];by_cases hb:begB p r.1=true <;> simp[hb,ih]
theorem ZPR (g:Nat) (P:List Dc) (p:List UInt8) (w:World) (h:SegR w g P) (hP:SegP P) :
 Calls Tryz.prog 28 #[.pointer (some ⟨g,0,none⟩),.string ⟨p.toArray⟩] w fun e w'=>NewTx w (((rowsD P).map (·.1)).filter fun t=>begB p t) e w':=by
 have hn:=ZA (h.none hP);have hB:=hP.sm.seg;have r0:=hB.rows;obtain⟨ds,A,c,lo,hi,fi,la,B,cB,gd,gf,h1,h2,h3,h4,h5,h6,h7⟩:=h;have k8:=h1.cell 8 rfl;have k0:=ZPO gd (enOf 0 (rowsD P)) p w h5 hB.ens;have d0:=ZPE p (rowsD P) 0;obtain⟨L,hL⟩:∃L,L=prefE p (enOf 0 (rowsD P)):=⟨_,rfl⟩
 have o0:L.length<=70000:=by
  have h8:L.length<=(enOf 0 (rowsD P)).length:=by rw[hL];exact List.length_filter_le ..
  rw[ZA5]at h8;omega
 rw[<-d0];rw[<-hL]at k0 ⊢;replace k0:=ZA k0;replace hL:=ZA hL;replace h1:=ZA h1;clear h2 h3 h4 h5 h6 h7 hB d0;go_enter Tryz.func28,Tryz.ntmps28;go_wp2_with fail;refine hn.out.mono ?_;rintro e w1 ⟨rfl,rfl⟩;go_wp2_with fail;refine k0.out.mono ?_;rintro e w2 ⟨A2,n2,c2,rfl,p0,u0,g0⟩;have n0:n2<=70000:=by omega
 replace p0:=ZA p0;replace u0:=ZA u0;replace g0:=ZA g0;go_wp2_with fail
 go_loopw [5,18] (fun s5 s18 wr=>∃(i cT:Nat) (TA:Option Addr),s18 = .int .i64 (i:Int)/\s5 = .slice TA i cT/\i<=n2/\Hid (wr.ownsRow w2.heap.size 9 1 (.slice TA i cT) i (((L.take i).map (·.t)).map strV))/\Hid (Ext w2 wr)) (fun _ s18 _=>n2 - (intOf s18).toNat)
 case atStart=>exact⟨0,0,none,rfl,rfl,by omega,ZA (World.ownsRow_nil _ _ _ _),ZA (Ext.refl _)⟩
 case round =>
  obtain⟨i,cT,TA,rfl,rfl,hi,hT,hE⟩:=hrel;by_cases f0:i<n2
  ·obtain⟨x,hx⟩:∃x,L[i]? = some x:=⟨_,List.getElem?_eq_getElem (by rw[<-p0.out];exact f0)⟩
   obtain⟨g3,o3,hA,l0,l1,l2,l3⟩:=Z0 (u0.out.ext hE.out) hx;have j0:((L.take (i+1)).map (·.t)).map strV=((L.take i).map (·.t)).map strV ++ [.string ⟨x.t.toArray⟩]:=by
    rw[List.take_add_one,hx,List.map_append,List.map_append];rfl
   obtain⟨t,off,len,nn⟩:=x;simp only at l0 l1 l2 l3 j0;subst hA;obtain⟨W5,h0⟩:∃W5,W5=wr.alloc (.cells #[.string ⟨t.toArray⟩,.int .i64 (off:Int),.int .i64 (len:Int),.int .i64 (nn:Int)] 97):=⟨_,rfl⟩
   have m0:Ext wr W5:=by rw[h0];exact(Ext.refl wr).alloc _
   have b0:Row W5 wr.heap.size 97 #[.string ⟨t.toArray⟩,.int .i64 (off:Int),.int .i64 (len:Int),.int .i64 (nn:Int)]:=by rw[h0];exact Row.new wr _ _
   have y0:=b0.cell 0 rfl;rw[h0]at y0;have t0:=m0.owns hT.out;have q0:=ZA (hE.out.trans m0);have c0:=q0.out.size;rw[h0]at t0 c0;replace j0:=ZA j0;replace h0:=ZA h0;clear hx b0 m0;go_wp2_with (at_builtin;refine ZR (us:= [.string ⟨t.toArray⟩]) (m:=1) ZLF t0 (by simp) (.tmp 22) (.tmp 25) rfl rfl rfl rfl rfl (by simp[Value.oneCell']) (by omega) c0 (fun A9 c9 w9 z0 a0 i0=>?_);have e0:=ZA (ZDw t0 a0 (by rw[<-h0.out];exact q0.out) (Nat.le_refl _));replace z0:=ZA z0;clear a0 i0);exact⟨⟨i+1,c9,A9,by go_num,rfl,by omega,ZA (by rw[j0.out];exact z0.out),e0⟩,by simp only[intOf];omega⟩
  ·obtain rfl:i=n2:=by omega
   have v0:L.take i=L:=List.take_of_length_le (by rw[<-p0.out];exact Nat.le_refl _);rw[v0]at hT;have x0:i=(L.map (·.t)).length:=by rw[List.length_map];exact p0.out
   replace x0:=ZA x0;go_wp2_with fail;go_ret;exact⟨TA,i,cT,rfl,x0.out,Cells.of_own hT.out,g0.out.trans hE.out⟩
def DocP (P:List Dc) (i:Int) (w:World) (e:Ending) (w':World):Prop:=Ext w w' /\
 ((∃(k:Nat) (x:DocC),i=(k:Int)/\P[k]? = some x.dc/\e = .returned (.tuple #[.agg #[.int .i64 x.seq,.int .i64 x.e.at_,.slice x.A x.e.fs.length x.c],.bool true])/\x.e.Own w' w.heap.size x.A x.c/\I64ok' x.e.at_/\I64ok' x.seq) \/
  (¬ (0<=i/\i<(P.length:Int))/\e = .returned (.tuple #[.agg #[.int .i64 0,.int .i64 0,.slice none 0 0],.bool false])))
theorem ZPh (g:Nat) (P:List Dc) (i:Int) (w:World) (h:SegR w g P) (hP:SegP P) :
 Calls Tryz.prog 30 #[.pointer (some ⟨g,0,none⟩),.int .i64 i] w fun e w'=>DocP P i w e w':=by
 have hlen:=ZA (fun W (hE:Ext w W)=>ZH2 g P W (h.ext hE) hP.ne hP.few);have e0:=fun {d:Dc} (hd:d∈P)=>hP.fields hd;have m0:Ext w (w.alloc (Obj.cells #[.int .i64 0,.int .i64 0,.slice none 0 0] 39)):=(Ext.refl w).alloc _;have hr:Row (w.alloc (Obj.cells #[.int .i64 0,.int .i64 0,.slice none 0 0] 39)) w.heap.size 39 #[.int .i64 0,.int .i64 0,.slice none 0 0]:=Row.new w _ _;have p1:=hP.few;by_cases hi:i<0
 ·have h0:=ZA (show ¬ (0<=i/\i<(P.length:Int))by omega);go_enter Tryz.func30,Tryz.ntmps30;go_wp2_with fail;exact bodyPost_ret (ZT rfl _ _ w.heap.size #[.int .i64 0,.int .i64 0,.slice none 0 0] rfl (run_loadVar_row _ w.heap.size 39 39 _ (0,0) _ hr Tryz.underlying39 rfl (by kernel_rfl))) rfl ⟨m0,.inr ⟨h0.out,rfl⟩⟩
 ·by_cases f0:(P.length:Int)<=i
  ·have h0:=ZA (show ¬ (0<=i/\i<(P.length:Int))by omega);obtain⟨pl,j0⟩:∃pl,pl=P.length:=⟨_,rfl⟩
   rw[<-j0]at hlen f0;replace j0:=ZA j0;go_enter Tryz.func30,Tryz.ntmps30;go_wp2_with fail;refine(hlen.out _ m0).mono ?_;rintro e w1 ⟨rfl,rfl⟩;go_wp2_with fail;exact bodyPost_ret (ZT rfl _ _ w.heap.size #[.int .i64 0,.int .i64 0,.slice none 0 0] rfl (run_loadVar_row _ w.heap.size 39 39 _ (0,0) _ hr Tryz.underlying39 rfl (by kernel_rfl))) rfl ⟨m0,.inr ⟨h0.out,rfl⟩⟩
  ·obtain⟨k,rfl⟩:∃k:Nat,i=(k:Int):=⟨i.toNat,by omega⟩
   obtain⟨ds,A,c,lo,k1,fi,la,B,cB,gd,gf,h1,h2,h3,h4,h5,h6,h7⟩:=h;have d0:P.length=ds.length:=by rw[<-h2];exact List.length_map ..
   obtain⟨x,hx⟩:∃x,ds[k]? = some x:=⟨_,List.getElem?_eq_getElem (by omega)⟩
   have x0:P[k]? = some x.dc:=by rw[<-h2];unfold dcs;rw[List.getElem?_map,hx];rfl
   obtain⟨n0,i0⟩:=h4.each x (List.mem_of_getElem? hx);have v0:=e0 (List.mem_of_getElem? x0);obtain⟨gA,oA,hA,_,_,_⟩:=ZU h4.cells hx;obtain⟨pl,j0⟩:∃pl,pl=P.length:=⟨_,rfl⟩
   have r0:k<ds.length:=(List.getElem?_eq_some_iff.1 hx).1;have k0:=(h1.ext m0).cell 0 rfl;obtain⟨_,_,o0,l0,l1,l2⟩:=ZU (h4.cells.ext m0) hx;subst hA;cases o0;rw[<-j0]at hlen f0;rw[<-d0,<-j0]at k0;have t0:=ZA (fun W (hE:Ext w W)=>ZNx x W (n0.ext hE) v0);obtain⟨sq,⟨at_,fs⟩,xA,xc⟩:=x;simp only at t0 l0 l1 l2 i0;obtain⟨fl,p0⟩:∃fl,fl=fs.length:=⟨_,rfl⟩
   rw[<-p0]at t0 l2;have j1:k<pl:=by omega
   replace j0:=ZA j0;replace p0:=ZA p0;replace x0:=ZA x0;replace hx:=ZA hx;have q0:=ZA m0;have w0:=ZA hr;clear h1 h2 h3 h4 h5 h6 h7 n0 v0 e0 m0 hr d0 r0;go_enter Tryz.func30,Tryz.ntmps30;go_wp2_with fail;refine(hlen.out _ q0.out).mono ?_;rintro e w1 ⟨rfl,rfl⟩;go_wp2_with fail;refine(t0.out _ q0.out).mono ?_;rintro e w2 ⟨A2,c2,rfl,b0,c0⟩;have g0:=w0.out.ext c0;have y0:=g0.cell 0 rfl;have y1:=g0.cell 1 rfl;have y2:=g0.cell 2 rfl;have u0:=g0.free 0;have u1:=g0.free 1;have u2:=g0.free 2;go_wp2_with fail;obtain⟨W3,z0⟩:∃W3,W3=((w2.setCell ⟨w.heap.size,0,none⟩ (.int .i64 sq)).setCell ⟨w.heap.size,1,none⟩ (.int .i64 at_)).setCell ⟨w.heap.size,2,none⟩ (.slice A2 fl c2):=⟨_,rfl⟩
   have pf:Row W3 w.heap.size 39 #[.int .i64 sq,.int .i64 at_,.slice A2 fl c2]:=by rw[z0];exact((g0.put 0 _).put 1 _).put 2 _
   have hC:Chg (fun q=>q=w.heap.size) w2 W3:=by
    rw[z0];exact((Chg.of_set (S:=fun q=>q=w.heap.size) w2 (a:=⟨w.heap.size,0,none⟩) _ rfl).trans (Chg.of_set (S:=fun q=>q=w.heap.size) _ (a:=⟨w.heap.size,1,none⟩) _ rfl) (fun _ _ e=>e)).trans (Chg.of_set (S:=fun q=>q=w.heap.size) _ (a:=⟨w.heap.size,2,none⟩) _ rfl) (fun _ _ e=>e)
   have a0:Ext w W3:=by
    rw[z0];exact(((q0.out.trans c0).setCell (p:=⟨w.heap.size,0,none⟩) (Nat.le_refl _) _).setCell (p:=⟨w.heap.size,1,none⟩) (Nat.le_refl _) _).setCell (p:=⟨w.heap.size,2,none⟩) (Nat.le_refl _) _
   have s0:Ev.Own ⟨at_,fs⟩ W3 w.heap.size A2 c2:=⟨hC.owns (ZN b0.1 q0.out.size) fun q hq e=>by
    obtain⟨cs,q1,_⟩:=ZC b0.1 hq;exact Row.unlike q1 g0 (by decide) e,b0.2⟩
   have h0:=ZA (show DocP P (k:Int) w (.returned (.tuple #[.agg #[.int .i64 sq,.int .i64 at_,.slice A2 fl c2],.bool true])) W3 from⟨a0,.inl ⟨k,⟨sq,⟨at_,fs⟩,A2,c2⟩,rfl,x0.out,by rw[p0.out],s0,i0⟩⟩);rw[<-z0];refine bodyPost_ret (ZT rfl _ _ w.heap.size #[.int .i64 sq,.int .i64 at_,.slice A2 fl c2] rfl (run_loadVar_row _ w.heap.size 39 39 _ (0,0) _ pf Tryz.underlying39 rfl (by kernel_rfl))) rfl ?_;exact h0.out
end
section
open Go.RowKit Go.Maps
theorem SegRB.chg {base:Nat} {w w1:World} {g q:Nat} {cur:Array Value} {P:List Dc} (h:SegRB base w g P) (hC:Chg (fun k=>k=q) w w1) (hr:Row w q 5 cur) (hq:q<base):SegRB base w1 g P:=by
 obtain⟨ds,A,c,lo,hi,fi,la,B,cB,gd,gf,h1,h2,h3,h4,h5,h6,b,cf,cc,f1,f2,f3,f4⟩:=h;have h0:∀k t cs,Row w k t cs->t≠5->¬ k=q:=fun k t cs hk ht e=>Row.unlike hk hr ht e;refine⟨ds,A,c,lo,hi,fi,la,B,cB,gd,gf,h1.keep (hC.block _ h1.lt (h0 _ _ _ h1 (by decide))),h2,h3,h4.chg hC (fun k t cs hk ht hb e=>by omega),h5.chg hC (fun k e=>⟨5,cur,by rw[show k=q from e];exact hr,by decide,by decide⟩),h6.chg hC (fun a ha e=>by have:=h6.base a ha;omega),b,cf,cc,f1.keep (hC.block _ f1.lt (h0 _ _ _ f1 (by decide))),f2,f3.keep (hC.block _ f3.lt (fun e=>by omega)),f4⟩
theorem ZPF (P:List Dc) (hP:SegP P) (h0:∀p∈framesD P,p.length<=16777216) (ha:∀d∈P,I64ok' d.2.at_) (A:Option Addr) (n c:Nat) (w:World) (h:In8 w A n c (segL P)) :
 Calls Tryz.prog 11 #[.slice A n c] w fun e w'=>∃g,e = .returned (.tuple #[.pointer (some ⟨g,0,none⟩),.int .i64 0])/\SegRB w.heap.size w' g P/\Ext w w':=by
 have k0:n<=1000000000:=by
  have h1:=ZB3 h0;have h2:(segL P).length=4+(joinL (framesD P)).length:=by unfold segL;rw[List.length_append];rfl
  have h3:(framesD P).length=6:=rfl;have h4:=h.len;omega
 have p0:(segL P).drop 4=joinL (framesD P):=rfl;refine(ZO4 A n c (segL P) w h k0 (fun Q _ hQ=>?_)).mono ?_
 ·rw[p0,ZBy _ h0]at hQ;have h3:=ZIL hP.sm.ok ha (by have:=hP.sm.sz;omega);have q0:decDs (encDs P)=some Q:=hQ;rw[h3]at q0;rw[<-Option.some.inj q0];exact hP.sm.sz
 ·rintro e w' ⟨hE,hr⟩;rw[ZDp hP h0 ha]at hr;obtain⟨g,rfl,hs⟩:=hr;exact⟨g,rfl,hs,hE⟩
end
section
open Go.RowKit
theorem ZPf (f s:List UInt8) (A:Option Addr) (n c:Nat) (w:World) (hn:n=f.length) (hb:Bs w A f) (hs:s.length<=9223372036854775807) (h0:0<n) (l0:n<=131072) :
 Calls Tryz.prog 26 #[.agg #[.slice A n c],.string ⟨s.toArray⟩] w fun e w'=>e = .returned (.bool (mayB f s))/\Ext w w':=by
 obtain⟨W0,g0⟩:∃W0,W0=w.alloc (.cells #[.slice A n c] 61):=⟨_,rfl⟩
 obtain⟨gb,m0⟩:∃gb,gb=w.heap.size:=⟨_,rfl⟩
 have x0:Ext w W0:=by rw[g0];exact(Ext.refl w).alloc _
 have n0:Row W0 gb 61 #[.slice A n c]:=by rw[g0,m0];exact Row.new w _ _
 have k0:=fun(i:Nat) (hi:i<4) W=>ZMj s A n c i W hs h0 l0 hi;have j0:=fun(k:Nat) W (hE:Ext w W) (hk:k<8*n)=>ZMZ f A n c k W hn (hb.ext hE) hk l0;have e0:=fun(i:Nat) (hi:i<4)=>ZGh s i (m:=8*n) (by omega);have p0:mayB f s=true↔∀j,j<4->hasB f (fpl s (8*n) j)=true:=by
  unfold mayB;rw[<-hn];simp only[Bool.and_eq_true];constructor
  ·rintro⟨⟨⟨q0,q1⟩,q2⟩,q3⟩ j hj;rcases (show j=0\/j=1\/j=2\/j=3 by omega)with rfl | rfl | rfl | rfl <;> assumption
  ·exact fun h=>⟨⟨⟨h 0 (by omega),h 1 (by omega)⟩,h 2 (by omega)⟩,h 3 (by omega)⟩
 obtain⟨Z,hZ⟩:∃Z,Z=mayB f s:=⟨_,rfl⟩
 rw[<-hZ]at p0 ⊢;replace p0:=ZA p0;replace k0:=ZA k0;replace j0:=ZA j0;replace e0:=ZA e0;clear hZ hb hn;go_enter Tryz.func26,Tryz.ntmps26;go_wp2_with fail;rw[<-g0,<-m0];replace g0:=ZA g0;replace m0:=ZA m0
 go_loopw [5] (fun s5 wr=>∃i:Nat,s5 = .int .i64 (i:Int)/\i<=4/\Hid (∀j,j<i->hasB f (fpl s (8*n) j)=true)/\Hid (Ext W0 wr)) (fun s5 _=>4 - (intOf s5).toNat)
 case atStart=>exact⟨0,rfl,by omega,ZA (fun j hj=>absurd hj (Nat.not_lt_zero _)),ZA (Ext.refl _)⟩
 case round =>
  obtain⟨i,rfl,hi,hh,hE⟩:=hrel;by_cases c0:i<4
  ·have hk:=e0.out i c0;have a0:=fun W=>k0.out i c0 W;obtain⟨k,d0⟩:∃k,k=fpl s (8*n) i:=⟨_,rfl⟩
   rw[<-d0]at hk a0;have b0:=fun W (hE:Ext w W)=>j0.out k W hE hk;obtain⟨v,hv⟩:∃v,v=hasB f k:=⟨_,rfl⟩
   rw[<-hv]at b0;have t0:v=hasB f (fpl s (8*n) i):=by rw[hv,d0]
   replace t0:=ZA t0;have y0:wr.drew.cell? ⟨gb,0,none⟩=some (.slice A n c)/\Ext W0 wr.drew:=⟨(n0.ext hE.out.drew).cell 0 rfl,hE.out.drew⟩
   have z0:wr.cell? ⟨gb,0,none⟩=some (.slice A n c)/\Ext W0 wr:=⟨(n0.ext hE.out).cell 0 rfl,hE.out⟩
   have v0:∀x,x.cell? ⟨gb,0,none⟩=some (.slice A n c)/\Ext W0 x->Calls Tryz.prog 74 #[.agg #[.slice A n c],.string ⟨s.toArray⟩,.int .i64 (i:Int)] x fun e w'=>e = .returned (.int .i64 (k:Int))/\(w'.cell? ⟨gb,0,none⟩=some (.slice A n c)/\Ext W0 w'):=fun x hx=>(a0 x).mono (by
    rintro e w' ⟨rfl,h1⟩;exact⟨rfl,h1.cell hx.1,hx.2.trans h1⟩)
   have u0:∀x,x.cell? ⟨gb,0,none⟩=some (.slice A n c)/\Ext W0 x->Calls Tryz.prog 73 #[.agg #[.slice A n c],.int .i64 (k:Int)] x fun e w'=>e = .returned (.bool v)/\(w'.cell? ⟨gb,0,none⟩=some (.slice A n c)/\Ext W0 w'):=fun x hx=>(b0 x (x0.trans hx.2)).mono (by
    rintro e w' ⟨rfl,h1⟩;exact⟨rfl,h1.cell hx.1,hx.2.trans h1⟩)
   replace v0:=ZA v0;replace u0:=ZA u0;replace y0:=ZA y0;replace z0:=ZA z0;clear a0 b0 d0 hv;go_wp2_with fail
   go_cut [16] (fun s16 wy=>s16 = .bool (!v)/\Hid (Ext W0 wy))
   case first =>
    go_region_held3 (fun x=>x.cell? ⟨gb,0,none⟩=some (.slice A n c)/\Ext W0 x) (first | exact y0.out | exact z0.out | exact ‹_›) (first | (go_at_call 74;refine(v0.out _ ‹_›).mono ?_;rintro e w3 ⟨rfl,i0⟩) | (go_at_call 73;refine(u0.out _ ‹_›).mono ?_;rintro e w3 ⟨rfl,i0⟩))
    all_goals
     go_wp2_with fail
     go_meet
     case rel=>exact⟨rfl,ZA i0.2⟩
   case rest =>
    obtain⟨rfl,f0⟩:=hcut;cases v with
    | true =>
     have o0:=ZA (show ∀j,j<i+1->hasB f (fpl s (8*n) j)=true from fun j hj=>by
      rcases Nat.lt_succ_iff_lt_or_eq.1 hj with h | rfl
      ·exact hh.out j h
      ·exact t0.out.symm)
     go_wp2_with fail;go_roundw
     case rel=>exact⟨i+1,by go_num,by omega,o0,f0⟩
     case measure=>simp only[intOf];omega
    | false =>
     have hZ:Z=false:=by
      cases e:Z with
      | false=>rfl
      | true=>rw[<-p0.out.1 e i c0,<-t0.out]
     subst hZ;go_wp2_with fail;go_ret;exact⟨rfl,x0.trans f0.out⟩
  ·obtain rfl:i=4:=by omega
   have hZ:Z=true:=p0.out.2 hh.out;subst hZ;go_wp2_with fail;go_ret;exact⟨rfl,x0.trans hE.out⟩
end
section
open Go.RowKit Go.Maps
theorem ZPC (A B:Option Addr) (n c c2:Nat) (xs:List Int) (w:World) (hn:n=xs.length) (hA:Cells w A (xs.map IV)) (hB:Cells w B (xs.map IV)) (k0:n<=1000000000) :
 Calls Tryz.prog 15 #[.slice A n c,.slice B n c2] w fun e w'=>e = .returned (.bool true)/\Ext w w':=by
 replace hn:=ZA hn;go_enter Tryz.func15,Tryz.ntmps15;go_wp2_with fail
 go_loopw [5] (fun s5 wr=>∃i:Nat,s5 = .int .i64 i/\i<=n/\Ext w wr) (fun s5 _=>n - (intOf s5).toNat)
 case atStart=>exact⟨0,rfl,by omega,Ext.refl _⟩
 case round =>
  obtain⟨i,rfl,hi,hE⟩:=hrel;by_cases p0:i<n
  ·have hx:i<xs.length:=by rw[<-hn.out];exact p0
   obtain⟨g,o,rfl,hc⟩:=hA.at_ (by rw[List.length_map];omega);obtain⟨g2,o2,rfl,q0⟩:=hB.at_ (by rw[List.length_map];omega);obtain⟨x,h0⟩:∃x:Int,x=xs[i]:=⟨_,rfl⟩
   have k1:wr.cell? ⟨g,o+i,none⟩=some (.int .i64 x):=hE.cell (hc i _ (by simp[hx,h0,IV]));have k2:wr.cell? ⟨g2,o2+i,none⟩=some (.int .i64 x):=hE.cell (q0 i _ (by simp[hx,h0,IV]));clear hc q0;replace h0:=ZA h0;go_wp2_with fail;refine ZPw (fun K hK=>?_);go_wp2_with fail;refine⟨by kernel_rfl,?_⟩;go_wp2_with fail;go_roundw
   case rel=>exact⟨i+1,by go_num,by omega,hE.drew⟩
   case measure=>simp[intOf];omega
  ·go_wp2_with fail;go_ret;exact⟨rfl,hE⟩
end
section
open Go.RowKit
theorem ZPV (ps qs:List PoC) (A B:Option Addr) (n c c2:Nat) (w:World) (hn:n=ps.length) (hm:n=qs.length) (ha:PosOk w A ps) (hb:PosOk w B qs) (k0:psP ps=psP qs) (c0:n<=1000000000) :
 Calls Tryz.prog 24 #[.slice A n c,.slice B n c2] w fun e w'=>e = .returned (.bool true)/\Ext w w':=by
 replace hn:=ZA hn;replace hm:=ZA hm;replace ha:=ZA ha;replace hb:=ZA hb;replace k0:=ZA k0;go_enter Tryz.func24,Tryz.ntmps24;go_wp2_with fail
 go_loopw [5] (fun s5 wr=>∃i:Nat,s5 = .int .i64 (i:Int)/\i<=n/\Hid (Ext w wr)) (fun s5 _=>n - (intOf s5).toNat)
 case atStart=>exact⟨0,rfl,by omega,ZA (Ext.refl _)⟩
 case round =>
  obtain⟨i,rfl,hi,hE⟩:=hrel;by_cases u0:i<n
  ·obtain⟨x,hx⟩:∃x,ps[i]? = some x:=⟨_,List.getElem?_eq_getElem (by rw[<-hn.out];exact u0)⟩
   obtain⟨y,hy⟩:∃y,qs[i]? = some y:=⟨_,List.getElem?_eq_getElem (by rw[<-hm.out];exact u0)⟩
   have t0:x.po=y.po:=by
    have h1:(psP ps)[i]? = some x.po:=by unfold psP;rw[List.getElem?_map,hx];rfl
    have h2:(psP qs)[i]? = some y.po:=by unfold psP;rw[List.getElem?_map,hy];rfl
    rw[k0.out,h2]at h1;exact(Option.some.inj h1).symm
   obtain⟨m0,g0⟩:=ha.out.each x (List.mem_of_getElem? hx);obtain⟨v0,_⟩:=hb.out.each y (List.mem_of_getElem? hy);obtain⟨g,o,hA,a0,a1⟩:=Z5 ha.out.cells hx;obtain⟨g2,o2,hB,b0,b1⟩:=Z5 hb.out.cells hy;obtain⟨d,p,xA,xc⟩:=x;obtain⟨d2,p2,yA,yc⟩:=y;unfold PoC.po at t0;simp only at t0 m0 v0 g0 a0 a1 b0 b1;injection t0 with e1 e2;subst e1 e2;obtain⟨m,h0⟩:∃m,m=p.length:=⟨_,rfl⟩
   rw[<-h0]at a1 b1 g0;have x0:=fun W (hE:Ext w W)=>ZPC xA yA m xc yc p W h0 (m0.ext hE) (v0.ext hE) g0;have p0:wr.cell? ⟨g,o+i*2,none⟩=some (.int .i64 d)/\wr.cell? ⟨g,o+i*2+1,none⟩=some (.slice xA m xc)/\wr.cell? ⟨g2,o2+i*2,none⟩=some (.int .i64 d)/\wr.cell? ⟨g2,o2+i*2+1,none⟩=some (.slice yA m yc)/\Ext w wr:=⟨hE.out.cell a0,hE.out.cell a1,hE.out.cell b0,hE.out.cell b1,hE.out⟩
   have q0:wr.drew.cell? ⟨g,o+i*2,none⟩=some (.int .i64 d)/\wr.drew.cell? ⟨g,o+i*2+1,none⟩=some (.slice xA m xc)/\wr.drew.cell? ⟨g2,o2+i*2,none⟩=some (.int .i64 d)/\wr.drew.cell? ⟨g2,o2+i*2+1,none⟩=some (.slice yA m yc)/\Ext w wr.drew:=⟨hE.out.drew.cell a0,hE.out.drew.cell a1,hE.out.drew.cell b0,hE.out.drew.cell b1,hE.out.drew⟩
   have j0:∀x,x.cell? ⟨g,o+i*2,none⟩=some (.int .i64 d)/\x.cell? ⟨g,o+i*2+1,none⟩=some (.slice xA m xc)/\x.cell? ⟨g2,o2+i*2,none⟩=some (.int .i64 d)/\x.cell? ⟨g2,o2+i*2+1,none⟩=some (.slice yA m yc)/\Ext w x->Calls Tryz.prog 15 #[.slice xA m xc,.slice yA m yc] x fun e w'=>e = .returned (.bool true)/\(w'.cell? ⟨g,o+i*2,none⟩=some (.int .i64 d)/\w'.cell? ⟨g,o+i*2+1,none⟩=some (.slice xA m xc)/\w'.cell? ⟨g2,o2+i*2,none⟩=some (.int .i64 d)/\w'.cell? ⟨g2,o2+i*2+1,none⟩=some (.slice yA m yc)/\Ext w w'):=fun x hx=>(x0 x hx.2.2.2.2).mono (by
    rintro e w' ⟨rfl,h1⟩;exact⟨rfl,h1.cell hx.1,h1.cell hx.2.1,h1.cell hx.2.2.1,h1.cell hx.2.2.2.1,hx.2.2.2.2.trans h1⟩)
   subst hA hB;replace j0:=ZA j0;replace q0:=ZA q0;replace p0:=ZA p0;replace h0:=ZA h0;clear x0 hx hy a0 a1 b0 b1 m0 v0;go_wp2_with fail
   go_cut [41] (fun s41 wy=>s41 = .bool false/\Hid (Ext w wy))
   case first =>
    go_region_held3 (fun x=>x.cell? ⟨g,o+i*2,none⟩=some (.int .i64 d)/\x.cell? ⟨g,o+i*2+1,none⟩=some (.slice xA m xc)/\x.cell? ⟨g2,o2+i*2,none⟩=some (.int .i64 d)/\x.cell? ⟨g2,o2+i*2+1,none⟩=some (.slice yA m yc)/\Ext w x) (first | exact q0.out | exact p0.out | exact ‹_›) (first | (go_at_call 15;refine(j0.out _ ‹_›).mono ?_;rintro e w3 ⟨rfl,z0⟩))
    all_goals
     go_wp2_with fail
     go_meet
     case rel=>exact⟨rfl,ZA z0.2.2.2.2⟩
   case rest =>
    obtain⟨rfl,y0⟩:=hcut;go_wp2_with fail;go_roundw
    case rel=>exact⟨i+1,by go_num,by omega,y0⟩
    case measure=>simp only[intOf];omega
  ·obtain rfl:i=n:=by omega
   go_wp2_with fail;go_ret;exact⟨rfl,hE.out⟩
theorem ZPN {α:Type} (xs:List α) (i:Nat) (x:α) (h:xs[i]? = some x):xs.take (i+1)=xs.take i ++ [x]:=by
 obtain⟨hi,rfl⟩:=List.getElem?_eq_some_iff.1 h;exact List.take_succ_eq_append_getElem hi
theorem ZPJ (A B:Option Addr) (n m c c2:Nat) (xs ys:List (List UInt8)) (w:World) (hn:n=xs.length) (hm:m=ys.length) (hA:Cells w A (xs.map strV)) (hB:Cells w B (ys.map strV)) (x0:n<=1000000000) (u0:m<=1000000000) :
 Calls Tryz.prog 27 #[.slice A n c,.slice B m c2] w fun e w'=>e = .returned (.bool (decide (xs=ys)))/\Ext w w':=by
 replace hn:=ZA hn;replace hm:=ZA hm;by_cases v0:n=m
 ·subst v0;go_enter Tryz.func27,Tryz.ntmps27;go_wp2_with fail
  go_loopw [5] (fun s5 wr=>∃i:Nat,s5 = .int .i64 i/\i<=n/\Hid (xs.take i=ys.take i)/\Ext w wr) (fun s5 _=>n - (intOf s5).toNat)
  case atStart=>exact⟨0,rfl,by omega,ZA rfl,Ext.refl _⟩
  case round =>
   obtain⟨i,rfl,hi,hs,hE⟩:=hrel;by_cases t0:i<n
   ·have hx:i<xs.length:=by rw[<-hn.out];exact t0
    have hy:i<ys.length:=by rw[<-hm.out];exact t0
    obtain⟨g,o,rfl,hc⟩:=hA.at_ (by rw[List.length_map];omega);obtain⟨g2,o2,rfl,m0⟩:=hB.at_ (by rw[List.length_map];omega);obtain⟨x,p0⟩:∃x,x=xs[i]:=⟨_,rfl⟩
    obtain⟨y,k0⟩:∃y,y=ys[i]:=⟨_,rfl⟩
    have k1:wr.cell? ⟨g,o+i,none⟩=some (strV x):=hE.cell (hc i (strV x) (by simp[hx,p0]));have k2:wr.cell? ⟨g2,o2+i,none⟩=some (strV y):=hE.cell (m0 i (strV y) (by simp[hy,k0]));clear hc m0;unfold strV at k1 k2;have j0:=ZPN xs i x (by rw[p0];exact List.getElem?_eq_getElem hx);have g0:=ZPN ys i y (by rw[k0];exact List.getElem?_eq_getElem hy);replace j0:=ZA j0;replace g0:=ZA g0;by_cases h0:x=y
    ·have q1:(x==y)=true:=by rw[h0];exact beq_self_eq_true y
     have q2:(x != y)=false:=by rw[h0];simp
     have q0:Hid (xs.take (i+1)=ys.take (i+1)):=ZA (by rw[j0.out,g0.out,hs.out,h0]);replace p0:=ZA p0;replace k0:=ZA k0;replace h0:=ZA h0;go_wp2_with fail;refine ZPw (fun K hK=>?_);go_wp2_with fail;refine⟨by kernel_rfl,?_⟩;go_wp2_with fail;go_roundw
     case rel=>exact⟨i+1,by go_num,by omega,q0,hE.drew⟩
     case measure=>simp[intOf];omega
    ·have q1:(x==y)=false:=beq_eq_false_iff_ne.2 h0;have q2:(x != y)=true:=bne_iff_ne.2 h0;have q0:Hid (decide (xs=ys)=false):=ZA (decide_eq_false fun h=>h0 (by rw[p0,k0];simp[h]));replace p0:=ZA p0;replace k0:=ZA k0;replace h0:=ZA h0;go_wp2_with fail;refine ZPw (fun K hK=>?_);go_wp2_with fail;refine⟨by kernel_rfl,?_⟩;go_wp2_with fail;go_ret;rw[q0.out];exact⟨rfl,hE.drew⟩
   ·have q0:Hid (decide (xs=ys)=true):=ZA (decide_eq_true (by
     have h1:=hs.out;rw[List.take_of_length_le (by rw[<-hn.out];omega),List.take_of_length_le (by rw[<-hm.out];omega)]at h1;exact h1))
    go_wp2_with fail;go_ret;rw[q0.out];exact⟨rfl,hE⟩
 ·have q0:Hid (decide (xs=ys)=false):=ZA (decide_eq_false fun h=>v0 (by rw[hn.out,hm.out,h]));have q1:((n:Int)==m)=false:=beq_eq_false_iff_ne.2 (by omega);have q2:((n:Int) != m)=true:=bne_iff_ne.2 (by omega);go_enter Tryz.func27,Tryz.ntmps27;go_wp2_with fail;go_ret;rw[q0.out];exact⟨rfl,Ext.refl _⟩
end
section
open Go.RowKit Go.Maps
def rangeD (P:List Dc) (fr tt:Int):List Int:=(P.zipIdx.filter fun p=>decide (fr<=p.1.2.at_)&&decide (p.1.2.at_<=tt)).map fun p=>(p.2:Int)
theorem ZPD (P:List Dc) (d:Dc) (fr tt:Int):rangeD (P ++ [d]) fr tt=rangeD P fr tt++if (decide (fr<=d.2.at_)&&decide (d.2.at_<=tt))=true then [(P.length:Int)] else []:=by
 unfold rangeD;rw[List.zipIdx_append,List.filter_append,List.map_append];congr 1;show (List.filter _ [(d,0+P.length)]).map _=_;rw[Nat.zero_add,List.filter_cons];split <;> simp_all
theorem ZPU (P:List Dc) (fr tt:Int):(rangeD P fr tt).length<=P.length:=by
 unfold rangeD;rw[List.length_map];refine Nat.le_trans (List.length_filter_le ..) ?_;rw[List.length_zipIdx];exact Nat.le_refl _
def NewI (w:World) (l:List Int) (e:Ending) (w':World):Prop:=∃(A:Option Addr) (n c:Nat),e = .returned (.slice A n c)/\n=l.length/\Cells w' A (l.map IV)/\Ext w w'
theorem ZPT (ds:List DocC) (A:Option Addr) (m c:Nat) (fr tt:Int) (w:World) (hm:m=ds.length) (h:DocsOk w A ds) (y0:m<=1000000) :
 Calls Tryz.prog 36 #[.slice A m c,.int .i64 fr,.int .i64 tt] w fun e w'=>NewI w (rangeD (dcs ds) fr tt) e w':=by
 replace h:=ZA h;replace hm:=ZA hm;go_enter Tryz.func36,Tryz.ntmps36;go_wp2_with fail
 go_loopw [7,8] (fun s7 s8 wr=>∃(i n:Nat) (B:Option Addr) (k:Nat),s7 = .slice B n k/\s8 = .int .i64 (i:Int)/\i<=m/\n<=i/\Hid (n=(rangeD (dcs (ds.take i)) fr tt).length)/\Hid (wr.ownsRow w.heap.size 3 1 (.slice B n k) n ((rangeD (dcs (ds.take i)) fr tt).map IV))/\Hid (Ext w wr)) (fun _ s8 _=>m - (intOf s8).toNat)
 case atStart=>exact⟨0,0,none,0,rfl,rfl,by omega,by omega,ZA rfl,ZA ⟨rfl,.inl ⟨rfl,rfl⟩⟩,ZA (Ext.refl _)⟩
 case round =>
  obtain⟨i,n,B,k,rfl,rfl,hi,z0,hn,ho,hE⟩:=hrel;by_cases him:i<m
  ·obtain⟨x,hx⟩:∃x,ds[i]? = some x:=⟨_,List.getElem?_eq_getElem (by rw[<-hm.out];exact him)⟩
   obtain⟨g,o,hA,l0,l1,l2⟩:=ZU (h.out.cells.ext hE.out) hx;have j0:dcs (ds.take (i+1))=dcs (ds.take i) ++ [x.dc]:=by
    rw[List.take_add_one,hx];exact Z6 _ _
   have h0:=ZPD (dcs (ds.take i)) x.dc fr tt;rw[<-j0]at h0;have k0:(dcs (ds.take i)).length=i:=by unfold dcs;rw[List.length_map,List.length_take,<-hm.out];omega
   rw[k0]at h0;obtain⟨at_,q0⟩:∃at_,at_=x.e.at_:=⟨_,rfl⟩
   have m0:x.dc.2.at_=at_:=q0.symm;rw[m0]at h0;rw[<-q0]at l1;have u0:=hE.out.size;subst hA;replace q0:=ZA q0;clear hx j0 l0 l2 k0 m0;by_cases q1:fr<=at_
   ·rw[decide_eq_true q1,Bool.true_and]at h0;by_cases q2:at_<=tt
    ·rw[decide_eq_true q2,if_pos rfl]at h0;replace h0:=ZA h0;go_wp2_with (at_builtin;refine ZR (us:= [.int .i64 (i:Int)]) (m:=1) ZIu ho.out rfl (.tmp 33) (.tmp 35) rfl rfl rfl rfl rfl (ZS rfl) (by omega) u0 (fun A8 c8 w8 p0 g0 v0=>?_);have t0:=ZA (hE.out.grown g0 (fun k hk=>by obtain⟨_,_,hb⟩:=ZC ho.out hk;exact hb));replace p0:=ZA p0;clear g0 v0);go_roundw
     case rel=>exact⟨i+1,n+1,A8,c8,rfl,by go_num,by omega,by omega,ZA (by rw[h0.out,List.length_append,<-hn.out];rfl),ZA (by rw[h0.out,List.map_append];exact p0.out),t0⟩
     case measure=>simp only[intOf];omega
    ·rw[decide_eq_false q2,if_neg (by simp),List.append_nil]at h0;replace h0:=ZA h0;go_wp2_with fail;go_roundw
     case rel=>exact⟨i+1,n,B,k,rfl,by go_num,by omega,by omega,ZA (by rw[h0.out];exact hn.out),ZA (by rw[h0.out];exact ho.out),hE⟩
     case measure=>simp only[intOf];omega
   ·rw[decide_eq_false q1,Bool.false_and,if_neg (by simp),List.append_nil]at h0;replace h0:=ZA h0;go_wp2_with fail;go_roundw
    case rel=>exact⟨i+1,n,B,k,rfl,by go_num,by omega,by omega,ZA (by rw[h0.out];exact hn.out),ZA (by rw[h0.out];exact ho.out),hE⟩
    case measure=>simp only[intOf];omega
  ·obtain rfl:i=m:=by omega
   have x0:ds.take i=ds:=List.take_of_length_le (by rw[<-hm.out];exact Nat.le_refl _);rw[x0]at hn ho;go_wp2_with fail;go_ret;exact⟨B,n,k,rfl,hn.out,Cells.of_own ho.out,hE.out⟩
theorem ZPW (gs:Nat) (P:List Dc) (fr tt:Int) (w0:World) (hs:SegR w0 gs P) (hP:SegP P) :
 Calls Tryz.prog 35 #[.pointer (some ⟨gs,0,none⟩),.int .i64 fr,.int .i64 tt] w0 fun e w'=>NewI w0 (rangeD P fr tt) e w':=by
 have hlen:=ZH2 gs P w0 hs hP.ne hP.few;have y0:P.length<=65536:=hP.sm.seg.n;obtain⟨ds,A,c,lo,hi,fi,la,Bq,cB,gd,gf,h1,h2,_,h,_⟩:=hs;obtain⟨m,hm⟩:∃m,m=ds.length:=⟨_,rfl⟩
 have j0:P.length=m:=by rw[<-h2,hm];exact List.length_map ..
 rw[j0]at hlen y0;rw[<-hm]at h1;rw[<-h2];replace hlen:=ZA hlen;replace h1:=ZA h1;clear h2 j0;replace h:=ZA h;replace hm:=ZA hm;go_enter Tryz.func35,Tryz.ntmps35;go_wp2_with fail;refine hlen.out.mono ?_;rintro e w ⟨rfl,b0⟩;obtain rfl:=b0.symm;go_wp2_with fail
 go_loopw [7,12] (fun s7 s8 wr=>∃(i n:Nat) (B:Option Addr) (k:Nat),s7 = .slice B n k/\s8 = .int .i64 (i:Int)/\i<=m/\n<=i/\Hid (n=(rangeD (dcs (ds.take i)) fr tt).length)/\Hid (wr.ownsRow w0.heap.size 3 1 (.slice B n k) n ((rangeD (dcs (ds.take i)) fr tt).map IV))/\Hid (Ext w0 wr)) (fun _ s8 _=>m - (intOf s8).toNat)
 case atStart=>exact⟨0,0,none,0,rfl,rfl,by omega,by omega,ZA rfl,ZA ⟨rfl,.inl ⟨rfl,rfl⟩⟩,ZA (Ext.refl _)⟩
 case round =>
  obtain⟨i,n,B,k,rfl,rfl,hi,c0,hn,ho,hE⟩:=hrel;by_cases him:i<m
  ·obtain⟨x,hx⟩:∃x,ds[i]? = some x:=⟨_,List.getElem?_eq_getElem (by rw[<-hm.out];exact him)⟩
   obtain⟨g,o,hA,l0,l1,l2⟩:=ZU (h.out.cells.ext hE.out) hx;have m0:dcs (ds.take (i+1))=dcs (ds.take i) ++ [x.dc]:=by
    rw[List.take_add_one,hx];exact Z6 _ _
   have h0:=ZPD (dcs (ds.take i)) x.dc fr tt;rw[<-m0]at h0;have g0:(dcs (ds.take i)).length=i:=by unfold dcs;rw[List.length_map,List.length_take,<-hm.out];omega
   rw[g0]at h0;obtain⟨at_,q0⟩:∃at_,at_=x.e.at_:=⟨_,rfl⟩
   have v0:x.dc.2.at_=at_:=q0.symm;rw[v0]at h0;rw[<-q0]at l1;have z0:=hE.out.size;have k0:wr.cell? ⟨gs,0,none⟩=some (.slice A m c):=(h1.out.ext hE.out).cell 0 rfl;subst hA;replace q0:=ZA q0;clear hx m0 l0 l2 g0 v0;by_cases q1:fr<=at_
   ·rw[decide_eq_true q1,Bool.true_and]at h0;by_cases q2:at_<=tt
    ·rw[decide_eq_true q2,if_pos rfl]at h0;replace h0:=ZA h0;go_wp2_with (at_builtin;refine ZR (us:= [.int .i64 (i:Int)]) (m:=1) ZIu ho.out rfl (.tmp 33) (.tmp 35) rfl rfl rfl rfl rfl (ZS rfl) (by omega) z0 (fun A8 c8 w8 p0 t0 x0=>?_);have u0:=ZA (hE.out.grown t0 (fun k hk=>by obtain⟨_,_,hb⟩:=ZC ho.out hk;exact hb));replace p0:=ZA p0;clear t0 x0);go_roundw
     case rel=>exact⟨i+1,n+1,A8,c8,rfl,by go_num,by omega,by omega,ZA (by rw[h0.out,List.length_append,<-hn.out];rfl),ZA (by rw[h0.out,List.map_append];exact p0.out),u0⟩
     case measure=>simp only[intOf];omega
    ·rw[decide_eq_false q2,if_neg (by simp),List.append_nil]at h0;replace h0:=ZA h0;go_wp2_with fail;go_roundw
     case rel=>exact⟨i+1,n,B,k,rfl,by go_num,by omega,by omega,ZA (by rw[h0.out];exact hn.out),ZA (by rw[h0.out];exact ho.out),hE⟩
     case measure=>simp only[intOf];omega
   ·rw[decide_eq_false q1,Bool.false_and,if_neg (by simp),List.append_nil]at h0;replace h0:=ZA h0;go_wp2_with fail;go_roundw
    case rel=>exact⟨i+1,n,B,k,rfl,by go_num,by omega,by omega,ZA (by rw[h0.out];exact hn.out),ZA (by rw[h0.out];exact ho.out),hE⟩
    case measure=>simp only[intOf];omega
  ·obtain rfl:i=m:=by omega
   have a0:ds.take i=ds:=List.take_of_length_le (by rw[<-hm.out];exact Nat.le_refl _);rw[a0]at hn ho;go_wp2_with fail;go_ret;exact⟨B,n,k,rfl,hn.out,Cells.of_own ho.out,hE.out⟩
end
section
open Go.RowKit Go.Maps
theorem ZJb (ds:List DocC) (A:Option Addr) (m c:Nat) (w:World) (hm:m=ds.length) (h:DocsOk w A ds) (w0:m<=1000000) :
 Calls Tryz.prog 66 #[.slice A m c] w fun e w'=>NewB w (timesD 0 (dcs ds)) e w':=by
 have n0:=ZA (fun x W (h1 : -9223372036854775808<=x) (h2:x<=9223372036854775807)=>ZE6 x W h1 h2);have a0:∀i,(timesD 0 (dcs (ds.take i))).length<=10*i:=fun i=>by
  have:=ZBb (dcs (ds.take i)) 0;have h2:(dcs (ds.take i)).length<=i:=by unfold dcs;rw[List.length_map,List.length_take];omega
  omega
 replace a0:=ZA a0;replace h:=ZA h;replace hm:=ZA hm;go_enter Tryz.func66,Tryz.ntmps66;go_wp2_with fail
 go_loopw [3,4,5] (fun s3 s4 s5 wr=>∃(i n:Nat) (B:Option Addr) (k:Nat) (a:Int),s5 = .int .i64 (i:Int)/\s3 = .slice B n k/\s4 = .int .i64 a/\i<=m/\n<=10*i/\Hid (a=lastAt 0 (dcs (ds.take i)))/\Hid (n=(timesD 0 (dcs (ds.take i))).length)/\Hid (Buf wr w.heap.size 5 B n k ((timesD 0 (dcs (ds.take i))).map B8))/\Hid (Ext w wr)) (fun _ _ s5 _=>m - (intOf s5).toNat)
 case atStart=>exact⟨0,0,none,0,0,rfl,rfl,rfl,by omega,by omega,ZA rfl,ZA rfl,ZA (Buf.nil _ _ _),ZA (Ext.refl _)⟩
 case round =>
  obtain⟨i,n,B,k,a,rfl,rfl,rfl,hi,q1,ha,hn,hb,hE⟩:=hrel;by_cases him:i<m
  ·obtain⟨x,hx⟩:∃x,ds[i]? = some x:=⟨_,List.getElem?_eq_getElem (by rw[<-hm.out];exact him)⟩
   obtain⟨g,o,hA,l0,l1,l2⟩:=ZU h.out.cells hx;have p0:∀W,Ext w W->W.cell? ⟨g,o+i*3+1,none⟩=some (.int .i64 x.e.at_):=fun W c0=>c0.cell l1;have s0:=(h.out.each x (List.mem_of_getElem? hx)).2.1;have x0:dcs (ds.take (i+1))=dcs (ds.take i) ++ [x.dc]:=by
    rw[List.take_add_one,hx];exact Z6 _ _
   have k0:timesD 0 (dcs (ds.take (i+1)))=timesD 0 (dcs (ds.take i))++vb (zig (wrap64 (x.e.at_ - a))):=by
    rw[x0,ZCQ,<-ha.out];show _++(_ ++ [])=_;rw[List.append_nil];rfl
   have m0:lastAt 0 (dcs (ds.take (i+1)))=x.e.at_:=by rw[x0,ZCL];rfl
   have q0:=ZC1 (x.e.at_ - a);have hv:=ZD (ZBB q0.1 q0.2);obtain⟨at_,v0⟩:∃at_,at_=x.e.at_:=⟨_,rfl⟩
   rw[<-v0]at l1 p0 k0 m0 q0 hv;have hc:=n0.out (wrap64 (at_ - a)) wr q0.1 q0.2;obtain⟨V,hV⟩:∃V,V=vb (zig (wrap64 (at_ - a))):=⟨_,rfl⟩
   rw[<-hV]at hc k0 hv;obtain⟨nv,g0⟩:∃nv,nv=V.length:=⟨_,rfl⟩
   unfold NewB at hc;rw[<-g0]at hc hv;have d0:(V.map B8).length=nv:=by rw[List.length_map,g0]
   subst hA;replace hc:=ZA hc;replace k0:=ZA k0;replace m0:=ZA m0;replace p0:=ZA p0;replace hV:=ZA hV;replace g0:=ZA g0;replace v0:=ZA v0;replace q0:=ZA q0;clear hx x0 l0 l1 l2 ha s0;have l1:=p0.out wr hE.out;go_wp2_with fail;refine hc.out.mono ?_;rintro e w2 ⟨A2,c2,rfl,z0,t0⟩;have e0:=hb.out.ext t0;have f0:=z0.cells;have h0:=ZA (hE.out.trans t0);have o0:=h0.out.size;have l1:=p0.out w2 h0.out;clear t0 z0 hc;go_wp2_with (at_builtin;refine ZG ZV e0 f0 (.tmp 12) (.tmp 21) rfl rfl rfl rfl rfl d0 (ZF _) (by omega) o0 (fun B6 d6 w6 u0 i0 y0 b0=>?_);replace u0:=ZA u0;have j0:=y0 w h0.out (Nat.le_refl _);have l1:=p0.out w6 j0;clear i0 y0 b0);refine⟨⟨i+1,n+nv,B6,d6,at_,by go_num,rfl,rfl,by omega,by omega,ZA m0.out.symm,ZA (by rw[k0.out,List.length_append,<-hn.out,<-g0.out]),ZA (by rw[k0.out,List.map_append];exact u0.out),ZA j0⟩,by simp only[intOf];omega⟩
  ·obtain rfl:i=m:=by omega
   have r0:ds.take i=ds:=List.take_of_length_le (by rw[<-hm.out];exact Nat.le_refl _);rw[r0]at hn hb;go_wp2_with fail;go_ret;have hl:=hn.out;subst hl;exact⟨B,k,rfl,hb.out,hE.out⟩
end
section
open Go.RowKit
theorem ZEr {P:Program} {md:Region.Mode} {ops:Array Oper} {Q:Exit->Act->World->Prop} {S:World->Prop} {base:Array Bool} {a0:Act} {w0:World} (hk:KnowOps md ops base a0.tmps.size) (V:Nat->Value) (I:(Nat->Bool)->World->Prop) (hS:∀w,S w)
 (v0:∀i o,ops[i]? = some o->base.getD i true=false->∀(L:Nat->Bool) a w,KnowB md ops base a0 w0 i a w ->
  (∀e∈o.after,Region.binds md e=true->base.getD e.on true=false->∀d,dstOf ops e.on=some d->a.tmps.getD d undef=V e.on)->(∀j,base.getD j true=false->(aboveK md ops base i).contains j=true->L j=false)->I L w ->
  Region.wanted o (yielded ops a.tmps)=true/\Oper.wp P o a w (fun a' w'=>a'=a.put o.dst (V i)/\I (fun j=>if j=i then true else L j) w'/\Ext w0 w') Q)
 (z0:∀a w,KnowA ops base a0 w0 a w->(∀j d,base.getD j true=false->dstOf ops j=some d->a.tmps.getD d undef=V j)->I (fun _=>true) w->Q .normal a w) :
 ∀(fuel:Nat) (listed:Array Bool) (a:Act) (w:World),listed.size=ops.size->(lack ops listed).length<=fuel->(∀j,base.getD j true=true->listed.getD j true=true)->KnowC md ops base a0 w0 listed a w ->
  (∀j d,base.getD j true=false->listed.getD j true=true->dstOf ops j=some d->a.tmps.getD d undef=V j)->I (fun j=>listed.getD j true) w->wpAnyH P md ops Q S fuel listed a w:=by
 have j0:∀(listed:Array Bool) (a:Act) (w:World),lack ops listed = []->listed.size=ops.size->KnowC md ops base a0 w0 listed a w ->
  (∀j d,base.getD j true=false->listed.getD j true=true->dstOf ops j=some d->a.tmps.getD d undef=V j)->I (fun j=>listed.getD j true) w->Q .normal a w:=fun listed a w hl hs ha hh hI=>by
  have k0:∀j,listed.getD j true=true:=fun j=>by
   apply Decidable.byContradiction;intro hn;have hj:j<ops.size:=by
    apply Decidable.byContradiction;intro h;rw[Array.getD_eq_getD_getElem?,Array.getElem?_eq_none (by omega)]at hn;simp at hn
   have:j∈lack ops listed:=List.mem_filter.2 ⟨List.mem_range.2 hj,by simpa using hn⟩;rw[hl]at this;cases this
  have he:(fun j=>listed.getD j true)=fun _=>true:=funext k0;rw[he]at hI;exact z0 a w ha.a (fun j d hb hd=>hh j d hb (k0 j) hd) hI
 intro fuel
 induction fuel with
 | zero =>
  intro listed a w hs hf hb ha hh hI;have h0:lack ops listed = []:=List.length_eq_zero_iff.1 (by omega);refine⟨?_,j0 listed a w h0 hs ha hh hI⟩;cases hr:Region.ready md ops listed with
  | nil=>rfl
  | cons i t =>
   have:=(ZAQ (md:=md) (ops:=ops) (listed:=listed) (i:=i) (by rw[hr];exact List.mem_cons_self ..)).1;rw[h0]at this;cases this
 | succ fuel ih =>
  intro listed a w hs hf hb ha hh hI;refine⟨fun h0=>j0 listed a w (ZCP hk hs h0) hs ha hh hI,fun i hi=>?_⟩;obtain⟨b0,o,ho,x0⟩:=ZAQ hi;have d0:=(List.mem_filter.1 b0).2;have c0:i<listed.size:=by rw[hs];exact List.mem_range.1 (List.mem_filter.1 b0).1
  have n0:listed.getD i true=false:=by simpa using d0
  have i0:base.getD i true=false:=by
   apply Decidable.byContradiction;intro hn;have:=hb i (by simpa using hn);rw[this]at d0;cases d0
  have l0:∀e∈o.after,Region.binds md e=true->listed.getD e.on true=true:=fun e he q0=>by
   have h1:=x0 e he q0;rw[Array.getD_eq_getD_getElem?]at h1 ⊢;cases hx:listed[e.on]? with
   | none=>simp
   | some b=>rw[hx]at h1;simpa using h1
  obtain⟨u1,o0⟩:=v0 i o ho i0 (fun j=>listed.getD j true) a w (ha.b n0) (fun e he q0 q1 d hd=>hh e.on d q1 (l0 e he q0) hd) (fun j u0 hj=>by
   apply Decidable.byContradiction;intro hn;have:=ZCD ha.closed j (by simpa using hj) (by simpa using hn);rw[n0]at this;cases this) hI
  have p0:∀j,j≠i->(listed.setIfInBounds i true).getD j true=listed.getD j true:=fun j hj=>by
   rw[Array.getD_eq_getD_getElem?,Array.getElem?_setIfInBounds_ne (fun h=>hj h.symm),<-Array.getD_eq_getD_getElem?]
  have g0:(listed.setIfInBounds i true).getD i true=true:=by
   rw[Array.getD_eq_getD_getElem?,Array.getElem?_setIfInBounds,if_pos rfl,if_pos c0];rfl
  have k1:(fun j=>if j=i then true else listed.getD j true)=fun j=>(listed.setIfInBounds i true).getD j true:=funext fun j=>by
   by_cases e:j=i
   ·subst e;rw[if_pos rfl,g0]
   ·rw[if_neg e,p0 j e]
  rw[k1]at o0;have t0:∀v d,o.dst≠some d->(a.put o.dst v).tmps[d]? = a.tmps[d]? :=fun v d hd=>by
   unfold Act.put;cases t1:o.dst with
   | none=>rfl
   | some d' =>
    simp only;rw[Array.getElem?_setIfInBounds_ne];intro e;exact hd (by rw[t1,e])
  have v1:∀v,(a.put o.dst v).tmps.size=a.tmps.size:=fun v=>by
   unfold Act.put;cases o.dst with
   | none=>rfl
   | some d'=>simp
  have p1:∀v,(a.put o.dst v).defers=a.defers:=fun v=>by
   unfold Act.put;cases o.dst <;> rfl
  have y0:dstOf ops i=o.dst:=by unfold dstOf;rw[ho];rfl
  unfold wpOp;rw[ho];simp only;rw[if_pos u1];refine .inl (Oper.wp_mono (fun a' w' ⟨he,s0,r0⟩=>?_) o0);subst he;refine⟨hS _,ih _ _ _ (by simpa using hs) (by have:=ZE9 b0;omega) (fun j hj=>?_) ⟨by rw[v1];exact ha.size,by rw[p1];exact ha.defers,fun d hd=>?_,r0,fun j u0 m0 o' e0 e he q0=>?_⟩ (fun j d u0 m0 hd=>?_) s0⟩
  ·have:=hb j hj;by_cases e:j=i
   ·subst e;exact g0
   ·rw[p0 j e];exact this
  ·rw[t0 _ d (by
    rw[<-y0];exact hd i i0 g0)]
   exact ha.same d fun j hb hl=>hd j hb (by
    by_cases e:j=i
    ·subst e;exact g0
    ·rw[p0 j e];exact hl)
  ·have j1:∀e∈o'.after,Region.binds md e=true->listed.getD e.on true=true:=fun e he q0=>by
    by_cases e1:j=i
    ·subst e1;rw[ho]at e0;cases e0;exact l0 e he q0
    ·rw[p0 j e1]at m0;exact ha.closed j u0 m0 o' e0 e he q0
   by_cases e2:e.on=i
   ·rw[e2];exact g0
   ·rw[p0 _ e2];exact j1 e he q0
  ·by_cases e:j=i
   ·subst e;have x1:=hd;rw[y0]at hd;have g1:d<a.tmps.size:=by
     have f0:=hk.bound;rw[List.all_eq_true]at f0;have:=f0 o (by simpa using Array.mem_of_getElem? ho);rw[hd]at this;rw[ha.size];exact of_decide_eq_true this
    unfold Act.put;rw[hd,Array.getD_eq_getD_getElem?,Array.getElem?_setIfInBounds,if_pos rfl,if_pos g1];rfl
   ·have m1:o.dst≠some d:=fun h=>e (ZC8 hk.nodup hd (y0.trans h));rw[p0 j e]at m0;rw[Array.getD_eq_getD_getElem?,t0 _ d m1,<-Array.getD_eq_getD_getElem?];exact hh j d u0 m0 hd
def IGoal (P:Program) (ops:Array Oper) (Q:Exit->Act->World->Prop) (w0:World) (V:Nat->Value) (I:(Nat->Bool)->World->Prop) (L:Nat->Bool) (i:Nat) (o:Oper) (a:Act) (w:World):Prop :=
 Region.wanted o (yielded ops a.tmps)=true/\Oper.wp P o a w (fun a' w'=>a'=a.put o.dst (V i)/\I (fun j=>if j=i then true else L j) w'/\Ext w0 w') Q
def IStep (P:Program) (md:Region.Mode) (ops:Array Oper) (Q:Exit->Act->World->Prop) (base:Array Bool) (a0:Act) (w0:World) (V:Nat->Value) (I:(Nat->Bool)->World->Prop) (i:Nat) (o:Oper):Prop :=
 ∀L a w,KnowB md ops base a0 w0 i a w->(∀(j d:Nat) (_:(o.after.any fun e=>e.on==j&&Region.binds md e)=true:=by kernel_rfl) (_:base.getD j true=false:=by kernel_rfl) (_:dstOf ops j=some d:=by kernel_rfl),a.tmps.getD d undef=V j)->(∀(j:Nat) (_:base.getD j true=false:=by kernel_rfl) (_:(aboveK md ops base i).contains j=true:=by kernel_rfl),L j=false)->I L w->IGoal P ops Q w0 V I L i o a w
def ISteps (P:Program) (md:Region.Mode) (ops:Array Oper) (Q:Exit->Act->World->Prop) (base:Array Bool) (a0:Act) (w0:World) (V:Nat->Value) (I:(Nat->Bool)->World->Prop) (l:List Nat):Prop :=
 ∀i∈l,∀o,ops[i]? = some o->IStep P md ops Q base a0 w0 V I i o
section
variable {P:Program} {md:Region.Mode} {ops:Array Oper} {Q:Exit->Act->World->Prop} {base:Array Bool} {a0:Act} {w0:World} {V:Nat->Value} {I:(Nat->Bool)->World->Prop}
theorem ISteps.nil:ISteps P md ops Q base a0 w0 V I []:=fun _ h=>absurd h List.not_mem_nil
theorem ISteps.cons {i:Nat} {o:Oper} {l:List Nat} (h0:ops[i]? = some o) (h:IStep P md ops Q base a0 w0 V I i o) (hs:ISteps P md ops Q base a0 w0 V I l):ISteps P md ops Q base a0 w0 V I (i::l):=fun j hj o' q0=>by
 rcases List.mem_cons.1 hj with rfl | hj
 ·rw[h0]at q0;cases q0;exact h
 ·exact hs j hj o' q0
theorem ISteps.all {l:List Nat} (hs:ISteps P md ops Q base a0 w0 V I l) (hl:(List.range ops.size).all (fun i=>base.getD i true || l.contains i)=true) :
 ∀i o,ops[i]? = some o->base.getD i true=false->∀(L:Nat->Bool) a w,KnowB md ops base a0 w0 i a w ->
  (∀e∈o.after,Region.binds md e=true->base.getD e.on true=false->∀d,dstOf ops e.on=some d->a.tmps.getD d undef=V e.on)->(∀j,base.getD j true=false->(aboveK md ops base i).contains j=true->L j=false)->I L w ->
  Region.wanted o (yielded ops a.tmps)=true/\Oper.wp P o a w (fun a' w'=>a'=a.put o.dst (V i)/\I (fun j=>if j=i then true else L j) w'/\Ext w0 w') Q:=fun i o ho hb L a w ha hd hab hI=>by
 rw[List.all_eq_true]at hl;have h1:=hl i (List.mem_range.2 (Array.getElem?_eq_some_iff.1 ho).1);rw[hb,Bool.false_or]at h1;refine hs i (by simpa using h1) o ho L a w ha (fun j d hj q0 p0=>?_) hab hI;rw[Array.any_eq_true']at hj;obtain⟨e,he,h0⟩:=hj;rw[Bool.and_eq_true]at h0;have k0:e.on=j:=by simpa using h0.1
 subst k0;exact hd e he h0.2 q0 d p0
variable {o:Oper} {a:Act} {w:World} {i:Nat} {L:Nat->Bool}
theorem ZK (hE:Ext w0 w) (hI:I (fun j=>if j=i then true else L j) w) (hr:(execOp a.eval o).run P w = .ok (.value (V i)) w) (h0:o.guard=none) :
 IGoal P ops Q w0 V I L i o a w:=by
 unfold IGoal;refine⟨by simp[Region.wanted,h0],?_⟩;unfold Oper.wp;rw[hr,Oper.upon_value];exact⟨rfl,hI,hE⟩
theorem ZBN {t:TypeId} {x y:Operand} {q v:Value} {w':World} (ho:o.op = .store t x y) (h0:o.guard=none) (hx:a.eval x=q) (hy:a.eval y=v) (hr:(Instr.storeAt t q v).run P w = .ok () w') (hV:V i=undef) (hI:I (fun j=>if j=i then true else L j) w') (hE:Ext w0 w') :
 IGoal P ops Q w0 V I L i o a w:=by
 unfold IGoal;refine⟨by simp[Region.wanted,h0],?_⟩;have he:(execOp a.eval o).run P w = .ok .skip w':=by
  unfold execOp;simp[ho,hx,hy,hr,Result.andThen]
 unfold Oper.wp;rw[he,Oper.upon_skip,hV];exact⟨rfl,hI,hE⟩
theorem ZOS {xs:Array Operand} {ts:Array TypeId} {x y m:Int} (ho:o.op = .call { callee:= .builtin .min,args:=xs,argTypes:=ts }) (hx:xs.map a.eval=#[.int .i64 x,.int .i64 y]) (hm:m=min x y):(execOp a.eval o).run P w = .ok (.value (.int .i64 m)) w:=by
 unfold execOp;have:=Zf (P:=P) ts o.type hm w;simp only[ho,resolve,invoke,builtin,Sem.run_bind,Sem.run_pure,Result.andThen_ok,hx,this]
theorem ZOJ {xs:Array Operand} {ts:Array TypeId} {x y m:Int} (ho:o.op = .call { callee:= .builtin .max,args:=xs,argTypes:=ts }) (hx:xs.map a.eval=#[.int .i64 x,.int .i64 y]) (hm:m=max x y):(execOp a.eval o).run P w = .ok (.value (.int .i64 m)) w:=by
 unfold execOp;have:=ZBH (P:=P) ts o.type hm w;simp only[ho,resolve,invoke,builtin,Sem.run_bind,Sem.run_pure,Result.andThen_ok,hx,this]
end
end
section
open Go.RowKit Go.Maps
def FtI (ds:List DocC) (x0:DocC) (i:Nat) (lo hi fi la:Int):Prop:=(i=0->lo=0/\hi=0/\fi=0/\la=0)/\(0<i->lo=lowD x0.e.at_ (dcs (ds.take i))/\hi=highD x0.e.at_ (dcs (ds.take i))/\fi=x0.seq/\∀x,ds[i - 1]? = some x->la=x.seq)
theorem FtI.step {ds:List DocC} {x0 x:DocC} {i:Nat} {lo hi fi la lo1 hi1 fi1 lo2 hi2:Int} (h:FtI ds x0 i lo hi fi la) (h0:ds[0]? = some x0) (hx:ds[i]? = some x) (e0:i=0->lo1=x.e.at_/\hi1=x.e.at_/\fi1=x.seq) (e1:0<i->lo1=lo/\hi1=hi/\fi1=fi) (h1:lo2=min lo1 x.e.at_) (h2:hi2=max hi1 x.e.at_):FtI ds x0 (i+1) lo2 hi2 fi1 x.seq:=by
 refine⟨fun h=>absurd h (Nat.succ_ne_zero i),fun _=>?_⟩;have k0:dcs (ds.take (i+1))=dcs (ds.take i) ++ [x.dc]:=by rw[List.take_add_one,hx];exact Z6 _ _
 have hl:∀y,ds[i+1 - 1]? = some y->x.seq=y.seq:=fun y hy=>by
  rw[Nat.add_sub_cancel,hx]at hy;rw[Option.some.inj hy]
 rw[k0,ZE2,ZD4];rcases Nat.eq_zero_or_pos i with q0 | p0
 ·obtain⟨q1,q2,q3⟩:=e0 q0;subst q0;rw[h0]at hx;obtain rfl:=Option.some.inj hx;refine⟨?_,?_,q3,hl⟩
  ·rw[h1,q1];rfl
  ·rw[h2,q2];rfl
 ·obtain⟨q1,q2,q3⟩:=e1 p0;obtain⟨r1,r2,r3,_⟩:=h.2 p0;refine⟨?_,?_,by rw[q3,r3],hl⟩
  ·rw[h1,q1,r1];rfl
  ·rw[h2,q2,r2];rfl
def kF6 (ga g5:Nat) (sq at_:Int) (u:Value) (L:Nat->Bool) (w:World):Prop:=Row w ga 74 #[.int .i64 0,.int .i64 0,.int .i64 0,.int .i64 0,.int .i64 0,.int .i64 0,.int .i64 0]/\Row w g5 39 #[.int .i64 sq,.int .i64 at_,u]/\Row w (ga+1) 74 #[.int .i64 0,.int .i64 0,.int .i64 (if L 9 then at_ else 0),.int .i64 (if L 11 then at_ else 0),.int .i64 (if L 13 then sq else 0),.int .i64 0,.int .i64 0]
def kF8 (ga g5:Nat) (sq at_:Int) (u:Value) (lo lo2 hi hi2 fi la i:Int) (L:Nat->Bool) (w:World):Prop:=Row w ga 74 #[.int .i64 0,.int .i64 0,.int .i64 0,.int .i64 0,.int .i64 0,.int .i64 0,.int .i64 0]/\Row w g5 39 #[.int .i64 sq,.int .i64 at_,u]/\Row w (ga+1) 74 #[.int .i64 0,.int .i64 0,.int .i64 (if L 15 then lo2 else lo),.int .i64 (if L 17 then hi2 else hi),.int .i64 fi,.int .i64 (if L 19 then sq else la),.int .i64 i]
theorem ZCV (w:World) (g:Nat):(Instr.fieldAt 39 (.pointer (some ⟨g,0,none⟩)) 0).run Tryz.prog w = .ok (.pointer (some ⟨g,0,none⟩)) w/\(Instr.fieldAt 39 (.pointer (some ⟨g,0,none⟩)) 1).run Tryz.prog w = .ok (.pointer (some ⟨g,1,none⟩)) w:=by
 refine⟨?_,?_⟩ <;> go_simp
theorem ZH3 (w:World) (g:Nat):(Instr.fieldAt 37 (.pointer (some ⟨g,1,none⟩)) 0).run Tryz.prog w = .ok (.pointer (some ⟨g,1,none⟩)) w:=by
 go_simp
theorem ZEz {w:World} {b k:Nat} {u:Value} {z:Int} (h:w.cell? ⟨b,k,none⟩=some u) (hf:w.frozen? ⟨b,k,none⟩=false):(Instr.storeAt 3 (.pointer (some ⟨b,k,none⟩)) (.int .i64 z)).run Tryz.prog w = .ok () (w.setCell ⟨b,k,none⟩ (.int .i64 z)):=by
 go_simp
theorem ZHk (ds:List DocC) (A:Option Addr) (m c:Nat) (w:World) (hm:m=ds.length) (h:DocsOk w A ds) (o1:m<=1000000) (h0:0<m) :
 Calls Tryz.prog 33 #[.slice A m c] w fun e w'=>e = .returned (.agg (prtA (partD (dcs ds))))/\Ext w w':=by
 obtain⟨x0,r0⟩:∃x,ds[0]? = some x:=⟨_,List.getElem?_eq_getElem (by omega)⟩
 obtain⟨xl,s0⟩:∃x,ds[m - 1]? = some x:=⟨_,List.getElem?_eq_getElem (by omega)⟩
 have m0:partD (dcs ds) = [lowD x0.e.at_ (dcs ds),highD x0.e.at_ (dcs ds),x0.seq,xl.seq,(m:Int)]:=ZBa hm r0 s0;obtain⟨W,hW⟩:∃W,W=(w.alloc (.cells #[.int .i64 0,.int .i64 0,.int .i64 0,.int .i64 0,.int .i64 0,.int .i64 0,.int .i64 0] 74)).alloc (.cells #[.int .i64 0,.int .i64 0,.int .i64 0,.int .i64 0,.int .i64 0,.int .i64 0,.int .i64 0] 74):=⟨_,rfl⟩
 have j1:Ext w W:=by rw[hW];exact((Ext.refl w).alloc _).alloc _
 obtain⟨ga,t0⟩:∃ga,ga=w.heap.size:=⟨_,rfl⟩
 have r1:Row W ga 74 #[.int .i64 0,.int .i64 0,.int .i64 0,.int .i64 0,.int .i64 0,.int .i64 0,.int .i64 0]:=by rw[hW,t0];exact(Row.new w _ _).alloc _
 have r2:Row W (ga+1) 74 #[.int .i64 0,.int .i64 0,.int .i64 0,.int .i64 0,.int .i64 0,.int .i64 0,.int .i64 0]:=by
  rw[hW,t0];have h:=Row.new (w.alloc (.cells #[.int .i64 0,.int .i64 0,.int .i64 0,.int .i64 0,.int .i64 0,.int .i64 0,.int .i64 0] 74)) 74 #[.int .i64 0,.int .i64 0,.int .i64 0,.int .i64 0,.int .i64 0,.int .i64 0,.int .i64 0];simpa using h
 rw[m0];replace h:=ZA h;replace hm:=ZA hm;replace r0:=ZA r0;replace s0:=ZA s0;clear m0;go_enter Tryz.func33,Tryz.ntmps33;go_wp2_with fail;rw[<-hW,<-t0];replace hW:=ZA hW;replace t0:=ZA t0
 go_loopw [4] (fun s4 wr=>∃(i:Nat) (lo hi fi la:Int),s4 = .int .i64 (i:Int)/\i<=m/\Hid (FtI ds x0 i lo hi fi la)/\Hid (Row wr ga 74 #[.int .i64 0,.int .i64 0,.int .i64 0,.int .i64 0,.int .i64 0,.int .i64 0,.int .i64 0])/\Hid (Row wr (ga+1) 74 #[.int .i64 0,.int .i64 0,.int .i64 lo,.int .i64 hi,.int .i64 fi,.int .i64 la,.int .i64 (i:Int)])/\Hid (Ext w wr)) (fun s4 _=>m - (intOf s4).toNat)
 case atStart=>exact⟨0,0,0,0,0,rfl,by omega,ZA ⟨fun _=>⟨rfl,rfl,rfl,rfl⟩,fun h=>absurd h (Nat.lt_irrefl _)⟩,ZA r1,ZA r2,ZA j1⟩
 case round =>
  clear r1 r2 j1;obtain⟨i,lo,z0,fi,la,rfl,hi,c0,r1,r2,hE⟩:=hrel;by_cases him:i<m
  ·obtain⟨x,hx⟩:∃x,ds[i]? = some x:=⟨_,List.getElem?_eq_getElem (by rw[<-hm.out];exact him)⟩
   obtain⟨g,o,hA,l0,l1,l2⟩:=ZU (h.out.cells.ext hE.out) hx;have b0:=fun lo1 hi1 fi1 lo2 hi2 e0 e1 h1 h2=>c0.out.step (lo1:=lo1) (hi1:=hi1) (fi1:=fi1) (lo2:=lo2) (hi2:=hi2) r0.out hx e0 e1 h1 h2;obtain⟨sq,⟨at_,fs⟩,xA,xc⟩:=x;simp only at l0 l1 l2 b0;obtain⟨fl,t1⟩:∃fl,fl=fs.length:=⟨_,rfl⟩
   rw[<-t1]at l2;obtain⟨w5,i0⟩:∃w5,w5=wr.alloc (.cells #[.int .i64 sq,.int .i64 at_,.slice xA fl xc] 39):=⟨_,rfl⟩
   obtain⟨g5,o0⟩:∃g5,g5=wr.heap.size:=⟨_,rfl⟩
   have r5:Row w5 g5 39 #[.int .i64 sq,.int .i64 at_,.slice xA fl xc]:=by rw[i0,o0];exact Row.new wr _ _
   have n0:Ext wr w5:=by rw[i0];exact(Ext.refl wr).alloc _
   have r15:=r1.out.ext n0;have r25:=r2.out.ext n0;have i1:ga+1<g5:=by have:=r2.out.lt;omega
   have k0:=ZA (hE.out.trans n0);subst hA;replace i0:=ZA i0;replace o0:=ZA o0;replace b0:=ZA b0;clear hx t1 n0;have y0:w5.cell? ⟨g5,0,none⟩=some (.int .i64 sq):=r5.cell 0 rfl;have y1:w5.cell? ⟨g5,1,none⟩=some (.int .i64 at_):=r5.cell 1 rfl;have s1:ga+1≠g5:=by omega
   have p0:Hid (w.heap.size<=ga+1):=ZA (by have:=t0.out;omega);have a0:g5≠ga+1:=by omega
   replace r15:=ZA r15;replace r25:=ZA r25;replace r5:=ZA r5;clear y0 y1;go_upto_if 17 with fail;rw[<-i0.out,<-o0.out]
   go_cut [28] from 18 to 28 (fun s28 wx=>∃(lo1 hi1 fi1 la1:Int) (u:Value),s28=u/\Hid (Row wx ga 74 #[.int .i64 0,.int .i64 0,.int .i64 0,.int .i64 0,.int .i64 0,.int .i64 0,.int .i64 0])/\Hid (Row wx (ga+1) 74 #[.int .i64 0,.int .i64 0,.int .i64 lo1,.int .i64 hi1,.int .i64 fi1,.int .i64 la1,.int .i64 (i:Int)])/\Hid (Row wx g5 39 #[.int .i64 sq,.int .i64 at_,.slice xA fl xc])/\Hid (Ext w wx)/\Hid (i=0->lo1=at_/\hi1=at_/\fi1=sq)/\Hid (0<i->lo1=lo/\hi1=z0/\fi1=fi))
   case first =>
    by_cases x1:i=0
    ·subst x1;obtain⟨z1,z2,z3,z4⟩:=c0.out.1 rfl;subst z1 z2 z3 z4;clear b0 c0;simp only[Nat.zero_mul,Nat.add_zero]at l0 l1 l2;go_wp2_with fail;refine wp_region_held_drew (S:=fun _=>True) (by kernel_rfl) trivial (fun _=>?_);refine ZEr (base:=Array.replicate 14 false) (w0:=w) ⟨by kernel_rfl,of_decide_eq_true (by kernel_rfl),by kernel_rfl,by kernel_rfl⟩ (fun j=>([.pointer (some ⟨g5,1,none⟩),.pointer (some ⟨g5,1,none⟩),.int .i64 at_,.pointer (some ⟨g5,1,none⟩),.pointer (some ⟨g5,1,none⟩),.int .i64 at_,.pointer (some ⟨g5,0,none⟩),.int .i64 sq,.pointer (some ⟨ga+1,2,none⟩),undef,.pointer (some ⟨ga+1,3,none⟩),undef,.pointer (some ⟨ga+1,4,none⟩),undef]:List Value).getD j undef) (kF6 ga g5 sq at_ (.slice xA fl xc)) (fun _=>trivial) ?hstep ?fin _ _ _ _ (by kernel_rfl) (Nat.le_of_eq (by kernel_rfl)) (fun _ h=>h) ⟨rfl,rfl,fun _ _=>rfl,k0.out.drew,fun j h1 h2=>absurd (h1.symm.trans h2) (by simp)⟩ (fun j d h1 h2 _=>absurd (h1.symm.trans h2) (by simp)) ⟨r15.out.drew,r5.out.drew,r25.out.drew⟩
     case hstep =>
      apply ISteps.all (V:=(fun j=>([.pointer (some ⟨g5,1,none⟩),.pointer (some ⟨g5,1,none⟩),.int .i64 at_,.pointer (some ⟨g5,1,none⟩),.pointer (some ⟨g5,1,none⟩),.int .i64 at_,.pointer (some ⟨g5,0,none⟩),.int .i64 sq,.pointer (some ⟨ga+1,2,none⟩),undef,.pointer (some ⟨ga+1,3,none⟩),undef,.pointer (some ⟨ga+1,4,none⟩),undef]:List Value).getD j undef)) (I:=kF6 ga g5 sq at_ (.slice xA fl xc)) (l:= [0,1,2,3,4,5,6,7,8,9,10,11,12,13]);rotate_left
      ·kernel_rfl
      refine ISteps.cons rfl (fun L a wq ha hd hab hI=>?_) ?_
      ·exact ZK ha.ext hI (ZL (q:= .pointer (some ⟨g5,0,none⟩)) rfl (ZI (ha.same 5)) ((ZCV wq g5).2)) rfl
      refine ISteps.cons rfl (fun L a wq ha hd hab hI=>?_) ?_
      ·exact ZK ha.ext hI (ZL (q:= .pointer (some ⟨g5,1,none⟩)) rfl (ZE (hd 0 18)) (ZH3 wq g5)) rfl
      refine ISteps.cons rfl (fun L a wq ha hd hab hI=>?_) ?_
      ·exact ZK ha.ext hI (Zi (q:= .pointer (some ⟨g5,1,none⟩)) rfl (ZE (hd 1 19)) (ZAJ (hI.2.1.cell 1 rfl))) rfl
      refine ISteps.cons rfl (fun L a wq ha hd hab hI=>?_) ?_
      ·exact ZK ha.ext hI (ZL (q:= .pointer (some ⟨g5,0,none⟩)) rfl (ZI (ha.same 5)) ((ZCV wq g5).2)) rfl
      refine ISteps.cons rfl (fun L a wq ha hd hab hI=>?_) ?_
      ·exact ZK ha.ext hI (ZL (q:= .pointer (some ⟨g5,1,none⟩)) rfl (ZE (hd 3 21)) (ZH3 wq g5)) rfl
      refine ISteps.cons rfl (fun L a wq ha hd hab hI=>?_) ?_
      ·exact ZK ha.ext hI (Zi (q:= .pointer (some ⟨g5,1,none⟩)) rfl (ZE (hd 4 22)) (ZAJ (hI.2.1.cell 1 rfl))) rfl
      refine ISteps.cons rfl (fun L a wq ha hd hab hI=>?_) ?_
      ·exact ZK ha.ext hI (ZL (q:= .pointer (some ⟨g5,0,none⟩)) rfl (ZI (ha.same 5)) ((ZCV wq g5).1)) rfl
      refine ISteps.cons rfl (fun L a wq ha hd hab hI=>?_) ?_
      ·exact ZK ha.ext hI (Zi (q:= .pointer (some ⟨g5,0,none⟩)) rfl (ZE (hd 6 24)) (ZAJ (hI.2.1.cell 0 rfl))) rfl
      refine ISteps.cons rfl (fun L a wq ha hd hab hI=>?_) ?_
      ·exact ZK ha.ext hI (ZL (q:= .pointer (some ⟨ga+1,0,none⟩)) rfl (ZI (ha.same 3)) ((ZAC wq (ga+1)).1)) rfl
      refine ISteps.cons rfl (fun L a wq ha hd hab hI=>?_) ?_
      ·obtain⟨h1,h2,h3⟩:=hI;exact ZBN (q:= .pointer (some ⟨ga+1,2,none⟩)) (v:= .int .i64 at_) rfl rfl (ZE (hd 8 26)) (ZE (hd 2 20)) (ZEz (h3.cell 2 rfl) (h3.free 2)) rfl ⟨h1.away (p:=⟨ga+1,2,none⟩) (by simp) _,h2.away (p:=⟨ga+1,2,none⟩) a0 _,h3.put 2 _⟩ (ha.ext.setCell p0.out _)
      refine ISteps.cons rfl (fun L a wq ha hd hab hI=>?_) ?_
      ·exact ZK ha.ext hI (ZL (q:= .pointer (some ⟨ga+1,0,none⟩)) rfl (ZI (ha.same 3)) ((ZAC wq (ga+1)).2.1)) rfl
      refine ISteps.cons rfl (fun L a wq ha hd hab hI=>?_) ?_
      ·obtain⟨h1,h2,h3⟩:=hI;exact ZBN (q:= .pointer (some ⟨ga+1,3,none⟩)) (v:= .int .i64 at_) rfl rfl (ZE (hd 10 27)) (ZE (hd 5 23)) (ZEz (h3.cell 3 rfl) (h3.free 3)) rfl ⟨h1.away (p:=⟨ga+1,3,none⟩) (by simp) _,h2.away (p:=⟨ga+1,3,none⟩) a0 _,h3.put 3 _⟩ (ha.ext.setCell p0.out _)
      refine ISteps.cons rfl (fun L a wq ha hd hab hI=>?_) ?_
      ·exact ZK ha.ext hI (ZL (q:= .pointer (some ⟨ga+1,0,none⟩)) rfl (ZI (ha.same 3)) ((ZAC wq (ga+1)).2.2.1)) rfl
      refine ISteps.cons rfl (fun L a wq ha hd hab hI=>?_) ?_
      ·obtain⟨h1,h2,h3⟩:=hI;exact ZBN (q:= .pointer (some ⟨ga+1,4,none⟩)) (v:= .int .i64 sq) rfl rfl (ZE (hd 12 28)) (ZE (hd 7 25)) (ZEz (h3.cell 4 rfl) (h3.free 4)) rfl ⟨h1.away (p:=⟨ga+1,4,none⟩) (by simp) _,h2.away (p:=⟨ga+1,4,none⟩) a0 _,h3.put 4 _⟩ (ha.ext.setCell p0.out _)
      exact ISteps.nil
     case fin =>
      intro a w8 ha hh hI;have q0:=ha.act [18,19,20,21,22,23,24,25,26,27,28] (by kernel_rfl);obtain⟨r18,r58,r28⟩:=hI;have b1:=ZA ha.ext;simp only[List.foldl_cons,List.foldl_nil]at q0;clear ha hh;obtain⟨fv,f0⟩:∃f:Nat->Value,∀d,a.tmps.getD d undef=f d:=⟨_,fun _=>rfl⟩
      simp only[f0]at q0;clear f0;subst q0;simp only[pz0,pz1,pz2];go_wp2_with fail
      go_meet
      case rel=>exact⟨at_,at_,sq,0,_,rfl,ZA r18,ZA r28,ZA r58,b1,ZA (fun _=>⟨rfl,rfl,rfl⟩),ZA (fun h=>absurd h (Nat.lt_irrefl _))⟩
    ·have n1:((i:Int)==0)=false:=by simp;omega
     go_wp2_with fail
     go_meet
     case rel=>exact⟨lo,z0,fi,la,_,rfl,r15,r25,r5,k0,ZA (fun h=>absurd h x1),ZA (fun _=>⟨rfl,rfl,rfl⟩)⟩
   case rest =>
    clear r15 r25 r5 k0;obtain⟨lo1,hi1,fi1,la1,u28,rfl,r15,r25,r5,k0,g1,m1⟩:=hcut;obtain⟨lo2,g0⟩:∃lo2,lo2=min lo1 at_:=⟨_,rfl⟩
    obtain⟨hi2,j0⟩:∃hi2,hi2=max hi1 at_:=⟨_,rfl⟩
    have k1:=ZA (b0.out lo1 hi1 fi1 lo2 hi2 g1.out m1.out g0 j0);replace g0:=ZA g0;replace j0:=ZA j0;clear b0 c0 g1 m1;go_wp2_with fail;refine wp_region_held_drew (S:=fun _=>True) (by kernel_rfl) trivial (fun _=>?_);refine ZEr (base:=Array.replicate 20 false) (w0:=w) ⟨by kernel_rfl,of_decide_eq_true (by kernel_rfl),by kernel_rfl,by kernel_rfl⟩ (fun j=>([.pointer (some ⟨ga+1,2,none⟩),.int .i64 lo1,.pointer (some ⟨g5,1,none⟩),.pointer (some ⟨g5,1,none⟩),.int .i64 at_,.int .i64 lo2,.pointer (some ⟨ga+1,3,none⟩),.int .i64 hi1,.pointer (some ⟨g5,1,none⟩),.pointer (some ⟨g5,1,none⟩),.int .i64 at_,.int .i64 hi2,.pointer (some ⟨g5,0,none⟩),.int .i64 sq,.pointer (some ⟨ga+1,2,none⟩),undef,.pointer (some ⟨ga+1,3,none⟩),undef,.pointer (some ⟨ga+1,5,none⟩),undef]:List Value).getD j undef) (kF8 ga g5 sq at_ (.slice xA fl xc) lo1 lo2 hi1 hi2 fi1 la1 (i:Int)) (fun _=>trivial) ?hstep ?fin _ _ _ _ (by kernel_rfl) (Nat.le_of_eq (by kernel_rfl)) (fun _ h=>h) ⟨rfl,rfl,fun _ _=>rfl,k0.out.drew,fun j h1 h2=>absurd (h1.symm.trans h2) (by simp)⟩ (fun j d h1 h2 _=>absurd (h1.symm.trans h2) (by simp)) ⟨r15.out.drew,r5.out.drew,r25.out.drew⟩
    case hstep =>
     apply ISteps.all (V:=(fun j=>([.pointer (some ⟨ga+1,2,none⟩),.int .i64 lo1,.pointer (some ⟨g5,1,none⟩),.pointer (some ⟨g5,1,none⟩),.int .i64 at_,.int .i64 lo2,.pointer (some ⟨ga+1,3,none⟩),.int .i64 hi1,.pointer (some ⟨g5,1,none⟩),.pointer (some ⟨g5,1,none⟩),.int .i64 at_,.int .i64 hi2,.pointer (some ⟨g5,0,none⟩),.int .i64 sq,.pointer (some ⟨ga+1,2,none⟩),undef,.pointer (some ⟨ga+1,3,none⟩),undef,.pointer (some ⟨ga+1,5,none⟩),undef]:List Value).getD j undef)) (I:=kF8 ga g5 sq at_ (.slice xA fl xc) lo1 lo2 hi1 hi2 fi1 la1 (i:Int)) (l:= [0,1,2,3,4,5,6,7,8,9,10,11,12,13,14,15,16,17,18,19]);rotate_left
     ·kernel_rfl
     refine ISteps.cons rfl (fun L a wq ha hd hab hI=>?_) ?_
     ·exact ZK ha.ext hI (ZL (q:= .pointer (some ⟨ga+1,0,none⟩)) rfl (ZI (ha.same 3)) ((ZAC wq (ga+1)).1)) rfl
     refine ISteps.cons rfl (fun L a wq ha hd hab hI=>?_) ?_
     ·have hL:L 15=false:=hab 15;have hc:wq.cell? ⟨ga+1,2,none⟩=some (.int .i64 (if L 15 then lo2 else lo1)):=hI.2.2.cell 2 rfl;rw[hL,if_neg (by decide)]at hc;exact ZK ha.ext hI (Zi (q:= .pointer (some ⟨ga+1,2,none⟩)) rfl (ZE (hd 0 29)) (ZAJ hc)) rfl
     refine ISteps.cons rfl (fun L a wq ha hd hab hI=>?_) ?_
     ·exact ZK ha.ext hI (ZL (q:= .pointer (some ⟨g5,0,none⟩)) rfl (ZI (ha.same 5)) ((ZCV wq g5).2)) rfl
     refine ISteps.cons rfl (fun L a wq ha hd hab hI=>?_) ?_
     ·exact ZK ha.ext hI (ZL (q:= .pointer (some ⟨g5,1,none⟩)) rfl (ZE (hd 2 31)) (ZH3 wq g5)) rfl
     refine ISteps.cons rfl (fun L a wq ha hd hab hI=>?_) ?_
     ·exact ZK ha.ext hI (Zi (q:= .pointer (some ⟨g5,1,none⟩)) rfl (ZE (hd 3 32)) (ZAJ (hI.2.1.cell 1 rfl))) rfl
     refine ISteps.cons rfl (fun L a wq ha hd hab hI=>?_) ?_
     ·have qx:a.eval (.tmp 30) = .int .i64 lo1:=(ZE (hd 1 30))
      have qy:a.eval (.tmp 33) = .int .i64 at_:=(ZE (hd 4 33))
      exact ZK ha.ext hI (ZOS rfl (by simp only[List.map_toArray,List.map_cons,List.map_nil,qx,qy]) g0.out) rfl
     refine ISteps.cons rfl (fun L a wq ha hd hab hI=>?_) ?_
     ·exact ZK ha.ext hI (ZL (q:= .pointer (some ⟨ga+1,0,none⟩)) rfl (ZI (ha.same 3)) ((ZAC wq (ga+1)).2.1)) rfl
     refine ISteps.cons rfl (fun L a wq ha hd hab hI=>?_) ?_
     ·have hL:L 17=false:=hab 17;have hc:wq.cell? ⟨ga+1,3,none⟩=some (.int .i64 (if L 17 then hi2 else hi1)):=hI.2.2.cell 3 rfl;rw[hL,if_neg (by decide)]at hc;exact ZK ha.ext hI (Zi (q:= .pointer (some ⟨ga+1,3,none⟩)) rfl (ZE (hd 6 35)) (ZAJ hc)) rfl
     refine ISteps.cons rfl (fun L a wq ha hd hab hI=>?_) ?_
     ·exact ZK ha.ext hI (ZL (q:= .pointer (some ⟨g5,0,none⟩)) rfl (ZI (ha.same 5)) ((ZCV wq g5).2)) rfl
     refine ISteps.cons rfl (fun L a wq ha hd hab hI=>?_) ?_
     ·exact ZK ha.ext hI (ZL (q:= .pointer (some ⟨g5,1,none⟩)) rfl (ZE (hd 8 37)) (ZH3 wq g5)) rfl
     refine ISteps.cons rfl (fun L a wq ha hd hab hI=>?_) ?_
     ·exact ZK ha.ext hI (Zi (q:= .pointer (some ⟨g5,1,none⟩)) rfl (ZE (hd 9 38)) (ZAJ (hI.2.1.cell 1 rfl))) rfl
     refine ISteps.cons rfl (fun L a wq ha hd hab hI=>?_) ?_
     ·have qx:a.eval (.tmp 36) = .int .i64 hi1:=(ZE (hd 7 36))
      have qy:a.eval (.tmp 39) = .int .i64 at_:=(ZE (hd 10 39))
      exact ZK ha.ext hI (ZOJ rfl (by simp only[List.map_toArray,List.map_cons,List.map_nil,qx,qy]) j0.out) rfl
     refine ISteps.cons rfl (fun L a wq ha hd hab hI=>?_) ?_
     ·exact ZK ha.ext hI (ZL (q:= .pointer (some ⟨g5,0,none⟩)) rfl (ZI (ha.same 5)) ((ZCV wq g5).1)) rfl
     refine ISteps.cons rfl (fun L a wq ha hd hab hI=>?_) ?_
     ·exact ZK ha.ext hI (Zi (q:= .pointer (some ⟨g5,0,none⟩)) rfl (ZE (hd 12 41)) (ZAJ (hI.2.1.cell 0 rfl))) rfl
     refine ISteps.cons rfl (fun L a wq ha hd hab hI=>?_) ?_
     ·exact ZK ha.ext hI (ZL (q:= .pointer (some ⟨ga+1,0,none⟩)) rfl (ZI (ha.same 3)) ((ZAC wq (ga+1)).1)) rfl
     refine ISteps.cons rfl (fun L a wq ha hd hab hI=>?_) ?_
     ·obtain⟨h1,h2,h3⟩:=hI;exact ZBN (q:= .pointer (some ⟨ga+1,2,none⟩)) (v:= .int .i64 lo2) rfl rfl (ZE (hd 14 43)) (ZE (hd 5 34)) (ZEz (h3.cell 2 rfl) (h3.free 2)) rfl ⟨h1.away (p:=⟨ga+1,2,none⟩) (by simp) _,h2.away (p:=⟨ga+1,2,none⟩) a0 _,h3.put 2 _⟩ (ha.ext.setCell p0.out _)
     refine ISteps.cons rfl (fun L a wq ha hd hab hI=>?_) ?_
     ·exact ZK ha.ext hI (ZL (q:= .pointer (some ⟨ga+1,0,none⟩)) rfl (ZI (ha.same 3)) ((ZAC wq (ga+1)).2.1)) rfl
     refine ISteps.cons rfl (fun L a wq ha hd hab hI=>?_) ?_
     ·obtain⟨h1,h2,h3⟩:=hI;exact ZBN (q:= .pointer (some ⟨ga+1,3,none⟩)) (v:= .int .i64 hi2) rfl rfl (ZE (hd 16 44)) (ZE (hd 11 40)) (ZEz (h3.cell 3 rfl) (h3.free 3)) rfl ⟨h1.away (p:=⟨ga+1,3,none⟩) (by simp) _,h2.away (p:=⟨ga+1,3,none⟩) a0 _,h3.put 3 _⟩ (ha.ext.setCell p0.out _)
     refine ISteps.cons rfl (fun L a wq ha hd hab hI=>?_) ?_
     ·exact ZK ha.ext hI (ZL (q:= .pointer (some ⟨ga+1,0,none⟩)) rfl (ZI (ha.same 3)) ((ZAC wq (ga+1)).2.2.2.1)) rfl
     refine ISteps.cons rfl (fun L a wq ha hd hab hI=>?_) ?_
     ·obtain⟨h1,h2,h3⟩:=hI;exact ZBN (q:= .pointer (some ⟨ga+1,5,none⟩)) (v:= .int .i64 sq) rfl rfl (ZE (hd 18 45)) (ZE (hd 13 42)) (ZEz (h3.cell 5 rfl) (h3.free 5)) rfl ⟨h1.away (p:=⟨ga+1,5,none⟩) (by simp) _,h2.away (p:=⟨ga+1,5,none⟩) a0 _,h3.put 5 _⟩ (ha.ext.setCell p0.out _)
     exact ISteps.nil
    case fin =>
     intro a w9 ha hh hI;have q0:=ha.act [29,30,31,32,33,34,35,36,37,38,39,40,41,42,43,44,45] (by kernel_rfl);obtain⟨r19,r59,r29⟩:=hI;have c1:=ZA ha.ext;simp only[List.foldl_cons,List.foldl_nil]at q0;clear ha hh;obtain⟨fv,f0⟩:∃f:Nat->Value,∀d,a.tmps.getD d undef=f d:=⟨_,fun _=>rfl⟩
     simp only[f0]at q0;clear f0;subst q0;simp only[pz0,pz1,pz2];have r29b:Row w9 (ga+1) 74 #[.int .i64 0,.int .i64 0,.int .i64 lo2,.int .i64 hi2,.int .i64 fi1,.int .i64 sq,.int .i64 (i:Int)]:=r29;have z6:w9.cell? ⟨ga+1,6,none⟩=some (.int .i64 (i:Int)):=r29b.cell 6 rfl;have u6:=r29b.free 6;have p1:=ZA (r19.away (p:=⟨ga+1,6,none⟩) (by simp) (.int .i64 ((i:Int)+1)));have p2:=ZA (r29b.put 6 (.int .i64 ((i:Int)+1)));have p3:=ZA (c1.out.setCell (p:=⟨ga+1,6,none⟩) p0.out (.int .i64 ((i:Int)+1)));clear r29 r29b;replace r19:=ZA r19;clear r59;go_wp2_with fail;exact⟨⟨i+1,lo2,hi2,fi1,sq,by go_num,by omega,k1,p1,p2,p3⟩,by simp only[intOf];omega⟩
  ·obtain rfl:i=m:=by omega
   obtain⟨q1,q2,q3,q4⟩:=c0.out.2 h0;have q5:=q4 xl s0.out;have a1:ds.take i=ds:=List.take_of_length_le (by rw[<-hm.out];exact Nat.le_refl _);rw[a1]at q1 q2;replace q1:=ZA q1;replace q2:=ZA q2;replace q3:=ZA q3;replace q5:=ZA q5;clear a1 q4;have v0:wr.cell? ⟨ga+1,0,none⟩=some (.int .i64 0):=r2.out.cell 0 rfl;have v1:wr.cell? ⟨ga+1,1,none⟩=some (.int .i64 0):=r2.out.cell 1 rfl;have v2:wr.cell? ⟨ga+1,2,none⟩=some (.int .i64 lo):=r2.out.cell 2 rfl;have v3:wr.cell? ⟨ga+1,3,none⟩=some (.int .i64 z0):=r2.out.cell 3 rfl;have v4:wr.cell? ⟨ga+1,4,none⟩=some (.int .i64 fi):=r2.out.cell 4 rfl;have v5:wr.cell? ⟨ga+1,5,none⟩=some (.int .i64 la):=r2.out.cell 5 rfl;have v6:wr.cell? ⟨ga+1,6,none⟩=some (.int .i64 (i:Int)):=r2.out.cell 6 rfl;have u0:=r1.out.free 0;have u1:=r1.out.free 1;have u2:=r1.out.free 2;have u3:=r1.out.free 3;have u4:=r1.out.free 4;have u5:=r1.out.free 5;have u6:=r1.out.free 6;have d0:wr.cell? ⟨ga,0,none⟩=some (.int .i64 0):=r1.out.cell 0 rfl;have d1:wr.cell? ⟨ga,1,none⟩=some (.int .i64 0):=r1.out.cell 1 rfl;have d2:wr.cell? ⟨ga,2,none⟩=some (.int .i64 0):=r1.out.cell 2 rfl;have d3:wr.cell? ⟨ga,3,none⟩=some (.int .i64 0):=r1.out.cell 3 rfl;have d4:wr.cell? ⟨ga,4,none⟩=some (.int .i64 0):=r1.out.cell 4 rfl;have d5:wr.cell? ⟨ga,5,none⟩=some (.int .i64 0):=r1.out.cell 5 rfl;have d6:wr.cell? ⟨ga,6,none⟩=some (.int .i64 0):=r1.out.cell 6 rfl;go_wp2_with fail;have pf:=((((((r1.out.put 0 (.int .i64 0)).put 1 (.int .i64 0)).put 2 (.int .i64 lo)).put 3 (.int .i64 z0)).put 4 (.int .i64 fi)).put 5 (.int .i64 la)).put 6 (.int .i64 (i:Int));have p0:w.heap.size<=ga:=by rw[t0.out];exact Nat.le_refl _
   have f1:=((((((hE.out.setCell (p:=⟨ga,0,none⟩) p0 (.int .i64 0)).setCell (p:=⟨ga,1,none⟩) p0 (.int .i64 0)).setCell (p:=⟨ga,2,none⟩) p0 (.int .i64 lo)).setCell (p:=⟨ga,3,none⟩) p0 (.int .i64 z0)).setCell (p:=⟨ga,4,none⟩) p0 (.int .i64 fi)).setCell (p:=⟨ga,5,none⟩) p0 (.int .i64 la)).setCell (p:=⟨ga,6,none⟩) p0 (.int .i64 (i:Int));refine bodyPost_ret (results_cell_row rfl _ _ ga 74 #[.int .i64 0,.int .i64 0,.int .i64 lo,.int .i64 z0,.int .i64 fi,.int .i64 la,.int .i64 (i:Int)] (0,0) _ rfl pf Tryz.underlying74 rfl (by kernel_rfl)) rfl ⟨?_,f1⟩;rw[<-q1.out,<-q2.out,q3.out,q5.out];rfl
end
section
open Go.RowKit
theorem ZHB (a b:List UInt8) (w:World) (ha:a.length<=1000000000) (hb:b.length<=1000000000) :
 Calls Tryz.prog 165 #[.string ⟨a.toArray⟩,.string ⟨b.toArray⟩] w fun e w'=>e = .returned (.int .i64 (cpl a b:Int))/\Ext w w':=by
 obtain⟨Z,hZ⟩:∃Z,Z=cpl a b:=⟨_,rfl⟩
 rw[<-hZ];obtain⟨n,hn⟩:∃n,n=a.length:=⟨_,rfl⟩
 obtain⟨m,hm⟩:∃m,m=b.length:=⟨_,rfl⟩
 have x0:(⟨a.toArray⟩:ByteArray).size=n:=by rw[hn];exact ByteArray.size_mk_toArray a
 have y0:(⟨b.toArray⟩:ByteArray).size=m:=by rw[hm];exact ByteArray.size_mk_toArray b
 rw[<-hn]at ha;rw[<-hm]at hb;have t0:Z<=n/\Z<=m:=by have:=ZCp a b;omega
 replace hZ:=ZA hZ;replace hn:=ZA hn;replace hm:=ZA hm;go_enter Tryz.func165,Tryz.ntmps165;go_wp2_with fail
 go_loopw [5] (fun s5 wr=>∃i:Nat,s5 = .int .i64 (i:Int)/\i<=n/\i<=m/\Hid (a.take i=b.take i)/\Hid (Ext w wr)) (fun s5 _=>n - (intOf s5).toNat)
 case atStart=>exact⟨0,rfl,by omega,by omega,ZA (by simp),ZA (Ext.refl w)⟩
 case round =>
  obtain⟨i,rfl,g0,him,ht,hE⟩:=hrel;have p0:=ZFe i a b ht.out (by rw[<-hn.out];exact g0) (by rw[<-hm.out];exact him);rw[<-hZ.out]at p0;replace p0:=ZA p0;by_cases h1:i<n
  ·by_cases h2:i<m
   ·obtain⟨x,hx⟩:∃x,a[i]? = some x:=⟨_,List.getElem?_eq_getElem (by rw[<-hn.out];exact h1)⟩
    obtain⟨y,hy⟩:∃y,b[i]? = some y:=⟨_,List.getElem?_eq_getElem (by rw[<-hm.out];exact h2)⟩
    have v0:=fun W=>ZO hx (z:=(i:Int)) rfl W;have u0:=fun W=>ZO hy (z:=(i:Int)) rfl W;have k0:a.drop i=x::a.drop (i+1):=by
     rw[List.drop_eq_getElem_cons (List.getElem?_eq_some_iff.1 hx).1,(List.getElem?_eq_some_iff.1 hx).2]
    have j0:b.drop i=y::b.drop (i+1):=by
     rw[List.drop_eq_getElem_cons (List.getElem?_eq_some_iff.1 hy).1,(List.getElem?_eq_some_iff.1 hy).2]
    by_cases q0:x=y
    ·have q1:((x.toNat:Int)==(y.toNat:Int))=true:=by rw[q0];exact beq_self_eq_true _
     have m0:Hid (a.take (i+1)=b.take (i+1)):=ZA (by rw[List.take_add_one,List.take_add_one,hx,hy,ht.out,q0]);replace hx:=ZA hx;replace hy:=ZA hy;replace k0:=ZA k0;replace j0:=ZA j0;replace q0:=ZA q0;go_wp2_with fail;refine ZPw (fun K hK=>?_);go_wp2_with fail;refine⟨by kernel_rfl,?_⟩;go_wp2_with fail;exact⟨⟨i+1,by congr 1,by omega,by omega,m0,ZA hE.out.drew⟩,by simp only[intOf];omega⟩
    ·have q1:((x.toNat:Int)==(y.toNat:Int))=false:=beq_eq_false_iff_ne.2 fun h=>q0 (UInt8.toNat_inj.1 (by omega));have h0:Z=i:=by rw[p0.out,k0,j0,cpl,if_neg q0];rfl
     replace hx:=ZA hx;replace hy:=ZA hy;replace k0:=ZA k0;replace j0:=ZA j0;replace q0:=ZA q0;replace h0:=ZA h0;go_wp2_with fail;refine ZPw (fun K hK=>?_);go_wp2_with fail;refine⟨by kernel_rfl,?_⟩;go_wp2_with fail;go_ret;exact⟨by rw[h0.out];rfl,hE.out.drew⟩
   ·have h0:Z=i:=by have:=p0.out;omega
    replace h0:=ZA h0;go_wp2_with fail;refine ZPw (fun K hK=>?_);go_wp2_with fail;refine⟨by kernel_rfl,?_⟩;go_wp2_with fail;go_ret;exact⟨by rw[h0.out];rfl,hE.out.drew⟩
  ·have h0:Z=i:=by have:=p0.out;omega
   replace h0:=ZA h0;go_wp2_with fail;refine ZPw (fun K hK=>?_);go_wp2_with fail;refine⟨by kernel_rfl,?_⟩;go_wp2_with fail;go_ret;exact⟨by rw[h0.out];rfl,hE.out.drew⟩
theorem ZJK (n:Nat) (w:World) (hn:n<=67108864):Calls Tryz.prog 164 #[.int .i64 (n:Int)] w fun e w'=>e = .returned (.bool true)/\w'=w:=by
 have q1:decide ((n:Int)<=67108864)=true:=decide_eq_true (by omega);have q2:decide ((0:Int)<=n)=true:=decide_eq_true (by omega);go_enter Tryz.func164,Tryz.ntmps164;go_wp2_with fail;go_ret;exact⟨rfl,rfl⟩
theorem ZIX (n:Nat) (w:World) (hn:n<=1000000000):Calls Tryz.prog 117 #[.int .i64 (n:Int)] w fun e w'=>NewB w (vb n) e w':=by
 have h0:=ZA (rbytes n w (by omega));have hw:=ZBK (m:=n) (by omega);go_enter Tryz.func117,Tryz.ntmps117;go_wp2_with fail;refine h0.out.mono ?_;rintro e w1 ⟨A,c,rfl,hb,hE⟩;go_wp2_with fail;go_ret;exact⟨A,c,rfl,hb,hE⟩
theorem ZM0 (l:List En) (A:Option Addr) (n c:Nat) (w:World) (hn:n=l.length) (h:Cells w A (encells l)) (u0:OkEs l) :
 Calls Tryz.prog 116 #[.slice A n c] w fun e w'=>e = .returned (.bool true)/\Ext w w':=by
 have p1:n<=262144:=by rw[hn];exact u0.few
 have q1:=ZA (List.pairwise_iff_getElem.1 u0.up);have c0:=ZA (fun n W (hn:n<=67108864)=>ZJK n W hn);have q0:decide ((262144:Int)<n)=false:=decide_eq_false (by omega);have g0:=ZA u0.each;replace hn:=ZA hn;replace h:=ZA h;clear u0;go_enter Tryz.func116,Tryz.ntmps116;go_wp2_with fail
 go_loopw [3] (fun s3 wr=>∃i:Nat,s3 = .int .i64 (i:Int)/\i<=n/\Hid (Ext w wr)) (fun s3 _=>n - (intOf s3).toNat)
 case atStart=>exact⟨0,rfl,by omega,ZA (Ext.refl _)⟩
 case round =>
  obtain⟨i,rfl,hi,hE⟩:=hrel;by_cases r0:i<n
  ·obtain⟨x,b0⟩:∃x,l[i]? = some x:=⟨_,List.getElem?_eq_getElem (by rw[<-hn.out];exact r0)⟩
   obtain⟨g,o,hA,x0,x1,x2,x3⟩:=Z0 (h.out.ext hE.out) b0;obtain⟨⟨b1,b2,b3,b4⟩,i0⟩:=g0.out x (List.mem_of_getElem? b0);have e0:=(List.getElem?_eq_some_iff.1 b0)
   have p0:∀j,i=j+1->∃y,l[j]? = some y/\y.t<x.t:=fun j hj=>by
    have f0:j<l.length:=by rw[<-hn.out];omega
    refine⟨l[j],List.getElem?_eq_getElem f0,?_⟩;have h1:=q1.out j i f0 e0.1 (by omega);rw[e0.2]at h1;exact h1
   have a0:∀j,i=j+1->∃yt:List UInt8,(∀W,Ext wr W->W.cell? ⟨g,o+j*4,none⟩=some (.string ⟨yt.toArray⟩))/\Op.bytesLess yt x.t=true:=fun j hj=>by
    obtain⟨y,hy,s0⟩:=p0 j hj;refine⟨y.t,fun W o0=>?_,by rw[Z1];exact decide_eq_true s0⟩;obtain⟨g2,o2,t0,y0,_⟩:=Z0 (h.out.ext (hE.out.trans o0)) hy;rw[hA]at t0;injection t0 with t0;injection t0 with e1 e2;subst e1 e2;exact y0
   have l0:1<=x.t.length:=List.length_pos_iff.2 i0;obtain⟨t,off,len,nn⟩:=x;simp only at x0 x1 x2 x3 b1 b2 b3 b4 a0 l0;have w0:(⟨t.toArray⟩:ByteArray).size=t.length:=ByteArray.size_mk_toArray t;obtain⟨tl,d0⟩:∃tl,tl=t.length:=⟨_,rfl⟩
   rw[<-d0]at w0 b1 l0;have r1:decide ((tl:Int)<1)=false:=decide_eq_false (by omega);have r2:decide ((65:Int)<tl)=false:=decide_eq_false (by omega);obtain⟨W5,k0⟩:∃W5,W5=wr.alloc (.cells #[.string ⟨t.toArray⟩,.int .i64 (off:Int),.int .i64 (len:Int),.int .i64 (nn:Int)] 97):=⟨_,rfl⟩
   obtain⟨g5,m0⟩:∃g5,g5=wr.heap.size:=⟨_,rfl⟩
   have j0:Row W5 g5 97 #[.string ⟨t.toArray⟩,.int .i64 (off:Int),.int .i64 (len:Int),.int .i64 (nn:Int)]:=by rw[k0,m0];exact Row.new wr _ _
   have h0:Ext wr W5:=by rw[k0];exact(Ext.refl wr).alloc _
   have v0:=hE.out.trans h0;have y0:W5.cell? ⟨g5,0,none⟩=some (.string ⟨t.toArray⟩):=j0.cell 0 rfl;have y1:W5.cell? ⟨g5,1,none⟩=some (.int .i64 (off:Int)):=j0.cell 1 rfl;have y2:W5.cell? ⟨g5,2,none⟩=some (.int .i64 (len:Int)):=j0.cell 2 rfl;have y3:W5.cell? ⟨g5,3,none⟩=some (.int .i64 (nn:Int)):=j0.cell 3 rfl;have c1:=ZA (c0.out off W5.drew b2);have c2:=ZA (c0.out len W5.drew b3);have c3:=ZA (c0.out nn W5.drew b4);subst hA;replace j0:=ZA j0;replace v0:=ZA v0;replace k0:=ZA k0;replace m0:=ZA m0;replace d0:=ZA d0;clear b0 e0 p0 i0;cases i with
   | succ j =>
    obtain⟨yt,n0,k1⟩:=a0 j rfl;have z0:=n0 W5 h0;clear a0 n0 h0;go_upto_region 7 with fail;rw[<-k0.out,<-m0.out];refine ZPw (fun K hK=>?_);go_wp2_with fail;refine c1.out.mono ?_;rintro e w6 ⟨rfl,rfl⟩;go_wp2_with fail;refine c2.out.mono ?_;rintro e w7 ⟨rfl,rfl⟩;go_wp2_with fail;refine c3.out.mono ?_;rintro e w8 ⟨rfl,rfl⟩;go_wp2_with fail;refine⟨by kernel_rfl,?_⟩;go_wp2_with fail;go_roundw
    case rel=>exact⟨j+1+1,by go_num,by omega,ZA v0.out.drew⟩
    case measure=>simp only[intOf];omega
   | zero =>
    clear a0 h0;simp only[Nat.zero_mul,Nat.add_zero]at x0 x1 x2 x3;go_upto_region 7 with fail;rw[<-k0.out,<-m0.out];refine ZPw (fun K hK=>?_);go_wp2_with fail;refine c1.out.mono ?_;rintro e w6 ⟨rfl,rfl⟩;go_wp2_with fail;refine c2.out.mono ?_;rintro e w7 ⟨rfl,rfl⟩;go_wp2_with fail;refine c3.out.mono ?_;rintro e w8 ⟨rfl,rfl⟩;go_wp2_with fail;refine⟨by kernel_rfl,?_⟩;go_wp2_with fail;go_roundw
    case rel=>exact⟨1,by go_num,by omega,ZA v0.out.drew⟩
    case measure=>simp only[intOf];omega
  ·obtain rfl:i=n:=by omega
   go_wp2_with fail;go_ret;exact⟨rfl,hE.out⟩
theorem ZMC (w:World) (g o n c i:Nat) (hi:i<n):(Instr.indexAt 94 (.slice (some ⟨g,o,none⟩) n c) (.int .i64 (i:Int))).run Tryz.prog w = .ok (.pointer (some ⟨g,o+i*4,none⟩)) w:=by
 have h1:(i:Int)<n:=by omega
 go_simp
theorem ZMz (w:World) (g o:Nat):(Instr.fieldAt 97 (.pointer (some ⟨g,o,none⟩)) 0).run Tryz.prog w = .ok (.pointer (some ⟨g,o,none⟩)) w/\(Instr.fieldAt 97 (.pointer (some ⟨g,o,none⟩)) 1).run Tryz.prog w = .ok (.pointer (some ⟨g,o+1,none⟩)) w/\(Instr.fieldAt 97 (.pointer (some ⟨g,o,none⟩)) 2).run Tryz.prog w = .ok (.pointer (some ⟨g,o+2,none⟩)) w/\(Instr.fieldAt 97 (.pointer (some ⟨g,o,none⟩)) 3).run Tryz.prog w = .ok (.pointer (some ⟨g,o+3,none⟩)) w:=by
 refine⟨?_,?_,?_,?_⟩ <;> go_simp
theorem ZOU {w:World} {b k:Nat} {v:Value} (h:w.cell? ⟨b,k,none⟩=some v):(Instr.loadAt 9 (.pointer (some ⟨b,k,none⟩))).run Tryz.prog w = .ok v w:=by
 go_simp
end
end Go.Proofs.YtkdcnhnaiknaaaaGreat
