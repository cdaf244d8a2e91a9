/- Texts of one proof, joined. -/
import Derived.Test.YtkdcnhnaiknaaaaGreatPB07
import Derived.Test.YtkdcnhnaiknaaaaGreatPB11
import Derived.Test.YtkdcnhnaiknaaaaGreatPB09
import Derived.Test.YtkdcnhnaiknaaaaGreatPB01
import Derived.Deep.QuietTactic
import Derived.BigQuiet
import Derived.Test.YtkdcnhnaiknaaaaGreatPB04
import Derived.Test.YtkdcnhnaiknaaaaGreatPB03
import Derived.Test.YtkdcnhnaiknaaaaGreatPB02
set_option linter.unusedSimpArgs false
set_option linter.unusedVariables false
set_option maxRecDepth 100000
set_option maxHeartbeats 16000000
namespace Go.Proofs.YtkdcnhnaiknaaaaGreat
section
open Go.RowKit Go.Maps
def IdE.cells (x:IdE):List Value:= [.string ⟨x.s.toArray⟩,.slice x.A x.ps.length x.c]
def IdE.rw' (x:IdE):List UInt8×List Po:=(x.s,psP x.ps)
def idcells (l:List IdE):List Value:=l.flatMap IdE.cells
def idR (l:List IdE):List (List UInt8×List Po):=l.map IdE.rw'
theorem Zy (l:List IdE):(idcells l).length=l.length*2:=Ze (cellsA:=IdE.cells) (k:=2) (fun _=>rfl) l
theorem ZF8 (l:List IdE) (i:Nat):idcells (l.take i)=(idcells l).take (i*2):=Z4 (f:=IdE.cells) (k:=2) (fun _=>rfl) l i
theorem ZGB (l:List IdE) (i:Nat):idcells (l.drop i)=(idcells l).drop (i*2):=ZAE (f:=IdE.cells) (k:=2) (fun _=>rfl) l i
theorem Z9 {l:List IdE} {i:Nat} {x:IdE} (h:l[i]? = some x) {j:Nat} (hj:j<2):(idcells l)[i*2+j]? = x.cells[j]? :=Zj (cellsA:=IdE.cells) (k:=2) (fun _=>rfl) l i x j h hj
theorem ZDN (l:List IdE):∀u∈idcells l,u.oneCell'=true:=fun u hu=>by
 unfold idcells at hu;obtain⟨x,_,hx⟩:=List.mem_flatMap.1 hu;unfold IdE.cells at hx;simp only[List.mem_cons,List.not_mem_nil,or_false]at hx;rcases hx with rfl | rfl <;> rfl
theorem ZHN (a b:List IdE) (x:IdE):idcells (a++x::b)=(idcells a++x.cells)++idcells b:=by
 unfold idcells;rw[List.flatMap_append,List.flatMap_cons,List.append_assoc]
theorem ZBT {w:World} {A:Option Addr} {l:List IdE} (h:Cells w A (idcells l)) {i:Nat} {x:IdE} (hx:l[i]? = some x):∃g o,A=some ⟨g,o,none⟩/\∀W,Ext w W->W.cell? ⟨g,o+i*2,none⟩=some (.string ⟨x.s.toArray⟩)/\W.cell? ⟨g,o+i*2+1,none⟩=some (.slice x.A x.ps.length x.c):=by
 obtain⟨g,o,hA,hc⟩:=h.at_ (by rw[Zy];have:=(List.getElem?_eq_some_iff.1 hx).1;omega);refine⟨g,o,hA,fun W hE=>⟨?_,?_⟩⟩
 ·have:=hE.cell (hc (i*2+0) _ (by rw[Z9 hx (by omega)];rfl));exact this
 ·have:=hE.cell (hc (i*2+1) _ (by rw[Z9 hx (by omega)];rfl));exact this
theorem IdE.far_symm {x y:IdE} (h:IdE.far x y):IdE.far y x:=fun a b ha hb e=>h b a hb ha e.symm
structure RowsO (base:Nat) (W:World) (B:Option Addr) (n c:Nat) (E:List IdE) (done:List (List UInt8×Po)):Prop where
  len:n=E.length
  own:W.ownsRow base 129 2 (.slice B n c) n (idcells E)
  each:∀x∈E,x.own base W
  pos:∀x∈E,∀y∈x.ps,posAt 0 W y
  apart:E.Pairwise IdE.far
  rows:idR E=grp done
theorem RowsO.nil (base:Nat) (W:World):RowsO base W none 0 0 [] []:=⟨rfl,⟨rfl,.inl ⟨rfl,rfl⟩⟩,nofun,nofun,List.Pairwise.nil,rfl⟩
theorem RowsO.ext {base:Nat} {W W1:World} {B:Option Addr} {n c:Nat} {E:List IdE} {done:List (List UInt8×Po)} (h:RowsO base W B n c E done) (hE:Ext W W1):RowsO base W1 B n c E done :=
 ⟨h.len,hE.owns h.own,fun x hx=>hE.owns (h.each x hx),fun x hx y hy=>⟨(h.pos x hx y hy).1.ext hE,(h.pos x hx y hy).2⟩,h.apart,h.rows⟩
structure PlaP (R:List (List UInt8×List Po)) (s:List UInt8) (k:Nat):Prop where
  le:k<=R.length
  low:∀i x,i<k->R[i]? = some x->x.1<s
  high:∀x,R[k]? = some x->¬ x.1<s
theorem PlaP.add {R:List (List UInt8×List Po)} {s:List UInt8} {k:Nat} (h:PlaP R s k) (p:Po):addG (s,p) R=R.take k++addG (s,p) (R.drop k):=by
 have key:∀j,j<=k->addG (s,p) R=R.take j++addG (s,p) (R.drop j):=by
  intro j
  induction j with
  | zero=>intro _;rfl
  | succ j ih =>
   intro hj;rw[ih (by omega)];obtain⟨x,hx⟩:∃x,R[j]? = some x:=⟨_,List.getElem?_eq_getElem (by have:=h.le;omega)⟩
   exact ZJv (s,p) hx (h.low j x (by omega) hx)
 exact key k (Nat.le_refl _)
theorem PlaP.put {R:List (List UInt8×List Po)} {s:List UInt8} {k:Nat} (h:PlaP R s k) (p:Po) {v:List Po} (hx:R[k]? = some (s,v)):addG (s,p) R=R.take k++(s,v ++ [p])::R.drop (k+1):=by
 rw[h.add p,ZLb (s,p) hx (h.high _ hx) rfl]
theorem PlaP.ins {R:List (List UInt8×List Po)} {s:List UInt8} {k:Nat} (h:PlaP R s k) (p:Po) (hn:∀x,R[k]? = some x->¬ x.1=s):addG (s,p) R=R.take k++(s,[p])::R.drop k:=by
 rw[h.add p];cases hx:R[k]? with
 | none =>
  rw[List.drop_of_length_le (by rwa [List.getElem?_eq_none_iff]at hx)];rfl
 | some x=>rw[ZLN (s,p) hx (h.high x hx) (hn x hx)]
theorem ZFi {E:List IdE} {i:Nat} {x:IdE} (h:E[i]? = some x):(idR E)[i]? = some (x.s,psP x.ps):=by unfold idR;rw[List.getElem?_map,h];rfl
theorem ZMB {E:List IdE} {i:Nat} (h:E[i]? = none):(idR E)[i]? = none:=by unfold idR;rw[List.getElem?_map,h];rfl
theorem ZDe (E:List IdE):(idR E).length=E.length:=by unfold idR;rw[List.length_map]
theorem ZNH {base:Nat} {W w1:World} {x z:IdE} (hz:z.own base W) (hf:IdE.far z x) {v:Value} (hv:v = .slice x.A x.ps.length x.c) (hg:W.grownBy w1 v.ownBlock):z.own base w1 :=
 (Chg.of_grown (S:=fun k=>v.ownBlock=some k) hg (fun _ _ e=>e)).owns hz fun g q0 h0=>by
  subst hv;cases k0:z.A with
  | none=>rw[k0]at q0;simp[Value.ownBlock]at q0
  | some b =>
   cases p0:x.A with
   | none=>rw[p0]at h0;simp[Value.ownBlock]at h0
   | some a =>
    rw[k0]at q0;rw[p0]at h0;simp[Value.ownBlock]at q0 h0;exact hf b a k0 p0 (q0.trans h0.symm)
theorem RowsO.put {base:Nat} {W w1:World} {g n c:Nat} {E:List IdE} {done:List (List UInt8×Po)} (h:RowsO base W (some ⟨g,0,none⟩) n c E done) {s:List UInt8} {k:Nat} (hp:PlaP (idR E) s k) {x:IdE} (hx:E[k]? = some x) (hs:x.s=s)
 {y:PoC} {A1:Option Addr} {c1:Nat} (hg:W.grownBy w1 (Value.slice x.A x.ps.length x.c).ownBlock) (ho:w1.ownsRow base 107 2 (.slice A1 (x.ps.length+1) c1) (x.ps.length+1) (pcells x.ps++y.cells))
 (hA:(Value.slice A1 (x.ps.length+1) c1).ownBlock=(Value.slice x.A x.ps.length x.c).ownBlock\/∃k,(Value.slice A1 (x.ps.length+1) c1).ownBlock=some k/\W.heap.size<=k) (hy:posAt 0 W y) :
 RowsO base (w1.setCell ⟨g,k*2+1,none⟩ (.slice A1 (x.ps.length+1) c1)) (some ⟨g,0,none⟩) n c (E.set k ⟨s,x.ps ++ [y],A1,c1⟩) (done ++ [(s,y.po)]):=by
 have hk:=(List.getElem?_eq_some_iff.1 hx).1;have b0:=h.each x (List.mem_of_getElem? hx);have u0:w1.ownsRow base 129 2 (.slice (some ⟨g,0,none⟩) n c) n (idcells E):=(Chg.of_grown (S:=fun k=>(Value.slice x.A x.ps.length x.c).ownBlock=some k) hg (fun _ _ e=>e)).owns h.own fun g' t0 hS=>by
  obtain⟨cur,hc,_⟩:=ZC h.own t0;exact ZJ b0 hc (by decide) hS
 have c0:(Value.slice (some ⟨g,0,none⟩) n c).ownBlock=some g:=rfl;obtain⟨curB,x0,_⟩:=ZC u0 c0;have m0:Chg (fun k=>k=g) w1 (w1.setCell ⟨g,k*2+1,none⟩ (.slice A1 (x.ps.length+1) c1)):=Chg.of_set w1 _ rfl;have k0:∀ {b e size n:Nat} {v:Value} {xs:List Value},e≠129->w1.ownsRow b e size v n xs->(w1.setCell ⟨g,k*2+1,none⟩ (.slice A1 (x.ps.length+1) c1)).ownsRow b e size v n xs:=fun q0 hh=>m0.owns hh fun g' t0 e=>ZJ hh x0 q0 (by rw[t0,e]);have p0:∀i j z u,E[i]? = some z->E[j]? = some u->i≠j->IdE.far z u:=fun i j z u hi hj q0=>by
  obtain⟨hi1,rfl⟩:=List.getElem?_eq_some_iff.1 hi;obtain⟨y0,rfl⟩:=List.getElem?_eq_some_iff.1 hj;rcases Nat.lt_or_gt_of_ne q0 with hl | hl
  ·exact List.pairwise_iff_getElem.1 h.apart i j hi1 y0 hl
  ·exact IdE.far_symm (List.pairwise_iff_getElem.1 h.apart j i y0 hi1 hl)
 have g0:∀z∈E.set k ⟨s,x.ps ++ [y],A1,c1⟩,z=⟨s,x.ps ++ [y],A1,c1⟩\/∃i,E[i]? = some z/\i≠k:=fun z hz=>by
  obtain⟨i,hi⟩:=List.mem_iff_getElem?.1 hz;rw[List.getElem?_set]at hi;split at hi
  ·exact .inl (Option.some.inj hi).symm
  ·rename_i q0;exact .inr ⟨i,hi,fun e=>q0 e.symm⟩
 have j0:∀u,posAt 0 W u->posAt 0 (w1.setCell ⟨g,k*2+1,none⟩ (.slice A1 (x.ps.length+1) c1)) u:=fun u hu=>by
  have q:=ZA7 b0 hg hu.1 (by decide);exact⟨q.chg m0 fun a ha e=>q.unlike x0 (by decide) a ha e,hu.2⟩
 have hlen:(x.ps ++ [y]).length=x.ps.length+1:=by rw[List.length_append];rfl
 refine⟨by rw[List.length_set];exact h.len,?_,fun z hz=>?_,fun z hz u hu=>?_,?_,?_⟩
 ·have h1:=ZKz u0 (k*2+1) (.slice A1 (x.ps.length+1) c1);have h2:(idcells E).set (k*2+1) (.slice A1 (x.ps.length+1) c1)=idcells (E.set k ⟨s,x.ps ++ [y],A1,c1⟩):=by
   apply List.ext_getElem?;intro j;by_cases hj:j<E.length*2
   ·have f0:j=(j / 2)*2+j%2:=by omega
    have a0:j / 2<E.length:=by omega
    rw[f0,List.getElem?_set];by_cases z0:j / 2=k
    ·subst z0;have i0:(E.set (j / 2) ⟨s,x.ps ++ [y],A1,c1⟩)[j / 2]? = some ⟨s,x.ps ++ [y],A1,c1⟩:=by rw[List.getElem?_set,if_pos rfl,if_pos a0]
     rw[Z9 i0 (by omega),Z9 hx (by omega),Zy];rcases (show j%2=0\/j%2=1 by omega)with h0 | h0
     ·rw[h0,if_neg (by omega)];unfold IdE.cells;rw[hs];rfl
     ·rw[h0,if_pos rfl,if_pos (by omega)];unfold IdE.cells;simp only[hlen];rfl
    ·obtain⟨z,hz⟩:∃z,E[j / 2]? = some z:=⟨_,List.getElem?_eq_getElem a0⟩
     have l0:(E.set k ⟨s,x.ps ++ [y],A1,c1⟩)[j / 2]? = some z:=by rw[List.getElem?_set,if_neg (fun e=>z0 e.symm)];exact hz
     rw[if_neg (by omega),Z9 l0 (by omega),Z9 hz (by omega)]
   ·rw[List.getElem?_eq_none (by rw[List.length_set,Zy];omega),List.getElem?_eq_none (by rw[Zy,List.length_set];omega)]
  rw[h2]at h1;exact h1
 ·rcases g0 z hz with rfl | ⟨i,hi,q0⟩
  ·show World.ownsRow _ base _ 2 (.slice A1 (x.ps ++ [y]).length c1) (x.ps ++ [y]).length (pcells (x.ps ++ [y]));rw[hlen,ZDT];exact k0 (by decide) ho
  ·exact k0 (by decide) (ZNH (h.each z (List.mem_of_getElem? hi)) (p0 i k z x hi hx q0) rfl hg)
 ·rcases g0 z hz with rfl | ⟨i,hi,q0⟩
  ·rcases List.mem_append.1 hu with hu | hu
   ·exact j0 u (h.pos x (List.mem_of_getElem? hx) u hu)
   ·rw[List.mem_singleton.1 hu];exact j0 y hy
  ·exact j0 u (h.pos z (List.mem_of_getElem? hi) u hu)
 ·have key:∀i z,E[i]? = some z->i≠k->IdE.far z ⟨s,x.ps ++ [y],A1,c1⟩:=fun i z hi q0 a b ha hb e=>by
   simp only at hb;subst hb;rcases hA with hA | ⟨q,hA,hq⟩
   ·cases v0:x.A with
    | none=>rw[v0]at hA;simp[Value.ownBlock]at hA
    | some a' =>
     rw[v0]at hA;simp[Value.ownBlock]at hA;exact p0 i k z x hi hx q0 a a' ha v0 (e.trans hA)
   ·simp[Value.ownBlock]at hA;obtain⟨cur,hc,_⟩:=ZC (h.each z (List.mem_of_getElem? hi)) (g:=a.block) (by rw[ha];rfl);have:=hc.lt;omega
  rw[List.pairwise_iff_getElem];intro i j hi hj d0;rw[List.length_set]at hi hj;rw[List.getElem_set,List.getElem_set];split
  ·rename_i e0;rw[if_neg (by omega)];exact IdE.far_symm (key j _ (List.getElem?_eq_getElem hj) (by omega))
  ·rename_i e0;split
   ·exact key i _ (List.getElem?_eq_getElem hi) (by omega)
   ·exact List.pairwise_iff_getElem.1 h.apart i j hi hj d0
 ·rw[ZC0,<-h.rows,hp.put y.po (v:=psP x.ps) (by rw[ZFi hx,hs])];unfold idR;rw[List.map_set,List.set_eq_take_append_cons_drop,if_pos (by rw[List.length_map];exact hk)];show _=_;unfold IdE.rw';rw[ZHy]
theorem RowsO.ins {base:Nat} {W w1:World} {B:Option Addr} {n c:Nat} {E:List IdE} {done:List (List UInt8×Po)} (h:RowsO base W B n c E done) {s:List UInt8} {k:Nat} (hp:PlaP (idR E) s k) (hn:∀x,E[k]? = some x->¬ x.s=s)
 {y:PoC} {A1 Ax:Option Addr} {c1 cx:Nat} (hE:Ext W w1) (ho:w1.ownsRow base 129 2 (.slice A1 (n+1) c1) (n+1) ((idcells (E.take k) ++ [.string ⟨s.toArray⟩,.slice Ax 1 cx])++idcells (E.drop k))) (hx:w1.ownsRow base 107 2 (.slice Ax 1 cx) 1 y.cells) (p0:∀a,Ax=some a->W.heap.size<=a.block) (hy:posAt 0 w1 y) :
 RowsO base w1 A1 (n+1) c1 (E.take k++⟨s,[y],Ax,cx⟩::E.drop k) (done ++ [(s,y.po)]):=by
 have hk:k<=E.length:=by have:=hp.le;rw[ZDe]at this;exact this
 have h1:=h.ext hE;have h0:∀z∈E.take k++(⟨s,[y],Ax,cx⟩:IdE)::E.drop k,z=⟨s,[y],Ax,cx⟩\/z∈E:=fun z hz=>by
  rcases List.mem_append.1 hz with hz | hz
  ·exact .inr (List.mem_of_mem_take hz)
  ·rcases List.mem_cons.1 hz with rfl | hz
   ·exact .inl rfl
   ·exact .inr (List.mem_of_mem_drop hz)
 have key:∀z∈E,IdE.far z ⟨s,[y],Ax,cx⟩:=fun z hz a b ha hb e=>by
  have h2:=p0 b hb;obtain⟨cur,hc,_⟩:=ZC (h.each z hz) (g:=a.block) (by rw[ha];rfl);have:=hc.lt;omega
 refine⟨?_,?_,fun z hz=>?_,fun z hz u hu=>?_,?_,?_⟩
 ·rw[List.length_append,List.length_cons,List.length_take,List.length_drop,h.len];omega
 ·rw[ZHN];exact ho
 ·rcases h0 z hz with rfl | hz
  ·show World.ownsRow _ base _ 2 (.slice Ax 1 cx) 1 (pcells [y]);have:pcells [y]=y.cells:=by unfold pcells;simp
   rw[this];exact hx
  ·exact h1.each z hz
 ·rcases h0 z hz with rfl | hz
  ·rw[List.mem_singleton.1 hu];exact hy
  ·exact h1.pos z hz u hu
 ·have q0:=h.apart;rw[<-List.take_append_drop k E]at q0;obtain⟨q1,q2,q3⟩:=List.pairwise_append.1 q0;refine List.pairwise_append.2 ⟨q1,List.pairwise_cons.2 ⟨fun z hz=>IdE.far_symm (key z (List.mem_of_mem_drop hz)),q2⟩,fun z hz u hu=>?_⟩;rcases List.mem_cons.1 hu with rfl | hu
  ·exact key z (List.mem_of_mem_take hz)
  ·exact q3 z hz u hu
 ·rw[ZC0,<-h.rows,hp.ins y.po fun x hx=>by
   cases hE:E[k]? with
   | none=>rw[ZMB hE]at hx;cases hx
   | some z=>rw[ZFi hE]at hx;cases hx;exact hn z hE]
  unfold idR;rw[List.map_append,List.map_cons,List.map_take,List.map_drop];rfl
theorem ZGX (E:List IdE) (B:Option Addr) (n c:Nat) (s:List UInt8) (w:World) (hn:n=E.length) (h:Cells w B (idcells E)) (u0:n<=1000000000) :
 Calls Tryz.prog 72 #[.slice B n c,.string ⟨s.toArray⟩] w fun e w'=>∃k:Nat,e = .returned (.int .i64 (k:Int))/\PlaP (idR E) s k/\Ext w w':=by
 have q0:(idR E).length=n:=by rw[ZDe,hn]
 replace hn:=ZA hn;replace h:=ZA h;replace q0:=ZA q0;go_enter Tryz.func72,Tryz.ntmps72;go_wp2_with fail
 go_loopw [5] (fun s5 wr=>∃k:Nat,s5 = .int .i64 (k:Int)/\k<=n/\Hid (∀i x,i<k->(idR E)[i]? = some x->x.1<s)/\Hid (Ext w wr)) (fun s5 _=>n - (intOf s5).toNat)
 case atStart=>exact⟨0,rfl,by omega,ZA (fun i x hi=>absurd hi (Nat.not_lt_zero _)),ZA (Ext.refl _)⟩
 case round =>
  obtain⟨k,rfl,hk,k0,hE⟩:=hrel;by_cases t0:k<n
  ·obtain⟨x,hx⟩:∃x,E[k]? = some x:=⟨_,List.getElem?_eq_getElem (by rw[<-hn.out];exact t0)⟩
   obtain⟨g,o,hA,m0⟩:=ZBT (h.out.ext hE.out) hx;obtain⟨l0,l1⟩:=m0 wr (Ext.refl _);have h0:=ZFi hx;obtain⟨xs,ps,xA,xc⟩:=x;simp only at l0 l1 h0;subst hA;have v0:decide ((k:Int)<n)=true:=decide_eq_true (by omega);clear m0 hx;by_cases p0:xs<s
   ·have j0:=ZA (show ∀i x,i<k+1->(idR E)[i]? = some x->x.1<s from fun i x hi hx=>by
     rcases Nat.lt_succ_iff_lt_or_eq.1 hi with hi | rfl
     ·exact k0.out i x hi hx
     ·rw[h0]at hx;cases hx;exact p0)
    have hd:Op.bytesLess xs s=true:=by rw[Z1];exact decide_eq_true p0
    replace h0:=ZA h0;go_wp2_with fail;exact⟨⟨k+1,by go_num,by omega,j0,ZA hE.out⟩,by simp only[intOf];omega⟩
   ·have hd:Op.bytesLess xs s=false:=by rw[Z1];exact decide_eq_false p0
    have g0:=ZA (show PlaP (idR E) s k from⟨by rw[q0.out];exact hk,k0.out,fun x hx=>by rw[h0]at hx;cases hx;exact p0⟩);replace h0:=ZA h0;go_wp2_with fail;go_ret;exact⟨k,rfl,g0.out,hE.out⟩
  ·obtain rfl:k=n:=by omega
   have g0:=ZA (show PlaP (idR E) s k from⟨by rw[q0.out];exact hk,k0.out,fun x hx=>by rw[List.getElem?_eq_none (by rw[q0.out];exact Nat.le_refl _)]at hx;cases hx⟩);go_wp2_with fail;go_ret;exact⟨k,rfl,g0.out,hE.out⟩
end
section
open Go.RowKit
theorem ZFh {P:Program} {ops:Array Oper} {o:Oper} {a:Act} {w:World} {K:Act->World->Prop} {Q:Exit->Act->World->Prop} {E0:Prop} {t e bytes:Nat} (E:Elem P t e 1 bytes) (p0:o.guard=none)
 {base:Nat} {A B:Option Addr} {n c m c':Nat} {xs news:List Value} (hb:Buf w base e A n c xs) (hr:Cells w B news) (s x:Operand)
 (ho:o.op = .call { callee:= .builtin .append,args:=#[s,x],argTypes:=#[t,t] })
 (hs:a.eval s = .slice A n c) (hx:a.eval x = .slice B m c') (hl:news.length=m) (h1:∀u∈news,u.oneCell'=true) (k0:n+m<=4294967296) (h0:base<=w.heap.size)
 (h:∀A1 c1 w',Buf w' base e A1 (n+m) c1 (xs++news)->w.grownBy w' (Value.slice A n c).ownBlock->K (a.put o.dst (.slice A1 (n+m) c1)) w') :
 if Region.wanted o (yielded ops a.tmps)=true then Oper.wp P o a w K Q else E0:=by
 rw[if_pos (by simp[Region.wanted,p0])];obtain⟨A1,c1,w',q0,h2,h3,_⟩:=ZFJ (P:=P) E w o.type hb (c':=c') hr hl h1 k0 h0;unfold Oper.wp execOp;simp only[ho,resolve,invoke,builtin,Sem.run_bind,Sem.run_pure,Result.andThen_ok,List.map_toArray,List.map_cons,List.map_nil,hs,hx,q0];exact h A1 c1 w' h2 h3
theorem Buf.own_le {w:World} {base:Nat} {e:TypeId} {A:Option Addr} {n c k:Nat} {xs:List Value} (h:Buf w base e A n c xs) (hk:(Value.slice A n c).ownBlock=some k):base<=k:=by
 have h0:=h.base_le;cases A with
 | none=>simp[Value.ownBlock]at hk
 | some b =>
  have:=h0 b rfl;simp[Value.ownBlock]at hk;omega
theorem ZDY (s:List UInt8) (w:World) (h:s.length<=1000000000):Calls Tryz.prog 162 #[.string ⟨s.toArray⟩] w fun e w'=>NewB w (txL s) e w':=by
 have q0:=ZA (fun W=>rbytes s.length W (by omega));have hl:=ZAt (n:=s.length) (by omega);have hw:=ZX (m:=s.length) (by omega);obtain⟨n,hn⟩:∃n,n=s.length:=⟨_,rfl⟩
 obtain⟨V,hV⟩:∃V,V=vb s.length:=⟨_,rfl⟩
 have p0:txL s=V++s:=by rw[hV];rfl
 rw[<-hV,<-hn]at q0;rw[<-hV]at hl;rw[<-hn]at hw h;rw[p0];have hlen:(⟨s.toArray⟩:ByteArray).size=n:=by rw[hn];exact ByteArray.size_mk_toArray s
 replace hn:=ZA hn;replace hV:=ZA hV;clear p0;go_enter Tryz.func162,Tryz.ntmps162;go_wp2_with fail;refine(q0.out w).mono ?_;rintro e w1 ⟨A1,c1,rfl,j0,h0⟩;have m0:=h0.size;go_wp2_with (at_builtin;refine ZBf j0 (.tmp 6) (.tmp 7) rfl rfl rfl rfl (by have:=hn.out;omega) m0 (fun A2 c2 w2 g0 t0 k0=>?_));go_ret;exact⟨A2,c2,ZAn (by rw[List.length_append]),by rw[List.length_append,List.map_append];exact g0,k0 w h0 (Nat.le_refl _)⟩
theorem ZJ0 (e:Ev) (B:Option Addr) (d:Nat) (w:World) (h:e.Ok w B) (hk:checkE e.fs=0) (ha:I64ok' e.at_) :
 Calls Tryz.prog 112 #[e.val B d] w fun en w'=>NewB w (putE e) en w':=by
 obtain⟨p2,n0⟩:=Zd hk;have o0:putE e=(vb (zig e.at_)++vb e.fs.length)++putFs (e.fs.take e.fs.length):=by unfold putE;rw[List.take_length]
 rw[o0];obtain⟨at_,fs⟩:=e;obtain⟨hc,_,_⟩:=h;unfold Ev.val;simp only at hc p2 n0 ha ⊢;have u1:=ZBg n0;obtain⟨m,hm⟩:∃m,m=fs.length:=⟨_,rfl⟩
 rw[<-hm]at p2 u1 ⊢;obtain⟨W,hW⟩:∃W,W=w.alloc (.cells #[.int .i64 at_,.slice B m d] 37):=⟨_,rfl⟩
 have s0:Ext w W:=by rw[hW];exact(Ext.refl w).alloc _
 have hr:Row W w.heap.size 37 #[.int .i64 at_,.slice B m d]:=by rw[hW];exact Row.new w _ _
 obtain⟨b,hb⟩:∃b,b=w.heap.size:=⟨_,rfl⟩
 rw[<-hb]at hr;have q2:=ZAt (ZBB ha.1 ha.2);have c0:=ZAt (n:=m) (by omega);obtain⟨L1,w0⟩:∃L1,L1=vb (zig at_):=⟨_,rfl⟩
 obtain⟨L2,q1⟩:∃L2,L2=vb m:=⟨_,rfl⟩
 rw[<-w0]at q2;rw[<-q1]at c0;rw[<-w0,<-q1];have l0:W.cell? ⟨b,0,none⟩=some (.int .i64 at_)/\W.cell? ⟨b,1,none⟩=some (.slice B m d)/\Ext W W:=⟨hr.cell 0 rfl,hr.cell 1 rfl,Ext.refl W⟩
 have p1:W.drew.cell? ⟨b,0,none⟩=some (.int .i64 at_)/\W.drew.cell? ⟨b,1,none⟩=some (.slice B m d)/\Ext W W.drew:=⟨hr.cell 0 rfl,hr.cell 1 rfl,(Ext.refl W).drew⟩
 have t1:∀x,(x.cell? ⟨b,0,none⟩=some (.int .i64 at_)/\x.cell? ⟨b,1,none⟩=some (.slice B m d)/\Ext W x)->Calls Tryz.prog 119 #[.int .i64 at_] x fun e y=>∃A1 c1,e = .returned (.slice A1 L1.length c1)/\Own8 y W.heap.size A1 L1.length c1 L1/\(y.cell? ⟨b,0,none⟩=some (.int .i64 at_)/\y.cell? ⟨b,1,none⟩=some (.slice B m d)/\Ext W y):=fun x ⟨h0,h1,hE⟩ =>
  (ZE6 at_ x ha.1 ha.2).mono fun e y hy=>by
   obtain⟨A1,c1,he,m1,t0⟩:=NewB.own hy hE.size;rw[<-w0]at he m1;exact⟨A1,c1,he,m1,t0.cell h0,t0.cell h1,hE.trans t0⟩
 have v1:∀x A1 c1,Own8 x W.heap.size A1 L1.length c1 L1->(x.cell? ⟨b,0,none⟩=some (.int .i64 at_)/\x.cell? ⟨b,1,none⟩=some (.slice B m d)/\Ext W x)->Calls Tryz.prog 161 #[.int .u64 (m:Int)] x fun e y=>∃A2 c2,e = .returned (.slice A2 L2.length c2)/\Own8 y W.heap.size A1 L1.length c1 L1/\Own8 y W.heap.size A2 L2.length c2 L2/\(y.cell? ⟨b,0,none⟩=some (.int .i64 at_)/\y.cell? ⟨b,1,none⟩=some (.slice B m d)/\Ext W y):=fun x A1 c1 m1 ⟨h0,h1,hE⟩ =>
  (rbytes m x (by omega)).mono fun e y hy=>by
   obtain⟨A2,c2,he,m0,t0⟩:=NewB.own hy hE.size;rw[<-q1]at he m0;exact⟨A2,c2,he,⟨rfl,m1.2.ext t0⟩,m0,t0.cell h0,t0.cell h1,hE.trans t0⟩
 replace t1:=ZA t1;replace v1:=ZA v1;replace l0:=ZA l0;replace p1:=ZA p1;have m3:=ZX (m:=m) (by omega);replace hW:=ZA hW;replace hm:=ZA hm;replace n0:=ZA n0;replace u1:=ZA u1;replace hb:=ZA hb;clear w0 q1 o0;go_enter Tryz.func112,Tryz.ntmps112;go_wp2_with fail;rw[<-hW.out,<-hb.out];refine wp_region_held_drew (S:=fun x=>x.cell? ⟨b,0,none⟩=some (.int .i64 at_)/\x.cell? ⟨b,1,none⟩=some (.slice B m d)/\Ext W x) (by kernel_rfl) p1.out (fun f0=>?_);refine wpAnyH_take (i:=0) (v:= .pointer (some ⟨b,0,none⟩)) rfl (by kernel_rfl) (by kernel_rfl) (by kernel_rfl) (fun _ _ _ h=>h) (Or.inl ⟨by rfl,?_⟩) (by assumption) ?_
 ·intro w' p0
  (try dsimp only at p0)
  obtain⟨z1,z2,z3⟩:=p0;go_simp
  try with_reducible rfl
  all_goals omega
 (try simp only[Act.put,pz0,pz1,pz2,pz3,pz4,pz5])
 refine wpAnyH_take (i:=1) (v:= .int .i64 at_) rfl (by kernel_rfl) (by kernel_rfl) (by kernel_rfl) (fun _ _ _ h=>h) (Or.inl ⟨by rfl,?_⟩) (by assumption) ?_
 ·intro w' p0
  (try dsimp only at p0)
  obtain⟨z1,z2,z3⟩:=p0;go_simp
  try with_reducible rfl
  all_goals omega
 (try simp only[Act.put,pz0,pz1,pz2,pz3,pz4,pz5])
 refine wpAnyH_take (i:=3) (v:= .pointer (some ⟨b,1,none⟩)) rfl (by kernel_rfl) (by kernel_rfl) (by kernel_rfl) (fun _ _ _ h=>h) (Or.inl ⟨by rfl,?_⟩) (by assumption) ?_
 ·intro w' p0
  (try dsimp only at p0)
  obtain⟨z1,z2,z3⟩:=p0;go_simp
  try with_reducible rfl
  all_goals omega
 (try simp only[Act.put,pz0,pz1,pz2,pz3,pz4,pz5])
 refine wpAnyH_take (i:=4) (v:= .slice B m d) rfl (by kernel_rfl) (by kernel_rfl) (by kernel_rfl) (fun _ _ _ h=>h) (Or.inl ⟨by rfl,?_⟩) (by assumption) ?_
 ·intro w' p0
  (try dsimp only at p0)
  obtain⟨z1,z2,z3⟩:=p0;go_simp
  try with_reducible rfl
  all_goals omega
 (try simp only[Act.put,pz0,pz1,pz2,pz3,pz4,pz5])
 refine wpAnyH_take (i:=5) (v:= .int .i64 (m:Int)) rfl (by kernel_rfl) (by kernel_rfl) (by kernel_rfl) (fun _ _ _ h=>h) (Or.inl ⟨by rfl,?_⟩) (by assumption) ?_
 ·intro w' p0
  (try dsimp only at p0)
  obtain⟨z1,z2,z3⟩:=p0;go_simp
  try with_reducible rfl
  all_goals omega
 (try simp only[Act.put,pz0,pz1,pz2,pz3,pz4,pz5])
 refine wpAnyH_take (i:=6) (v:= .int .u64 (m:Int)) rfl (by kernel_rfl) (by kernel_rfl) (by kernel_rfl) (fun _ _ _ h=>h) (Or.inl ⟨by rfl,?_⟩) (by assumption) ?_
 ·intro w' p0
  (try dsimp only at p0)
  obtain⟨z1,z2,z3⟩:=p0;go_simp
  try with_reducible rfl
  all_goals omega
 (try simp only[Act.put,pz0,pz1,pz2,pz3,pz4,pz5])
 refine wpAnyH_ready (rs:= [2]) (by kernel_rfl) (by simp) ?_;refine AllReadyH.cons rfl (fun K hK=>?_) AllReadyH.nil
 (first | go_at_call 119 | (go_simp;go_at_call 119));(refine(t1.out _ ‹_›).mono ?_;rintro en w2 ⟨A2,c2,rfl,m0,b1⟩)
 refine hK.out _ _ ?_ (fun v0=>?_)
 ·exact b1
 clear hK K
 (try simp only[Act.put,pz0,pz1,pz2,pz3,pz4,pz5])
 refine wpAnyH_ready (rs:= [7]) (by kernel_rfl) (by simp) ?_;refine AllReadyH.cons rfl (fun K hK=>?_) AllReadyH.nil
 (first | go_at_call 161 | (go_simp;go_at_call 161));(refine(v1.out _ _ _ m0 b1).mono ?_;rintro en w3 ⟨A3,c3,rfl,m0,e1,j0⟩)
 refine hK.out _ _ ?_ (fun u0=>?_)
 ·exact j0
 clear hK K
 (try simp only[Act.put,pz0,pz1,pz2,pz3,pz4,pz5])
 refine wpAnyH_ready (rs:= [8]) (by kernel_rfl) (by simp) ?_;refine AllReadyH.cons rfl (fun K hK=>?_) AllReadyH.nil
 first | (refine ZFh ZV rfl m0.2 e1.2.cells (.tmp 7) (.tmp 12) rfl rfl rfl (by rw[List.length_map]) (ZF _) (by omega) (Ext.size j0.2.2) (fun A4 c4 w4 f1 o1=>?_)) | (go_simp;refine ZFh ZV rfl m0.2 e1.2.cells (.tmp 7) (.tmp 12) rfl rfl rfl (by rw[List.length_map]) (ZF _) (by omega) (Ext.size j0.2.2) (fun A4 c4 w4 f1 o1=>?_))
 have r0:=Ext.grown j0.2.2 o1 (fun k hk=>m0.2.own_le hk);have a1:=And.intro (r0.cell l0.out.1) (And.intro (r0.cell l0.out.2.1) r0);refine hK.out _ _ ?_ (fun x0=>?_)
 ·exact a1
 clear hK K
 (try simp only[Act.put,pz0,pz1,pz2,pz3,pz4,pz5])
 refine wpAnyH_take (i:=9) (v:= .slice A4 (L1.length+L2.length) c4) rfl (by kernel_rfl) (by kernel_rfl) (by kernel_rfl) (fun _ _ _ h=>h) (Or.inl ⟨by rfl,?_⟩) (by assumption) ?_
 ·intro w' p0
  (try dsimp only at p0)
  obtain⟨z1,z2,z3⟩:=p0;go_simp
  try with_reducible rfl
  all_goals omega
 (try simp only[Act.put,pz0,pz1,pz2,pz3,pz4,pz5])
 refine wpAnyH_done (by kernel_rfl) ?_ _;have d0:=ZA a1.2.2;obtain⟨LL,a0⟩:∃LL,LL=L1++L2:=⟨_,rfl⟩
 obtain⟨k4,b0⟩:∃k4,k4=L1.length+L2.length:=⟨_,rfl⟩
 have g0:Own8 w4 W.heap.size A4 k4 c4 LL:=⟨by rw[a0,b0,List.length_append],by rw[a0,b0,List.map_append];exact f1⟩
 have n2:k4<=20:=by omega
 rw[<-b0];replace g0:=ZA g0;replace a0:=ZA a0;replace b0:=ZA b0;have r1:=ZA hr;clear b1 j0 m0 e1 f1 o1 r0 a1 t1 v1 l0 p1 f0 v0 u0 x0 hr q2 c0;go_wp2_with fail
 go_loopw [3,4] (fun s3 s4 wr=>∃(i n5 c5:Nat) (A5:Option Addr) (L:List UInt8),s3 = .slice A5 n5 c5/\s4 = .int .i64 (i:Int)/\i<=m/\n5<=100000/\Hid (L=LL++putFs (fs.take i))/\Hid (Own8 wr W.heap.size A5 n5 c5 L)/\Hid (Ext W wr)) (fun _ s4 _=>m - (intOf s4).toNat)
 case atStart=>exact⟨0,k4,c4,A4,LL,rfl,rfl,by omega,by omega,ZA (by simp[putFs]),g0,d0⟩
 case round =>
  clear g0 d0;obtain⟨i,n5,c5,A5,L,rfl,rfl,hi,j3,hL,g0,hE⟩:=hrel;have y1:=(r1.out.ext hE.out).cell 1 rfl;by_cases him:i<m
  ·obtain⟨f,hf⟩:∃f,fs[i]? = some f:=⟨_,List.getElem?_eq_getElem (by rw[<-hm.out];exact him)⟩
   obtain⟨g,o,rfl,k0,k1⟩:=Zu ((hc.ext s0).ext hE.out) hf;have q0:∀W2,Ext W W2->W2.cell? ⟨g,o+i*2+1,none⟩=some (strV f.2):=fun W2 h2=>by
    obtain⟨g',o',he,_,k1'⟩:=Zu ((hc.ext s0).ext h2) hf;injection he with he;injection he with he1 he2;subst he1 he2;exact k1'
   have v2:=n0.out f (List.mem_of_getElem? hf);have w1:=ZEq hf;obtain⟨nm,tx⟩:=f;unfold strV at k0 k1 q0;simp only at k0 k1 v2 w1 q0;obtain⟨r2,s2⟩:=v2;obtain⟨L5,y0⟩:∃L5,L5=L++txL nm:=⟨_,rfl⟩
   obtain⟨L6,z0⟩:∃L6,L6=L5++txL tx:=⟨_,rfl⟩
   have a2:L.length=n5:=g0.out.1.symm;have q3:=ZBj (s:=nm) (by omega);have p3:=ZBj (s:=tx) (by omega);have i0:Hid (L6=LL++putFs (fs.take (i+1))):=ZA (by rw[z0,y0,hL.out,w1];simp);have o2:L6.length<=100000:=by
    rw[i0.out,List.length_append];have:=u1.out (i+1);have:=b0.out;have:=congrArg List.length a0.out;rw[List.length_append]at this;omega
   have x2:=ZA (fun x=>ZDY nm x (by omega));have y2:=ZA (fun x=>ZDY tx x (by omega));obtain⟨T1,j1⟩:∃T,T=txL nm:=⟨_,rfl⟩
   obtain⟨T2,g1⟩:∃T,T=txL tx:=⟨_,rfl⟩
   have g3:n5+T1.length+T2.length<=100000:=by
    rw[z0,y0,List.length_append,List.length_append,<-j1,<-g1]at o2;omega
   rw[<-j1]at x2 y0 q3;rw[<-g1]at y2 z0 p3;replace j1:=ZA j1;replace g1:=ZA g1;replace y0:=ZA y0;replace z0:=ZA z0;have q0':=ZA q0;clear a2 w1 hf q0;go_wp2_with fail;refine(x2.out wr).mono ?_;rintro en w5 ⟨B5,d5,rfl,e2,k2⟩;have d2:=g0.out.2.ext k2;have x1:=hE.out.trans k2;have h3:=x1.size;have y1':=(r1.out.ext x1).cell 1 rfl;go_wp2_with (at_builtin;refine ZG ZV d2 e2.cells (.tmp 21) (.tmp 28) rfl rfl rfl rfl rfl (by rw[List.length_map]) (ZF _) (by omega) h3 (fun A6 c6 w6 i1 i2 j2 _=>?_);have d1:=ZA (j2 W x1 (Nat.le_refl _));have y1q:=(r1.out.ext d1.out).cell 1 rfl;have q1q:=q0'.out w6 d1.out;replace i1:=ZA i1;clear j2 i2 y1 y1' k0 k1);refine(y2.out w6).mono ?_;rintro en w7 ⟨B7,d7,rfl,f2,g2⟩;have l1:=i1.out.ext g2;have e0:=d1.out.trans g2;have s1:=e0.size;clear y1q q1q;go_wp2_with (at_builtin;refine ZG ZV l1 f2.cells (.tmp 30) (.tmp 37) rfl rfl rfl rfl rfl (by rw[List.length_map]) (ZF _) (by omega) s1 (fun A8 c8 w8 n1 l2 m2 _=>?_);have b2:=ZA (m2 W e0 (Nat.le_refl _));replace n1:=ZA n1;clear m2 l2);exact⟨⟨i+1,n5+T1.length+T2.length,c8,A8,L6,rfl,by go_num,by omega,by omega,i0,ZA ⟨by rw[z0.out,y0.out,List.length_append,List.length_append,<-g0.out.1],by rw[z0.out,y0.out,List.map_append,List.map_append];exact n1.out⟩,b2⟩,by simp[intOf];omega⟩
  ·obtain rfl:i=m:=by omega
   have k3:Hid (L=LL++putFs (fs.take i)):=hL;go_wp2_with fail;go_ret;have u2:n5=L.length:=g0.out.1;refine⟨A5,c5,?_,?_,s0.trans hE.out⟩
   ·rw[u2,hL.out,a0.out];rfl
   ·have t2:=g0.out.2.lower s0.size;rw[u2]at t2;rw[<-a0.out,<-hL.out];exact t2
structure OwnK where
  H:Nat->(Nat->Prop)->Value->World->Prop
  use:Nat->Option Nat
  H0:World->Prop
  own0:Nat->Prop
  use0:Nat
def OwnK.T (K:OwnK) (md:Region.Mode) (ops:Array Oper) (base:Array Bool) (F:Nat->Nat->Prop) (i:Nat) (k:Nat):Prop :=
 (∃o e d,ops[i]? = some o/\e∈o.after/\Region.binds md e=true/\base.getD e.on true=false/\dstOf ops e.on=some d/\K.use e.on=some i/\F e.on k)\/(K.use0=i/\K.own0 k)
def OwnK.live (K:OwnK) (listed:Array Bool) (j:Nat):Prop:=∀u,K.use j=some u->listed.getD u true=false
structure OwnI (K:OwnK) (ops:Array Oper) (base:Array Bool) (w0:World) (F:Nat->Nat->Prop) (listed:Array Bool) (a:Act) (w:World):Prop where
  one:∀j d,base.getD j true=false->listed.getD j true=true->dstOf ops j=some d->K.live listed j->K.H j (F j) (a.tmps.getD d undef) w/\∀k,F j k->w0.heap.size<=k/\k<w.heap.size
  two:∀j j' d d',base.getD j true=false->base.getD j' true=false->listed.getD j true=true->listed.getD j' true=true->dstOf ops j=some d->dstOf ops j'=some d'->K.live listed j->K.live listed j'->j≠j'->∀k,F j k->¬ F j' k
  zero:listed.getD K.use0 true=false->K.H0 w/\(∀k,K.own0 k->w0.heap.size<=k/\k<w.heap.size)/\∀j d,base.getD j true=false->listed.getD j true=true->dstOf ops j=some d->K.live listed j->∀k,F j k->¬ K.own0 k
structure OwnD (K:OwnK) (md:Region.Mode) (ops:Array Oper) (base:Array Bool) (w0:World) (F:Nat->Nat->Prop) (i:Nat) (o:Oper) (a:Act) (w:World):Prop where
  one:∀e∈o.after,Region.binds md e=true->base.getD e.on true=false->∀d,dstOf ops e.on=some d->(K.use e.on=none\/K.use e.on=some i)->K.H e.on (F e.on) (a.tmps.getD d undef) w/\∀k,F e.on k->w0.heap.size<=k/\k<w.heap.size
  two:∀e∈o.after,∀e'∈o.after,Region.binds md e=true->Region.binds md e'=true->base.getD e.on true=false->base.getD e'.on true=false->∀d d',dstOf ops e.on=some d->dstOf ops e'.on=some d'->(K.use e.on=none\/K.use e.on=some i)->(K.use e'.on=none\/K.use e'.on=some i)->e.on≠e'.on->∀k,F e.on k->¬ F e'.on k
  zero:K.use0=i->K.H0 w/\(∀k,K.own0 k->w0.heap.size<=k/\k<w.heap.size)/\∀e∈o.after,Region.binds md e=true->base.getD e.on true=false->∀d,dstOf ops e.on=some d->(K.use e.on=none\/K.use e.on=some i)->∀k,F e.on k->¬ K.own0 k
def aboveK (md:Region.Mode) (ops:Array Oper) (base:Array Bool) (i:Nat):List Nat :=
 (List.range ops.size).foldl (fun acc j=>if base.getD j true=false/\((ops[j]?).map fun o=>o.after.any fun e=>Region.binds md e&&acc.contains e.on).getD false=true then j::acc else acc) [i]
theorem ZCD {md:Region.Mode} {ops:Array Oper} {base listed:Array Bool} {i:Nat} (h0:∀j,base.getD j true=false->listed.getD j true=true->∀o,ops[j]? = some o->∀e∈o.after,Region.binds md e=true->listed.getD e.on true=true) :
 ∀j∈aboveK md ops base i,listed.getD j true=true->listed.getD i true=true:=by
 unfold aboveK;have key:∀(l acc:List Nat),(∀j∈acc,listed.getD j true=true->listed.getD i true=true)->∀j∈l.foldl (fun acc j=>if base.getD j true=false/\((ops[j]?).map fun o=>o.after.any fun e=>Region.binds md e&&acc.contains e.on).getD false=true then j::acc else acc) acc,listed.getD j true=true->listed.getD i true=true:=by
  intro l
  induction l with
  | nil=>intro acc h;exact h
  | cons x t ih =>
   intro acc h;rw[List.foldl_cons];refine ih _ fun j hj hl=>?_;split at hj
   ·rename_i hc;rcases List.mem_cons.1 hj with rfl | hj
    ·obtain⟨hb,hc⟩:=hc;cases ho:ops[j]? with
     | none=>rw[ho]at hc;simp at hc
     | some o =>
      rw[ho]at hc;simp only[Option.map_some,Option.getD_some]at hc;rw[Array.any_eq_true']at hc;obtain⟨e,he,hc⟩:=hc;rw[Bool.and_eq_true]at hc;exact h e.on (by simpa using hc.2) (h0 j hb hl o ho e he hc.1)
    ·exact h j hj hl
   ·exact h j hj hl
 exact key _ _ fun j hj hl=>by
  rw[List.mem_singleton.1 hj]at hl;exact hl
structure KnowB (md:Region.Mode) (ops:Array Oper) (base:Array Bool) (a0:Act) (wx:World) (i:Nat) (a:Act) (w:World):Prop where
  size:a.tmps.size=a0.tmps.size
  defers:a.defers=a0.defers
  same:∀(d:Nat) (_:(List.range ops.size).all (fun j=>base.getD j true || decide (dstOf ops j≠some d) || (aboveK md ops base i).contains j)=true:=by kernel_rfl),a.tmps[d]? = a0.tmps[d]?
  ext:Ext wx w
structure KnowC (md:Region.Mode) (ops:Array Oper) (base:Array Bool) (a0:Act) (wx:World) (listed:Array Bool) (a:Act) (w:World):Prop where
  size:a.tmps.size=a0.tmps.size
  defers:a.defers=a0.defers
  same:∀d,(∀j,base.getD j true=false->listed.getD j true=true->dstOf ops j≠some d)->a.tmps[d]? = a0.tmps[d]?
  ext:Ext wx w
  closed:∀j,base.getD j true=false->listed.getD j true=true->∀o,ops[j]? = some o->∀e∈o.after,Region.binds md e=true->listed.getD e.on true=true
theorem KnowC.a {md:Region.Mode} {ops:Array Oper} {base:Array Bool} {a0:Act} {wx:World} {listed:Array Bool} {a:Act} {w:World} (h:KnowC md ops base a0 wx listed a w):KnowA ops base a0 wx a w :=
 ⟨h.size,h.defers,fun d hd=>h.same d fun j hb _ hj=>by
  rw[List.all_eq_true]at hd;have h0:j<ops.size:=by
   unfold dstOf at hj;obtain⟨o,ho,_⟩:=Option.bind_eq_some_iff.1 hj;exact(Array.getElem?_eq_some_iff.1 ho).1
  have:=hd j (List.mem_range.2 h0);rw[hb,Bool.false_or]at this;exact of_decide_eq_true this hj,h.ext⟩
theorem KnowC.b {md:Region.Mode} {ops:Array Oper} {base:Array Bool} {a0:Act} {wx:World} {listed:Array Bool} {a:Act} {w:World} (h:KnowC md ops base a0 wx listed a w) {i:Nat} (hi:listed.getD i true=false):KnowB md ops base a0 wx i a w :=
 ⟨h.size,h.defers,fun d hd=>h.same d fun j hb hl hj=>by
  rw[List.all_eq_true]at hd;have h0:j<ops.size:=by
   unfold dstOf at hj;obtain⟨o,ho,_⟩:=Option.bind_eq_some_iff.1 hj;exact(Array.getElem?_eq_some_iff.1 ho).1
  have:=hd j (List.mem_range.2 h0);rw[hb,Bool.false_or,Bool.or_eq_true]at this;rcases this with h1 | h1
  ·exact of_decide_eq_true h1 hj
  ·have:=ZCD h.closed j (by simpa using h1) hl;exact absurd (hi.symm.trans this) (by simp),h.ext⟩
theorem ZCe {P:Program} {md:Region.Mode} {ops:Array Oper} {Q:Exit->Act->World->Prop} {S:World->Prop} {base:Array Bool} {a0:Act} {w0:World} (hk:KnowOps md ops base a0.tmps.size) (K:OwnK)
 (hm:∀j S v w w' (T:Nat->Prop),K.H j S v w->Chg T w w'->(∀k,T k->w0.heap.size<=k)->(∀k,S k->¬ T k)->K.H j S v w')
 (m2:∀w w' (T:Nat->Prop),K.H0 w->Chg T w w'->(∀k,T k->w0.heap.size<=k)->(∀k,K.own0 k->¬ T k)->K.H0 w') (hS:∀w,S w)
 (q1:∀i o,ops[i]? = some o->base.getD i true=false->∀(F:Nat->Nat->Prop) a w,KnowB md ops base a0 w0 i a w->OwnD K md ops base w0 F i o a w ->
  if Region.wanted o (yielded ops a.tmps)=true then Oper.wp P o a w (fun a' w'=>∃v S,a'=a.put o.dst v/\K.H i S v w'/\Chg (K.T md ops base F i) w w'/\∀k,S k->k<w'.heap.size/\(w.heap.size<=k\/K.T md ops base F i k)) Q else K.H i (fun _=>False) undef w)
 (z1:∀(F:Nat->Nat->Prop) a w,KnowA ops base a0 w0 a w->(∀j d,base.getD j true=false->dstOf ops j=some d->K.use j=none->K.H j (F j) (a.tmps.getD d undef) w/\∀k,F j k->w0.heap.size<=k/\k<w.heap.size)->Q .normal a w) :
 ∀(fuel:Nat) (listed:Array Bool) (F:Nat->Nat->Prop) (a:Act) (w:World),listed.size=ops.size->(lack ops listed).length<=fuel->(∀j,base.getD j true=true->listed.getD j true=true)->KnowC md ops base a0 w0 listed a w->OwnI K ops base w0 F listed a w->wpAnyH P md ops Q S fuel listed a w:=by
 have o0:∀(listed:Array Bool) (F:Nat->Nat->Prop) (a:Act) (w:World),lack ops listed = []->listed.size=ops.size->KnowC md ops base a0 w0 listed a w->OwnI K ops base w0 F listed a w->Q .normal a w:=fun listed F a w hl hs ha hI=>z1 F a w ha.a fun j d hb hd hu=>hI.one j d hb (by
  apply Decidable.byContradiction;intro hn;have hj:j<ops.size:=by
   unfold dstOf at hd;obtain⟨o,ho,_⟩:=Option.bind_eq_some_iff.1 hd;exact(Array.getElem?_eq_some_iff.1 ho).1
  have:j∈lack ops listed:=List.mem_filter.2 ⟨List.mem_range.2 hj,by simpa using hn⟩;rw[hl]at this;cases this) hd fun u h=>by rw[hu]at h;cases h
 intro fuel
 induction fuel with
 | zero =>
  intro listed F a w hs hf hb ha hI;have h0:lack ops listed = []:=List.length_eq_zero_iff.1 (by omega);refine⟨?_,o0 listed F a w h0 hs ha hI⟩;cases hr:Region.ready md ops listed with
  | nil=>rfl
  | cons i t =>
   have:=(ZAQ (md:=md) (ops:=ops) (listed:=listed) (i:=i) (by rw[hr];exact List.mem_cons_self ..)).1;rw[h0]at this;cases this
 | succ fuel ih =>
  intro listed F a w hs hf hb ha hI;refine⟨fun h0=>o0 listed F a w (ZCP hk hs h0) hs ha hI,fun i hi=>?_⟩;obtain⟨a1,o,ho,x1⟩:=ZAQ hi;have c1:=(List.mem_filter.1 a1).2;have b1:i<listed.size:=by rw[hs];exact List.mem_range.1 (List.mem_filter.1 a1).1
  have g1:listed.getD i true=false:=by simpa using c1
  have o1:base.getD i true=false:=by
   apply Decidable.byContradiction;intro hn;have:=hb i (by simpa using hn);rw[this]at c1;cases c1
  have z0:∀e∈o.after,Region.binds md e=true->listed.getD e.on true=true:=fun e he k0=>by
   have h1:=x1 e he k0;rw[Array.getD_eq_getD_getElem?]at h1 ⊢;cases hx:listed[e.on]? with
   | none=>simp
   | some b=>rw[hx]at h1;simpa using h1
  have r0:∀j,(K.use j=none\/K.use j=some i)->K.live listed j:=fun j hj u hu=>by
   rcases hj with hj | hj
   ·rw[hj]at hu;cases hu
   ·rw[hj]at hu;cases hu;exact g1
  have t1:=q1 i o ho o1 F a w (ha.b g1) ⟨fun e he k0 v0 d hd hu=>hI.one e.on d v0 (z0 e he k0) hd (r0 _ hu),fun e he e' q2 k0 v1 v0 u1 d d' hd j1 hu x2 p0=>hI.two e.on e'.on d d' v0 u1 (z0 e he k0) (z0 e' q2 v1) hd j1 (r0 _ hu) (r0 _ x2) p0,fun h=>by
   obtain⟨h1,h2,h3⟩:=hI.zero (by rw[h];exact g1);exact⟨h1,h2,fun e he k0 v0 d hd hu=>h3 e.on d v0 (z0 e he k0) hd (r0 _ hu)⟩⟩
  have hT:∀k,K.T md ops base F i k->w0.heap.size<=k/\k<w.heap.size/\(∀j d,base.getD j true=false->listed.getD j true=true->dstOf ops j=some d->K.live listed j->K.use j≠some i->¬ F j k)/\(K.use0≠i->listed.getD K.use0 true=false->¬ K.own0 k):=fun k hk=>by
   rcases hk with ⟨o',e,d,f0,he,k0,v0,hd,hu,hw⟩ | ⟨hu,hw⟩
   ·rw[ho]at f0;cases f0;have hl:=r0 e.on (.inr hu);have h1:=(hI.one e.on d v0 (z0 e he k0) hd hl).2 k hw;refine⟨h1.1,h1.2,fun j d' j0 q0 d0 m0 p0=>?_,fun p0 h0=>?_⟩
    ·exact hI.two e.on j d d' v0 j0 (z0 e he k0) q0 hd d0 hl m0 (fun h=>p0 (by rw[<-h];exact hu)) k hw
    ·exact(hI.zero h0).2.2 e.on d v0 (z0 e he k0) hd hl k hw
   ·obtain⟨_,h1,h2⟩:=hI.zero (by rw[hu];exact g1);exact⟨(h1 k hw).1,(h1 k hw).2,fun j d' j0 q0 d0 m0 p0 m1=>h2 j d' j0 q0 d0 m0 k m1 hw,fun p0=>absurd hu p0⟩
  have t0:∀j,j≠i->(listed.setIfInBounds i true).getD j true=listed.getD j true:=fun j hj=>by
   rw[Array.getD_eq_getD_getElem?,Array.getElem?_setIfInBounds_ne (fun h=>hj h.symm),<-Array.getD_eq_getD_getElem?]
  have e0:(listed.setIfInBounds i true).getD i true=true:=by
   rw[Array.getD_eq_getD_getElem?,Array.getElem?_setIfInBounds,if_pos rfl,if_pos b1];rfl
  have x0:∀j,K.live (listed.setIfInBounds i true) j->K.live listed j/\K.use j≠some i:=fun j h=>by
   have p0:K.use j≠some i:=fun hu=>by
    have:=h i hu;rw[e0]at this;cases this
   refine⟨fun u hu=>?_,p0⟩;have h1:=h u hu;rw[t0 u (fun e=>p0 (by rw[<-e];exact hu))]at h1;exact h1
  have b0:∀v (Z:Nat->Prop) w',K.H i Z v w'->Chg (K.T md ops base F i) w w'->(∀k,Z k->k<w'.heap.size/\(w.heap.size<=k\/K.T md ops base F i k))->S w'/\wpAnyH P md ops Q S fuel (listed.setIfInBounds i true) (a.put o.dst v) w':=fun v Z w' hv hC hO=>by
   have s0:∀d,o.dst≠some d->(a.put o.dst v).tmps[d]? = a.tmps[d]? :=fun d hd=>by
    unfold Act.put;cases v2:o.dst with
    | none=>rfl
    | some d' =>
     simp only;rw[Array.getElem?_setIfInBounds_ne];intro e;exact hd (by rw[v2,e])
   have u2:(a.put o.dst v).tmps.size=a.tmps.size:=by
    unfold Act.put;cases o.dst with
    | none=>rfl
    | some d'=>simp
   have w1:(a.put o.dst v).defers=a.defers:=by
    unfold Act.put;cases o.dst <;> rfl
   have y1:dstOf ops i=o.dst:=by unfold dstOf;rw[ho];rfl
   have s1:Ext w0 w':=ha.ext.chg hC fun k hk l0=>by have:=(hT k l0).1;omega
   have k2:∀j d,j≠i->dstOf ops j=some d->(a.put o.dst v).tmps.getD d undef=a.tmps.getD d undef:=fun j d e hd=>by
    have p0:o.dst≠some d:=fun h=>e (ZC8 hk.nodup hd (y1.trans h));rw[Array.getD_eq_getD_getElem?,s0 d p0,<-Array.getD_eq_getD_getElem?]
   have j2:∀d,dstOf ops i=some d->(a.put o.dst v).tmps.getD d undef=v:=fun d hd=>by
    rw[y1]at hd;have g2:d<a.tmps.size:=by
     have n1:=hk.bound;rw[List.all_eq_true]at n1;have:=n1 o (by simpa using Array.mem_of_getElem? ho);rw[hd]at this;rw[ha.size];exact of_decide_eq_true this
    unfold Act.put;rw[hd,Array.getD_eq_getD_getElem?,Array.getElem?_setIfInBounds,if_pos rfl,if_pos g2];rfl
   have t2:∀k,Z k->w0.heap.size<=k:=fun k hk=>by
    rcases (hO k hk).2 with h | h
    ·exact Nat.le_trans ha.ext.size h
    ·exact(hT k h).1
   have r1:∀k,Z k->∀j d,base.getD j true=false->listed.getD j true=true->dstOf ops j=some d->K.live listed j->K.use j≠some i->¬ F j k:=fun k hk j d j0 q0 d0 m0 p0 m1=>by
    rcases (hO k hk).2 with h | h
    ·have:=((hI.one j d j0 q0 d0 m0).2 k m1).2;omega
    ·exact(hT k h).2.2.1 j d j0 q0 d0 m0 p0 m1
   obtain⟨F',l1⟩:∃F':Nat->Nat->Prop,F'=fun j=>if j=i then Z else F j:=⟨_,rfl⟩
   have k1:F' i=Z:=by rw[l1];exact if_pos rfl
   have i0:∀j,j≠i->F' j=F j:=fun j hj=>by rw[l1];exact if_neg hj
   refine⟨hS _,ih _ F' _ _ (by simpa using hs) (by have:=ZE9 a1;omega) (fun j hj=>?_) ⟨by rw[u2];exact ha.size,by rw[w1];exact ha.defers,fun d hd=>?_,s1,fun j j0 q0 o' f0 e he k0=>?_⟩ ⟨fun j d j0 q0 hd m0=>?_,fun j j' d d' j0 n0 q0 u0 hd j1 m0 i1 p0 k h1 h2=>?_,fun h0=>?_⟩⟩
   ·have:=hb j hj;by_cases e:j=i
    ·subst e;exact e0
    ·rw[t0 j e];exact this
   ·rw[s0 d (by
     rw[<-y1];exact hd i o1 e0)]
    exact ha.same d fun j hb hl=>hd j hb (by
     by_cases e:j=i
     ·subst e;exact e0
     ·rw[t0 j e];exact hl)
   ·have p2:∀e∈o'.after,Region.binds md e=true->listed.getD e.on true=true:=fun e he k0=>by
     by_cases e1:j=i
     ·subst e1;rw[ho]at f0;cases f0;exact z0 e he k0
     ·rw[t0 j e1]at q0;exact ha.closed j j0 q0 o' f0 e he k0
    by_cases e2:e.on=i
    ·rw[e2];exact e0
    ·rw[t0 _ e2];exact p2 e he k0
   ·by_cases e:j=i
    ·subst e;rw[j2 d hd,k1];exact⟨hv,fun k hk=>⟨t2 k hk,(hO k hk).1⟩⟩
    ·rw[t0 j e]at q0;obtain⟨g0,y0⟩:=x0 j m0;obtain⟨h1,h2⟩:=hI.one j d j0 q0 hd g0;rw[k2 j d e hd,i0 j e];exact⟨hm j _ _ _ _ _ h1 hC (fun k hk=>(hT k hk).1) fun k hk l0=>(hT k l0).2.2.1 j d j0 q0 hd g0 y0 hk,fun k hk=>⟨(h2 k hk).1,Nat.lt_of_lt_of_le (h2 k hk).2 hC.size⟩⟩
   ·obtain⟨g0,y0⟩:=x0 j m0;obtain⟨c0,p1⟩:=x0 j' i1;by_cases e:j=i
    ·subst e;have e':j'≠j:=fun h=>p0 h.symm;rw[k1]at h1;rw[i0 j' e']at h2;rw[t0 j' e']at u0;exact r1 k h1 j' d' n0 u0 j1 c0 p1 h2
    ·rw[i0 j e]at h1;rw[t0 j e]at q0;by_cases e':j'=i
     ·subst e';rw[k1]at h2;exact r1 k h2 j d j0 q0 hd g0 y0 h1
     ·rw[i0 j' e']at h2;rw[t0 j' e']at u0;exact hI.two j j' d d' j0 n0 q0 u0 hd j1 g0 c0 p0 k h1 h2
   ·have f1:K.use0≠i:=fun e=>by rw[e,e0]at h0;cases h0
    rw[t0 _ f1]at h0;obtain⟨h1,h2,h3⟩:=hI.zero h0;refine⟨m2 _ _ _ h1 hC (fun k hk=>(hT k hk).1) fun k hk l0=>(hT k l0).2.2.2 f1 h0 hk,fun k hk=>⟨(h2 k hk).1,Nat.lt_of_lt_of_le (h2 k hk).2 hC.size⟩,fun j d j0 q0 hd m0 k hk d1=>?_⟩;obtain⟨g0,y0⟩:=x0 j m0;by_cases e:j=i
    ·subst e;rw[k1]at hk;rcases (hO k hk).2 with h | h
     ·have:=(h2 k d1).2;omega
     ·exact(hT k h).2.2.2 f1 h0 d1
    ·rw[i0 j e]at hk;rw[t0 j e]at q0;exact h3 j d j0 q0 hd g0 k hk d1
  unfold wpOp;rw[ho];simp only;split
  ·rename_i hw;rw[if_pos hw]at t1;exact .inl (Oper.wp_mono (fun a' w' ⟨v,Z,he,hv,hC,hO⟩=>by rw[he];exact b0 v Z w' hv hC hO) t1)
  ·rename_i hw;rw[if_neg hw]at t1;exact b0 undef _ w t1 (Chg.refl _ _) fun k hk=>hk.elim
end
section
open Go.RowKit
abbrev KE:=(Value->(Nat->Prop)->World->Prop)×Option Nat
def kV (u:Value) (v:Value) (S:Nat->Prop) (_:World):Prop:=v=u/\∀k,¬ S k
def kB (base:Nat) (D:List UInt8) (v:Value) (S:Nat->Prop) (w:World):Prop:=∃A c,v = .slice A D.length c/\Buf w base 5 A D.length c (D.map B8)/\∀k,S k↔v.ownBlock=some k
def kO (base T size n:Nat) (xs:List Value) (v:Value) (S:Nat->Prop) (w:World):Prop:=∃A c,v = .slice A n c/\w.ownsRow base T size v n xs/\∀k,S k↔v.ownBlock=some k
def ownK (l:List KE) (H0:World->Prop) (own0:Nat->Prop) (use0:Nat):OwnK where
 H j S v w:=(l.getD j (fun _ _ _=>True,none)).1 v S w
 use j:=(l.getD j (fun _ _ _=>True,none)).2
 H0:=H0
 own0:=own0
 use0:=use0
def KKept (b0:Nat) (p:KE):Prop:=∀v S w w' (T:Nat->Prop),p.1 v S w->Chg T w w'->(∀k,T k->b0<=k)->(∀k,S k->¬ T k)->p.1 v S w'
theorem ZDA {l:List KE} {H0:World->Prop} {own0:Nat->Prop} {use0 b0:Nat} (h:∀p∈l,KKept b0 p) (j:Nat) (S:Nat->Prop) (v:Value) (w w':World) (T:Nat->Prop) (hp:(ownK l H0 own0 use0).H j S v w) (hC:Chg T w w') (hT:∀k,T k->b0<=k) (hO:∀k,S k->¬ T k):(ownK l H0 own0 use0).H j S v w':=by
 unfold ownK at hp ⊢;simp only[List.getD_eq_getElem?_getD]at hp ⊢;cases hj:l[j]? with
 | none=>trivial
 | some p =>
  rw[hj]at hp;exact h p (List.mem_of_getElem? hj) v S w w' T hp hC hT hO
theorem ZOo (b0:Nat) (u:Value) (n:Option Nat):KKept b0 (kV u,n):=fun _ _ _ _ _ h _ _ _=>h
theorem ZOq (b0 base:Nat) (D:List UInt8) (n:Option Nat):KKept b0 (kB base D,n):=fun v S w w' T h hC _ hO=>by
 obtain⟨A,c,rfl,hb,hS⟩:=h;refine⟨A,c,rfl,hb.chg hC fun a ha=>hO a.block ((hS _).2 ?_),hS⟩;subst ha;rfl
theorem ZOs (b0 base T size m:Nat) (xs:List Value) (n:Option Nat):KKept b0 (kO base T size m xs,n):=fun v S w w' Z h hC _ hO=>by
 obtain⟨A,c,rfl,hb,hS⟩:=h;exact⟨A,c,rfl,hC.owns hb fun g hg=>hO g ((hS _).2 hg),hS⟩
structure OwnJ (K:OwnK) (md:Region.Mode) (ops:Array Oper) (base:Array Bool) (w0:World) (F:Nat->Nat->Prop) (i:Nat) (o:Oper) (a:Act) (w:World):Prop where
  one:∀(j d:Nat) (_:(o.after.any fun e=>e.on==j&&Region.binds md e)=true:=by kernel_rfl) (_:base.getD j true=false:=by kernel_rfl) (_:dstOf ops j=some d:=by kernel_rfl) (_:(K.use j==none || K.use j==some i)=true:=by kernel_rfl),K.H j (F j) (a.tmps.getD d undef) w/\∀k,F j k->w0.heap.size<=k/\k<w.heap.size
  two:∀j j' d d',(o.after.any fun e=>e.on==j&&Region.binds md e)=true->(o.after.any fun e=>e.on==j'&&Region.binds md e)=true->base.getD j true=false->base.getD j' true=false->dstOf ops j=some d->dstOf ops j'=some d'->(K.use j==none || K.use j==some i)=true->(K.use j'==none || K.use j'==some i)=true->(j != j')=true->∀k,F j k->¬ F j' k
  zero:K.use0=i->K.H0 w/\(∀k,K.own0 k->w0.heap.size<=k/\k<w.heap.size)/\∀j d,(o.after.any fun e=>e.on==j&&Region.binds md e)=true->base.getD j true=false->dstOf ops j=some d->(K.use j==none || K.use j==some i)=true->∀k,F j k->¬ K.own0 k
theorem OwnD.j {K:OwnK} {md:Region.Mode} {ops:Array Oper} {base:Array Bool} {w0:World} {F:Nat->Nat->Prop} {i:Nat} {o:Oper} {a:Act} {w:World} (h:OwnD K md ops base w0 F i o a w):OwnJ K md ops base w0 F i o a w:=by
 have key:∀j,(o.after.any fun e=>e.on==j&&Region.binds md e)=true->∃e∈o.after,Region.binds md e=true/\e.on=j:=fun j hj=>by
  rw[Array.any_eq_true']at hj;obtain⟨e,he,k0⟩:=hj;rw[Bool.and_eq_true]at k0;exact⟨e,he,k0.2,by simpa using k0.1⟩
 have q0:∀j,(K.use j==none || K.use j==some i)=true->K.use j=none\/K.use j=some i:=fun j hu=>by
  rw[Bool.or_eq_true]at hu;rcases hu with hu | hu
  ·exact .inl (by simpa using hu)
  ·exact .inr (by simpa using hu)
 refine⟨fun j d hj hb hd hu=>?_,fun j j' d d' hj t0 hb j0 hd g0 hu u0 v0=>?_,fun hz=>?_⟩
 ·obtain⟨e,he,h0,rfl⟩:=key j hj;exact h.one e he h0 hb d hd (q0 _ hu)
 ·obtain⟨e,he,h0,rfl⟩:=key j hj;obtain⟨e',m0,p0,rfl⟩:=key j' t0;exact h.two e he e' m0 h0 p0 hb j0 d d' hd g0 (q0 _ hu) (q0 _ u0) (by simpa using v0)
 ·obtain⟨h1,h2,h3⟩:=h.zero hz;refine⟨h1,h2,fun j d hj hb hd hu=>?_⟩;obtain⟨e,he,h0,rfl⟩:=key j hj;exact h3 e he h0 hb d hd (q0 _ hu)
def OGoal (P:Program) (md:Region.Mode) (ops:Array Oper) (Q:Exit->Act->World->Prop) (base:Array Bool) (K:OwnK) (F:Nat->Nat->Prop) (i:Nat) (o:Oper) (a:Act) (w:World):Prop :=
 if Region.wanted o (yielded ops a.tmps)=true then Oper.wp P o a w (fun a' w'=>∃v S,a'=a.put o.dst v/\K.H i S v w'/\Chg (K.T md ops base F i) w w'/\∀k,S k->k<w'.heap.size/\(w.heap.size<=k\/K.T md ops base F i k)) Q else K.H i (fun _=>False) undef w
def OStep (P:Program) (md:Region.Mode) (ops:Array Oper) (Q:Exit->Act->World->Prop) (base:Array Bool) (a0:Act) (w0:World) (K:OwnK) (i:Nat) (o:Oper):Prop :=
 ∀F a w,KnowB md ops base a0 w0 i a w->OwnJ K md ops base w0 F i o a w->OGoal P md ops Q base K F i o a w
def OSteps (P:Program) (md:Region.Mode) (ops:Array Oper) (Q:Exit->Act->World->Prop) (base:Array Bool) (a0:Act) (w0:World) (K:OwnK) (l:List Nat):Prop :=
 ∀i∈l,∀o,ops[i]? = some o->OStep P md ops Q base a0 w0 K i o
section
variable {P:Program} {md:Region.Mode} {ops:Array Oper} {Q:Exit->Act->World->Prop} {base:Array Bool} {a0:Act} {w0:World} {K:OwnK}
theorem OSteps.nil:OSteps P md ops Q base a0 w0 K []:=fun _ h=>absurd h List.not_mem_nil
theorem OSteps.cons {i:Nat} {o:Oper} {l:List Nat} (h0:ops[i]? = some o) (h:OStep P md ops Q base a0 w0 K i o) (hs:OSteps P md ops Q base a0 w0 K l):OSteps P md ops Q base a0 w0 K (i::l):=fun j hj o' q0=>by
 rcases List.mem_cons.1 hj with rfl | hj
 ·rw[h0]at q0;cases q0;exact h
 ·exact hs j hj o' q0
theorem OSteps.all {l:List Nat} (hs:OSteps P md ops Q base a0 w0 K l) (hl:(List.range ops.size).all (fun i=>base.getD i true || l.contains i)=true) :
 ∀i o,ops[i]? = some o->base.getD i true=false->∀(F:Nat->Nat->Prop) a w,KnowB md ops base a0 w0 i a w->OwnD K md ops base w0 F i o a w ->
  if Region.wanted o (yielded ops a.tmps)=true then Oper.wp P o a w (fun a' w'=>∃v S,a'=a.put o.dst v/\K.H i S v w'/\Chg (K.T md ops base F i) w w'/\∀k,S k->k<w'.heap.size/\(w.heap.size<=k\/K.T md ops base F i k)) Q else K.H i (fun _=>False) undef w:=fun i o ho hb F a w ha hd=>by
 rw[List.all_eq_true]at hl;have h1:=hl i (List.mem_range.2 (Array.getElem?_eq_some_iff.1 ho).1);rw[hb,Bool.false_or]at h1;exact hs i (by simpa using h1) o ho F a w ha hd.j
variable {F:Nat->Nat->Prop} {o:Oper} {a:Act} {w:World} {i:Nat}
theorem ZH {v:Value} (hr:(execOp a.eval o).run P w = .ok (.value v) w) (h0:o.guard=none) (h:K.H i (fun _=>False) v w):OGoal P md ops Q base K F i o a w:=by
 unfold OGoal;rw[if_pos (by simp[Region.wanted,h0])];unfold Oper.wp;rw[hr,Oper.upon_value];exact⟨v,_,rfl,h,Chg.refl _ _,fun k hk=>hk.elim⟩
theorem ZLa {v:Value} {w':World} {S:Nat->Prop} (hr:(execOp a.eval o).run P w = .ok (.value v) w') (h0:o.guard=none) (h:K.H i S v w') (hE:Ext w w') (hn:∀k,S k->k<w'.heap.size/\w.heap.size<=k):OGoal P md ops Q base K F i o a w:=by
 unfold OGoal;rw[if_pos (by simp[Region.wanted,h0])];unfold Oper.wp;rw[hr,Oper.upon_value];exact⟨v,S,rfl,h,Chg.of_ext hE _,fun k hk=>⟨(hn k hk).1,.inl (hn k hk).2⟩⟩
theorem ZHD {j d k:Nat} (ho:ops[i]? = some o) (hj:(o.after.any fun e=>e.on==j&&Region.binds md e)=true) (hb:base.getD j true=false) (hd:dstOf ops j=some d) (hu:K.use j=some i) (h:F j k):K.T md ops base F i k:=by
 rw[Array.any_eq_true']at hj;obtain⟨e,he,h0⟩:=hj;rw[Bool.and_eq_true]at h0;have q0:e.on=j:=by simpa using h0.1
 subst q0;exact .inl ⟨o,e,d,ho,he,h0.2,hb,hd,hu,h⟩
theorem ZNE {k:Nat} (hu:K.use0=i) (h:K.own0 k):K.T md ops base F i k:= .inr ⟨hu,h⟩
theorem ZDZ {v:Value} {w':World} {S:Nat->Prop} (hr:(execOp a.eval o).run P w = .ok (.value v) w') (h0:o.guard=none) (h:K.H i S v w') (hE:Ext w w') (hn:∀k,S k->(k<w'.heap.size/\w.heap.size<=k)\/(k<w.heap.size/\K.T md ops base F i k)):OGoal P md ops Q base K F i o a w:=by
 unfold OGoal;rw[if_pos (by simp[Region.wanted,h0])];unfold Oper.wp;rw[hr,Oper.upon_value];refine⟨v,S,rfl,h,Chg.of_ext hE _,fun k hk=>?_⟩;rcases hn k hk with h1 | h1
 ·exact⟨h1.1,.inl h1.2⟩
 ·exact⟨Nat.lt_of_lt_of_le h1.1 hE.size,.inr h1.2⟩
theorem ZDn {f:Nat} {xs:Array Operand} {ts:Array TypeId} {vs:Array Value} (ho:o.op = .call { callee:= .value (.func f),args:=xs,argTypes:=ts }) (h0:o.guard=none) (eg:∀args w,(callFunc f args).run P w = .ok (.enter f args) w) (hx:xs.map a.eval=vs)
 (hc:Calls P f vs w fun e w'=>∃u S,e = .returned u/\K.H i S u w'/\Ext w w'/\∀k,S k->k<w'.heap.size/\w.heap.size<=k):OGoal P md ops Q base K F i o a w:=by
 unfold OGoal;rw[if_pos (by simp[Region.wanted,h0])];have hr:(execOp a.eval o).run P w = .ok (.enter f vs) w:=by
  unfold execOp;simp[ho,resolve,invoke,go_sem,eg,hx]
 unfold Oper.wp;rw[hr,Oper.upon_enter];refine hc.mono ?_;rintro e w' ⟨u,S,rfl,h,hE,hO⟩;exact⟨u,S,rfl,h,Chg.of_ext hE _,fun k hk=>⟨(hO k hk).1,.inl (hO k hk).2⟩⟩
theorem ZKy {t e size bytes:Nat} (E:Elem P t e size bytes) (k0:o.guard=none) {b:Nat} {v:Value} {A:Option Addr} {n m c:Nat} {xs news:List Value} (q0:w.ownsRow b e size v n xs) (hr:Cells w A news) (s x:Operand)
 (ho:o.op = .call { callee:= .builtin .append,args:=#[s,x],argTypes:=#[t,t] })
 (hs:a.eval s=v) (hx:a.eval x = .slice A m c) (hl:news.length=m*size) (h1:∀u∈news,u.oneCell'=true) (j0:n+m<=4294967296) (h0:b<=w.heap.size)
 (hT:∀k,v.ownBlock=some k->K.T md ops base F i k)
 (h:∀A1 c1 w',w'.ownsRow b e size (.slice A1 (n+m) c1) (n+m) (xs++news)->w.grownBy w' v.ownBlock->((Value.slice A1 (n+m) c1).ownBlock=v.ownBlock\/(Value.slice A1 (n+m) c1).ownBlock=some w.heap.size)->∃S,K.H i S (.slice A1 (n+m) c1) w'/\∀k,S k->k<w'.heap.size/\(w.heap.size<=k\/K.T md ops base F i k)):OGoal P md ops Q base K F i o a w:=by
 unfold OGoal;rw[if_pos (by simp[Region.wanted,k0])];obtain⟨A1,c1,w',p0,h2,h3,h4⟩:=ZBo (P:=P) E w o.type q0 (c:=c) hr hl h1 j0 h0;unfold Oper.wp execOp;simp only[ho,resolve,invoke,builtin,Sem.run_bind,Sem.run_pure,Result.andThen_ok,List.map_toArray,List.map_cons,List.map_nil,hs,hx,p0];obtain⟨S,hS,hO⟩:=h A1 c1 w' h2 h3 h4;exact⟨_,S,rfl,hS,Chg.of_grown h3 fun k _ hk=>hT k hk,hO⟩
theorem ZN2 {t e size bytes:Nat} (E:Elem P t e size bytes) (p0:o.guard=none) {b:Nat} {v:Value} {A:Option Addr} {n m c:Nat} {xs news:List Value} (q0:w.ownsRow b e size v n xs) (hr:Cells w A news) (s x:Operand)
 (ho:o.op = .call { callee:= .builtin .append,args:=#[s,x],argTypes:=#[t,t] })
 (hs:a.eval s=v) (hx:a.eval x = .slice A m c) (hl:news.length=m*size) (h1:∀u∈news,u.oneCell'=true) (k0:n+m<=4294967296) (h0:b<=w.heap.size)
 (hT:∀k,v.ownBlock=some k->K.T md ops base F i k) (h:∀u S w',kO b e size (n+m) (xs++news) u S w'->K.H i S u w'):OGoal P md ops Q base K F i o a w :=
 ZKy E p0 q0 hr s x ho hs hx hl h1 k0 h0 hT fun A1 c1 w' h2 h3 h4=>⟨fun k=>(Value.slice A1 (n+m) c1).ownBlock=some k,h _ _ _ ⟨A1,c1,rfl,h2,fun _=>Iff.rfl⟩,fun k hk=>⟨by
  obtain⟨cur,hc,_⟩:=ZC h2 hk;exact hc.lt,by
  rcases h4 with h4 | h4
  ·exact .inr (hT k (by rw[<-h4];exact hk))
  ·rw[h4]at hk;injection hk with hk;exact .inl (by omega)⟩⟩
theorem ZCF {t:TypeId} {x ix:Operand} {q z v:Value} (ho:o.op = .indexAddr t x ix) (hx:a.eval x=q) (hz:a.eval ix=z) (hr:(Instr.indexAt t q z).run P w = .ok v w):(execOp a.eval o).run P w = .ok (.value v) w:=by
 unfold execOp;simp[ho,hx,hz,hr,Result.andThen]
theorem ZFl {t:TypeId} {x:Operand} {lo hi mx:Option Operand} {q v:Value} {l h m:Option Value} (ho:o.op = .slice t x lo hi mx) (hx:a.eval x=q) (hl:lo.map a.eval=l) (hh:hi.map a.eval=h) (hm:mx.map a.eval=m) (hr:(Instr.sliceAt t q l h m).run P w = .ok v w):(execOp a.eval o).run P w = .ok (.value v) w:=by
 unfold execOp;simp[ho,hx,hl,hh,hm,hr,Result.andThen]
theorem ZOX {t:TypeId} {parts:Array (Nat×Operand)} {vs:Array (Nat×Value)} {v:Value} (ho:o.op = .build t parts) (hx:parts.map (fun p=>(p.1,a.eval p.2))=vs) (hr:(Instr.build t vs).run P w = .ok v w):(execOp a.eval o).run P w = .ok (.value v) w:=by
 unfold execOp;simp[ho,hx,hr,Result.andThen]
theorem OwnI.start {F:Nat->Nat->Prop} {listed:Array Bool} {a:Act} (hl:∀j,base.getD j true=false->listed.getD j true=false) (h0:K.H0 w/\∀k,K.own0 k->w0.heap.size<=k/\k<w.heap.size):OwnI K ops base w0 F listed a w :=
 ⟨fun j d hb h _ _=>absurd ((hl j hb).symm.trans h) (by simp),fun j _ d _ hb _ h _ _ _ _ _ _=>absurd ((hl j hb).symm.trans h) (by simp),fun _=>⟨h0.1,h0.2,fun j d hb h _ _=>absurd ((hl j hb).symm.trans h) (by simp)⟩⟩
end
section
variable {md:Region.Mode} {ops:Array Oper} {Q:Exit->Act->World->Prop} {base:Array Bool} {a0:Act} {w0:World} {K:OwnK} {F:Nat->Nat->Prop} {o:Oper} {a:Act} {w:World} {i:Nat}
theorem ZDb (p0:o.guard=none) {b b' c c':Nat} {A B:Option Addr} {D1 D2:List UInt8} (hb:Buf w b 5 A D1.length c (D1.map B8)) (hr:Buf w b' 5 B D2.length c' (D2.map B8)) (s x:Operand)
 (ho:o.op = .call { callee:= .builtin .append,args:=#[s,x],argTypes:=#[25,25] })
 (hs:a.eval s = .slice A D1.length c) (hx:a.eval x = .slice B D2.length c') (k0:D1.length+D2.length<=4294967296) (h0:b<=w.heap.size)
 (hT:∀k,(Value.slice A D1.length c).ownBlock=some k->K.T md ops base F i k)
 (h:∀v S w',kB b (D1++D2) v S w'->K.H i S v w'):OGoal Tryz.prog md ops Q base K F i o a w:=by
 unfold OGoal;rw[if_pos (by simp[Region.wanted,p0])];obtain⟨A1,c1,w',q0,h2,h3,h4⟩:=ZFJ (P:=Tryz.prog) ZV w o.type hb (c':=c') hr.cells (by rw[List.length_map]) (ZF _) k0 h0;unfold Oper.wp execOp;simp only[ho,resolve,invoke,builtin,Sem.run_bind,Sem.run_pure,Result.andThen_ok,List.map_toArray,List.map_cons,List.map_nil,hs,hx,q0];refine⟨_,fun k=>(Value.slice A1 (D1.length+D2.length) c1).ownBlock=some k,rfl,h _ _ _ ⟨A1,c1,by rw[List.length_append],by rw[List.length_append,List.map_append];exact h2,fun _=>Iff.rfl⟩,Chg.of_grown h3 fun k _ hk=>hT k hk,fun k hk=>?_⟩;cases A1 with
 | none=>simp[Value.ownBlock]at hk
 | some q =>
  have hq:q.block=k:=by simpa [Value.ownBlock]using hk
  have h5:=h2.lt q rfl;rw[hq]at h5;refine⟨h5,?_⟩;rcases h4 with h4 | h4
  ·exact .inr (hT k (by rw[<-h4];simp[Value.ownBlock,hq]))
  ·cases h4;exact .inl (by rw[<-hq];exact Nat.le_refl _)
end
theorem ZLU {w:World} {b:Nat} {e:TypeId} {A:Option Addr} {n c:Nat} {xs:List Value} (h:Buf w b e A n c xs) (k:Nat) (hk:(Value.slice A n c).ownBlock=some k):k<w.heap.size:=by
 cases A with
 | none=>simp[Value.ownBlock]at hk
 | some q =>
  have hq:q.block=k:=by simpa [Value.ownBlock]using hk
  rw[<-hq];exact h.lt q rfl
theorem ZFy {X:World} {D:List UInt8} {f:Nat} {vs:Array Value} {b:Nat} (hb:b<=X.heap.size) (h:Calls Tryz.prog f vs X fun e w'=>NewB X D e w'):Calls Tryz.prog f vs X fun e w'=>∃u S,e = .returned u/\kB b D u S w'/\Ext X w'/\∀k,S k->k<w'.heap.size/\X.heap.size<=k:=h.mono (by
 rintro e w' ⟨A,c,rfl,h0,hE⟩;refine⟨_,fun k=>(Value.slice A D.length c).ownBlock=some k,rfl,⟨A,c,rfl,h0.lower hb,fun _=>Iff.rfl⟩,hE,fun k hk=>⟨ZLU h0 k hk,?_⟩⟩;cases A with
 | none=>simp[Value.ownBlock]at hk
 | some q =>
  have hq:q.block=k:=by simpa [Value.ownBlock]using hk
  rw[<-hq];exact h0.base_le q rfl)
end
section
open Go.RowKit Go.Maps
theorem ZNN (w:World):(Instr.buildSlice 58 0 #[]).run Tryz.prog w = .ok (.slice (some ⟨w.heap.size,0,none⟩) 0 0) (w.alloc (.cells #[] 129)):=by
 go_simp
theorem ZNF (w:World) (s:ByteArray) (A:Option Addr) (n c:Nat):(Instr.buildSlice 58 1 #[(0,.agg #[.string s,.slice A n c])]).run Tryz.prog w = .ok (.slice (some ⟨w.heap.size,0,none⟩) 1 1) (w.alloc (.cells #[.string s,.slice A n c] 129)):=by
 go_simp
theorem ZMb (w:World) (d:Int) (A:Option Addr) (n c:Nat):(Instr.buildSlice 43 1 #[(0,.agg #[.int .i64 d,.slice A n c])]).run Tryz.prog w = .ok (.slice (some ⟨w.heap.size,0,none⟩) 1 1) (w.alloc (.cells #[.int .i64 d,.slice A n c] 107)):=by
 go_simp
theorem ZNJ (w:World) (s:ByteArray) (A:Option Addr) (n c:Nat):(Instr.build 129 #[(0,.string s),(1,.slice A n c)]).run Tryz.prog w = .ok (.agg #[.string s,.slice A n c]) w:=by
 go_simp
theorem ZNp {w:World} {b:Nat} {d:Int} {A:Option Addr} {n c:Nat} (h0:w.cell? ⟨b,0,none⟩=some (.int .i64 d)) (h1:w.cell? ⟨b,1,none⟩=some (.slice A n c)):(Instr.loadAt 107 (.pointer (some ⟨b,0,none⟩))).run Tryz.prog w = .ok (.agg #[.int .i64 d,.slice A n c]) w:=by
 go_simp
theorem ZOy (w:World) (g o n c i:Nat) (hi:i<n):(Instr.indexAt 33 (.slice (some ⟨g,o,none⟩) n c) (.int .i64 (i:Int))).run Tryz.prog w = .ok (.pointer (some ⟨g,o+i*2,none⟩)) w:=by
 have h1:(i:Int)<n:=by omega
 go_simp
theorem ZOh (w:World) (g o:Nat):(Instr.fieldAt 46 (.pointer (some ⟨g,o,none⟩)) 0).run Tryz.prog w = .ok (.pointer (some ⟨g,o,none⟩)) w:=by
 go_simp
theorem ZNK {w:World} {b k:Nat} {v:Value} (h:w.cell? ⟨b,k,none⟩=some v):(Instr.loadAt 9 (.pointer (some ⟨b,k,none⟩))).run Tryz.prog w = .ok v w:=by
 go_simp
theorem ZLe:Elem Tryz.prog 58 129 2 40:=⟨Tryz.underlying58,⟨_,_,rfl,rfl,rfl,rfl,rfl⟩,by omega,by omega⟩
def kR1 (base:Nat) (s:List UInt8) (ys:List Value) (v:Value) (S:Nat->Prop) (w:World):Prop:=∃Ax cx,v = .agg #[.string ⟨s.toArray⟩,.slice Ax 1 cx]/\w.ownsRow base 107 2 (.slice Ax 1 cx) 1 ys/\∀k,S k↔(Value.slice Ax 1 cx).ownBlock=some k
def kR2 (base:Nat) (s:List UInt8) (ys:List Value) (v:Value) (S:Nat->Prop) (w:World):Prop:=∃g Ax cx,v = .slice (some ⟨g,0,none⟩) 1 1/\Cells w (some ⟨g,0,none⟩) [.string ⟨s.toArray⟩,.slice Ax 1 cx]/\w.ownsRow base 107 2 (.slice Ax 1 cx) 1 ys/\∀k,S k↔(k=g\/(Value.slice Ax 1 cx).ownBlock=some k)
def kR3 (base n:Nat) (s:List UInt8) (ys pre post:List Value) (v:Value) (S:Nat->Prop) (w:World):Prop:=∃A c Ax cx,v = .slice A n c/\w.ownsRow base 129 2 (.slice A n c) n ((pre ++ [.string ⟨s.toArray⟩,.slice Ax 1 cx])++post)/\w.ownsRow base 107 2 (.slice Ax 1 cx) 1 ys/\∀k,S k↔((Value.slice A n c).ownBlock=some k\/(Value.slice Ax 1 cx).ownBlock=some k)
theorem ZOf (b0 base:Nat) (s:List UInt8) (ys:List Value) (u:Option Nat):KKept b0 (kR1 base s ys,u):=fun v S w w' T h hC _ hO=>by
 obtain⟨Ax,cx,rfl,hx,hS⟩:=h;exact⟨Ax,cx,rfl,hC.owns hx fun g hg=>hO g ((hS _).2 hg),hS⟩
theorem ZOx (b0 base:Nat) (s:List UInt8) (ys:List Value) (u:Option Nat):KKept b0 (kR2 base s ys,u):=fun v S w w' T h hC _ hO=>by
 obtain⟨g,Ax,cx,rfl,hc,hx,hS⟩:=h;exact⟨g,Ax,cx,rfl,hC.cells hc fun a ha=>hO a.block ((hS _).2 (by cases ha;exact .inl rfl)),hC.owns hx fun g hg=>hO g ((hS _).2 (.inr hg)),hS⟩
theorem ZOt (b0 base n:Nat) (s:List UInt8) (ys pre post:List Value) (u:Option Nat):KKept b0 (kR3 base n s ys pre post,u):=fun v S w w' T h hC _ hO=>by
 obtain⟨A,c,Ax,cx,rfl,ho,hx,hS⟩:=h;exact⟨A,c,Ax,cx,rfl,hC.owns ho fun g hg=>hO g ((hS _).2 (.inl hg)),hC.owns hx fun g hg=>hO g ((hS _).2 (.inr hg)),hS⟩
theorem ZL1 (w:World) (d:Int) (A:Option Addr) (n c:Nat):(w.alloc (.cells #[.int .i64 d,.slice A n c] 107)).ownsRow w.heap.size 107 2 (.slice (some ⟨w.heap.size,0,none⟩) 1 1) 1 [.int .i64 d,.slice A n c] :=
 ⟨rfl,.inr ⟨w.heap.size,1,#[.int .i64 d,.slice A n c],rfl,Nat.le_refl _,heap_alloc_new w _,Nat.le_refl _,by unfold maxLen;omega,rfl,rfl⟩⟩
end
section
open Go.RowKit Go.Maps
theorem AddA.of {w w8:World} {R:List (List UInt8×List Int)} {D:List TmC} {A:Option Addr} {n n2 c:Nat} (ho:w8.ownsRow w.heap.size 46 2 (.slice A n c) n2 (tmcells D)) (hn:n=n2) (hl:n=D.length) (hR:tmR D=R) (hE:Ext w w8) (he:∀x∈D,Buf w8 0 3 x.A x.pos.length x.c (x.pos.map IV)/\x.s.length<=9223372036854775807):AddA w R (.returned (.slice A n c)) w8:=by
 subst hn;have hc:=ZAL ho;exact⟨D,A,n,c,rfl,hR,⟨hl,Cells.of_own ho,hc.1,hc.2,he,fun a ha=>by obtain⟨cs,hr,_⟩:=ZC ho (g:=a.block) (by rw[ha];rfl);exact⟨cs,hr⟩⟩,hE⟩
theorem ZMg (D:List TmC) (A:Option Addr) (n c:Nat) (s:List UInt8) (z:Int) (w:World) (h:TmsR w A n c D) (hs:s.length<=9223372036854775807) (p3:n<=1000000) (z2:∀x∈D,x.pos.length<=1000000) :
 Calls Tryz.prog 56 #[.slice A n c,.string ⟨s.toArray⟩,.int .i64 z] w fun e w'=>AddA w (addG (s,z) (tmR D)) e w':=by
 have r1:=ZA (fun(a b:List UInt8) W (ha:a.length<=9223372036854775807) (hb:b.length<=9223372036854775807)=>ZKr a b W ha hb);have hlen:=h.len;have t2:=h.cap;obtain⟨Z,hZ⟩:∃Z,Z=addG (s,z) (tmR D):=⟨_,rfl⟩
 rw[<-hZ];have l2:=ZA (show Z=(tmR D).take 0++addG (s,z) ((tmR D).drop 0)from hZ);have b2:(tmR D).length=n:=by unfold tmR;rw[List.length_map,hlen]
 have k2:=fun(k:Nat) (hk:k<=c)=>ZFo Tryz.underlying33 (fun W:World=>(by kernel_rfl:(sizeOf 46).run Tryz.prog W = .ok 2 W)) (n:=n) (c:=c) (k:=k) (A:=A) hk h.spot (z:=(k:Int)) rfl;have e1:=fun(k:Nat) (hk:k<=n)=>ZGu Tryz.underlying33 (fun W:World=>(by kernel_rfl:(sizeOf 46).run Tryz.prog W = .ok 2 W)) (n:=n) (c:=c) (k:=k) (A:=A) hk t2 h.spot (z:=(k:Int)) rfl;have m1:(tmcells D).length=n*2:=by rw[ZAW,hlen]
 replace k2:=ZA k2;replace e1:=ZA e1;replace hlen:=ZA hlen;replace z2:=ZA z2;replace h:=ZA h;replace b2:=ZA b2;replace m1:=ZA m1;clear hZ;go_enter Tryz.func56,Tryz.ntmps56;go_wp2_with fail
 go_loopw [7] (fun s7 wr=>∃k:Nat,s7 = .int .i64 (k:Int)/\k<=n/\Hid (Z=(tmR D).take k++addG (s,z) ((tmR D).drop k))/\Hid (Ext w wr)) (fun s7 _=>n - (intOf s7).toNat)
 case atStart=>exact⟨0,rfl,by omega,l2,ZA (Ext.refl _)⟩
 case round =>
  clear l2;obtain⟨k,rfl,hk,hz,hE⟩:=hrel;have v2:=ZA (h.out.cells.ext hE.out);by_cases r2:k<n
  ·obtain⟨x,hx⟩:∃x,D[k]? = some x:=⟨_,List.getElem?_eq_getElem (by rw[<-hlen.out];exact r2)⟩
   have m2:(tmR D)[k]? = some x.tm:=by unfold tmR;rw[List.getElem?_map,hx];rfl
   obtain⟨g2,i2⟩:=h.out.each x (List.mem_of_getElem? hx);have f2:=z2.out x (List.mem_of_getElem? hx);obtain⟨g,o,hA,g1⟩:=ZEK v2.out hx;have s1:=ZA (fun hl=>ZJv (s,z) m2 hl);have x1:=ZA (fun hl he=>ZLb (s,z) m2 hl he);have z1:=ZA (fun hl he=>ZLN (s,z) m2 hl he);obtain⟨l0,l1⟩:=g1 wr (Ext.refl _);have u1:=r1.out x.s s wr i2 hs;obtain⟨xs,pos,xA,xc⟩:=x;unfold TmC.tm at s1 x1 z1;simp only at s1 x1 z1 l0 l1 u1 g2 i2 f2 g1;obtain⟨m,hm⟩:∃m,m=pos.length:=⟨_,rfl⟩
   rw[<-hm]at l1 g1 f2;replace u1:=ZA u1;replace g1:=ZA g1;replace g2:=ZA g2;replace hm:=ZA hm;replace hx:=ZA hx;clear m2;by_cases y0:xs<s
   ·have q3:=ZA (show Z=(tmR D).take (k+1)++addG (s,z) ((tmR D).drop (k+1))by rw[hz.out,s1.out y0]);have hd:decide (xs<s)=true:=decide_eq_true y0;rw[hd]at u1;subst hA;clear x1 z1 hd hz;go_wp2_with fail;refine u1.out.mono ?_;rintro e w3 ⟨rfl,j1⟩;go_wp2_with fail;go_roundw
    case rel=>exact⟨k+1,by go_num,by omega,q3,ZA (hE.out.trans j1)⟩
    case measure=>simp only[intOf];omega
   ·have hd:decide (xs<s)=false:=decide_eq_false y0;rw[hd]at u1;have h3:=k2.out k (by omega);by_cases w0:xs=s
    ·have p2:=ZA (show Z=(tmR D).take k++(xs,pos ++ [z])::(tmR D).drop (k+1)by rw[hz.out,x1.out y0 w0]);have hq:(xs==s)=true:=beq_iff_eq.2 w0;obtain⟨A8,y1,b0,_⟩:=e1.out (k+1) (by omega);rw[show (((k+1:Nat)):Int)=(k:Int)+1 by omega]at y1;have o2:wrap64 ((k:Int)+1)=(k:Int)+1:=by unfold wrap64;omega
     obtain⟨r,hr⟩:∃r,r=n - (k+1):=⟨_,rfl⟩
     obtain⟨cr,d0⟩:∃cr,cr=c - (k+1):=⟨_,rfl⟩
     rw[<-hr,<-d0]at y1;replace hr:=ZA hr;replace d0:=ZA d0;replace b0:=ZA b0;replace w0:=ZA w0;subst hA;clear s1 z1 x1 hd hz y0;go_wp2_with fail;refine u1.out.mono ?_;rintro e w3 ⟨rfl,j1⟩;have q0:=ZA (hE.out.trans j1);have r0:Cells (w3.alloc (.cells #[] 46)) (some ⟨g,o,none⟩) (tmcells (D.take k)):=by
      rw[ZAx];have h1:=(h.out.cells.ext q0.out).ext ((Ext.refl w3).alloc (.cells #[] 46));exact ZA0 h1 _
     have m0:(tmcells (D.take k)).length=k*2:=by rw[ZAW,List.length_take,<-hlen.out];omega
     have v0:w3.heap.size<=(w3.alloc (.cells #[] 46)).heap.size:=((Ext.refl w3).alloc _).size;clear l0 l1;go_wp2_with (at_builtin;first
      | (refine Zh (m:=k) ZB6 (ZAo w3 46) r0 (.tmp 24) (.tmp 27) rfl rfl rfl rfl rfl m0 (ZAA _) (by omega) v0 (fun A4 c4 w4 s0 t1 f1=>?_);rw[Nat.zero_add,List.nil_append]at s0;have p0:Ext w3 w4:=((Ext.refl w3).alloc _).grown t1 (fun k hk=>by cases hk;exact Nat.le_refl _);clear t1 f1 r0 m0 v0;obtain⟨l0,l1⟩:=g1.out w4 (j1.trans p0);have l1':=((Ext.refl w4).alloc (.cells #[] 3)).cell l1;have c2:Cells (w4.alloc (.cells #[] 3)) xA (pos.map IV):=((g2.out.ext (q0.out.trans p0)).ext ((Ext.refl w4).alloc _)).cells;have d1:(pos.map IV).length=m*1:=(by rw[List.length_map,hm.out];omega);have h2:w4.heap.size<=(w4.alloc (.cells #[] 3)).heap.size:=((Ext.refl w4).alloc _).size;replace s0:=ZA s0;replace p0:=ZA p0)
      | (refine Zh (m:=m) ZIu (ZGr w4 3) c2 (.tmp 44) (.tmp 49) rfl rfl rfl rfl rfl d1 (ZOW _) (by omega) h2 (fun A5 c5 w5 x2 d2 s2=>?_);rw[Nat.zero_add,List.nil_append]at x2;have a1:Ext w4 w5:=((Ext.refl w4).alloc _).grown d2 (fun k hk=>by cases hk;exact Nat.le_refl _);have q2:=a1.size;clear d2 s2 c2 d1 h2 l0 l1 l1')
      | (refine ZR (us:= [.int .i64 z]) (m:=1) ZIu x2 rfl (.tmp 50) (.tmp 52) rfl rfl rfl rfl rfl (ZS rfl) (by omega) q2 (fun A6 c6 w6 j2 e2 w2=>?_);have a0:Ext w4 w6:=a1.grown e2 (fun k hk=>by obtain⟨_,_,hb⟩:=ZC x2 hk;exact hb);have k0:=a0.owns s0.out;have u0:=(p0.out.trans a0).size;clear e2 w2 q2;replace j2:=ZA j2;replace a0:=ZA a0)
      | (refine ZR (us:= [.string ⟨s.toArray⟩,.slice A6 (m+1) c6]) (m:=1) ZB6 k0 rfl (.tmp 42) (.tmp 55) rfl rfl rfl rfl rfl (ZS rfl) (by omega) u0 (fun A7 c7 w7 o0 i0 i1=>?_);have h0:Ext w3 w7:=(p0.out.trans a0.out).grown i0 (fun k hk=>by obtain⟨_,_,hb⟩:=ZC k0 hk;exact hb);have q1:=(Chg.of_grown (S:=fun k'=>(Value.slice A4 k c4).ownBlock=some k') i0 (fun k' _ u2=>u2)).owns j2.out (fun g hg hn=>by obtain⟨cs,hr,_⟩:=ZC j2.out hg;exact ZJ k0 hr (by decide) hn);have c1:=b0.out w7 _ m1.out (h.out.cells.ext (q0.out.trans h0));have c0:((tmcells D).drop ((k+1)*2)).length=r*2:=(by rw[List.length_drop,m1.out,hr.out];omega);have x0:=h0.size;clear i0 i1 u0;replace q1:=ZA q1;replace h0:=ZA h0)
      | (refine Zh (m:=r) ZB6 o0 c1 (.tmp 57) (.tmp 61) rfl rfl rfl rfl rfl c0 (by rw[<-Z2];exact ZAA _) (by have:=hr.out;omega) x0 (fun A9 c9 w9 v1 n0 n1=>?_);have z0:Ext w3 w9:=h0.out.grown n0 (fun k hk=>by obtain⟨_,_,hb⟩:=ZC o0 hk;exact hb);have y2:=(Chg.of_grown (S:=fun k'=>(Value.slice A7 (k+1) c7).ownBlock=some k') n0 (fun k' _ u2=>u2)).owns q1.out (fun g hg hn=>by obtain⟨cs,hr,_⟩:=ZC q1.out hg;exact ZJ o0 hr (by decide) hn);clear n0 n1 x0))
     have hmid:=ZBl (D.take k) (D.drop (k+1)) ⟨s,pos ++ [z],A6,c6⟩;have w1:(⟨s,pos ++ [z],A6,c6⟩:TmC).cells = [.string ⟨s.toArray⟩,.slice A6 (m+1) c6]:=by unfold TmC.cells;simp only;rw[List.length_append,<-hm.out];rfl
     rw[w1,Z2]at hmid;rw[<-hmid]at v1;have o1:k+1+r=(D.take k++(⟨s,pos ++ [z],A6,c6⟩:TmC)::D.drop (k+1)).length:=by
      rw[List.length_append,List.length_cons,List.length_take,List.length_drop,<-hlen.out,hr.out];omega
     have g0:=q0.out.trans z0;have b1:tmR (D.take k++(⟨s,pos ++ [z],A6,c6⟩:TmC)::D.drop (k+1))=Z:=by rw[ZGy,p2.out,w0.out];rfl
     have e0:∀y∈D.take k++(⟨s,pos ++ [z],A6,c6⟩:TmC)::D.drop (k+1),Buf w9 0 3 y.A y.pos.length y.c (y.pos.map IV)/\y.s.length<=9223372036854775807:=fun y hy=>by
      have t0:=fun(hy:y∈D)=>((h.out.ext g0).each y hy)
      rcases List.mem_append.1 hy with hy | hy
      ·exact t0 (List.mem_of_mem_take hy)
      ·rcases List.mem_cons.1 hy with rfl | hy
       ·refine⟨?_,hs⟩;have n2:=(Buf.of_own y2).lower (Nat.zero_le _);simp only[List.length_append,List.length_cons,List.length_nil,List.map_append];rw[<-hm.out];exact n2
       ·exact t0 (List.mem_of_mem_drop hy)
     have f0:=ZA (AddA.of (w:=w) (R:=Z) (ZN v1 q0.out.size) rfl o1 b1 g0 e0);go_ret;exact f0.out
    ·have p2:=ZA (show Z=(tmR D).take k++(s,[z])::(tmR D).drop k by rw[hz.out,z1.out y0 w0]);have hq:(xs==s)=false:=beq_eq_false_iff_ne.2 w0;replace w0:=ZA w0;subst hA;clear s1 z1 x1 hd hz y0;obtain⟨A8,y1,b0,_⟩:=e1.out k hk;obtain⟨r,hr⟩:∃r,r=n - k:=⟨_,rfl⟩
     obtain⟨cr,d0⟩:∃cr,cr=c - k:=⟨_,rfl⟩
     rw[<-hr,<-d0]at y1;replace hr:=ZA hr;replace d0:=ZA d0;replace b0:=ZA b0;go_wp2_with fail;refine u1.out.mono ?_;rintro e w3 ⟨rfl,j1⟩;have q0:=ZA (hE.out.trans j1);clear l0 l1;have r0:=ZA0 ((h.out.cells.ext q0.out).ext ((Ext.refl w3).alloc (.cells #[] 46))) (k*2);rw[<-ZAx]at r0;have m0:(tmcells (D.take k)).length=k*2:=by rw[ZAW,List.length_take,<-hlen.out];omega
     have v0:w3.heap.size<=(w3.alloc (.cells #[] 46)).heap.size:=((Ext.refl w3).alloc _).size;go_wp2_with (at_builtin;first
      | (refine Zh (m:=k) ZB6 (ZAo w3 46) r0 (.tmp 24) (.tmp 27) rfl rfl rfl rfl rfl m0 (ZAA _) (by omega) v0 (fun A4 c4 w4 s0 t1 f1=>?_);rw[Nat.zero_add,List.nil_append]at s0;have p0:Ext w3 w4:=((Ext.refl w3).alloc _).grown t1 (fun k hk=>by cases hk;exact Nat.le_refl _);clear t1 f1 r0 m0 v0;(try obtain⟨l0,l1⟩:=g1.out w4 (j1.trans p0));have k0:=((Ext.refl w4).alloc (.cells #[.int .i64 z] 3)).owns s0;have k1:=Row.new w4 3 #[.int .i64 z];have j0:Ext w3 (w4.alloc (.cells #[.int .i64 z] 3)):=p0.alloc _;have u0:=j0.size;replace k1:=ZA k1;replace j0:=ZA j0)
      | (refine ZR (us:= [.string ⟨s.toArray⟩,.slice (some ⟨w4.heap.size,0,none⟩) 1 1]) (m:=1) ZB6 k0 (by simp) (.tmp 63) (.tmp 68) rfl rfl rfl rfl rfl (ZS rfl) (by omega) u0 (fun A7 c7 w7 o0 i0 i1=>?_);have h0:Ext w3 w7:=j0.out.grown i0 (fun k hk=>by obtain⟨_,_,hb⟩:=ZC k0 hk;exact hb);have p1:=k1.out.grown i0 (fun e=>ZJ k0 k1.out (by decide) e.symm);have c1:=b0.out w7 _ m1.out (h.out.cells.ext (q0.out.trans h0));have c0:((tmcells D).drop (k*2)).length=r*2:=(by rw[List.length_drop,m1.out,hr.out];omega);have x0:=h0.size;clear i0 i1 u0;replace p1:=ZA p1;replace h0:=ZA h0)
      | (refine Zh (m:=r) ZB6 o0 c1 (.tmp 70) (.tmp 73) rfl rfl rfl rfl rfl c0 (by rw[<-Z2];exact ZAA _) (by have:=hr.out;omega) x0 (fun A9 c9 w9 v1 n0 n1=>?_);have z0:Ext w3 w9:=h0.out.grown n0 (fun k hk=>by obtain⟨_,_,hb⟩:=ZC o0 hk;exact hb);have a2:=p1.out.grown n0 (fun e=>ZJ o0 p1.out (by decide) e.symm);clear n0 n1 x0))
     have hmid:=ZBl (D.take k) (D.drop k) ⟨s,[z],some ⟨w4.heap.size,0,none⟩,1⟩;have w1:(⟨s,[z],some ⟨w4.heap.size,0,none⟩,1⟩:TmC).cells = [.string ⟨s.toArray⟩,.slice (some ⟨w4.heap.size,0,none⟩) 1 1]:=rfl;rw[w1,Z2]at hmid;rw[<-hmid]at v1;have o1:k+1+r=(D.take k++(⟨s,[z],some ⟨w4.heap.size,0,none⟩,1⟩:TmC)::D.drop k).length:=by
      rw[List.length_append,List.length_cons,List.length_take,List.length_drop,<-hlen.out,hr.out];omega
     have g0:=q0.out.trans z0;have b1:tmR (D.take k++(⟨s,[z],some ⟨w4.heap.size,0,none⟩,1⟩:TmC)::D.drop k)=Z:=by rw[ZGy,p2.out];rfl
     have e0:∀y∈D.take k++(⟨s,[z],some ⟨w4.heap.size,0,none⟩,1⟩:TmC)::D.drop k,Buf w9 0 3 y.A y.pos.length y.c (y.pos.map IV)/\y.s.length<=9223372036854775807:=fun y hy=>by
      have t0:=fun(hy:y∈D)=>((h.out.ext g0).each y hy)
      rcases List.mem_append.1 hy with hy | hy
      ·exact t0 (List.mem_of_mem_take hy)
      ·rcases List.mem_cons.1 hy with rfl | hy
       ·exact⟨⟨rfl,Nat.le_refl _,.inr ⟨w4.heap.size,_,rfl,Nat.zero_le _,a2,Nat.le_refl _,rfl⟩⟩,hs⟩
       ·exact t0 (List.mem_of_mem_drop hy)
     have f0:=ZA (AddA.of (w:=w) (R:=Z) (ZN v1 q0.out.size) rfl o1 b1 g0 e0);go_ret;exact f0.out
  ·have p2:=ZA (show Z=(tmR D).take k++(s,[z])::(tmR D).drop k by
    rw[hz.out,List.drop_of_length_le (by rw[b2.out];omega)];rfl)
   have h3:=k2.out k (by omega);obtain⟨A8,y1,b0,_⟩:=e1.out k hk;obtain⟨r,hr⟩:∃r,r=n - k:=⟨_,rfl⟩
   obtain⟨cr,d0⟩:∃cr,cr=c - k:=⟨_,rfl⟩
   rw[<-hr,<-d0]at y1;replace hr:=ZA hr;replace d0:=ZA d0;replace b0:=ZA b0;clear hz;obtain⟨w3,rfl⟩:∃w3,w3=wr:=⟨_,rfl⟩
   have q0:=hE;have r0:=ZA0 ((h.out.cells.ext q0.out).ext ((Ext.refl w3).alloc (.cells #[] 46))) (k*2);rw[<-ZAx]at r0;have m0:(tmcells (D.take k)).length=k*2:=by rw[ZAW,List.length_take,<-hlen.out];omega
   have v0:w3.heap.size<=(w3.alloc (.cells #[] 46)).heap.size:=((Ext.refl w3).alloc _).size;go_wp2_with (at_builtin;first
    | (refine Zh (m:=k) ZB6 (ZAo w3 46) r0 (.tmp 24) (.tmp 27) rfl rfl rfl rfl rfl m0 (ZAA _) (by omega) v0 (fun A4 c4 w4 s0 t1 f1=>?_);rw[Nat.zero_add,List.nil_append]at s0;have p0:Ext w3 w4:=((Ext.refl w3).alloc _).grown t1 (fun k hk=>by cases hk;exact Nat.le_refl _);clear t1 f1 r0 m0 v0;(try obtain⟨l0,l1⟩:=g1.out w4 (j1.trans p0));have k0:=((Ext.refl w4).alloc (.cells #[.int .i64 z] 3)).owns s0;have k1:=Row.new w4 3 #[.int .i64 z];have j0:Ext w3 (w4.alloc (.cells #[.int .i64 z] 3)):=p0.alloc _;have u0:=j0.size;replace k1:=ZA k1;replace j0:=ZA j0)
    | (refine ZR (us:= [.string ⟨s.toArray⟩,.slice (some ⟨w4.heap.size,0,none⟩) 1 1]) (m:=1) ZB6 k0 (by simp) (.tmp 63) (.tmp 68) rfl rfl rfl rfl rfl (ZS rfl) (by omega) u0 (fun A7 c7 w7 o0 i0 i1=>?_);have h0:Ext w3 w7:=j0.out.grown i0 (fun k hk=>by obtain⟨_,_,hb⟩:=ZC k0 hk;exact hb);have p1:=k1.out.grown i0 (fun e=>ZJ k0 k1.out (by decide) e.symm);have c1:=b0.out w7 _ m1.out (h.out.cells.ext (q0.out.trans h0));have c0:((tmcells D).drop (k*2)).length=r*2:=(by rw[List.length_drop,m1.out,hr.out];omega);have x0:=h0.size;clear i0 i1 u0;replace p1:=ZA p1;replace h0:=ZA h0)
    | (refine Zh (m:=r) ZB6 o0 c1 (.tmp 70) (.tmp 73) rfl rfl rfl rfl rfl c0 (by rw[<-Z2];exact ZAA _) (by have:=hr.out;omega) x0 (fun A9 c9 w9 v1 n0 n1=>?_);have z0:Ext w3 w9:=h0.out.grown n0 (fun k hk=>by obtain⟨_,_,hb⟩:=ZC o0 hk;exact hb);have a2:=p1.out.grown n0 (fun e=>ZJ o0 p1.out (by decide) e.symm);clear n0 n1 x0))
   have hmid:=ZBl (D.take k) (D.drop k) ⟨s,[z],some ⟨w4.heap.size,0,none⟩,1⟩;have w1:(⟨s,[z],some ⟨w4.heap.size,0,none⟩,1⟩:TmC).cells = [.string ⟨s.toArray⟩,.slice (some ⟨w4.heap.size,0,none⟩) 1 1]:=rfl;rw[w1,Z2]at hmid;rw[<-hmid]at v1;have o1:k+1+r=(D.take k++(⟨s,[z],some ⟨w4.heap.size,0,none⟩,1⟩:TmC)::D.drop k).length:=by
    rw[List.length_append,List.length_cons,List.length_take,List.length_drop,<-hlen.out,hr.out];omega
   have g0:=q0.out.trans z0;have b1:tmR (D.take k++(⟨s,[z],some ⟨w4.heap.size,0,none⟩,1⟩:TmC)::D.drop k)=Z:=by rw[ZGy,p2.out];rfl
   have e0:∀y∈D.take k++(⟨s,[z],some ⟨w4.heap.size,0,none⟩,1⟩:TmC)::D.drop k,Buf w9 0 3 y.A y.pos.length y.c (y.pos.map IV)/\y.s.length<=9223372036854775807:=fun y hy=>by
    have t0:=fun(hy:y∈D)=>((h.out.ext g0).each y hy)
    rcases List.mem_append.1 hy with hy | hy
    ·exact t0 (List.mem_of_mem_take hy)
    ·rcases List.mem_cons.1 hy with rfl | hy
     ·exact⟨⟨rfl,Nat.le_refl _,.inr ⟨w4.heap.size,_,rfl,Nat.zero_le _,a2,Nat.le_refl _,rfl⟩⟩,hs⟩
     ·exact t0 (List.mem_of_mem_drop hy)
   have f0:=ZA (AddA.of (w:=w) (R:=Z) (ZN v1 q0.out.size) rfl o1 b1 g0 e0);go_ret;exact f0.out
end
section
open Go.RowKit
theorem ZK6 (L:List UInt8) (A:Option Addr) (c base r:Nat) (w:World) (hb:Buf w base 5 A L.length c (L.map B8)) (hL:L.length<=4000000000) (t0:base<=w.heap.size) (q0:badR r=false) (h1:r<128) :
 Calls Tryz.prog 187 #[.slice A L.length c,.int .i64 (r:Int)] w (PutB w base (L++encR r)):=by
 obtain⟨n,hn⟩:∃n,n=L.length:=⟨_,rfl⟩
 rw[<-hn]at hb hL ⊢;have k0:r<=1114111:=by
  unfold badR at q0;simp only[Bool.or_eq_false_iff,decide_eq_false_iff_not]at q0;omega
 have h0:encR r = [u8 r]:=by unfold encR encO;rw[q0,if_neg (by simp),if_pos h1]
 rw[h0];obtain⟨z,hz⟩:∃z:Int,z=(r:Int):=⟨_,rfl⟩
 rw[<-hz];have g0:0<=z:=by omega
 have gh:z<=1114111:=by omega
 have g1:z<128:=by omega
 obtain⟨l,hl⟩:∃l,l = [u8 r]:=⟨_,rfl⟩
 have p0 : [Value.int .u8 z]=l.map B8:=by
  rw[hl,hz];simp only[List.map_cons,List.map_nil,ZAY (show r<256 by omega)]
  try rfl
 rw[<-hl];replace hl:=ZA hl;replace p0:=ZA p0;replace k0:=ZA k0;replace hz:=ZA hz;replace h1:=ZA h1;replace hn:=ZA hn;replace hb:=ZA hb;replace h0:=ZA h0;replace q0:=ZA q0;go_enter Tryz.func187,Tryz.ntmps187;go_wp2_with (at_builtin;refine ZM ZV hb.out (.tmp 25) (.tmp 28) rfl rfl rfl rfl (ZS rfl) (by simp;omega) t0 (fun A3 c3 w4 m0 j0=>?_));go_ret;exact ZAU hn.out p0.out m0 j0
theorem ZJ1 (L:List UInt8) (A:Option Addr) (c base r:Nat) (w:World) (hb:Buf w base 5 A L.length c (L.map B8)) (hL:L.length<=4000000000) (t0:base<=w.heap.size) (q0:badR r=false) (h1:¬ r<128) (h2:r<2048) :
 Calls Tryz.prog 187 #[.slice A L.length c,.int .i64 (r:Int)] w (PutB w base (L++encR r)):=by
 obtain⟨n,hn⟩:∃n,n=L.length:=⟨_,rfl⟩
 rw[<-hn]at hb hL ⊢;have k0:r<=1114111:=by
  unfold badR at q0;simp only[Bool.or_eq_false_iff,decide_eq_false_iff_not]at q0;omega
 have h0:encR r = [u8 (192+r / 64),u8 (128+r%64)]:=by unfold encR encO;rw[q0,if_neg (by simp),if_neg h1,if_pos h2]
 rw[h0];obtain⟨z,hz⟩:∃z:Int,z=(r:Int):=⟨_,rfl⟩
 rw[<-hz];have g0:0<=z:=by omega
 have gh:z<=1114111:=by omega
 have g1:¬ z<128:=by omega
 have g2:z<2048:=by omega
 obtain⟨l,hl⟩:∃l,l = [u8 (192+r / 64),u8 (128+r%64)]:=⟨_,rfl⟩
 have p0 : [Value.int .u8 (192+z / 64),.int .u8 (128+z%64)]=l.map B8:=by
  rw[hl,hz];simp only[List.map_cons,List.map_nil,ZAY (show 192+r / 64<256 by omega),ZAY (show 128+r%64<256 by omega)]
  try rfl
 rw[<-hl];replace hl:=ZA hl;replace p0:=ZA p0;replace k0:=ZA k0;replace hz:=ZA hz;replace h1:=ZA h1;replace h2:=ZA h2;replace hn:=ZA hn;replace hb:=ZA hb;replace h0:=ZA h0;replace q0:=ZA q0;go_enter Tryz.func187,Tryz.ntmps187;go_wp2_with (at_builtin;refine ZM ZV hb.out (.tmp 33) (.tmp 42) rfl rfl rfl rfl (ZS rfl) (by simp;omega) t0 (fun A3 c3 w4 m0 j0=>?_));go_ret;exact ZAU hn.out p0.out m0 j0
theorem ZLh (L:List UInt8) (A:Option Addr) (c base r:Nat) (w:World) (hb:Buf w base 5 A L.length c (L.map B8)) (hL:L.length<=4000000000) (t0:base<=w.heap.size) (q0:badR r=false) (h1:¬ r<128) (h2:¬ r<2048) (h3:r<55296) :
 Calls Tryz.prog 187 #[.slice A L.length c,.int .i64 (r:Int)] w (PutB w base (L++encR r)):=by
 obtain⟨n,hn⟩:∃n,n=L.length:=⟨_,rfl⟩
 rw[<-hn]at hb hL ⊢;have k0:r<=1114111:=by
  unfold badR at q0;simp only[Bool.or_eq_false_iff,decide_eq_false_iff_not]at q0;omega
 have h0:encR r = [u8 (224+r / 4096),u8 (128+r / 64%64),u8 (128+r%64)]:=by unfold encR encO;rw[q0,if_neg (by simp),if_neg h1,if_neg h2,if_pos (show r<65536 by omega)]
 rw[h0];obtain⟨z,hz⟩:∃z:Int,z=(r:Int):=⟨_,rfl⟩
 rw[<-hz];have g0:0<=z:=by omega
 have gh:z<=1114111:=by omega
 have g1:¬ z<128:=by omega
 have g2:¬ z<2048:=by omega
 have g3:z<65536:=by omega
 have g4:z<55296:=by omega
 obtain⟨l,hl⟩:∃l,l = [u8 (224+r / 4096),u8 (128+r / 64%64),u8 (128+r%64)]:=⟨_,rfl⟩
 have p0 : [Value.int .u8 (224+z / 4096),.int .u8 (128+z / 64%64),.int .u8 (128+z%64)]=l.map B8:=by
  rw[hl,hz];simp only[List.map_cons,List.map_nil,ZAY (show 224+r / 4096<256 by omega),ZAY (show 128+r / 64%64<256 by omega),ZAY (show 128+r%64<256 by omega)]
  try rfl
 rw[<-hl];replace hl:=ZA hl;replace p0:=ZA p0;replace k0:=ZA k0;replace hz:=ZA hz;replace h1:=ZA h1;replace h2:=ZA h2;replace h3:=ZA h3;replace hn:=ZA hn;replace hb:=ZA hb;replace h0:=ZA h0;replace q0:=ZA q0;go_enter Tryz.func187,Tryz.ntmps187;go_wp2_with (at_builtin;refine ZM ZV hb.out (.tmp 47) (.tmp 61) rfl rfl rfl rfl (ZS rfl) (by simp;omega) t0 (fun A3 c3 w4 m0 j0=>?_));go_ret;exact ZAU hn.out p0.out m0 j0
theorem ZGb (L:List UInt8) (A:Option Addr) (c base r:Nat) (w:World) (hb:Buf w base 5 A L.length c (L.map B8)) (hL:L.length<=4000000000) (t0:base<=w.heap.size) (q0:badR r=false) (h1:¬ r<128) (h2:57343<r) (h3:r<65536) :
 Calls Tryz.prog 187 #[.slice A L.length c,.int .i64 (r:Int)] w (PutB w base (L++encR r)):=by
 obtain⟨n,hn⟩:∃n,n=L.length:=⟨_,rfl⟩
 rw[<-hn]at hb hL ⊢;have k0:r<=1114111:=by
  unfold badR at q0;simp only[Bool.or_eq_false_iff,decide_eq_false_iff_not]at q0;omega
 have h0:encR r = [u8 (224+r / 4096),u8 (128+r / 64%64),u8 (128+r%64)]:=by unfold encR encO;rw[q0,if_neg (by simp),if_neg h1,if_neg (show ¬ r<2048 by omega),if_pos h3]
 rw[h0];obtain⟨z,hz⟩:∃z:Int,z=(r:Int):=⟨_,rfl⟩
 rw[<-hz];have g0:0<=z:=by omega
 have gh:z<=1114111:=by omega
 have g1:¬ z<128:=by omega
 have g2:¬ z<2048:=by omega
 have g3:z<65536:=by omega
 have g4:¬ z<55296:=by omega
 have g5:57343<z:=by omega
 obtain⟨l,hl⟩:∃l,l = [u8 (224+r / 4096),u8 (128+r / 64%64),u8 (128+r%64)]:=⟨_,rfl⟩
 have p0 : [Value.int .u8 (224+z / 4096),.int .u8 (128+z / 64%64),.int .u8 (128+z%64)]=l.map B8:=by
  rw[hl,hz];simp only[List.map_cons,List.map_nil,ZAY (show 224+r / 4096<256 by omega),ZAY (show 128+r / 64%64<256 by omega),ZAY (show 128+r%64<256 by omega)]
  try rfl
 rw[<-hl];replace hl:=ZA hl;replace p0:=ZA p0;replace k0:=ZA k0;replace hz:=ZA hz;replace h1:=ZA h1;replace h2:=ZA h2;replace h3:=ZA h3;replace hn:=ZA hn;replace hb:=ZA hb;replace h0:=ZA h0;replace q0:=ZA q0;go_enter Tryz.func187,Tryz.ntmps187;go_wp2_with (at_builtin;refine ZM ZV hb.out (.tmp 47) (.tmp 61) rfl rfl rfl rfl (ZS rfl) (by simp;omega) t0 (fun A3 c3 w4 m0 j0=>?_));go_ret;exact ZAU hn.out p0.out m0 j0
theorem ZKJ (L:List UInt8) (A:Option Addr) (c base r:Nat) (w:World) (hb:Buf w base 5 A L.length c (L.map B8)) (hL:L.length<=4000000000) (t0:base<=w.heap.size) (q0:badR r=false) (h1:¬ r<128) (h2:¬ r<2048) (h3:¬ r<65536) :
 Calls Tryz.prog 187 #[.slice A L.length c,.int .i64 (r:Int)] w (PutB w base (L++encR r)):=by
 obtain⟨n,hn⟩:∃n,n=L.length:=⟨_,rfl⟩
 rw[<-hn]at hb hL ⊢;have k0:r<=1114111:=by
  unfold badR at q0;simp only[Bool.or_eq_false_iff,decide_eq_false_iff_not]at q0;omega
 have h0:encR r = [u8 (240+r / 262144),u8 (128+r / 4096%64),u8 (128+r / 64%64),u8 (128+r%64)]:=by unfold encR encO;rw[q0,if_neg (by simp),if_neg h1,if_neg h2,if_neg h3]
 rw[h0];obtain⟨z,hz⟩:∃z:Int,z=(r:Int):=⟨_,rfl⟩
 rw[<-hz];have g0:0<=z:=by omega
 have gh:z<=1114111:=by omega
 have g1:¬ z<128:=by omega
 have g2:¬ z<2048:=by omega
 have g3:¬ z<65536:=by omega
 have g4:¬ z<55296:=by omega
 have g5:57343<z:=by omega
 obtain⟨l,hl⟩:∃l,l = [u8 (240+r / 262144),u8 (128+r / 4096%64),u8 (128+r / 64%64),u8 (128+r%64)]:=⟨_,rfl⟩
 have p0 : [Value.int .u8 (240+z / 262144),.int .u8 (128+z / 4096%64),.int .u8 (128+z / 64%64),.int .u8 (128+z%64)]=l.map B8:=by
  rw[hl,hz];simp only[List.map_cons,List.map_nil,ZAY (show 240+r / 262144<256 by omega),ZAY (show 128+r / 4096%64<256 by omega),ZAY (show 128+r / 64%64<256 by omega),ZAY (show 128+r%64<256 by omega)]
  try rfl
 rw[<-hl];replace hl:=ZA hl;replace p0:=ZA p0;replace k0:=ZA k0;replace hz:=ZA hz;replace h1:=ZA h1;replace h2:=ZA h2;replace h3:=ZA h3;replace hn:=ZA hn;replace hb:=ZA hb;replace h0:=ZA h0;replace q0:=ZA q0;go_enter Tryz.func187,Tryz.ntmps187;go_wp2_with (at_builtin;refine ZM ZV hb.out (.tmp 63) (.tmp 82) rfl rfl rfl rfl (ZS rfl) (by simp;omega) t0 (fun A3 c3 w4 m0 j0=>?_));go_ret;exact ZAU hn.out p0.out m0 j0
theorem ZLl (L:List UInt8) (A:Option Addr) (c base r:Nat) (w:World) (hb:Buf w base 5 A L.length c (L.map B8)) (hL:L.length<=4000000000) (t0:base<=w.heap.size) (p0:badR r=true) (hr:r<=1200000) :
 Calls Tryz.prog 187 #[.slice A L.length c,.int .i64 (r:Int)] w (PutB w base (L++encR r)):=by
 have h0:=ZGb L A c base 65533 w hb hL t0 (by decide) (by omega) (by omega) (by omega);have q0:encR r=encR 65533:=by
  have h5:badR 65533=false:=by decide
  unfold encR;rw[p0,h5,if_pos rfl,if_neg (by simp)]
 rw[q0];have hq:1114111<r\/(55296<=r/\r<=57343):=by
  unfold badR at p0;simpa using p0
 simp only[show (((65533:Nat):Int))=65533 from rfl]at h0;obtain⟨n,hn⟩:∃n,n=L.length:=⟨_,rfl⟩
 rw[<-hn]at h0 ⊢;obtain⟨LL,j0⟩:∃LL,LL=L++encR 65533:=⟨_,rfl⟩
 rw[<-j0]at h0 ⊢;obtain⟨z,hz⟩:∃z:Int,z=(r:Int):=⟨_,rfl⟩
 rw[<-hz];have g0:0<=z:=by omega
 replace h0:=ZA h0;replace j0:=ZA j0;replace hn:=ZA hn;replace hb:=ZA hb;replace q0:=ZA q0;replace p0:=ZA p0;rcases hq with hq | hq
 ·have g1:1114111<z:=by omega
  replace hq:=ZA hq;replace hz:=ZA hz;replace hr:=ZA hr;go_enter Tryz.func187,Tryz.ntmps187;go_wp2_with fail;refine h0.out.mono ?_;rintro e w2 ⟨A2,c2,rfl,m0,k0⟩;go_wp2_with fail;go_ret;exact⟨A2,c2,rfl,m0,k0⟩
 ·have g1:z<=1114111:=by omega
  have g2:55296<=z:=by omega
  have g3:z<=57343:=by omega
  replace hq:=ZA hq;replace hz:=ZA hz;replace hr:=ZA hr;go_enter Tryz.func187,Tryz.ntmps187;go_wp2_with fail;refine h0.out.mono ?_;rintro e w2 ⟨A2,c2,rfl,m0,k0⟩;go_wp2_with fail;go_ret;exact⟨A2,c2,rfl,m0,k0⟩
theorem ZMt (L:List UInt8) (A:Option Addr) (c base r:Nat) (w:World) (hb:Buf w base 5 A L.length c (L.map B8)) (hL:L.length<=4000000000) (q0:base<=w.heap.size) (hr:r<=1200000) :
 Calls Tryz.prog 187 #[.slice A L.length c,.int .i64 (r:Int)] w (PutB w base (L++encR r)):=by
 cases h0:badR r with
 | true=>exact ZLl L A c base r w hb hL q0 h0 hr
 | false =>
  by_cases h1:r<128
  ·exact ZK6 L A c base r w hb hL q0 h0 h1
  ·by_cases h2:r<2048
   ·exact ZJ1 L A c base r w hb hL q0 h0 h1 h2
   ·by_cases h3:r<65536
    ·by_cases h4:r<55296
     ·exact ZLh L A c base r w hb hL q0 h0 h1 h2 h4
     ·refine ZGb L A c base r w hb hL q0 h0 h1 ?_ h3;unfold badR at h0;simp only[Bool.or_eq_false_iff,Bool.and_eq_false_iff,decide_eq_false_iff_not]at h0;omega
    ·exact ZKJ L A c base r w hb hL q0 h0 h1 h2 h3
theorem ZG9 (rs:List Nat) (A:Option Addr) (n c:Nat) (w:World) (hn:n=rs.length) (hc:Cells w A (rs.map NV)) (hr:∀r∈rs,r<=1200000) (z0:n<=500000000) :
 Calls Tryz.prog 157 #[.slice A n c] w fun e w'=>e = .returned (.string ⟨(encL rs).toArray⟩)/\Ext w w':=by
 have t0:=ZA (fun L A c base r W hb hL x0 hr=>ZMt L A c base r W hb hL x0 hr);replace hr:=ZA hr;replace hc:=ZA hc;replace hn:=ZA hn;go_enter Tryz.func157,Tryz.ntmps157;go_wp2_with fail
 go_loopw [3,4] (fun s3 s8 wr=>∃(i n1 c1:Nat) (A1:Option Addr),s3 = .slice A1 n1 c1/\s8 = .int .i64 (i:Int)/\i<=n/\Hid (n1=(encL (rs.take i)).length/\n1<=4*i)/\Hid (Buf wr w.heap.size 5 A1 n1 c1 ((encL (rs.take i)).map B8))/\Hid (Ext w wr)) (fun _ s8 _=>n - (intOf s8).toNat)
 case atStart=>exact⟨0,0,0,none,rfl,rfl,by omega,ZA ⟨rfl,by omega⟩,ZA (Buf.nil _ _ _),ZA (Ext.refl w)⟩
 case round =>
  obtain⟨i,n1,c1,A1,rfl,rfl,hi,h0,hb,hE⟩:=hrel;by_cases h:i<n
  ·obtain⟨r,q0⟩:∃r,rs[i]? = some r:=⟨_,List.getElem?_eq_getElem (by rw[<-hn.out];exact h)⟩
   obtain⟨g,o,hA,g0⟩:=hc.out.at_ (by rw[List.length_map,<-hn.out];omega);subst hA;have y0:=hE.out.cell (g0 i (NV r) (by rw[List.getElem?_map,q0];rfl));unfold NV at y0;have u0:=hr.out r (List.mem_of_getElem? q0);have hp:=t0.out (encL (rs.take i)) A1 c1 w.heap.size r wr (by rw[<-h0.out.1];exact hb.out) (by have:=h0.out;omega) hE.out.size u0;rw[<-h0.out.1]at hp;have p0:rs.take (i+1)=rs.take i ++ [r]:=by rw[List.take_add_one,q0];rfl
   rw[<-ZB1,<-p0]at hp;have v0:=(ZC2 r).2;replace hp:=ZA hp;replace g0:=ZA g0;replace q0:=ZA q0;replace p0:=ZA p0;replace u0:=ZA u0;replace v0:=ZA v0;go_wp2_with fail;refine hp.out.mono ?_;rintro e w2 ⟨A2,c2,rfl,j0,k0⟩;have m0:(encL (rs.take (i+1))).length<=4*(i+1):=by
    rw[p0.out,ZB1,List.length_append];have:=h0.out;have:=v0.out;omega
   replace j0:=ZA j0;replace k0:=ZA (k0 w hE.out (Nat.le_refl _));replace m0:=ZA m0;go_wp2_with fail;exact⟨⟨i+1,_,c2,A2,rfl,rfl,by omega,ZA ⟨rfl,m0.out⟩,j0,k0⟩,by simp only[intOf];omega⟩
  ·obtain rfl:i=n:=by omega
   have hT:rs.take i=rs:=List.take_of_length_le (by rw[hn.out];exact Nat.le_refl _);rw[hT]at hb h0;have a0:=Zr (Buf.cells hb.out) n1 c1 h0.out.1;replace h0:=ZA h0.out.1;go_wp2_with fail;go_ret;exact⟨rfl,hE.out⟩
theorem ZJY (r:Nat) (w:World) (hr:r<=1114111):Calls Tryz.prog 158 #[.int .i64 (r:Int)] w fun e w'=>e = .returned (.int .i64 (lowerR r:Int))/\Ext w w':=by
 obtain⟨z,hz⟩:∃z:Int,z=(r:Int):=⟨_,rfl⟩
 obtain⟨y,hy⟩:∃y:Int,y=(lowerR r:Int):=⟨_,rfl⟩
 have h0:y=if (65<=z/\z<=90)\/(192<=z/\z<=222/\z≠215)\/(913<=z/\z<=939/\z≠930)\/(1040<=z/\z<=1071) then z+32 else if 1024<=z/\z<=1039 then z+80 else z:=by
  rw[hy,hz];unfold lowerR;by_cases h1:(65<=r/\r<=90)\/(192<=r/\r<=222/\r≠215)\/(913<=r/\r<=939/\r≠930)\/(1040<=r/\r<=1071)
  ·have q0:(65<=(r:Int)/\(r:Int)<=90)\/(192<=(r:Int)/\(r:Int)<=222/\(r:Int)≠215)\/(913<=(r:Int)/\(r:Int)<=939/\(r:Int)≠930)\/(1040<=(r:Int)/\(r:Int)<=1071):=by clear hz hy;omega
   rw[if_pos h1,if_pos q0];rfl
  ·have q0:¬ ((65<=(r:Int)/\(r:Int)<=90)\/(192<=(r:Int)/\(r:Int)<=222/\(r:Int)≠215)\/(913<=(r:Int)/\(r:Int)<=939/\(r:Int)≠930)\/(1040<=(r:Int)/\(r:Int)<=1071)):=by clear hz hy;omega
   rw[if_neg h1,if_neg q0];by_cases h2:1024<=r/\r<=1039
   ·have p0:1024<=(r:Int)/\(r:Int)<=1039:=by clear hz hy;omega
    rw[if_pos h2,if_pos p0];rfl
   ·have p0:¬ (1024<=(r:Int)/\(r:Int)<=1039):=by clear hz hy;omega
    rw[if_neg h2,if_neg p0]
 rw[<-hz,<-hy];have g0:0<=z:=by omega
 have g1:z<=1114111:=by omega
 replace hz:=ZA hz;replace hy:=ZA hy;replace hr:=ZA hr;replace h0:=ZA h0;go_enter Tryz.func158,Tryz.ntmps158;go_wp2_with fail
 all_goals
  go_ret;refine⟨?_,Ext.refl w⟩;show Ending.returned (Value.int .i64 _)=_;refine congrArg (fun v=>Ending.returned (Value.int .i64 v)) ?_;rw[h0.out];clear h0 hy hz hr
  try simp only[bne_iff_ne,bne_eq_false_iff_eq,Bool.not_eq_true]at *
  first
   | rw[if_pos (by omega)]
   | (rw[if_neg (by omega),if_pos (by omega)])
   | (rw[if_neg (by omega),if_neg (by omega)])
theorem ZG2 (r:Nat) (w:World) (hr:r<=1114191):Calls Tryz.prog 101 #[.int .i64 (r:Int)] w fun e w'=>e = .returned (.bool (wordR r))/\Ext w w':=by
 obtain⟨z,hz⟩:∃z:Int,z=(r:Int):=⟨_,rfl⟩
 obtain⟨y,hy⟩:∃y,y=wordR r:=⟨_,rfl⟩
 have h0:y=decide ((48<=z/\z<=57)\/(65<=z/\z<=90)\/(97<=z/\z<=122)\/(192<=z/\z<=255/\z≠215/\z≠247)\/(913<=z/\z<=974/\z≠930)\/(1024<=z/\z<=1119)):=by
  rw[hy,hz];unfold wordR;rw[decide_eq_decide];omega
 rw[<-hz,<-hy];have g0:0<=z:=by omega
 have g1:z<=1114191:=by omega
 replace hz:=ZA hz;replace hy:=ZA hy;replace hr:=ZA hr;replace h0:=ZA h0;go_enter Tryz.func101,Tryz.ntmps101;go_wp2_with fail
 all_goals
  go_ret;refine⟨?_,Ext.refl w⟩;show Ending.returned (Value.bool _)=_;refine congrArg (fun v=>Ending.returned (Value.bool v)) ?_;rw[h0.out,Bool.eq_iff_iff];clear h0 hy hz hr
  try simp only[bne_iff_ne,bne_eq_false_iff_eq,Bool.not_eq_true]at *
  try simp only[Bool.or_eq_true,Bool.and_eq_true,decide_eq_true_eq,bne_iff_ne,Bool.true_eq,Bool.false_eq_true,true_iff,false_iff]
  first
   | omega
   | (simp;omega)
theorem ZLy (rs:List Nat) (A:Option Addr) (n c:Nat) (w:World) (hn:n=rs.length) (hc:Cells w A (rs.map NV)) (hr:∀r∈rs,r<=1114111) (p1:n<=1073741824) :
 Calls Tryz.prog 102 #[.slice A n c] w fun e w'=>e = .returned (.string ⟨(cutW [] rs).toArray⟩)/\Ext w w':=by
 have a0:=ZA (fun r W h=>ZJY r W h);have y0:=ZA (fun r A n c W h1 h2 h3 h4=>ZG9 [r] A n c W h1 h2 h3 h4);obtain⟨Z,hZ⟩:∃Z,Z=cutW [] rs:=⟨_,rfl⟩
 rw[<-hZ];replace hr:=ZA hr;replace hc:=ZA hc;replace hn:=ZA hn;replace hZ:=ZA hZ;go_enter Tryz.func102,Tryz.ntmps102;go_wp2_with fail
 go_loopw [3,4] (fun s3 s4 wr=>∃(i:Nat) (s:List UInt8),s3 = .string ⟨s.toArray⟩/\s4 = .int .i64 (i:Int)/\i<=n/\Hid (Z=cutW s (rs.drop i))/\Hid (s.length<=32)/\Hid (Ext w wr)) (fun _ s4 _=>n - (intOf s4).toNat)
 case atStart=>exact⟨0,[],rfl,rfl,by omega,ZA (by rw[hZ.out];rfl),ZA (by simp),ZA (Ext.refl w)⟩
 case round =>
  obtain⟨i,s,rfl,rfl,hi,d0,m0,hE⟩:=hrel;by_cases h:i<n
  ·obtain⟨r,p0⟩:∃r,rs[i]? = some r:=⟨_,List.getElem?_eq_getElem (by rw[<-hn.out];exact h)⟩
   obtain⟨g,o,hA,u0⟩:=hc.out.at_ (by rw[List.length_map,<-hn.out];omega);subst hA;have r0:=hE.out.cell (u0 i (NV r) (by rw[List.getElem?_map,p0];rfl));unfold NV at r0;have t0:=hr.out r (List.mem_of_getElem? p0);have x0:rs.drop i=r::rs.drop (i+1):=by
    rw[List.drop_eq_getElem_cons (List.getElem?_eq_some_iff.1 p0).1];congr 1;exact(List.getElem?_eq_some_iff.1 p0).2
   have f0:=ZA (fun W=>a0.out r W t0);have b0:=ZFp t0;obtain⟨t,ht⟩:∃t,t=encR (lowerR r):=⟨_,rfl⟩
   have w0:t.length<=4:=by rw[ht];exact(ZC2 _).2
   have z0:=ZA (fun hh=>ZKA (s:=s) (r:=r) (rs:=rs.drop (i+1)) hh);have q0:=ZA (fun hh=>ZIH (s:=s) (r:=r) (rs:=rs.drop (i+1)) hh);rw[<-ht,<-x0,<-d0.out]at z0 q0;obtain⟨y,hy⟩:∃y,y=lowerR r:=⟨_,rfl⟩
   rw[<-hy]at ht f0 b0;have e0:=ZA (fun A W hh=>y0.out y A 1 1 W rfl hh (by simp;omega) (by omega));rw[ZHv,<-ht]at e0;obtain⟨tn,j0⟩:∃tn,tn=t.length:=⟨_,rfl⟩
   have q1:(⟨t.toArray⟩:ByteArray).size=tn:=by rw[j0];exact ByteArray.size_mk_toArray t
   obtain⟨sn,k0⟩:∃sn,sn=s.length:=⟨_,rfl⟩
   rw[<-k0,<-j0]at z0 q0;rw[<-j0]at w0;rw[<-k0]at m0;have i0:=m0.out;have s0:(⟨s.toArray⟩:ByteArray).size=sn:=by rw[k0];exact ByteArray.size_mk_toArray s
   have o0:((⟨s.toArray⟩:ByteArray)++⟨t.toArray⟩)=⟨(s++t).toArray⟩:=by
    apply ByteArray.ext;rw[ByteArray.data_append];simp
   replace u0:=ZA u0;replace p0:=ZA p0;replace t0:=ZA t0;replace x0:=ZA x0;replace hy:=ZA hy;replace ht:=ZA ht;replace j0:=ZA j0;replace k0:=ZA k0;replace b0:=ZA b0;go_wp2_with fail;refine(f0.out _).mono ?_;rintro e w2 ⟨rfl,l0⟩;go_wp2_with fail;refine(e0.out _ _ (.inr ⟨w2.heap.size,0,rfl,fun j u hu=>?_⟩)).mono ?_
   ·rw[Nat.zero_add,cell_of_row _ _ _ _ _ _ (heap_alloc_new w2 _)];simpa [NV]using hu
   rintro e w3 ⟨rfl,n0⟩;have g0:=ZA ((l0.alloc (.cells #[Value.int .i64 (y:Int)] 3)).trans n0);by_cases c0:32<sn+tn
   ·have h0:=ZA (q0.out c0);have v0:(32:Int)<(sn:Int)+(tn:Int):=by omega
    go_wp2_with fail;go_ret;exact⟨by rw[h0.out];rfl,hE.out.trans g0.out⟩
   ·have h0:=ZA (z0.out c0);have v0:¬ (32:Int)<(sn:Int)+(tn:Int):=by omega
    go_wp2_with fail;exact⟨⟨i+1,s++t,rfl,rfl,by omega,h0,ZA (by rw[List.length_append,<-k0.out,<-j0.out];omega),ZA (hE.out.trans g0.out)⟩,by simp only[intOf];omega⟩
  ·obtain rfl:i=n:=by omega
   have h0:Z=s:=by rw[d0.out,List.drop_eq_nil_of_le (by rw[<-hn.out];exact Nat.le_refl _),cutW]
   replace h0:=ZA h0;go_wp2_with fail;go_ret;exact⟨by rw[h0.out];rfl,hE.out⟩
theorem ZKb (l:List UInt8) (at_ r:Nat) (w:World) (hl:l.length<=1073741824) (hr:r<=16777216) (ha:at_<=1073741840):Calls Tryz.prog 213 #[.string ⟨l.toArray⟩,.int .i64 (at_:Int),.int .i64 (r:Int)] w fun e w'=>(match l[at_]? with
 | some b=>if contB b=true then e = .returned (.tuple #[.int .i64 ((r*64+b.toNat%64:Nat):Int),.bool true]) else e = .returned (.tuple #[.int .i64 0,.bool false])
 | none=>e = .returned (.tuple #[.int .i64 0,.bool false]))/\Ext w w':=by
 cases hb:l[at_]? with
 | none =>
  have g0:=List.getElem?_eq_none_iff.1 hb;have k0:(l.length:Int)<=(at_:Int):=by omega
  replace hb:=ZA hb;go_enter Tryz.func213,Tryz.ntmps213;go_wp2_with fail;go_ret2;exact⟨rfl,Ext.refl w⟩
 | some b =>
  have j0:=fun W=>ZO hb (z:=(at_:Int)) rfl W;have m0:=(List.getElem?_eq_some_iff.1 hb).1;have k0:¬ (l.length:Int)<=(at_:Int):=by omega
  have h0:contB b=true↔b.toNat / 64=2:=by unfold contB;exact beq_iff_eq
  have p0:=b.toNat_lt;obtain⟨x,hx⟩:∃x,x=b.toNat:=⟨_,rfl⟩
  rw[<-hx]at j0 h0 p0;simp only;rw[<-hx];replace hb:=ZA hb;replace hx:=ZA hx;by_cases h2:x / 64=2
  ·simp only[if_pos (h0.2 h2)];have q0:(x:Int) / 64=2:=by omega
   replace h0:=ZA h0;replace h2:=ZA h2;go_enter Tryz.func213,Tryz.ntmps213;go_wp2_with fail;go_ret2;refine⟨?_,Ext.refl w⟩;simp
  ·simp only[if_neg (fun h=>h2 (h0.1 h))];have q0:¬ (x:Int) / 64=2:=by omega
   replace h0:=ZA h0;replace h2:=ZA h2;go_enter Tryz.func213,Tryz.ntmps213;go_wp2_with fail;go_ret2;exact⟨rfl,Ext.refl w⟩
end
end Go.Proofs.YtkdcnhnaiknaaaaGreat
