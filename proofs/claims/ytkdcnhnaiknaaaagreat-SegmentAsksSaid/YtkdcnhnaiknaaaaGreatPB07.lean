/- Texts of one proof, joined. -/
import Derived.Test.YtkdcnhnaiknaaaaGreatPB06
import Derived.Test.YtkdcnhnaiknaaaaGreatPB01
import Derived.Maps.Keyed
import Derived.Maps.OwnOps
import Derived.Test.YtkdcnhnaiknaaaaGreatPB05
import Derived.Test.YtkdcnhnaiknaaaaGreatPB04
import Derived.StringKeys
import Derived.Test.YtkdcnhnaiknaaaaGreatPB03
import Derived.Test.YtkdcnhnaiknaaaaGreatPB02
import Derived.RegionTactic
import Derived.BigRegion
set_option linter.unusedSimpArgs false
set_option linter.unusedVariables false
set_option maxRecDepth 100000
set_option maxHeartbeats 16000000
namespace Go.Proofs.YtkdcnhnaiknaaaaGreat
section
open Go.RowKit
section
variable {β:Type}
def gsum (f:β->Nat) (r:List (List UInt8×List β)):Nat:=(r.map fun x=>(x.2.map f).sum).sum
theorem ZHr (f:β->Nat) (p:List UInt8×β):∀(l:List (List UInt8×List β)),gsum f (addG p l)=gsum f l+f p.2
 | []=>by simp[addG,gsum]
 | x::xs=>by
  have ih:=ZHr f p xs;unfold gsum at ih ⊢;unfold addG;split
  ·simp only[List.map_cons,List.sum_cons];omega
  ·split
   ·simp only[List.map_cons,List.sum_cons,List.map_append,List.sum_append,List.map_nil,List.sum_nil];omega
   ·simp only[List.map_cons,List.sum_cons,List.map_nil,List.sum_nil];omega
theorem ZF7 (f:β->Nat):∀(ps:List (List UInt8×β)) (l:List (List UInt8×List β)),gsum f (ps.foldl (fun l p=>addG p l) l)=gsum f l+(ps.map fun p=>f p.2).sum
 | [],l=>by simp
 | p::ps,l=>by
  rw[List.foldl_cons,ZF7 f ps,ZHr,List.map_cons,List.sum_cons];omega
theorem ZC4 (f:β->Nat) (ps:List (List UInt8×β)):gsum f (grp ps)=(ps.map fun p=>f p.2).sum:=by
 unfold grp;rw[ZF7];simp[gsum]
theorem ZFV (r:List (List UInt8×List β)):gsum (fun _=>1) r=(r.map fun x=>x.2.length).sum:=by
 unfold gsum;congr 1;refine List.map_congr_left fun x _=>?_
 induction x.2 with
 | nil=>rfl
 | cons y ys ih=>rw[List.map_cons,List.sum_cons,ih,List.length_cons];omega
theorem ZHT (ps:List β):(ps.map fun _=>1).sum=ps.length:=by
 induction ps with
 | nil=>rfl
 | cons y ys ih=>rw[List.map_cons,List.sum_cons,ih,List.length_cons];omega
end
theorem ZFL:∀(fs:List Fd) (b:Nat),(rawT b fs).length<=(putFs fs).length
 | [],b=>by simp[rawT]
 | f::fs,b=>by
  have h1:=ZFL fs (nextT b f);have h2:=ZA4 f.2;have h3:f.2.length<=(putF f).length:=by unfold putF txL;simp only[List.length_append];omega
  have h4:putFs (f::fs)=putF f++putFs fs:=rfl;unfold rawT;rw[h4,List.length_append,ZAf,List.length_append];omega
theorem ZJc (e:Ev):((termsL e).map fun p=>p.2.length).sum<=(putE e).length:=by
 unfold termsL;split
 ·have h1:=ZC4 (fun _=>1) (rawT 0 e.fs);rw[ZFV,ZHT]at h1;rw[h1];have h2:=ZFL e.fs 0;unfold putE;simp only[List.length_append];omega
 ·simp
theorem ZHn (e:Ev):(termsL e).length<=(putE e).length:=by
 unfold termsL;split
 ·have h1:=ZDH (rawT 0 e.fs);have h2:=ZFL e.fs 0;unfold putE;simp only[List.length_append];omega
 ·simp
theorem ZEP:∀(P:List Dc) (i:Nat) (lo:Int),((pairsD i P).map fun p=>p.2.2.length).sum<=(blockD lo P).length
 | [],i,lo=>by simp[pairsD]
 | d::t,i,lo=>by
  have h1:=ZEP t (i+1) d.1;have h2:=ZJc d.2;unfold pairsD blockD oneD;rw[List.map_append,List.sum_append,List.map_map];simp only[List.length_append];have h3:(((termsL d.2).map ((fun(p:List UInt8×Po)=>p.2.2.length)∘fun p=>(p.1,((i:Int),p.2))))).sum=((termsL d.2).map fun p=>p.2.length).sum:=rfl;omega
theorem ZEy:∀(P:List Dc) (i:Nat) (lo:Int),(pairsD i P).length<=(blockD lo P).length
 | [],i,lo=>by simp[pairsD]
 | d::t,i,lo=>by
  have h1:=ZEy t (i+1) d.1;have h2:=ZHn d.2;unfold pairsD blockD oneD;rw[List.length_append,List.length_map];simp only[List.length_append];omega
theorem ZLk {n:Int}:∀ {l:List Int} {lo:Int},l.Pairwise (fun a b=>a<b)->(∀x∈l,lo<x/\x<n)->risB n lo l=true
 | [],lo,_,_=>rfl
 | x::t,lo,hp,h=>by
  obtain⟨h1,h2⟩:=List.pairwise_cons.1 hp;have hx:=h x (List.mem_cons_self ..);unfold risB;rw[ZLk h2 fun y hy=>⟨h1 y hy,(h y (List.mem_cons_of_mem _ hy)).2⟩];simp[hx.1,hx.2]
theorem ZKg:∀(fs:List Fd) (b:Nat),(rawT b fs).Pairwise (fun x y=>x.2<y.2)/\∀x∈rawT b fs,(b:Int)<=x.2/\x.2<(baseT b fs:Nat)
 | [],b=>⟨List.Pairwise.nil,nofun⟩
 | f::fs,b=>by
  obtain⟨h1,h2⟩:=ZKg fs (nextT b f);have p0:nextT b f<=baseT (nextT b f) fs:=by
   have key:∀(fs:List Fd) (b:Nat),b<=baseT b fs:=fun fs=>by
    induction fs with
    | nil=>exact fun b=>Nat.le_refl _
    | cons g gs ih=>exact fun b=>Nat.le_trans (by unfold nextT;omega) (ih (nextT b g))
   exact key _ _
  have j0:nextT b f=b+(64+(tokL f.2).length):=rfl;have h0:∀x∈fieldT b f,(b:Int)<=x.2/\x.2<(b+(tokL f.2).length:Nat):=fun x hx=>by
   unfold fieldT at hx;obtain⟨p,hp,rfl⟩:=List.mem_map.1 hx;have:=List.mem_zipIdx hp;simp only;omega
  have q0:(fieldT b f).Pairwise (fun x y=>x.2<y.2):=by
   unfold fieldT;rw[List.pairwise_map];rw[List.pairwise_iff_getElem];intro i j hi hj k0;simp only[List.getElem_zipIdx];omega
  unfold rawT baseT;refine⟨List.pairwise_append.2 ⟨q0,h1,fun x hx y hy=>?_⟩,fun x hx=>?_⟩
  ·have a1:=h0 x hx;have a2:=h2 y hy;omega
  ·rcases List.mem_append.1 hx with hx | hx
   ·have a1:=h0 x hx;omega
   ·have a2:=h2 x hx;omega
theorem ZJH {e:Ev} {p:List UInt8×List Int} (h:p∈termsL e):risB 1048576 (-1) p.2=true:=by
 obtain⟨h0,h1,h2⟩:=ZBV h;obtain⟨r1,r2⟩:=ZKg e.fs 0;have hb:=ZCu (k:=4096) e.fs 0 fun f hf=>((Zd h0).2 f hf).2;have h5:=(Zd h0).1;rw[h1];unfold valsOf;refine ZLk ?_ fun x hx=>?_
 ·rw[List.pairwise_map];exact r1.sublist List.filter_sublist
 ·obtain⟨q,hq,rfl⟩:=List.mem_map.1 hx;have:=r2 q (List.mem_filter.1 hq).1;omega
theorem ZHx {β:Type} {s:List UInt8}:∀ {l:List (List UInt8×β)},Ris l->(valsOf l s).length<=1
 | [],_=>by simp[valsOf]
 | x::t,h=>by
  obtain⟨h1,h2⟩:=List.pairwise_cons.1 h;have ih:=ZHx (s:=s) h2;rw[ZHJ];split
  ·rename_i hx;rw[ZBG fun y hy e=>by
    have:=h1 y hy;rw[e,hx]at this;exact List.lt_irrefl _ this]
   simp
  ·simpa using ih
theorem ZCa (s:List UInt8):∀(P:List Dc) (i:Nat) (lo:Int),lo<i->i+P.length<=65536 ->
 risB 65536 lo ((valsOf (pairsD i P) s).map (·.1))=true/\∀x∈valsOf (pairsD i P) s,(decide (0<x.2.length)&&risB 1048576 (-1) x.2)=true
 | [],i,lo,_,_=>⟨rfl,nofun⟩
 | d::t,i,lo,h1,h2=>by
  rw[List.length_cons]at h2;unfold pairsD;rw[ZW,ZCZ (fun x:List Int=>((i:Int),x))];have hr:Ris (termsL d.2):=by
   unfold termsL;split
   ·exact(ZA6 _).up
   ·exact List.Pairwise.nil
  have q0:=ZHx (s:=s) hr;have h0:∀x∈valsOf (termsL d.2) s,(decide (0<x.length)&&risB 1048576 (-1) x)=true:=fun x hx=>by
   unfold valsOf at hx;obtain⟨p,hp,rfl⟩:=List.mem_map.1 hx;have hp:=(List.mem_filter.1 hp).1;rw[ZJH hp,Bool.and_true];exact decide_eq_true (List.length_pos_iff.2 (ZBV hp).2.2)
  cases hv:valsOf (termsL d.2) s with
  | nil =>
   have ih:=ZCa s t (i+1) lo (by omega) (by omega);simpa using ih
  | cons x xs =>
   rw[hv]at q0 h0;have p0:xs = []:=by
    cases xs with
    | nil=>rfl
    | cons y ys=>simp at q0
   subst p0;have ih:=ZCa s t (i+1) i (by omega) (by omega);refine⟨?_,fun y hy=>?_⟩
   ·show risB 65536 lo ((i:Int)::(valsOf (pairsD (i+1) t) s).map (·.1))=true;unfold risB;rw[ih.1];simp[h1];omega
   ·rcases List.mem_cons.1 hy with rfl | hy
    ·exact h0 x (List.mem_cons_self ..)
    ·exact ih.2 y hy
theorem ZNG {P:List Dc} (hP:P.length<=65536) {r:List UInt8×List Po} (hr:r∈rowsD P):okPs r.2=true/\r.2 ≠ []/\r.2=valsOf (pairsD 0 P) r.1:=by
 have h:=((ZA6 (pairsD 0 P)).mem r).1 hr;have hv:=ZCa r.1 P 0 (-1) (by omega) (by omega);rw[<-h.1]at hv;refine⟨?_,h.2,h.1⟩;unfold okPs;rw[hv.1,Bool.true_and];exact List.all_eq_true.2 hv.2
theorem ZEY:∀ {P:List Dc} {i:Nat} {q:List UInt8×Po},q∈pairsD i P->∃d∈P,∃p∈termsL d.2,p.1=q.1
 | [],i,q,h=>by cases h
 | d::t,i,q,h=>by
  unfold pairsD at h;rcases List.mem_append.1 h with h | h
  ·obtain⟨p,hp,rfl⟩:=List.mem_map.1 h;exact⟨d,List.mem_cons_self ..,p,hp,rfl⟩
  ·obtain⟨d',hd,r⟩:=ZEY h;exact⟨d',List.mem_cons_of_mem _ hd,r⟩
theorem ZCq {P:List Dc} {r:List UInt8×List Po} (hr:r∈rowsD P):1<=r.1.length/\r.1.length<=65:=by
 have h:=((ZA6 (pairsD 0 P)).mem r).1 hr;have h2:=h.2;rw[h.1]at h2;obtain⟨q,hq,q0⟩:=ZDd h2;obtain⟨d,_,p,hp,h0⟩:=ZEY hq;have:=ZCJ hp;rw[h0,q0]at this;exact this
theorem ZNn (P:List Dc):Ris (rowsD P):=(ZA6 (pairsD 0 P)).up
theorem ZFn:∀(l:List Int) (lo:Int),-1<=lo->risB 1048576 lo l=true->(stepsL lo l).length<=10*l.length
 | [],lo,_,_=>by simp[stepsL]
 | n::t,lo,h0,h=>by
  obtain⟨h1,h2,h3⟩:=ZAS h;have ih:=ZFn t n (by omega) h3;have hv:=ZD (n:=(n - lo - 1).toNat) (by omega);unfold stepsL;rw[List.length_append,List.length_cons];omega
theorem ZEG:∀(L:List Po) (lo:Int),-1<=lo->risB 65536 lo (L.map (·.1))=true->(∀x∈L,(decide (0<x.2.length)&&risB 1048576 (-1) x.2)=true)->(blockPo lo L).length<=20*L.length+10*(L.map fun x=>x.2.length).sum
 | [],lo,_,_,_=>by simp[blockPo]
 | p::t,lo,h0,h,ha=>by
  rw[List.map_cons]at h;obtain⟨h1,h2,h3⟩:=ZAS h;have hp:=ha p (List.mem_cons_self ..);rw[Bool.and_eq_true]at hp;have ih:=ZEG t p.1 (by omega) h3 fun x hx=>ha x (List.mem_cons_of_mem _ hx);have hs:=ZFn p.2 (-1) (by omega) hp.2;have hl:=ZCH hp.2 (by omega);have q0:=ZD (n:=(p.1 - lo - 1).toNat) (by omega);have p0:=ZD (n:=p.2.length) (by omega);unfold blockPo onePo;simp only[List.length_append,List.length_cons,List.map_cons,List.sum_cons];omega
theorem ZE1 {L:List Po} (h:okPs L=true):(blockPo (-1) L).length<=20*L.length+10*(L.map fun x=>x.2.length).sum:=by
 unfold okPs at h;rw[Bool.and_eq_true]at h;exact ZEG L (-1) (by omega) h.1 (List.all_eq_true.1 h.2)
theorem ZIa {L:List Po} (h:okPs L=true) (hs:20*L.length+10*(L.map fun x=>x.2.length).sum<=50000000):(encPs L).length<=10+40*L.length+10*(L.map fun x=>x.2.length).sum:=by
 have h1:=ZE1 h;have h2:=ZDD h (by omega) (chunkL 32 L).length;rw[List.take_length]at h2;have h3:=ZZ (k:=32) (by omega) L;have h4:=ZD (n:=L.length) (by omega);unfold encPs;simp only[List.length_append];omega
end
section
open Go.RowKit
theorem ZDt {α:Type} {f g:α->Nat}:∀(l:List α),(∀x∈l,f x<=g x)->(l.map f).sum<=(l.map g).sum
 | [],_=>Nat.le_refl _
 | x::t,h=>by
  have h1:=h x (List.mem_cons_self ..);have h2:=ZDt t fun y hy=>h y (List.mem_cons_of_mem _ hy);simp only[List.map_cons,List.sum_cons];omega
theorem ZBR {α:Type} {f:α->Nat}:∀ {l:List α} {x:α},x∈l->f x<=(l.map f).sum
 | y::t,x,h=>by
  rw[List.map_cons,List.sum_cons];rcases List.mem_cons.1 h with rfl | h
  ·omega
  ·have:=ZBR (f:=f) h;omega
theorem ZKk {α:Type} (f g:α->Nat) (a b c:Nat):∀(l:List α),(l.map fun x=>a+b*f x+c*g x).sum=a*l.length+b*(l.map f).sum+c*(l.map g).sum
 | []=>by simp
 | x::t=>by
  have ih:=ZKk f g a b c t;simp only[List.map_cons,List.sum_cons,List.length_cons,Nat.mul_add];omega
theorem ZKF (rs:List (List UInt8×List Po)):(postB rs).length=(rs.map fun r=>(encPs r.2).length).sum:=by
 unfold postB
 induction rs with
 | nil=>rfl
 | cons r t ih=>rw[List.flatMap_cons,List.length_append,ih,List.map_cons,List.sum_cons]
theorem ZA5:∀(rs:List (List UInt8×List Po)) (o:Nat),(enOf o rs).length=rs.length
 | [],o=>rfl
 | r::t,o=>by
  unfold enOf;rw[List.length_cons,ZA5 t,List.length_cons]
theorem ZFg:∀(rs:List (List UInt8×List Po)) (o:Nat) (e:En),e∈enOf o rs->∃r∈rs,e.t=r.1/\o<=e.off/\e.off+e.len<=o+(postB rs).length/\e.len=(encPs r.2).length/\e.n=r.2.length
 | [],o,e,h=>by cases h
 | r::t,o,e,h=>by
  unfold enOf at h;have hp:(postB (r::t)).length=(encPs r.2).length+(postB t).length:=by unfold postB;rw[List.flatMap_cons,List.length_append]
  rcases List.mem_cons.1 h with rfl | h
  ·exact⟨r,List.mem_cons_self ..,rfl,Nat.le_refl _,by simp only[hp];omega,rfl,rfl⟩
  ·obtain⟨r',h0,h1,h2,h3,h4,h5⟩:=ZFg t _ e h;exact⟨r',List.mem_cons_of_mem _ h0,h1,by omega,by rw[hp];omega,h4,h5⟩
theorem ZLc:∀(rs:List (List UInt8×List Po)) (o:Nat),Ris rs->(enOf o rs).Pairwise fun a b=>a.t<b.t
 | [],o,_=>List.Pairwise.nil
 | r::t,o,h=>by
  obtain⟨h1,h2⟩:=List.pairwise_cons.1 h;unfold enOf;refine List.pairwise_cons.2 ⟨fun e he=>?_,ZLc t _ h2⟩;obtain⟨r',h0,h3,_⟩:=ZFg t _ e he;rw[h3];exact h1 r' h0
structure SmP (P:List Dc):Prop where
  ok:okDs P=true
  sz:(blockD 0 P).length<=70000
structure SegB (P:List Dc):Prop where
  n:P.length<=65536
  pairs:(pairsD 0 P).length<=70000
  rows:(rowsD P).length<=70000
  each:∀r∈rowsD P,okPs r.2=true/\r.2 ≠ []/\r.2.length<=70000/\(blockPo (-1) r.2).length<=50000000/\(encPs r.2).length<=5000000
  posts:(postB (rowsD P)).length<=5000000
  ens:OkEs (enOf 0 (rowsD P))
  dic:(encEs (enOf 0 (rowsD P))).length<=16777216
  docs:(encDs P).length<=16777216
  times:(timesD 0 P).length<=16777216
  bits:8<=(ofB ((rowsD P).map (·.1))).length/\(ofB ((rowsD P).map (·.1))).length<=131072
theorem SmP.seg {P:List Dc} (h:SmP P):SegB P:=by
 have q0:=h.ok;have y0:=h.sz;have hn:P.length<=65536:=by
  unfold okDs at q0;rw[Bool.and_eq_true]at q0;exact of_decide_eq_true q0.1
 have t0:=ZEy P 0 0;have v0:=ZEP P 0 0;have x0:(rowsD P).length<=(pairsD 0 P).length:=ZDH _;have k0:=ZC4 (fun _=>1) (pairsD 0 P);rw[ZFV,ZHT]at k0;have j0:=ZC4 (fun x:Po=>x.2.length) (pairsD 0 P);unfold gsum at j0;have m0:grp (pairsD 0 P)=rowsD P:=rfl;rw[m0]at k0 j0;have p0:∀r∈rowsD P,okPs r.2=true/\r.2 ≠ []/\r.2.length<=70000/\(r.2.map fun x=>x.2.length).sum<=70000:=fun r hr=>by
  have h1:=ZNG hn hr;have h2:=ZBR (f:=fun x:List UInt8×List Po=>x.2.length) hr;have h3:=ZBR (f:=fun x:List UInt8×List Po=>(x.2.map fun(y:Po)=>y.2.length).sum) hr;exact⟨h1.1,h1.2.1,by omega,by omega⟩
 have g0:(postB (rowsD P)).length<=5000000:=by
  rw[ZKF];refine Nat.le_trans (ZDt (g:=fun r:List UInt8×List Po=>10+40*r.2.length+10*(r.2.map fun(x:Po)=>x.2.length).sum) _ fun r hr=>?_) ?_
  ·have:=p0 r hr;exact ZIa this.1 (by omega)
  ·rw[ZKk (fun r:List UInt8×List Po=>r.2.length) (fun r:List UInt8×List Po=>(r.2.map fun(x:Po)=>x.2.length).sum)];omega
 have h0:∀e∈enOf 0 (rowsD P),okEn e/\e.t ≠ []:=fun e he=>by
  obtain⟨r,hr,h1,h2,h3,h4,h5⟩:=ZFg _ _ e he;have hk:=ZCq hr;have u0:=p0 r hr;refine⟨⟨by rw[h1];exact hk.2,by omega,by omega,by omega⟩,fun e0=>?_⟩;rw[h1]at e0;rw[e0]at hk;simp at hk
 refine⟨hn,by omega,by omega,fun r hr=>?_,g0,⟨by rw[ZA5];omega,h0,ZLc _ _ (ZNn P)⟩,?_,?_,?_,?_⟩
 ·have h1:=p0 r hr;have h2:=ZE1 h1.1;have h3:=ZIa h1.1 (by omega);exact⟨h1.1,h1.2.1,h1.2.2.1,by omega,by omega⟩
 ·have h1:=ZCR (cs:=chunkL 16 (enOf 0 (rowsD P))) fun c hc=>⟨fun e he=>(h0 e (ZEx (by omega) hc e he)).1,(ZDh (by omega) hc).2⟩
  have h2:=ZZ (k:=16) (by omega) (enOf 0 (rowsD P));rw[ZA5]at h2;have h3:=ZD (n:=(enOf 0 (rowsD P)).length) (by rw[ZA5];omega);unfold encEs;rw[List.length_append];omega
 ·have h1:=ZFM q0 (by omega) (chunkL 16 P).length;rw[List.take_length]at h1;have h2:=ZZ (k:=16) (by omega) P;have h3:=ZD (n:=P.length) (by omega);unfold encDs;simp only[List.length_append];omega
 ·have:=ZBb P 0;omega
 ·rw[ZNu];exact ZDU _
def fewE (e:Ev):Ev:=⟨e.at_,(e.fs.take 8).map fun f=>(f.1,f.2.take 300)⟩
def fewD (P:List Dc):List Dc:=(P.take 40).map fun d=>(d.1,fewE d.2)
structure Few8 (P:List Dc):Prop where
  n:P.length<=25
  each:∀d∈P,I64ok' d.2.at_/\d.2.fs.length<=8/\∀f∈d.2.fs,f.2.length<=300
theorem ZNP {P:List Dc} (h:∀d∈P,I64ok' d.2.at_):Few8 (fewD (P.take 25)):=by
 refine⟨?_,fun d hd=>?_⟩
 ·unfold fewD;simp only[List.length_map,List.length_take];omega
 ·unfold fewD at hd;obtain⟨x,hx,rfl⟩:=List.mem_map.1 hd;refine⟨h x (List.mem_of_mem_take (List.mem_of_mem_take hx)),?_,fun f hf=>?_⟩
  ·unfold fewE;simp only[List.length_map,List.length_take];omega
  ·unfold fewE at hf;obtain⟨g,_,rfl⟩:=List.mem_map.1 hf;simp only[List.length_take];omega
theorem ZFq:∀ {fs:List Fd},(∀f∈fs,f.1.length<=32/\f.2.length<=300)->(putFs fs).length<=335*fs.length
 | [],_=>by simp[putFs]
 | f::fs,h=>by
  have h1:=ZFq (fs:=fs) fun x hx=>h x (List.mem_cons_of_mem _ hx);have hf:=h f (List.mem_cons_self ..);have h2:=ZES 1 f.1.length (by omega);have h3:=ZES 2 f.2.length (by omega);have h4:(putFs (f::fs)).length=(txL f.1).length+(txL f.2).length+(putFs fs).length:=by unfold putFs;rw[List.flatMap_cons,List.length_append];unfold putF;rw[List.length_append]
  unfold txL at h4;rw[List.length_append,List.length_append]at h4;rw[h4,List.length_cons];omega
theorem ZFv:∀(P:List Dc) (lo:Int),0<=lo->risB 1099511627777 lo (P.map (·.1))=true->P.all okD=true->(∀d∈P,I64ok' d.2.at_/\d.2.fs.length<=8/\∀f∈d.2.fs,f.2.length<=300)->(blockD lo P).length<=2701*P.length
 | [],_,_,_,_,_=>by simp[blockD]
 | d::t,lo,h0,hr,hk,h=>by
  rw[List.map_cons,risB,Bool.and_eq_true,Bool.and_eq_true]at hr;obtain⟨⟨q0,p0⟩,j0⟩:=hr;have q0:=of_decide_eq_true q0;have p0:=of_decide_eq_true p0;rw[List.all_cons,Bool.and_eq_true]at hk;have ih:=ZFv t d.1 (by omega) j0 hk.2 fun x hx=>h x (List.mem_cons_of_mem _ hx);obtain⟨ha,hn,hf⟩:=h d (List.mem_cons_self ..);have hc:=of_decide_eq_true hk.1;obtain⟨_,k0⟩:=Zd hc;have h1:=ZFq (fs:=d.2.fs) fun f hm=>⟨(k0 f hm).1,hf f hm⟩
  have h2:=ZAt (ZBB ha.1 ha.2);have h3:=ZES 1 d.2.fs.length (by omega);have h4:=ZAt (n:=(d.1 - lo - 1).toNat) (by omega);rw[blockD,List.length_append,List.length_cons];unfold oneD putE;simp only[List.length_append];omega
theorem Few8.sm {P:List Dc} (h:Few8 P) (hk:okDs P=true):SmP P:=by
 refine⟨hk,?_⟩;unfold okDs at hk;rw[Bool.and_eq_true,Bool.and_eq_true]at hk;have h1:=ZFv P 0 (by omega) hk.2.1 hk.2.2 h.each;have:=h.n;omega
end
section
open Go.RowKit Go.Maps
open Go
structure MapL (P:Program) (k:TypeId) (w:World) (m:Nat) (L:List (Value×Value)):Prop where
  ex:∃es clock,w.heap[m]? = some (.map es clock)/\es.toList.map (fun e=>(e.key,e.val))=L/\es.toList.Pairwise (fun a b=>a.born≠b.born)/\∀e∈es.toList,e.born<clock
  keys:∀p∈L,∃l,keyOf P k p.1=some l
  nodup:(L.map Prod.fst).Nodup
section
variable {P:Program} {k:TypeId} {w w1:World} {m:Nat} {L:List (Value×Value)}
theorem MapL.keep (h:MapL P k w m L) (hb:w1.heap[m]? = w.heap[m]?):MapL P k w1 m L:=by
 obtain⟨⟨es,cl,h1,h2⟩,h3,h4⟩:=h;exact⟨⟨es,cl,hb.trans h1,h2⟩,h3,h4⟩
theorem MapL.lt (h:MapL P k w m L):m<w.heap.size:=by
 obtain⟨⟨es,cl,h1,_⟩,_⟩:=h;exact(Array.getElem?_eq_some_iff.1 h1).1
theorem MapL.ext (h:MapL P k w m L) (he:Ext w w1):MapL P k w1 m L:=h.keep (Below.block he m h.lt)
theorem MapL.grown {row:Option Nat} (h:MapL P k w m L) (hg:w.grownBy w1 row) (h0:row≠some m):MapL P k w1 m L:=h.keep (hg.block m h.lt (fun e=>h0 e.symm))
theorem MapL.drew (h:MapL P k w m L):MapL P k w.drew m L:=h.keep rfl
theorem MapL.alloc (h:MapL P k w m L) (o:Obj):MapL P k (w.alloc o) m L:=h.keep (Below.heap_alloc w o m h.lt)
theorem MapL.made (w:World):MapL P k (w.alloc (.map #[] 0)) w.heap.size [] :=
 ⟨⟨#[],0,heap_alloc_new w _,rfl,List.Pairwise.nil,by simp⟩,by simp,by simp⟩
theorem MapL.unique {x u v:Value} (h:MapL P k w m L) (hu:(x,u)∈L) (hv:(x,v)∈L):u=v:=by
 have hn:=h.nodup;clear h
 induction L with
 | nil=>cases hu
 | cons p L ih =>
  simp only[List.map_cons,List.nodup_cons]at hn;rcases List.mem_cons.1 hu with h1 | h1 <;> rcases List.mem_cons.1 hv with h2 | h2
  ·rw[<-h1]at h2;exact(Prod.mk.inj h2).2.symm
  ·exfalso;apply hn.1;rw[<-h1];exact List.mem_map.2 ⟨_,h2,rfl⟩
  ·exfalso;apply hn.1;rw[<-h2];exact List.mem_map.2 ⟨_,h1,rfl⟩
  ·exact ih h1 h2 hn.2
theorem MapL.find (h:MapL P k w m L) (K:Keyed P k) {x:Value} {l:Lit} (hx:keyOf P k x=some l) {es:Array MapEntry} {cl:Nat} (hb:w.heap[m]? = some (.map es cl)) (W:World) :
 ((Instr.findKey k x es.toList).run P W = .ok none W/\∀p∈L,p.1≠x) \/
 ∃j e,(Instr.findKey k x es.toList).run P W = .ok (some (j,e.val)) W/\es[j]? = some e/\e.key=x/\(x,e.val)∈L:=by
 obtain⟨⟨es',cl',h1,h2,_⟩,h3,_⟩:=h;rw[hb]at h1;cases h1;have hk:∀e∈es.toList,∃l,keyOf P k e.key=some l:=fun e he=>h3 (e.key,e.val) (by rw[<-h2];exact List.mem_map.2 ⟨e,he,rfl⟩);rcases K.find W hx es.toList hk with ⟨hr,h0⟩ | ⟨j,e,hr,hj,he⟩
 ·refine .inl ⟨hr,fun p hp=>?_⟩;rw[<-h2]at hp;obtain⟨e,he,rfl⟩:=List.mem_map.1 hp;exact h0 e he
 ·refine .inr ⟨j,e,hr,by simpa using hj,he,?_⟩;rw[<-h2];exact List.mem_map.2 ⟨e,List.mem_of_getElem? hj,by rw[he]⟩
theorem MapL.look (h:MapL P k w m L) (K:Keyed P k) {t E:TypeId} (ht:P.underlying t=some (.map k E)) {x z:Value} {l:Lit} (hx:keyOf P k x=some l) (hz:(zeroValue E).run P w = .ok z w) (ok:Bool) :
 (∃v,(x,v)∈L/\(Instr.lookup t (.map (some m)) x ok).run P w = .ok (if ok then .tuple #[v,.bool true] else v) w) \/
 ((∀p∈L,p.1≠x)/\(Instr.lookup t (.map (some m)) x ok).run P w = .ok (if ok then .tuple #[z,.bool false] else z) w):=by
 obtain⟨es,cl,hb,_⟩:=h.ex;have hg:(getObj m).run P w = .ok (.map es cl) w:=by simp[getObj,Sem.run,hb]
 rcases h.find K hx hb w with ⟨hr,h0⟩ | ⟨j,e,hr,hj,he,hm⟩
 ·refine .inr ⟨h0,?_⟩;simp only[Instr.lookup,Sem.run_bind,run_underlying ht,Result.andThen_ok,hg,Sem.run_pure,K.check w es.isEmpty hx,hr,hz]
 ·refine .inl ⟨e.val,hm,?_⟩;simp only[Instr.lookup,Sem.run_bind,run_underlying ht,Result.andThen_ok,hg,Sem.run_pure,K.check w es.isEmpty hx,hr]
structure Put (L:List (Value×Value)) (x v:Value) (L':List (Value×Value)):Prop where
  mem:∀p,p∈L'↔p=(x,v)\/(p∈L/\p.1≠x)
  len:(∃u,(x,u)∈L)/\L'.length=L.length\/(∀p∈L,p.1≠x)/\L'.length=L.length+1
theorem ZAg {es:Array MapEntry} {cl:Nat} (hb:w.heap[m]? = some (.map es cl)) (o:Obj):(setObj m o).run P w = .ok () { w with heap:=w.heap.setIfInBounds m o }:=by
 simp[setObj,Sem.run,hb]
theorem Z8 {o:Obj} (h0:m<w.heap.size):({ w with heap:=w.heap.setIfInBounds m o }:World).heap[m]? = some o:=by
 simp[h0]
theorem Zz (o : Obj) : w.grownBy { w with heap := w.heap.setIfInBounds m o } (some m) :=
  ⟨rfl, rfl, rfl, by simp, fun i _ hi => by
    have : m ≠ i := fun e => hi (by rw [e])
    simp [Array.getElem?_setIfInBounds_ne this]⟩
theorem ZAs {es:Array MapEntry} {j:Nat} {e0:MapEntry} (hj:es[j]? = some e0) (f:MapEntry->MapEntry) (e:MapEntry) :
 e∈(es.modify j f).toList↔e=f e0\/∃i,i≠j/\es[i]? = some e:=by
 have h0:j<es.size:=(Array.getElem?_eq_some_iff.1 hj).1;constructor
 ·intro h;obtain⟨i,hi⟩:=List.mem_iff_getElem?.1 h;rw[Array.getElem?_toList,Array.getElem?_modify]at hi;split at hi
  ·rename_i he;subst he;rw[hj]at hi;exact .inl (Option.some.inj hi).symm
  ·rename_i he;exact .inr ⟨i,fun h=>he h.symm,hi⟩
 ·rintro(rfl | ⟨i,hi,he⟩)
  ·refine List.mem_iff_getElem?.2 ⟨j,?_⟩;rw[Array.getElem?_toList,Array.getElem?_modify,if_pos rfl,hj];rfl
  ·refine List.mem_iff_getElem?.2 ⟨i,?_⟩;rw[Array.getElem?_toList,Array.getElem?_modify,if_neg (fun h=>hi h.symm)];exact he
theorem ZEJ {es:Array MapEntry} {j:Nat} {β:Type} (f:MapEntry->MapEntry) (g:MapEntry->β) (hg:∀e,es[j]? = some e->g (f e)=g e):(es.modify j f).toList.map g=es.toList.map g:=by
 refine List.ext_getElem? fun i=>?_;rw[List.getElem?_map,List.getElem?_map,Array.getElem?_toList,Array.getElem?_toList,Array.getElem?_modify];split
 ·rename_i h;subst h;cases he:es[j]? with
  | none=>rfl
  | some e=>simp[hg e he]
 ·rfl
theorem ZIW {es:Array MapEntry} (hn:(es.toList.map (·.key)).Nodup) {i j:Nat} {a b:MapEntry} (hi:es[i]? = some a) (hj:es[j]? = some b) (hk:a.key=b.key):i=j:=by
 have h1:(es.toList.map (·.key))[i]? = some a.key:=by simp[hi]
 have h2:(es.toList.map (·.key))[j]? = some b.key:=by simp[hj]
 have h0:i<(es.toList.map (·.key)).length:=(List.getElem?_eq_some_iff.1 h1).1;exact(List.getElem?_inj h0 hn).1 (by rw[h1,h2,hk])
theorem ZLZ {es:Array MapEntry} (hn:es.toList.Pairwise (fun a b=>a.born≠b.born)) {i j:Nat} {a b:MapEntry} (hi:es[i]? = some a) (hj:es[j]? = some b) (hk:a.born=b.born):i=j:=by
 have q0:(es.toList.map (·.born)).Nodup:=by rw[List.nodup_iff_pairwise_ne,List.pairwise_map];exact hn
 have h1:(es.toList.map (·.born))[i]? = some a.born:=by simp[hi]
 have h2:(es.toList.map (·.born))[j]? = some b.born:=by simp[hj]
 have h0:i<(es.toList.map (·.born)).length:=(List.getElem?_eq_some_iff.1 h1).1;exact(List.getElem?_inj h0 q0).1 (by rw[h1,h2,hk])
theorem MapL.modify (h:MapL P k w m L) {es:Array MapEntry} {cl:Nat} (hb:w.heap[m]? = some (.map es cl)) {j:Nat} {e0:MapEntry} (hj:es[j]? = some e0) (v:Value) {f:MapEntry->MapEntry}
 (q0:(f e0).key=e0.key) (p0:(f e0).val=v) (k0:(f e0).born=e0.born) (hw:w1.heap[m]? = some (.map (es.modify j f) cl)):∃L',MapL P k w1 m L'/\Put L e0.key v L':=by
 obtain⟨⟨es',cl',h1,h2,h4,h5⟩,h3,h6⟩:=h;rw[hb]at h1;cases h1;have h0:(es.toList.map (·.key)).Nodup:=by
  rw[<-h2,List.map_map]at h6;exact h6
 refine⟨(es.modify j f).toList.map (fun e=>(e.key,e.val)),⟨⟨es.modify j f,cl,hw,rfl,?_,fun e he=>?_⟩,fun p hp=>?_,?_⟩,fun p=>?_,.inl ⟨⟨e0.val,?_⟩,?_⟩⟩
 ·have g0:(es.modify j f).toList.map (·.born)=es.toList.map (·.born):=ZEJ f (·.born) (fun e he=>by rw[hj]at he;cases he;exact k0);have hn:(es.toList.map (·.born)).Nodup:=by rw[List.nodup_iff_pairwise_ne,List.pairwise_map];exact h4
  rw[<-g0,List.nodup_iff_pairwise_ne,List.pairwise_map]at hn;exact hn
 ·rcases (ZAs hj f e).1 he with rfl | ⟨i,_,hi⟩
  ·rw[k0];exact h5 e0 (by simpa using Array.mem_of_getElem? hj)
  ·exact h5 e (by simpa using Array.mem_of_getElem? hi)
 ·obtain⟨e,he,rfl⟩:=List.mem_map.1 hp;rcases (ZAs hj f e).1 he with rfl | ⟨i,_,hi⟩
  ·rw[q0];exact h3 (e0.key,e0.val) (by rw[<-h2];exact List.mem_map.2 ⟨e0,by simpa using Array.mem_of_getElem? hj,rfl⟩)
  ·exact h3 (e.key,e.val) (by rw[<-h2];exact List.mem_map.2 ⟨e,by simpa using Array.mem_of_getElem? hi,rfl⟩)
 ·rw[List.map_map];have:(es.modify j f).toList.map (Prod.fst∘fun e=>(e.key,e.val))=es.toList.map (·.key):=ZEJ f _ (fun e he=>by rw[hj]at he;cases he;exact q0);rw[this];exact h0
 ·constructor
  ·intro hp;obtain⟨e,he,rfl⟩:=List.mem_map.1 hp;rcases (ZAs hj f e).1 he with rfl | ⟨i,hi,j0⟩
   ·exact .inl (by rw[q0,p0])
   ·refine .inr ⟨by rw[<-h2];exact List.mem_map.2 ⟨e,by simpa using Array.mem_of_getElem? j0,rfl⟩,fun hk=>hi (ZIW h0 j0 hj hk)⟩
  ·rintro(rfl | ⟨hp,t0⟩)
   ·exact List.mem_map.2 ⟨f e0,(ZAs hj f _).2 (.inl rfl),by rw[q0,p0]⟩
   ·rw[<-h2]at hp;obtain⟨e,he,rfl⟩:=List.mem_map.1 hp;obtain⟨i,hi⟩:=List.mem_iff_getElem?.1 he;rw[Array.getElem?_toList]at hi;exact List.mem_map.2 ⟨e,(ZAs hj f e).2 (.inr ⟨i,fun m0=>t0 (by subst m0;rw[hj]at hi;cases hi;rfl),hi⟩),rfl⟩
 ·rw[<-h2];exact List.mem_map.2 ⟨e0,by simpa using Array.mem_of_getElem? hj,rfl⟩
 ·rw[<-h2];simp
theorem MapL.push (h:MapL P k w m L) {es:Array MapEntry} {cl:Nat} (hb:w.heap[m]? = some (.map es cl)) {x v:Value} {l:Lit} (hx:keyOf P k x=some l) (q0:∀p∈L,p.1≠x)
 (hw:w1.heap[m]? = some (.map (es.push { key:=x,val:=v,born:=cl }) (cl+1))):∃L',MapL P k w1 m L'/\Put L x v L':=by
 obtain⟨⟨es',cl',h1,h2,h4,h5⟩,h3,h6⟩:=h;rw[hb]at h1;cases h1;refine⟨L ++ [(x,v)],⟨⟨_,_,hw,by simp[h2],?_,fun e he=>?_⟩,fun p hp=>?_,?_⟩,fun p=>?_,.inr ⟨q0,by simp⟩⟩
 ·simp only[Array.toList_push];rw[List.pairwise_append];exact⟨h4,List.pairwise_singleton ..,fun a ha b h0=>by
   obtain rfl:=List.mem_singleton.1 h0;have:=h5 a ha;simp only;omega⟩
 ·simp only[Array.toList_push]at he;rcases List.mem_append.1 he with he | he
  ·have:=h5 e he;omega
  ·obtain rfl:=List.mem_singleton.1 he;simp only;omega
 ·rcases List.mem_append.1 hp with hp | hp
  ·exact h3 p hp
  ·obtain rfl:=List.mem_singleton.1 hp;exact⟨l,hx⟩
 ·rw[List.map_append,List.nodup_append];refine⟨h6,by simp,fun a ha b h0=>?_⟩;simp at h0;obtain⟨p,hp,rfl⟩:=List.mem_map.1 ha;rw[h0];exact q0 p hp
 ·constructor
  ·intro hp;rcases List.mem_append.1 hp with hp | hp
   ·exact .inr ⟨hp,q0 p hp⟩
   ·exact .inl (List.mem_singleton.1 hp)
  ·rintro(rfl | ⟨hp,_⟩)
   ·simp
   ·exact List.mem_append_left _ hp
theorem MapL.update (h:MapL P k w m L) (K:Keyed P k) {t E:TypeId} (ht:P.underlying t=some (.map k E)) {x:Value} {l:Lit} (hx:keyOf P k x=some l) (v:Value) :
 ∃w' L',(Instr.mapUpdate t (.map (some m)) x v).run P w = .ok () w'/\MapL P k w' m L'/\Put L x v L'/\w.grownBy w' (some m)/\w'.heap.size=w.heap.size:=by
 obtain⟨es,cl,hb,_⟩:=h.ex;have hg:(getObj m).run P w = .ok (.map es cl) w:=by simp[getObj,Sem.run,hb]
 rcases h.find K hx hb w with ⟨hr,h0⟩ | ⟨j,e,hr,hj,he,hm⟩
 ·obtain⟨L',h1,h2⟩:=h.push (w1:= { w with heap:=w.heap.setIfInBounds m (.map (es.push { key:=x,val:=v,born:=cl }) (cl+1)) }) hb hx h0 (Z8 h.lt);refine⟨_,L',?_,h1,h2,Zz _,by simp⟩;simp only[Instr.mapUpdate,Sem.run_bind,run_underlying ht,Result.andThen_ok,hg,K.check w false hx,hr,ZAg hb]
 ·subst he;obtain⟨L',h1,h2⟩:=h.modify (w1:= { w with heap:=w.heap.setIfInBounds m (.map (es.modify j fun e'=> { e' with key:=e.key,val:=v }) cl) }) hb hj v (f:=fun e'=> { e' with key:=e.key,val:=v }) rfl rfl rfl (Z8 h.lt);refine⟨_,L',?_,h1,h2,Zz _,by simp⟩;simp only[Instr.mapUpdate,Sem.run_bind,run_underlying ht,Result.andThen_ok,hg,K.check w false hx,hr,hj,Option.map_some,Option.getD_some,K.stays w hx,ZAg hb]
theorem MapL.entry (h:MapL P k w m L) (K:Keyed P k) {t E:TypeId} (ht:P.underlying t=some (.map k E)) {x z:Value} {l:Lit} (hx:keyOf P k x=some l) (hz:(zeroValue E).run P w = .ok z w) :
 ∃w' v n,(Instr.mapEntry t (.map (some m)) x).run P w = .ok (.tuple #[v,.int .i64 n]) w'/\((x,v)∈L\/(∀p∈L,p.1≠x)/\v=z)/\w.grownBy w' (some m)/\w'.heap.size=w.heap.size/\(∃L1,MapL P k w' m L1) /\
  ∀(w2:World) (u:Value),w2.heap[m]? = w'.heap[m]? ->
   ∃w3 L',(Instr.entryStore t (.map (some m)) (.int .i64 n) u).run P w2 = .ok () w3/\MapL P k w3 m L'/\Put L x u L'/\w2.grownBy w3 (some m)/\w3.heap.size=w2.heap.size:=by
 obtain⟨es,cl,hb,_,j0,f0⟩:=h.ex;have hg:(getObj m).run P w = .ok (.map es cl) w:=by simp[getObj,Sem.run,hb]
 have back:∀(es2:Array MapEntry) (cl2 j:Nat) (e0:MapEntry) (w2:World) (u:Value),w2.heap[m]? = some (.map es2 cl2)->es2[j]? = some e0->es2.toList.Pairwise (fun a b=>a.born≠b.born) ->
  (Instr.entryStore t (.map (some m)) (.int .i64 (e0.born:Int)) u).run P w2 = .ok () { w2 with heap:=w2.heap.setIfInBounds m (.map (es2.modify j fun e=> { e with val:=u }) cl2) }:=by
  intro es2 cl2 j e0 w2 u q0 t0 c0;have b0:(getObj m).run P w2 = .ok (.map es2 cl2) w2:=by simp[getObj,Sem.run,q0]
  have h0:j<es2.size:=(Array.getElem?_eq_some_iff.1 t0).1;have a0:es2.findIdx? (fun e=>(e.born:Int)==(e0.born:Int))=some j:=by
   rw[Array.findIdx?_eq_some_iff_getElem];refine⟨h0,?_,fun i hi=>?_⟩
   ·have:es2[j]=e0:=by
     have:=Array.getElem?_eq_getElem h0;rw[t0]at this;exact(Option.some.inj this).symm
    simp[this]
   ·have g0:es2[i].born≠e0.born:=fun he=>by
     have:=ZLZ c0 (Array.getElem?_eq_getElem (by omega:i<es2.size)) t0 he;omega
    simp;omega
  simp only[Instr.entryStore,Sem.run_bind,b0,Result.andThen_ok,asInt,asIntOf,Sem.run_pure,a0,ZAg q0]
 rcases h.find K hx hb w with ⟨hr,m0⟩ | ⟨j,e,hr,hj,he,hm⟩
 ·let w':World:= { w with heap:=w.heap.setIfInBounds m (.map (es.push { key:=x,val:=z,born:=cl }) (cl+1)) }
  have p0:w'.heap[m]? = some (.map (es.push { key:=x,val:=z,born:=cl }) (cl+1)):=Z8 h.lt;obtain⟨L1,h1,h2⟩:=h.push (w1:=w') hb hx m0 p0;refine⟨w',z,(cl:Int),?_,.inr ⟨m0,rfl⟩,Zz _,by simp[w'],⟨L1,h1⟩,fun w2 u q0=>?_⟩
  ·simp only[Instr.mapEntry,Sem.run_bind,run_underlying ht,Result.andThen_ok,hg,K.check w false hx,hr,hz,ZAg hb,Sem.run_pure,goInt];rfl
  ·have x0:(es.push { key:=x,val:=z,born:=cl })[es.size]? = some { key:=x,val:=z,born:=cl }:=by simp
   obtain⟨⟨es1,cl1,y0,_,z0,_⟩,_⟩:=id h1;rw[p0]at y0;cases y0;have u0:=back _ _ _ _ w2 u (q0.trans p0) x0 z0;have h0:m<w2.heap.size:=(Array.getElem?_eq_some_iff.1 (q0.trans p0)).1;obtain⟨L2,h3,h4⟩:=(h1.keep q0).modify (w1:= { w2 with heap:=w2.heap.setIfInBounds m (.map ((es.push { key:=x,val:=z,born:=cl }).modify es.size fun e=> { e with val:=u }) (cl+1)) }) (q0.trans p0) x0 u (f:=fun e=> { e with val:=u }) rfl rfl rfl (Z8 h0);refine⟨_,L2,u0,h3,⟨fun p=>?_,?_⟩,Zz _,by simp⟩
   ·rw[h4.mem p];constructor
    ·rintro(rfl | ⟨hp,g0⟩)
     ·exact .inl rfl
     ·rcases (h2.mem p).1 hp with rfl | hp
      ·exact absurd rfl g0
      ·exact .inr hp
    ·rintro(rfl | ⟨hp,g0⟩)
     ·exact .inl rfl
     ·exact .inr ⟨(h2.mem p).2 (.inr ⟨hp,g0⟩),g0⟩
   ·refine .inr ⟨m0,?_⟩;rcases h2.len with ⟨⟨u',d0⟩,_⟩ | ⟨_,hl⟩
    ·exact absurd rfl (m0 _ d0)
    ·rcases h4.len with ⟨_,i0⟩ | ⟨v0,_⟩
     ·omega
     ·exact absurd rfl (v0 (x,z) ((h2.mem _).2 (.inl rfl)))
 ·subst he
  let w':World:= { w with heap:=w.heap.setIfInBounds m (.map (es.modify j fun e'=> { e' with key:=e.key }) cl) }
  have l0:j<es.size:=(Array.getElem?_eq_some_iff.1 hj).1;have k0:es.modify j (fun e'=> { e' with key:=e.key })=es:=by
   apply Array.ext_getElem?;intro i;rw[Array.getElem?_modify];split
   ·rename_i hi;subst hi;rw[hj];rfl
   ·rfl
  have p0:w'.heap[m]? = some (.map es cl):=by
   have:=Z8 (w:=w) (m:=m) (o:= .map (es.modify j fun e'=> { e' with key:=e.key }) cl) h.lt;rw[k0]at this;simpa [w',k0]using this
  refine⟨w',e.val,(e.born:Int),?_,.inl hm,Zz _,by simp[w'],⟨L,h.keep (p0.trans hb.symm)⟩,fun w2 u q0=>?_⟩
  ·simp only[Instr.mapEntry,Sem.run_bind,run_underlying ht,Result.andThen_ok,hg,K.check w false hx,hr,hj,Option.map_some,Option.getD_some,K.stays w hx,ZAg hb,Sem.run_pure,goInt];rfl
  ·have u0:=back es cl j e w2 u (q0.trans p0) hj j0;have h0:m<w2.heap.size:=(Array.getElem?_eq_some_iff.1 (q0.trans p0)).1;obtain⟨L2,h3,h4⟩:=(h.keep ((q0.trans p0).trans hb.symm)).modify (w1:= { w2 with heap:=w2.heap.setIfInBounds m (.map (es.modify j fun e=> { e with val:=u }) cl) }) (q0.trans p0) hj u (f:=fun e=> { e with val:=u }) rfl rfl rfl (Z8 h0);exact⟨_,L2,u0,h3,h4,Zz _,by simp⟩
end
end
section
open Go.RowKit
theorem ZFW (w:World):Calls Tryz.prog 198 #[.slice none 0 0,.int .i64 0,.int .i64 0,cmpV] w fun e w'=>e = .returned (.tuple #[])/\w'=w:=by
 unfold cmpV;go_enter Tryz.func198,Tryz.ntmps198;go_wp2_with fail
 go_loopw [8] (fun s8 wr=>s8 = .int .i64 1/\wr=w) (fun _ _=>0)
 case atStart=>exact⟨rfl,rfl⟩
 case round =>
  obtain⟨rfl,rfl⟩:=hrel;go_wp2_with fail
  go_end0
  exact⟨rfl,rfl⟩
theorem ZI8 (w:World):Calls Tryz.prog 179 #[.slice none 0 0,.int .i64 0,cmpV] w fun e w'=>e = .returned (.tuple #[])/\w'=w:=by
 have h0:=ZA (ZFW w);unfold cmpV at h0 ⊢;go_enter Tryz.func179,Tryz.ntmps179;go_wp2_with fail
 go_loopw [7,8] (fun s7 s8 wr=>s7 = .int .i64 0/\s8 = .int .i64 20/\wr=w) (fun _ _ _=>0)
 case atStart=>exact⟨rfl,rfl,rfl⟩
 case round =>
  obtain⟨rfl,rfl,rfl⟩:=hrel;go_wp2_with fail;refine h0.out.mono ?_;rintro e w1 ⟨rfl,rfl⟩;go_wp2_with fail
  go_loopw [6] (fun s6 wr2=>s6 = .int .i64 20/\wr2=w1) (fun _ _=>0)
  case atStart=>exact⟨rfl,rfl⟩
  case round =>
   obtain⟨rfl,rfl⟩:=hrel;go_wp2_with fail
   go_end0
   exact⟨rfl,rfl⟩
theorem ZEA (w:World):Calls Tryz.prog 136 #[.slice none 0 0,cmpV] w fun e w'=>e = .returned (.tuple #[])/\w'=w:=by
 have h:=ZA (ZI8 w);unfold cmpV at h ⊢;go_enter Tryz.func136,Tryz.ntmps136;go_wp2_with fail;refine h.out.mono ?_;rintro e w1 ⟨rfl,rfl⟩;go_wp2_with fail
 go_end0
 exact⟨rfl,rfl⟩
theorem ZJO (base:Nat) (L:Option Addr) (n c:Nat) (D:List TmV) (w:World) (h:w.ownsRow base 150 2 (.slice L n c) n (tcs D)) (hn:n=D.length) (q0:n<=268435456) :
 Calls Tryz.prog 136 #[.slice L n c,cmpV] w fun e w'=>e = .returned (.tuple #[])/\∃E,Std D E/\(n≠0->∃g,L=some ⟨g,0,none⟩/\base<=g/\TR w' g E)/\Chg (fun k=>(Value.slice L n c).ownBlock=some k) w w':=by
 rcases h with ⟨hl,⟨hv,h0⟩ | ⟨g,cap,cur,hv,hb,hg,k0,p0,hs,ht⟩⟩
 ·cases hv;obtain rfl:D = []:=List.length_eq_zero_iff.1 hn.symm;exact(ZEA w).mono fun e w' ⟨h1,h2⟩=>⟨h1,[],⟨List.Pairwise.nil,Stb.refl _⟩,fun h=>absurd rfl h,by rw[h2];exact Chg.refl _ _⟩
 ·cases hv;subst hn;refine(ZD9 g c D w ⟨cur,hg,fun i v hi=>?_⟩ q0).mono ?_
  ·rw[<-ht,List.getElem?_take]at hi;split at hi
   ·simpa using hi
   ·cases hi
  ·rintro e w' ⟨h1,E,h2,h3,h4⟩;exact⟨h1,E,h2,fun _=>⟨g,rfl,hb,h3⟩,h4.mono fun k _ hk=>by rw[hk];rfl⟩
abbrev TmP:=TmV×(List UInt8×List Int)
def TmP.far (x y:TmP):Prop:=∀a b,x.1.2.1=some a->y.1.2.1=some b->a.block≠b.block
theorem TmP.far_symm {x y:TmP} (h:TmP.far x y):TmP.far y x:=fun a b ha hb e=>h b a hb ha e.symm
def TmP.ok (w:World) (base:Nat) (z:TmP):Prop:=z.1.1=z.2.1/\Buf w base 3 z.1.2.1 z.1.2.2.1 z.1.2.2.2 (z.2.2.map IV)
structure TZ (w:World) (base:Nat) (l:List TmP):Prop where
  each:∀z∈l,TmP.ok w base z
  apart:l.Pairwise TmP.far
theorem TZ.perm {w:World} {base:Nat} {l m:List TmP} (h:TZ w base l) (hp:m.Perm l):TZ w base m :=
 ⟨fun z hz=>h.each z (hp.mem_iff.1 hz),(hp.symm.pairwise_iff (fun {x y} h=>TmP.far_symm h)).1 h.apart⟩
theorem TZ.keep {w w1:World} {base:Nat} {l:List TmP} (h:TZ w base l) (hk:∀A n c xs,Buf w base 3 A n c xs->Buf w1 base 3 A n c xs):TZ w1 base l :=
 ⟨fun z hz=>⟨(h.each z hz).1,hk _ _ _ _ (h.each z hz).2⟩,h.apart⟩
theorem TmsOk.tz {w:World} {base:Nat} {D:List TmV} {Z:List (List UInt8×Int)} (h:TmsOk w base D (oneT Z)) :
 TZ w base (D.map fun x=>(x,(x.1,ptsOf w x.2)))/\(∀x∈D,ptsOf w x.2 = [(ptsOf w x.2).headD 0])/\D.map (fun x=>(x.1,(ptsOf w x.2).headD 0))=Z:=by
 have hl:D.length=Z.length:=by have:=h.len;unfold oneT at this;rwa [List.length_map]at this
 have h0:∀(i:Nat) (x:TmV),D[i]? = some x->∃p,Z[i]? = some p/\x.1=p.1/\Buf w base 3 x.2.1 x.2.2.1 x.2.2.2 ([p.2].map IV)/\ptsOf w x.2 = [p.2]:=fun i x hx=>by
  have hi:=(List.getElem?_eq_some_iff.1 hx).1;obtain⟨p,hp⟩:∃p,Z[i]? = some p:=⟨_,List.getElem?_eq_getElem (by omega)⟩
  have:=h.each i x (p.1,[p.2]) hx (by unfold oneT;rw[List.getElem?_map,hp];rfl);exact⟨p,hp,this.1,this.2,ZJx this.2⟩
 refine⟨⟨fun z hz=>?_,?_⟩,fun x hx=>?_,?_⟩
 ·obtain⟨x,hx,rfl⟩:=List.mem_map.1 hz;obtain⟨i,hi⟩:=List.mem_iff_getElem?.1 hx;obtain⟨p,hp,h1,h2,h3⟩:=h0 i x hi;exact⟨rfl,by simp only[h3];exact h2⟩
 ·rw[List.pairwise_map,List.pairwise_iff_getElem];intro i j hi hj q0 a b ha hb;exact h.apart i j _ _ (List.getElem?_eq_getElem hi) (List.getElem?_eq_getElem hj) (by omega) a b ha hb
 ·obtain⟨i,hi⟩:=List.mem_iff_getElem?.1 hx;obtain⟨p,hp,h1,h2,h3⟩:=h0 i x hi;rw[h3];rfl
 ·apply List.ext_getElem?;intro i;rw[List.getElem?_map];cases hx:D[i]? with
  | none=>rw[List.getElem?_eq_none_iff]at hx;rw[List.getElem?_eq_none (by omega)];rfl
  | some x =>
   obtain⟨p,hp,h1,h2,h3⟩:=h0 i x hx;rw[hp,Option.map_some,h3,h1];rfl
theorem TZ.tms {w:World} {base:Nat} {l:List TmP} (h:TZ w base l):TmsOk w base (l.map Prod.fst) (l.map Prod.snd):=by
 refine⟨by rw[List.length_map,List.length_map],fun i x p hx hp=>?_,fun i j x y hx hy q0 a b ha hb=>?_⟩
 ·rw[List.getElem?_map]at hx hp;obtain⟨z,hz,rfl⟩:=Option.map_eq_some_iff.1 hx;rw[hz]at hp;cases hp;exact h.each z (List.mem_of_getElem? hz)
 ·rw[List.getElem?_map]at hx hy;obtain⟨z,hz,rfl⟩:=Option.map_eq_some_iff.1 hx;obtain⟨u,hu,rfl⟩:=Option.map_eq_some_iff.1 hy;obtain⟨hi,rfl⟩:=List.getElem?_eq_some_iff.1 hz;obtain⟨hj,rfl⟩:=List.getElem?_eq_some_iff.1 hu;rcases Nat.lt_or_gt_of_ne q0 with h0 | h0
  ·exact List.pairwise_iff_getElem.1 h.apart i j hi hj h0 a b ha hb
  ·exact(List.pairwise_iff_getElem.1 h.apart j i hj hi h0 b a hb ha).symm
theorem TZ.join {w w1:World} {base:Nat} {a r:List TmP} {x y:TmP} (h:TZ w base (a++x::y::r)) (x':TmP) (hk:∀z∈a++r,TmP.far z x->TmP.ok w base z->TmP.ok w1 base z) (hx:TmP.ok w1 base x') (hn:x'.1.2.1=x.1.2.1\/∃b,x'.1.2.1=some b/\w.heap.size<=b.block):TZ w1 base (a++x'::r):=by
 have p0:∀z∈a++r,z∈a++x::y::r:=fun z hz=>by
  rcases List.mem_append.1 hz with h | h
  ·exact List.mem_append_left _ h
  ·exact List.mem_append_right _ (List.mem_cons_of_mem _ (List.mem_cons_of_mem _ h))
 have h0:∀z∈a++r,(TmP.far z x->TmP.far z x'):=fun z hz hf p q hp hq=>by
  rcases hn with hn | ⟨b,hb,j0⟩
  ·rw[hn]at hq;exact hf p q hp hq
  ·rw[hb]at hq;cases hq;have:=(h.each z (p0 z hz)).2.lt p hp;omega
 have hp:=List.pairwise_append.1 h.apart;have q0:=List.pairwise_cons.1 hp.2.1;have k0:=List.pairwise_cons.1 q0.2;refine⟨fun z hz=>?_,List.pairwise_append.2 ⟨hp.1,List.pairwise_cons.2 ⟨fun z hz=>?_,k0.2⟩,fun z hz u hu=>?_⟩⟩
 ·rcases List.mem_append.1 hz with hz | hz
  ·exact hk z (List.mem_append_left _ hz) (hp.2.2 z hz x (List.mem_cons_self ..)) (h.each z (List.mem_append_left _ hz))
  ·rcases List.mem_cons.1 hz with rfl | hz
   ·exact hx
   ·exact hk z (List.mem_append_right _ hz) (TmP.far_symm (q0.1 z (List.mem_cons_of_mem _ hz))) (h.each z (p0 z (List.mem_append_right _ hz)))
 ·exact TmP.far_symm (h0 z (List.mem_append_right _ hz) (TmP.far_symm (q0.1 z (List.mem_cons_of_mem _ hz))))
 ·rcases List.mem_cons.1 hu with rfl | hu
  ·exact h0 z (List.mem_append_left _ hz) (hp.2.2 z hz x (List.mem_cons_self ..))
  ·exact hp.2.2 z hz u (List.mem_cons_of_mem _ (List.mem_cons_of_mem _ hu))
theorem ZKz {w:World} {base g n c size:Nat} {e:TypeId} {xs:List Value} (h:w.ownsRow base e size (.slice (some ⟨g,0,none⟩) n c) n xs) (j:Nat) (u:Value) :
 (w.setCell ⟨g,j,none⟩ u).ownsRow base e size (.slice (some ⟨g,0,none⟩) n c) n (xs.set j u):=by
 rcases h with ⟨hl,⟨h2,_⟩ | ⟨g',cap,cur,hv,hb,hg,hn,h0,hs,ht⟩⟩
 ·cases h2
 ·cases hv;refine⟨by rw[List.length_set];exact hl,.inr ⟨g,_,cur.setIfInBounds j u,rfl,hb,Row.put (w:=w) hg j u,hn,h0,by rw[Array.size_setIfInBounds];exact hs,?_⟩⟩;rw[Array.toList_setIfInBounds,List.take_set,ht]
theorem ZMA (D:List TmV) (x:TmV) (y:Option Addr×Nat×Nat):(tcs (D ++ [x])).set (D.length*2+1) (.slice y.1 y.2.1 y.2.2)=tcs (D ++ [(x.1,y)]):=by
 rw[ZCA,ZCA,List.set_append_right _ _ (by rw[ZDj];omega),ZDj,show D.length*2+1 - D.length*2=1 by omega];rfl
theorem ZEO {β:Type} (r:List (List UInt8×List β)) (x:List UInt8×List β) (p:List UInt8×β):joinS (r ++ [x]) p=if x.1=p.1 then r ++ [(x.1,x.2 ++ [p.2])] else r ++ [x] ++ [(p.1,[p.2])]:=by
 unfold joinS;rw[List.getLast?_concat,List.dropLast_concat]
theorem ZM7 {w:World} {base n c:Nat} {A:Option Addr} {D:List TmV} (h:w.ownsRow base 150 2 (.slice A n c) n (tcs D)) {i:Nat} {x:TmV} (hx:D[i]? = some x) :
 ∃g cur,A=some ⟨g,0,none⟩/\base<=g/\Row w g 150 cur/\w.cell? ⟨g,i*2,none⟩=some (.string ⟨x.1.toArray⟩)/\w.cell? ⟨g,i*2+1,none⟩=some (.slice x.2.1 x.2.2.1 x.2.2.2):=by
 have hi:=(List.getElem?_eq_some_iff.1 hx).1;rcases h with ⟨hl,⟨_,h2⟩ | ⟨g,cap,cur,hv,hb,hg,hn,h0,hs,ht⟩⟩
 ·rw[ZDj]at hl;omega
 ·cases hv;have hT:TR w g D:=⟨cur,hg,fun j v hj=>by
   rw[<-ht,List.getElem?_take]at hj;split at hj
   ·simpa using hj
   ·cases hj⟩
  have:=hT.at_ hx;exact⟨g,cur,rfl,hb,hg,this.1,this.2⟩
theorem ZMD {β:Type} {r:List (List UInt8×List β)} {k:Nat} (h:∀z∈r,z.2.length<=k) (p:List UInt8×β):∀z∈joinS r p,z.2.length<=k+1:=by
 intro z hz;rcases List.eq_nil_or_concat r with rfl | ⟨r0,x,hr⟩
 ·unfold joinS at hz;simp only[List.getLast?_nil,List.mem_singleton]at hz;rw[hz];simp
 ·rw[List.concat_eq_append]at hr;subst hr;rw[ZEO]at hz;have hx:=h x (by simp);split at hz
  ·rcases List.mem_append.1 hz with hz | hz
   ·have:=h z (List.mem_append_left _ hz);omega
   ·rw[List.mem_singleton.1 hz,List.length_append];simp;omega
  ·rcases List.mem_append.1 hz with hz | hz
   ·have:=h z hz;omega
   ·rw[List.mem_singleton.1 hz];simp
theorem ZH4 {β:Type}:∀(l:List (List UInt8×β)) (r:List (List UInt8×List β)) (k:Nat),(∀z∈r,z.2.length<=k)->∀z∈l.foldl joinS r,z.2.length<=k+l.length
 | [],r,k,h=>h
 | p::l,r,k,h=>fun z hz=>by
  have:=ZH4 l (joinS r p) (k+1) (ZMD h p) z hz;rw[List.length_cons];omega
theorem ZFN {w w1:World} {base n c b m size:Nat} {e t:TypeId} {A:Option Addr} {xs ys:List Value} {v:Value} (hb:Buf w base e A n c xs) (hg:w.grownBy w1 (Value.slice A n c).ownBlock) (ho:w.ownsRow b t size v m ys) (ht:t≠e):w1.ownsRow b t size v m ys :=
 (Chg.of_grown (S:=fun j=>(Value.slice A n c).ownBlock=some j) hg (fun k _ h=>h)).owns ho fun g hg hS=>by
  obtain⟨cur,hc,_⟩:=ZC ho hg;cases A with
  | none=>simp[Value.ownBlock]at hS
  | some a =>
   simp[Value.ownBlock]at hS;exact hb.unlike hc (fun h=>ht h.symm) a rfl hS
theorem ZOY {w w1:World} {n c b n2 c2:Nat} {t:TypeId} {A B:Option Addr} {ys:List Value} (hg:w.grownBy w1 (Value.slice A n c).ownBlock) (h:Buf w b t B n2 c2 ys) (hf:∀p q,B=some p->A=some q->p.block≠q.block):Buf w1 b t B n2 c2 ys :=
 h.grown hg fun a ha hS=>by
  cases A with
  | none=>simp[Value.ownBlock]at hS
  | some q =>
   simp[Value.ownBlock]at hS;exact hf a q ha rfl hS.symm
end
section
open Go.RowKit Go.Maps
structure IdE where
  s:List UInt8
  ps:List PoC
  A:Option Addr
  c:Nat
def IdE.val (x:IdE):Value:= .slice x.A x.ps.length x.c
def IdE.own (x:IdE) (base:Nat) (W:World):Prop:=W.ownsRow base 107 2 (.slice x.A x.ps.length x.c) x.ps.length (pcells x.ps)
def IdE.far (x y:IdE):Prop:=∀a b,x.A=some a->y.A=some b->a.block≠b.block
def posAt (base:Nat) (W:World) (y:PoC):Prop:=Buf W base 3 y.A y.pos.length y.c (y.pos.map IV)/\y.pos.length<=1000000000
structure IX (base M:Nat) (done:List (List UInt8×Po)) (E:List IdE) (W:World):Prop where
  map:∃L,MapL Tryz.prog 9 W M L/\∀p,p∈L↔∃x∈E,p=(strV x.s,x.val)
  own:∀x∈E,x.own base W/\psP x.ps=valsOf done x.s/\x.ps ≠ []
  pos:∀x∈E,∀y∈x.ps,posAt base W y
  uniq:∀x∈E,∀y∈E,x.s=y.s->x=y
  apart:∀x∈E,∀y∈E,x.s≠y.s->IdE.far x y
  all:∀p∈done,∃x∈E,x.s=p.1
theorem ZFa {a b:List UInt8} (h:strV a=strV b):a=b:=by
 unfold strV at h;injection h with h;injection h with h;simpa using h
theorem IX.new {base:Nat} {w:World}:IX base w.heap.size [] [] (w.alloc (.map #[] 0)) :=
 ⟨⟨[],MapL.made w,fun p=>by simp⟩,nofun,nofun,nofun,nofun,nofun⟩
theorem IX.ext {base M:Nat} {done:List (List UInt8×Po)} {E:List IdE} {W W1:World} (h:IX base M done E W) (hE:Ext W W1):IX base M done E W1:=by
 obtain⟨⟨L,hL,hm⟩,ho,hp,hu,ha,h0⟩:=h;exact⟨⟨L,hL.ext hE,hm⟩,fun x hx=>⟨hE.owns (ho x hx).1,(ho x hx).2⟩,fun x hx y hy=>⟨(hp x hx y hy).1.ext hE,(hp x hx y hy).2⟩,hu,ha,h0⟩
theorem ZLj:Keyed Tryz.prog 9:=string_keyed Tryz.underlying9
theorem ZCC {s:List UInt8} (hs:s.length<=9223372036854775807):keyOf Tryz.prog 9 (strV s)=some (.string s):=by
 have h:=WideMaps.keyOf_string_mk (P:=Tryz.prog) Tryz.underlying9 (s:=⟨s.toArray⟩) (by show s.toArray.size<=9223372036854775807;simpa using hs);simpa [strV]using h
def IdG (E:List IdE) (s:List UInt8) (x:IdE):Prop:=x.s=s/\(x∈E\/(x.A=none/\x.c=0/\x.ps = []/\∀y∈E,y.s≠s))
theorem IX.get {base M:Nat} {done:List (List UInt8×Po)} {E:List IdE} {W:World} (h:IX base M done E W) (s:List UInt8) (hs:s.length<=9223372036854775807) :
 ∃x,IdG E s x/\x.own base W/\psP x.ps=valsOf done s/\∀W1,Ext W W1->(Instr.lookup 91 (.map (some M)) (strV s) false).run Tryz.prog W1 = .ok (.slice x.A x.ps.length x.c) W1:=by
 obtain⟨L,hL,hm⟩:=h.map;have hz:∀W,(zeroValue 43).run Tryz.prog W = .ok (.slice none 0 0) W:=fun W=>by kernel_rfl
 rcases hL.look ZLj Tryz.underlying91 (ZCC hs) (hz W) false with ⟨v,hv,_⟩ | ⟨h0,_⟩
 ·obtain⟨x,hx,he⟩:=(hm _).1 hv;injection he with h1 h2;have p0:=ZFa h1;subst p0;have:=h.own x hx;refine⟨x,⟨rfl,.inl hx⟩,this.1,this.2.1,fun W1 hE=>?_⟩;rcases (hL.ext hE).look ZLj Tryz.underlying91 (ZCC hs) (hz W1) false with ⟨u,hu,hr⟩ | ⟨h0,_⟩
  ·rw[hr,hL.unique hu hv,h2];rfl
  ·exact absurd rfl (h0 _ hv)
 ·have q0:∀y∈E,y.s≠s:=fun y hy e=>h0 (strV y.s,y.val) ((hm _).2 ⟨y,hy,rfl⟩) (by rw[e]);refine⟨⟨s,[],none,0⟩,⟨rfl,.inr ⟨rfl,rfl,rfl,q0⟩⟩,World.ownsRow_nil _ _ _ _,?_,fun W1 hE=>?_⟩
  ·show []=_;exact(ZBG fun p hp e=>by
    obtain⟨y,hy,k0⟩:=h.all p hp;exact q0 y hy (k0.trans e)).symm
  ·rcases (hL.ext hE).look ZLj Tryz.underlying91 (ZCC hs) (hz W1) false with ⟨u,hu,_⟩ | ⟨_,hr⟩
   ·exact absurd rfl (h0 _ hu)
   ·exact hr
theorem ZBn {base M:Nat} {W:World} {L:List (Value×Value)} (h:MapL Tryz.prog 9 W M L) {e size n:Nat} {v:Value} {xs:List Value} (ho:W.ownsRow base e size v n xs):v.ownBlock≠some M:=fun hg=>by
 obtain⟨cur,hc,_⟩:=ZC ho hg;obtain⟨⟨es,cl,h1,_⟩,_⟩:=h;unfold Row at hc;rw[h1]at hc;cases hc
theorem ZBk {M:Nat} {W:World} {L:List (Value×Value)} (h:MapL Tryz.prog 9 W M L) {g t:Nat} {cs:Array Value} (hr:Row W g t cs):g≠M:=fun hg=>by
 obtain⟨⟨es,cl,h1,_⟩,_⟩:=h;unfold Row at hr;rw[hg,h1]at hr;cases hr
theorem MapL.same {k:TypeId} {w:World} {m:Nat} {L L':List (Value×Value)} (h:MapL Tryz.prog k w m L) (h':MapL Tryz.prog k w m L'):L=L':=by
 obtain⟨⟨es,cl,h1,h2,_⟩,_⟩:=h;obtain⟨⟨es',cl',h0,q0,_⟩,_⟩:=h';rw[h1]at h0;cases h0;exact h2.symm.trans q0
theorem ZHy (l:List PoC) (x:PoC):psP (l ++ [x])=psP l ++ [x.po]:=by unfold psP;rw[List.map_append];rfl
theorem ZDT (l:List PoC) (x:PoC):pcells (l ++ [x])=pcells l++x.cells:=by
 unfold pcells;rw[List.flatMap_append];simp
theorem IX.put {base M:Nat} {done:List (List UInt8×Po)} {E:List IdE} {W w8 w9:World} (h:IX base M done E W) {s:List UInt8} {x:IdE} (hx:IdG E s x) (i0:x.own base W) (q1:psP x.ps=valsOf done s)
 {y:PoC} {A1:Option Addr} {c1:Nat} (hg:W.grownBy w8 (Value.slice x.A x.ps.length x.c).ownBlock) (ho:w8.ownsRow base 107 2 (.slice A1 (x.ps.length+1) c1) (x.ps.length+1) (pcells x.ps++y.cells))
 (hA:(Value.slice A1 (x.ps.length+1) c1).ownBlock=(Value.slice x.A x.ps.length x.c).ownBlock\/∃k,(Value.slice A1 (x.ps.length+1) c1).ownBlock=some k/\W.heap.size<=k) (hy:posAt base W y)
 (h9:∀L,MapL Tryz.prog 9 w8 M L->(∀p,p∈L↔∃x∈E,p=(strV x.s,x.val))->∃L',MapL Tryz.prog 9 w9 M L'/\Put L (strV s) (.slice A1 (x.ps.length+1) c1) L'/\w8.grownBy w9 (some M)) :
 IX base M (done ++ [(s,y.po)]) (⟨s,x.ps ++ [y],A1,c1⟩::E.filter fun z=>decide (z.s≠s)) w9:=by
 obtain⟨L,hL,hm⟩:=h.map;have z0:MapL Tryz.prog 9 w8 M L:=hL.grown hg (ZBn hL i0);obtain⟨L',o0,c0,b0⟩:=h9 L z0 hm;have hlen:(x.ps ++ [y]).length=x.ps.length+1:=by rw[List.length_append];rfl
 have q0:∀z,z∈(E.filter fun z=>decide (z.s≠s))↔z∈E/\z.s≠s:=fun z=>by rw[List.mem_filter];simp
 have f0:∀g t cs,Row w8 g t cs->Row w9 g t cs:=fun g t cs hr=>hr.grown b0 fun e=>ZBk z0 hr (by injection e);have j0:∀ {b e size n:Nat} {v:Value} {xs:List Value},w8.ownsRow b e size v n xs->w9.ownsRow b e size v n xs:=fun hh =>
  (Chg.of_grown (S:=fun k=>k=M) b0 (fun k _ e=>by injection e with e;exact e.symm)).owns hh fun g r0 e=>ZBn z0 hh (by rw[r0,e])
 have k0:∀z∈E,z.s≠s->∀a,x.A=some a->∀b,z.A=some b->b.block≠a.block:=fun z hz g0 a ha b hb=>by
  rcases hx.2 with d0 | ⟨hn,_⟩
  ·exact h.apart z hz x d0 (fun e=>g0 (e.trans hx.1)) b a hb ha
  ·rw[hn]at ha;cases ha
 have m0:∀z∈E,z.s≠s->z.own base w9:=fun z hz g0=>by
  refine j0 ?_;refine(Chg.of_grown (S:=fun k=>(Value.slice x.A x.ps.length x.c).ownBlock=some k) hg (fun k _ e=>e)).owns (h.own z hz).1 fun g x0 u0=>?_;cases e0:z.A with
  | none=>rw[e0]at x0;simp[Value.ownBlock]at x0
  | some b =>
   cases t0:x.A with
   | none=>rw[t0]at u0;simp[Value.ownBlock]at u0
   | some a =>
    rw[e0]at x0;rw[t0]at u0;simp[Value.ownBlock]at x0 u0;exact k0 z hz g0 a t0 b e0 (x0.trans u0.symm)
 have p0:∀u,posAt base W u->posAt base w9 u:=fun u hu=>by
  have q:=ZA7 i0 hg hu.1 (by decide);exact⟨q.grown b0 fun a ha e=>by
   injection e with e;rcases q.2.2 with ⟨h0,_⟩ | ⟨g',cur,n0,_,hr,_⟩
   ·rw[h0]at ha;cases ha
   ·rw[n0]at ha;cases ha;exact ZBk z0 hr e.symm,hu.2⟩
 have s0:valsOf (done ++ [(s,y.po)]) s=valsOf done s ++ [y.po]:=by rw[ZW,ZBc,if_pos rfl]
 have w0:∀t,t≠s->valsOf (done ++ [(s,y.po)]) t=valsOf done t:=fun t ht=>by rw[ZW,ZBc,if_neg (fun e=>ht e.symm),List.append_nil]
 refine⟨⟨L',o0,fun p=>?_⟩,fun z hz=>?_,fun z hz u hu=>?_,fun z hz u hu v0=>?_,fun z hz u hu v0=>?_,fun p hp=>?_⟩
 ·rw[c0.mem];constructor
  ·rintro(rfl | ⟨hp,g0⟩)
   ·exact⟨_,List.mem_cons_self ..,by unfold IdE.val;simp only[hlen]⟩
   ·obtain⟨z,hz,rfl⟩:=(hm _).1 hp;exact⟨z,List.mem_cons_of_mem _ ((q0 z).2 ⟨hz,fun e=>g0 (by rw[e])⟩),rfl⟩
  ·rintro⟨z,hz,rfl⟩;rcases List.mem_cons.1 hz with rfl | hz
   ·exact .inl (by unfold IdE.val;simp only[hlen])
   ·obtain⟨y0,a0⟩:=(q0 z).1 hz;exact .inr ⟨(hm _).2 ⟨z,y0,rfl⟩,fun e=>a0 (ZFa e)⟩
 ·rcases List.mem_cons.1 hz with rfl | hz
  ·refine⟨?_,?_,by simp⟩
   ·show w9.ownsRow base _ 2 (.slice A1 (x.ps ++ [y]).length c1) (x.ps ++ [y]).length (pcells (x.ps ++ [y]));rw[hlen,ZDT];exact j0 ho
   ·show psP (x.ps ++ [y])=valsOf _ s;rw[ZHy,q1,s0]
  ·obtain⟨y0,a0⟩:=(q0 z).1 hz;exact⟨m0 z y0 a0,by rw[w0 _ a0];exact(h.own z y0).2.1,(h.own z y0).2.2⟩
 ·rcases List.mem_cons.1 hz with rfl | hz
  ·rcases List.mem_append.1 hu with hu | hu
   ·rcases hx.2 with d0 | ⟨_,_,hn,_⟩
    ·exact p0 u (h.pos x d0 u hu)
    ·rw[hn]at hu;cases hu
   ·rw[List.mem_singleton.1 hu];exact p0 y hy
  ·exact p0 u (h.pos z ((q0 z).1 hz).1 u hu)
 ·rcases List.mem_cons.1 hz with rfl | hz <;> rcases List.mem_cons.1 hu with rfl | hu
  ·rfl
  ·exact absurd v0.symm ((q0 u).1 hu).2
  ·exact absurd v0 ((q0 z).1 hz).2
  ·exact h.uniq z ((q0 z).1 hz).1 u ((q0 u).1 hu).1 v0
 ·have key:∀z∈E,z.s≠s->∀a b,A1=some a->z.A=some b->b.block≠a.block:=fun z hz g0 a b ha hb e=>by
   rcases hA with hA | hA
   ·rw[ha]at hA;cases t0:x.A with
    | none=>rw[t0]at hA;simp[Value.ownBlock]at hA
    | some a' =>
     rw[t0]at hA;simp[Value.ownBlock]at hA;exact k0 z hz g0 a' t0 b hb (e.trans hA)
   ·obtain⟨k,hA,h1⟩:=hA;rw[ha]at hA;simp[Value.ownBlock]at hA;obtain⟨cur,hc,_⟩:=ZC (h.own z hz).1 (g:=b.block) (by rw[hb];rfl);have:=hc.lt;omega
  rcases List.mem_cons.1 hz with rfl | hz <;> rcases List.mem_cons.1 hu with rfl | hu
  ·exact absurd rfl v0
  ·exact fun a b ha hb e=>key u ((q0 u).1 hu).1 ((q0 u).1 hu).2 a b ha hb e.symm
  ·exact fun a b ha hb=>key z ((q0 z).1 hz).1 ((q0 z).1 hz).2 b a hb ha
  ·exact h.apart z ((q0 z).1 hz).1 u ((q0 u).1 hu).1 v0
 ·rcases List.mem_append.1 hp with hp | hp
  ·obtain⟨z,hz,l0⟩:=h.all p hp;by_cases hs:p.1=s
   ·exact⟨_,List.mem_cons_self ..,hs.symm⟩
   ·exact⟨z,List.mem_cons_of_mem _ ((q0 z).2 ⟨hz,by rw[l0];exact hs⟩),l0⟩
  ·rw[List.mem_singleton.1 hp];exact⟨_,List.mem_cons_self ..,rfl⟩
end
section
open Go.RowKit
structure DocC where
  seq:Int
  e:Ev
  A:Option Addr
  c:Nat
def DocC.cells (x:DocC):List Value:= [.int .i64 x.seq,.int .i64 x.e.at_,.slice x.A x.e.fs.length x.c]
def DocC.val (x:DocC):Value:= .agg #[.int .i64 x.seq,.int .i64 x.e.at_,.slice x.A x.e.fs.length x.c]
def DocC.dc (x:DocC):Dc:=(x.seq,x.e)
def dcells (l:List DocC):List Value:=l.flatMap DocC.cells
def dcs (l:List DocC):List Dc:=l.map DocC.dc
theorem ZEc (l:List DocC):(dcells l).length=l.length*3:=Ze (cellsA:=DocC.cells) (k:=3) (fun _=>rfl) l
theorem ZCX {l:List DocC} {i:Nat} {x:DocC} (h:l[i]? = some x) {j:Nat} (hj:j<3):(dcells l)[i*3+j]? = x.cells[j]? :=Zj (cellsA:=DocC.cells) (k:=3) (fun _=>rfl) l i x j h hj
theorem ZU {w:World} {A:Option Addr} {l:List DocC} (h:Cells w A (dcells l)) {i:Nat} {x:DocC} (hx:l[i]? = some x):∃g o,A=some ⟨g,o,none⟩/\w.cell? ⟨g,o+i*3,none⟩=some (.int .i64 x.seq)/\w.cell? ⟨g,o+i*3+1,none⟩=some (.int .i64 x.e.at_)/\w.cell? ⟨g,o+i*3+2,none⟩=some (.slice x.A x.e.fs.length x.c):=by
 obtain⟨g,o,hA,hc⟩:=h.at_ (by rw[ZEc];have:=(List.getElem?_eq_some_iff.1 hx).1;omega);refine⟨g,o,hA,?_,?_,?_⟩
 ·have:=hc (i*3+0) _ (by rw[ZCX hx (by omega)];rfl);exact this
 ·have:=hc (i*3+1) _ (by rw[ZCX hx (by omega)];rfl);exact this
 ·have:=hc (i*3+2) _ (by rw[ZCX hx (by omega)];rfl);exact this
structure DocsOk (w:World) (A:Option Addr) (l:List DocC):Prop where
  cells:Cells w A (dcells l)
  each:∀x∈l,x.e.Ok w x.A/\I64ok' x.e.at_/\I64ok' x.seq
theorem DocsOk.ext {w w1:World} {A:Option Addr} {l:List DocC} (h:DocsOk w A l) (hE:Ext w w1):DocsOk w1 A l:=⟨h.cells.ext hE,fun x hx=>⟨(h.each x hx).1.ext hE,(h.each x hx).2⟩⟩
theorem DocsOk.nil (w:World) (A:Option Addr):DocsOk w A []:=⟨.inl rfl,nofun⟩
theorem DocsOk.part {w:World} {A:Option Addr} {ps:List DocC} (h:DocsOk w A ps) (hA:∀a,A=some a->a.spot=none) (i m:Nat):DocsOk w (A.map fun a=>a.add (i*3)) ((ps.drop i).take m):=by
 refine⟨?_,fun x hx=>h.each x (List.mem_of_mem_drop (List.mem_of_mem_take hx))⟩;unfold dcells;rw[Z4 (f:=DocC.cells) (k:=3) (fun _=>rfl),ZAE (f:=DocC.cells) (k:=3) (fun _=>rfl)];exact h.cells.part hA _ _
def ckD (lo:Int) (l:List Dc):Bool:=risB 1099511627777 lo (l.map (·.1))&&l.all okD
theorem ZIS (lo:Int) (x:Dc) (t:List Dc):ckD lo (x::t)=(decide (lo<x.1)&&decide (x.1<1099511627777)&&decide (checkE x.2.fs=0)&&ckD x.1 t):=by
 unfold ckD;rw[List.map_cons,risB,List.all_cons];unfold okD;cases decide (lo<x.1) <;> cases decide (x.1<1099511627777) <;> cases decide (checkE x.2.fs=0) <;> simp
theorem ZDF (ds:List DocC) (A:Option Addr) (m c:Nat) (w:World) (hm:m=ds.length) (h:DocsOk w A ds) (n0:m<=1000000000) :
 Calls Tryz.prog 77 #[.slice A m c] w fun e w'=>e = .returned (.int .i64 (if okDs (dcs ds) then 0 else 120))/\Ext w w':=by
 have z0:=ZA (fun(e:Ev) B d W h=>ZBQ e B d W h);obtain⟨Z,hZ⟩:∃Z,Z=okDs (dcs ds):=⟨_,rfl⟩
 rw[<-hZ];have hlen:(dcs ds).length=m:=by unfold dcs;rw[List.length_map,hm]
 by_cases d0:65536<m
 ·have b0:Z=false:=by
   rw[hZ];unfold okDs;rw[hlen,decide_eq_false (by omega)];rfl
  subst b0;have c0:(65536:Int)<m:=by omega
  clear hZ z0 h;go_enter Tryz.func77,Tryz.ntmps77;go_wp2_with fail;go_ret;exact⟨rfl,Ext.refl _⟩
 ·have c0:¬ (65536:Int)<m:=by omega
  have x0:Z=ckD 0 (dcs ds):=by
   rw[hZ];unfold okDs;rw[hlen,decide_eq_true (by omega)];rfl
  replace hZ:=ZA x0;clear x0;replace hm:=ZA hm;replace h:=ZA h;replace hlen:=ZA hlen;go_enter Tryz.func77,Tryz.ntmps77;go_wp2_with fail
  go_loopw [3,11] (fun s3 s11 wr=>∃(i:Nat) (la:Int),s3 = .int .i64 la/\s11 = .int .i64 (i:Int)/\i<=m/\Hid (Z=ckD la (dcs (ds.drop i)))/\Hid (Ext w wr)) (fun _ s11 _=>m - (intOf s11).toNat)
  case atStart=>exact⟨0,0,rfl,rfl,by omega,ZA (by rw[hZ.out];rfl),ZA (Ext.refl w)⟩
  case round =>
   obtain⟨i,la,rfl,rfl,hi,hb,hE⟩:=hrel;by_cases i0:i<m
   ·obtain⟨x,t0⟩:∃x,ds[i]? = some x:=⟨_,List.getElem?_eq_getElem (by rw[<-hm.out];exact i0)⟩
    obtain⟨g,o,hA,e0,f0,y0⟩:=ZU (h.out.cells.ext hE.out) t0;subst hA;have hx:=h.out.each x (List.mem_of_getElem? t0);have h0:=hb.out;rw[Zo t0]at h0;unfold dcs at h0;rw[List.map_cons,ZIS]at h0;obtain⟨W2,p0⟩:∃W2,W2=wr.alloc (.cells #[.int .i64 x.seq,.int .i64 x.e.at_,.slice x.A x.e.fs.length x.c] 39):=⟨_,rfl⟩
    have g0:Ext w W2:=by rw[p0];exact hE.out.alloc _
    have k0:=z0.out x.e x.A x.c W2 (hx.1.ext g0);have j0:Row W2 wr.heap.size 39 #[.int .i64 x.seq,.int .i64 x.e.at_,.slice x.A x.e.fs.length x.c]:=by rw[p0];exact Row.new wr _ _
    obtain⟨g2,m0⟩:∃g2,g2=wr.heap.size:=⟨_,rfl⟩
    rw[<-m0]at j0;have r0:=j0.cell 0 rfl;have r1:=j0.cell 1 rfl;have r2:=j0.cell 2 rfl;unfold Ev.val at k0;obtain⟨seq,⟨at_,fs⟩,B,cB⟩:=x;change Z=(decide (la<seq)&&decide (seq<1099511627777)&&decide (checkE fs=0)&&ckD seq (dcs (ds.drop (i+1))))at h0;simp only at e0 f0 y0 k0 p0 r0 r1 r2;obtain⟨fl,u0⟩:∃fl,fl=fs.length:=⟨_,rfl⟩
    rw[<-u0]at y0 k0 p0 j0 r2;replace k0:=ZA k0;replace j0:=ZA j0;replace m0:=ZA m0;replace g0:=ZA g0;replace p0:=ZA p0;replace u0:=ZA u0;replace hx:=ZA hx;replace t0:=ZA t0;clear hb;by_cases h1:seq<=la
    ·rw[decide_eq_false (by omega),Bool.false_and,Bool.false_and,Bool.false_and]at h0;subst h0;go_upto_region 7 with fail;rw[<-p0.out,<-m0.out];go_wp2_with fail;go_ret;exact⟨rfl,g0.out⟩
    ·by_cases h2:1099511627776<seq
     ·rw[decide_eq_false (p:=seq<1099511627777) (by omega),Bool.and_false,Bool.false_and,Bool.false_and]at h0;subst h0;go_upto_region 7 with fail;rw[<-p0.out,<-m0.out];go_wp2_with fail;go_ret;exact⟨rfl,g0.out⟩
     ·rw[decide_eq_true (p:=la<seq) (by omega),decide_eq_true (p:=seq<1099511627777) (by omega),Bool.true_and,Bool.true_and]at h0;by_cases h3:checkE fs=0
      ·rw[decide_eq_true h3,Bool.true_and]at h0;rw[h3]at k0;replace h0:=ZA h0;go_upto_region 7 with fail;rw[<-p0.out,<-m0.out];go_wp2_with fail;refine k0.out.mono ?_;rintro e w3 ⟨rfl,v0⟩;have q0:=(j0.out.ext v0).cell 0 rfl;go_wp2_with fail;exact⟨⟨i+1,seq,rfl,rfl,by omega,h0,ZA (g0.out.trans v0)⟩,by simp only[intOf];omega⟩
      ·rw[decide_eq_false h3,Bool.false_and]at h0;subst h0;obtain⟨k,hk⟩:∃k,k=checkE fs:=⟨_,rfl⟩
       rw[<-hk]at k0 h3;have l0:¬ (k:Int)=0:=by omega
       replace hk:=ZA hk;go_upto_region 7 with fail;rw[<-p0.out,<-m0.out];go_wp2_with fail;refine k0.out.mono ?_;rintro e w3 ⟨rfl,v0⟩;go_wp2_with fail;go_ret;exact⟨rfl,g0.out.trans v0⟩
   ·obtain rfl:i=m:=by omega
    have a0:Z=true:=by rw[hb.out,List.drop_eq_nil_of_le (by rw[<-hm.out];exact Nat.le_refl _)];rfl
    subst a0;go_wp2_with fail;go_ret;exact⟨rfl,hE.out⟩
theorem ZLH {w:World} {base n c:Nat} {e:TypeId} {A:Option Addr} {xs:List Value} (h:Buf w base e A n c xs):A=none->c=0:=fun hA=>by
 rcases h.2.2 with ⟨_,h⟩ | ⟨g,_,h,_⟩
 ·exact h
 ·rw[h]at hA;cases hA
theorem ZJq (ds:List DocC) (A:Option Addr) (m c:Nat) (w:World) (hm:m=ds.length) (h:DocsOk w A ds) (l0:m<=1000000) :
 Calls Tryz.prog 44 #[.slice A m c] w fun e w'=>NewB w (timesD 0 (dcs ds)) e w':=by
 have i0:=ZA (fun A n c x l W h1 h2 h3 h4 h5 h6=>ZCM A n c x l W h1 h2 h3 h4 h5 h6);have b0:∀i,(timesD 0 (dcs (ds.take i))).length<=10*i:=fun i=>by
  have:=ZBb (dcs (ds.take i)) 0;have h2:(dcs (ds.take i)).length<=i:=by unfold dcs;rw[List.length_map,List.length_take];omega
  omega
 replace b0:=ZA b0;replace h:=ZA h;replace hm:=ZA hm;go_enter Tryz.func44,Tryz.ntmps44;go_wp2_with fail
 go_loopw [3,4,9] (fun s3 s4 s9 wr=>∃(i n:Nat) (B:Option Addr) (k:Nat) (a:Int),s9 = .int .i64 (i:Int)/\s3 = .slice B n k/\s4 = .int .i64 a/\i<=m/\n<=10*i/\Hid (a=lastAt 0 (dcs (ds.take i)))/\Hid (n=(timesD 0 (dcs (ds.take i))).length)/\Hid (Buf wr w.heap.size 5 B n k ((timesD 0 (dcs (ds.take i))).map B8))/\Hid (Ext w wr)) (fun _ _ s9 _=>m - (intOf s9).toNat)
 case atStart=>exact⟨0,0,none,0,0,rfl,rfl,rfl,by omega,by omega,ZA rfl,ZA rfl,ZA (Buf.nil _ _ _),ZA (Ext.refl w)⟩
 case round =>
  obtain⟨i,n,B,k,a,rfl,rfl,rfl,hi,hn,ha,j0,hB,hE⟩:=hrel;by_cases f0:i<m
  ·obtain⟨x,hx⟩:∃x,ds[i]? = some x:=⟨_,List.getElem?_eq_getElem (by rw[<-hm.out];exact f0)⟩
   have e0:=h.out.ext hE.out;obtain⟨g,o,hA,x0,x1,x2⟩:=ZU e0.cells hx;subst hA;have g0:dcs (ds.take (i+1))=dcs (ds.take i) ++ [x.dc]:=by rw[List.take_add_one,hx];unfold dcs;rw[List.map_append];rfl
   have z0:lastAt 0 (dcs (ds.take (i+1)))=x.e.at_:=by rw[g0,ZCL];rfl
   have m0:timesD 0 (dcs (ds.take (i+1)))=timesD 0 (dcs (ds.take i))++vb (zig (wrap64 (x.e.at_ - a))):=by
    rw[g0,ZCQ,<-ha.out];show _++(_ ++ [])=_;rw[List.append_nil];rfl
   obtain⟨d,hd⟩:∃d,d=wrap64 (x.e.at_ - a):=⟨_,rfl⟩
   have u0:=ZC1 (x.e.at_ - a);rw[<-hd]at m0 u0;have d0:=b0.out (i+1);replace g0:=ZA g0;replace z0:=ZA z0;replace m0:=ZA m0;replace hx:=ZA hx;clear e0;go_wp2_with fail;obtain⟨W5,p0⟩:∃W5,W5=wr.alloc (Obj.cells #[Value.int IntKind.i64 x.seq,Value.int IntKind.i64 x.e.at_,Value.slice x.A x.e.fs.length x.c] 39):=⟨_,rfl⟩
   have t0:Ext wr W5:=by rw[p0];exact(Ext.refl wr).alloc _
   have r5:Row W5 wr.heap.size 39 #[Value.int IntKind.i64 x.seq,Value.int IntKind.i64 x.e.at_,Value.slice x.A x.e.fs.length x.c]:=by rw[p0];exact Row.new wr _ _
   obtain⟨g5,y0⟩:∃g5,g5=wr.heap.size:=⟨_,rfl⟩
   rw[<-p0,<-y0,<-hd];rw[<-y0]at r5;have c0:=hB.out.ext t0;refine(i0.out B n k d _ W5 j0.out c0.cells (ZLH c0) (by omega) u0.1 u0.2).mono ?_;rintro e w6 ⟨A6,c6,rfl,h0,q0⟩;rw[<-m0.out]at h0 ⊢;have r6:=r5.ext q0;have y1:=r6.cell 1 rfl;have a0:w.heap.size<=W5.heap.size:=(hE.out.trans t0).size;obtain⟨n6,k0⟩:∃n6,n6=(timesD 0 (dcs (ds.take (i+1)))).length:=⟨_,rfl⟩
   rw[<-k0]at h0 d0 ⊢;replace k0:=ZA k0;replace h0:=ZA (h0.lower a0);replace q0:=ZA (t0.trans q0);clear p0 y0 hd r5 r6;go_wp2_with fail;go_roundw
   case rel=>exact⟨i+1,n6,A6,c6,_,rfl,rfl,rfl,by omega,d0,ZA z0.out.symm,k0,h0,ZA (hE.out.trans q0.out)⟩
   case measure=>simp only[intOf];omega
  ·have n0:m=i:=by omega
   have v0:ds.take i=ds:=List.take_of_length_le (by rw[<-hm.out];omega);rw[v0]at hB j0;go_wp2_with fail;go_ret;exact⟨B,k,by rw[j0.out];rfl,by rw[<-j0.out];exact hB.out,hE.out⟩
def prtA:List Int->Array Value
 | [a,b,c,d,e]=>#[.int .i64 0,.int .i64 0,.int .i64 a,.int .i64 b,.int .i64 c,.int .i64 d,.int .i64 e]
 | _=>#[]
theorem ZCr:∀(l:List Dc) (m:Int),I64ok' m->(∀d∈l,I64ok' d.2.at_)->I64ok' (lowD m l)
 | [],m,hm,_=>hm
 | d::t,m,hm,h=>by
  have h1:=h d (List.mem_cons_self ..);refine ZCr t _ ?_ fun x hx=>h x (List.mem_cons_of_mem _ hx);unfold I64ok' at *;omega
theorem ZCB:∀(l:List Dc) (m:Int),I64ok' m->(∀d∈l,I64ok' d.2.at_)->I64ok' (highD m l)
 | [],m,hm,_=>hm
 | d::t,m,hm,h=>by
  have h1:=h d (List.mem_cons_self ..);refine ZCB t _ ?_ fun x hx=>h x (List.mem_cons_of_mem _ hx);unfold I64ok' at *;omega
theorem ZGM:∀(l:List Dc) (d:Dc),lastD d.1 l=((d::l)[l.length]?.map (·.1)).getD 0
 | [],d=>rfl
 | p::t,d=>by
  show lastD p.1 t=_;rw[ZGM t p];rfl
theorem ZBa {ds:List DocC} {x0 xl:DocC} {m:Nat} (hm:m=ds.length) (h0:ds[0]? = some x0) (hl:ds[m - 1]? = some xl):partD (dcs ds) = [lowD x0.e.at_ (dcs ds),highD x0.e.at_ (dcs ds),x0.seq,xl.seq,(m:Int)]:=by
 cases ds with
 | nil=>simp at h0
 | cons y t =>
  obtain rfl:y=x0:=by simpa using h0
  have h1:=ZGM (dcs t) y.dc;have hk:(dcs t).length=t.length:=by unfold dcs;rw[List.length_map]
  have h2:(y.dc::dcs t)[t.length]? = some xl.dc:=by
   show (dcs (y::t))[t.length]? = _;unfold dcs;rw[List.getElem?_map];rw[hm,List.length_cons,Nat.add_sub_cancel]at hl;rw[hl];rfl
  rw[hk,h2]at h1;show [lowD y.e.at_ (dcs (y::t)),highD y.e.at_ (dcs (y::t)),y.seq,lastD y.dc.1 (dcs t),((dcs (y::t)).length:Int)]=_;rw[h1];have h3:(dcs (y::t)).length=m:=by rw[hm];unfold dcs;rw[List.length_map]
  rw[h3];rfl
theorem ZCf {fn:Func} {p:Tmp} {ty:TypeId} {P:Program} (h:fn.results=#[.cell p ty]) (tmps:Array Value) (w:World) (g:Nat) (cs:Array Value)
 (hp:tmps.getD p undef = .pointer (some ⟨g,0,none⟩)) (hl:(loadVar ty ⟨g,0,none⟩).run P w = .ok (.agg cs) w) :
 (results fn tmps).run P w = .ok (.agg cs) w:=by
 rw[Array.getD_eq_getD_getElem?]at hp;simp only[results,h];simp[Sem.run_bind,Result.andThen,hp,asAddr,hl]
theorem ZIK (ds:List DocC) (A:Option Addr) (m c:Nat) (w:World) (hm:m=ds.length) (h:DocsOk w A ds) (o1:m<=1000000) (h0:0<m) :
 Calls Tryz.prog 42 #[.slice A m c] w fun e w'=>e = .returned (.agg (prtA (partD (dcs ds))))/\Ext w w':=by
 obtain⟨x0,n0⟩:∃x,ds[0]? = some x:=⟨_,List.getElem?_eq_getElem (by omega)⟩
 obtain⟨xl,o0⟩:∃x,ds[m - 1]? = some x:=⟨_,List.getElem?_eq_getElem (by omega)⟩
 obtain⟨g,o,hA,a0,a1,a2⟩:=ZU h.cells n0;obtain⟨g',o',k0,b0,b1,b2⟩:=ZU h.cells o0;rw[hA]at k0;injection k0 with k0;injection k0 with hg ho;subst hg;subst ho;rw[Nat.zero_mul,Nat.add_zero]at a0 a1 a2;have p0:partD (dcs ds) = [lowD x0.e.at_ (dcs ds),highD x0.e.at_ (dcs ds),x0.seq,xl.seq,(m:Int)]:=ZBa hm n0 o0;subst hA;replace h:=ZA h;replace hm:=ZA hm;replace n0:=ZA n0;replace o0:=ZA o0;obtain⟨k,hk⟩:∃k,m=k+1:=⟨m - 1,by omega⟩
 subst hk;rw[show k+1 - 1=k by omega]at b0 b1 b2;have e0:∀d∈dcs ds,I64ok' d.2.at_:=fun d hd=>by
  unfold dcs at hd;obtain⟨x,hx,rfl⟩:=List.mem_map.1 hd;exact(h.out.each x hx).2.1
 replace e0:=ZA e0;replace p0:=ZA p0;go_enter Tryz.func42,Tryz.ntmps42;go_wp2_with fail;obtain⟨W1,g0⟩:∃W1,W1=w.alloc (Obj.cells #[Value.int IntKind.i64 0,Value.int IntKind.i64 0,Value.int IntKind.i64 0,Value.int IntKind.i64 0,Value.int IntKind.i64 0,Value.int IntKind.i64 0,Value.int IntKind.i64 0] 74):=⟨_,rfl⟩
 rw[<-g0];have j0:Ext w W1:=by rw[g0];exact(Ext.refl w).alloc _
 have r1:Row W1 w.heap.size 74 #[Value.int IntKind.i64 0,Value.int IntKind.i64 0,Value.int IntKind.i64 0,Value.int IntKind.i64 0,Value.int IntKind.i64 0,Value.int IntKind.i64 0,Value.int IntKind.i64 0]:=by rw[g0];exact Row.new w _ _
 have c1:=j0.cell a1;have c0:=j0.cell a0;have d0:=j0.cell b0;replace g0:=ZA g0;refine ZPw (fun K hK=>?_);go_wp2_with fail;refine⟨by kernel_rfl,?_⟩;go_wp2_with fail;obtain⟨W2,m0⟩:∃W2,W2=(W1.alloc (Obj.cells #[Value.int IntKind.i64 0,Value.int IntKind.i64 0,Value.int IntKind.i64 x0.e.at_,Value.int IntKind.i64 x0.e.at_,Value.int IntKind.i64 x0.seq,Value.int IntKind.i64 xl.seq,Value.int IntKind.i64 ((k:Int)+1)] 74)).drew:=⟨_,rfl⟩
 rw[<-m0];obtain⟨b1,y0⟩:∃b1,b1=w.heap.size:=⟨_,rfl⟩
 obtain⟨b2,z0⟩:∃b2,b2=W1.heap.size:=⟨_,rfl⟩
 have x1:Ext W1 W2:=by rw[m0];exact((Ext.refl W1).alloc _).drew
 have r2:Row W2 b2 74 #[Value.int IntKind.i64 0,Value.int IntKind.i64 0,Value.int IntKind.i64 x0.e.at_,Value.int IntKind.i64 x0.e.at_,Value.int IntKind.i64 x0.seq,Value.int IntKind.i64 xl.seq,Value.int IntKind.i64 ((k:Int)+1)]:=by rw[m0,z0];exact Row.new W1 _ _
 have r12:=r1.ext x1;rw[<-y0]at r12;have d1:b1<b2:=by have:=r1.lt;omega
 rw[<-y0,<-z0];have hE:=ZA (j0.trans x1);replace r2:=ZA r2;replace r12:=ZA r12;replace m0:=ZA m0;replace y0:=ZA y0;replace z0:=ZA z0;clear r1 c0 c1 d0
 go_loopw [32] (fun s32 wr=>∃(i:Nat) (lo hi:Int),s32 = .int .i64 (i:Int)/\i<=k+1/\Hid (lo=lowD x0.e.at_ (dcs (ds.take i)))/\Hid (hi=highD x0.e.at_ (dcs (ds.take i)))/\Hid (Row wr b2 74 #[Value.int IntKind.i64 0,Value.int IntKind.i64 0,Value.int IntKind.i64 lo,Value.int IntKind.i64 hi,Value.int IntKind.i64 x0.seq,Value.int IntKind.i64 xl.seq,Value.int IntKind.i64 ((k:Int)+1)])/\Hid (Row wr b1 74 #[Value.int IntKind.i64 0,Value.int IntKind.i64 0,Value.int IntKind.i64 0,Value.int IntKind.i64 0,Value.int IntKind.i64 0,Value.int IntKind.i64 0,Value.int IntKind.i64 0])/\Hid (Ext w wr)) (fun s32 _=>k+1 - (intOf s32).toNat)
 case atStart=>exact⟨0,x0.e.at_,x0.e.at_,rfl,by omega,ZA rfl,ZA rfl,r2,r12,hE⟩
 case round =>
  obtain⟨i,lo,hi,rfl,n1,k1,h1,q2,q1,hE⟩:=hrel;by_cases i1:i<k+1
  ·obtain⟨x,hx⟩:∃x,ds[i]? = some x:=⟨_,List.getElem?_eq_getElem (by rw[<-hm.out];exact i1)⟩
   obtain⟨g',o',k0,x0',x1',x2'⟩:=ZU (h.out.ext hE.out).cells hx;injection k0 with k0;injection k0 with hg ho;subst hg;subst ho;have l0:dcs (ds.take (i+1))=dcs (ds.take i) ++ [x.dc]:=by rw[List.take_add_one,hx];unfold dcs;rw[List.map_append];rfl
   have j1:Hid (min lo x.e.at_=lowD x0.e.at_ (dcs (ds.take (i+1)))):=ZA (by rw[l0,ZE2,<-k1.out];rfl);have p1:Hid (max hi x.e.at_=highD x0.e.at_ (dcs (ds.take (i+1)))):=ZA (by rw[l0,ZD4,<-h1.out];rfl);replace l0:=ZA l0;replace hx:=ZA hx;have m1:=q2.out.lt;have g1:=q1.out.lt;go_wp2_with fail;obtain⟨W5,u0⟩:∃W5,W5=wr.alloc (Obj.cells #[Value.int IntKind.i64 x.seq,Value.int IntKind.i64 x.e.at_,Value.slice x.A x.e.fs.length x.c] 39):=⟨_,rfl⟩
   have r0:Ext wr W5:=by rw[u0];exact(Ext.refl wr).alloc _
   have r5:Row W5 wr.heap.size 39 #[Value.int IntKind.i64 x.seq,Value.int IntKind.i64 x.e.at_,Value.slice x.A x.e.fs.length x.c]:=by rw[u0];exact Row.new wr _ _
   obtain⟨g5,i0⟩:∃g5,g5=wr.heap.size:=⟨_,rfl⟩
   rw[<-u0,<-i0];rw[<-i0]at r5;have p2:=q2.out.ext r0;have v2:=p2.cell 2 rfl;have v3:=p2.cell 3 rfl;have f2:=p2.free 2;have f3:=p2.free 3;have u1:=r5.cell 1 rfl;have s1:g5≠b2:=by omega
   replace p2:=ZA p2;replace r5:=ZA r5;replace u0:=ZA u0;replace i0:=ZA i0;clear x0' x1' x2' g1 m1;go_region;have e1:∀g t cs,g≠b2->Row W5 g t cs->Row (((W5.setCell ⟨b2,2,none⟩ (.int .i64 (min lo x.e.at_))).setCell ⟨b2,3,none⟩ (.int .i64 (max hi x.e.at_))).drew) g t cs:=fun g t cs hg hr=>(hr.away (p:=⟨b2,2,none⟩) hg _).away (p:=⟨b2,3,none⟩) hg _;have y1:w.heap.size<=b2:=by rw[z0.out];exact j0.size
   have w0:Ext w (((W5.setCell ⟨b2,2,none⟩ (.int .i64 (min lo x.e.at_))).setCell ⟨b2,3,none⟩ (.int .i64 (max hi x.e.at_))).drew):=(((hE.out.trans r0).setCell (p:=⟨b2,2,none⟩) y1 _).setCell (p:=⟨b2,3,none⟩) y1 _).drew;have p9:Row (((W5.setCell ⟨b2,2,none⟩ (.int .i64 (min lo x.e.at_))).setCell ⟨b2,3,none⟩ (.int .i64 (max hi x.e.at_))).drew) b2 74 #[Value.int IntKind.i64 0,Value.int IntKind.i64 0,Value.int IntKind.i64 (min lo x.e.at_),Value.int IntKind.i64 (max hi x.e.at_),Value.int IntKind.i64 x0.seq,Value.int IntKind.i64 xl.seq,Value.int IntKind.i64 ((k:Int)+1)]:=(p2.out.put 2 _).put 3 _;have q19:=e1 b1 _ _ (by omega) (q1.out.ext r0);replace w0:=ZA w0;replace p9:=ZA p9;replace q19:=ZA q19;go_wp2_with fail;go_roundw
   case rel=>exact⟨i+1,_,_,rfl,by omega,j1,p1,p9,q19,w0⟩
   case measure=>simp only[intOf];omega
  ·have s0:ds.take i=ds:=List.take_of_length_le (by rw[<-hm.out];omega);rw[s0]at k1 h1;have v0:=q2.out.cell 0 rfl;have v1:=q2.out.cell 1 rfl;have v2:=q2.out.cell 2 rfl;have v3:=q2.out.cell 3 rfl;have v4:=q2.out.cell 4 rfl;have v5:=q2.out.cell 5 rfl;have v6:=q2.out.cell 6 rfl;have f0:=q1.out.free 0;have f1:=q1.out.free 1;have f2:=q1.out.free 2;have f3:=q1.out.free 3;have f4:=q1.out.free 4;have f5:=q1.out.free 5;have f6:=q1.out.free 6;have t0:=q1.out.cell 0 rfl;have t1:=q1.out.cell 1 rfl;have t2:=q1.out.cell 2 rfl;have t3:=q1.out.cell 3 rfl;have t4:=q1.out.cell 4 rfl;have t5:=q1.out.cell 5 rfl;have t6:=q1.out.cell 6 rfl;go_wp2_with fail;have q0:w.heap.size<=b1:=by rw[y0.out];exact Nat.le_refl _
   have l1:=((((((q1.out.put 0 (.int .i64 0)).put 1 (.int .i64 0)).put 2 (.int .i64 lo)).put 3 (.int .i64 hi)).put 4 (.int .i64 x0.seq)).put 5 (.int .i64 xl.seq)).put 6 (.int .i64 ((k:Int)+1));have z1:=((((((hE.out.setCell (p:=⟨b1,0,none⟩) q0 (.int .i64 0)).setCell (p:=⟨b1,1,none⟩) q0 (.int .i64 0)).setCell (p:=⟨b1,2,none⟩) q0 (.int .i64 lo)).setCell (p:=⟨b1,3,none⟩) q0 (.int .i64 hi)).setCell (p:=⟨b1,4,none⟩) q0 (.int .i64 x0.seq)).setCell (p:=⟨b1,5,none⟩) q0 (.int .i64 xl.seq)).setCell (p:=⟨b1,6,none⟩) q0 (.int .i64 ((k:Int)+1));refine bodyPost_ret (ZCf rfl _ _ b1 #[.int .i64 0,.int .i64 0,.int .i64 lo,.int .i64 hi,.int .i64 x0.seq,.int .i64 xl.seq,.int .i64 ((k:Int)+1)] rfl (run_loadVar_row _ b1 74 74 _ (0,0) _ l1 Tryz.underlying74 rfl (by kernel_rfl))) rfl ⟨?_,z1⟩;rw[p0.out,<-k1.out,<-h1.out];rfl
def IterS {α:Type} (P:Program) (gf:Nat) (lb:Array Value) (encs:α->Array Value) (St:World->World->World->Prop) (Nx:List α->α->World->Prop) (Kp:World->World->Prop) (Fin:List α->World->World->Prop) (w:World):Prop :=
 ∀(l:Nat) (J:List α->World->Prop) (W:World),Ext w W->(∀pre A B,J pre A->St W A B->J pre B) ->
  (∀pre x W1,J pre W1->Nx pre x W1->YieldAt Fence.wide 0 P l (encs x) W1 fun e W'=>e = .returned (.bool true)/\J (pre ++ [x]) W'/\Kp W1 W'/\KeepsOthers W1 W')->J [] W ->
  Calls P gf (#[.func (.yield l) #[] #[]]++lb) W fun e W'=>(∃v,e = .returned v)/\∃xs W2,J xs W2/\Fin xs W2 W'
theorem ZIt {α:Type} {P:Program} {g:Operand} {ps:Array Tmp} {assign body:Code} {Q:Exit->Act->World->Prop} {a:Act} {w:World} {gf:Nat} {lb:Array Value}
 (hg:a.eval g = .func (.func gf) #[] lb) (eg:∀args w,(callFunc gf args).run P w = .ok (.enter gf args) w)
 {encs:α->Array Value} {St:World->World->World->Prop} {Nx:List α->α->World->Prop} {Kp:World->World->Prop} {Fin:List α->World->World->Prop} (s0:IterS P gf lb encs St Nx Kp Fin w)
 (j1:∀x,(encs x).size=ps.size) (l0:∀W A B,St W A B->∀k o,k<W.heap.size->A.heap[k]? = some o->o.isCells=false->B.heap[k]? = some o) (g0:∀xs A B,Fin xs A B->KeepsOthers A B)
 (a0:∀A B C,Kp A B->Kp B C->Kp A C) (f0:∀A B,Alike w.heap.size A B->Kp A B)
 (I:List α->World->Prop) (hI:∀pre A B,I pre A->Alike w.heap.size A B->I pre B) (n0:∀W pre A B,Ext w W->I pre A->St W A B->I pre B) (h0:∀W,Alike w.heap.size w W->I [] W)
 (j0:∀(l:Nat) (pre:List α) (x:α) (W:World),I pre W->Nx pre x W->assign.wpIn (Fence.wide.inRound l) 0 P (Exit.then (roundGo w.heap.size P l body Kp I (pre ++ [x]) W) (fun _ _ _=>False)) { tmps:=(ps.zip (encs x)).foldl (fun t (p,v)=>t.setIfInBounds p v) a.tmps,defers:= [] } W)
 (t0:∀(D:Nat) (xs:List α) (W2 W3 W4:World),w.heap.size<=D->I xs W2->Fin xs W2 W3->Alike w.heap.size W3 W4->W4.heap[D]? = some (.deferred (some []))->Q .normal { a with defers:= { target:= .collected D,args:=#[] }::a.defers } W4) :
 (Code.rangeFunc g ps assign body).wpIn Fence.wide 0 P Q a w:=by
 refine wpIn_rangeFunc ?_;intro fn o0;show ∃_,_;obtain⟨rec,q0⟩:∃rec:LoopState->Option Code->Loop,rec=fun st pe=> { state:=st,pending:=pe,fn,tmps:=a.tmps,params:=ps,assign,body,defers:=w.heap.size }:=⟨_,rfl⟩
 obtain⟨W1,v0⟩:∃W1,(w.alloc (.deferred (some []))).alloc (.loop (rec .ready none))=W1:=⟨_,rfl⟩
 have i0:W1.heap[w.heap.size+1]? = some (.loop (rec .ready none)):=by
  rw[<-v0];have:=World.alloc_heap_new (w.alloc (.deferred (some []))) (.loop (rec .ready none));rwa [World.size_alloc]at this
 have e0:W1.heap[w.heap.size]? = some (.deferred (some [])):=by
  rw[<-v0];exact(Below.heap_alloc _ _ _ (by simp)).trans (World.alloc_heap_new w _)
 have z0:Ext w W1:=by rw[<-v0];exact((Ext.refl w).alloc _).alloc _
 refine⟨w.heap.size+1,[{ target:= .collected w.heap.size,args:=#[] }],W1,{ target:= .fn (.func gf) lb,args:=#[.func (.yield (w.heap.size+1)) #[] #[]] },W1,gf,
  #[.func (.yield (w.heap.size+1)) #[] #[]]++lb,W1,?_,?_,?_,?_,fun h=>(by cases h),?_⟩
 ·rw[<-v0,q0];exact run_enterLoop_outer _ _ _ _ _
 ·simp only[resolve,hg];simp[go_sem]
 ·intro f' _;trivial
 ·simp[invoke,go_sem,eg]
 ·refine callsIn_wide.2 ((s0 (w.heap.size+1)
   (fun pre W=>I pre W/\W.heap[w.heap.size+1]? = some (.loop (rec .ready none))/\W.heap[w.heap.size]? = some (.deferred (some [])))
   W1 z0 (fun pre A B h hs=>⟨n0 W1 pre A B z0 h.1 hs,l0 W1 A B hs _ _ (Array.getElem?_eq_some_iff.1 i0).1 h.2.1 rfl,l0 W1 A B hs _ _ (Array.getElem?_eq_some_iff.1 e0).1 h.2.2 rfl⟩)
   ?_ ⟨h0 W1 (Chg.of_ext z0 _),i0,e0⟩).mono ?_)
  ·rintro pre x W ⟨hi,hl,hk⟩ k1;have g1:w.heap.size+1<W.heap.size:=(Array.getElem?_eq_some_iff.1 hl).1;have hy:=run_yield (P:=P) (args:=encs x) hl (by rw[q0];exact j1 x);rw[q0]at hy;refine⟨fn,_,assign,body,hy,roundIn_of_wpIn o0 ?_⟩;refine wpIn_mono (j0 _ pre x W hi k1) ?_;rintro e a1 W2 hq;cases e with
   | normal =>
    obtain⟨x0,q1,m0⟩:=hq;have k0:=x0.same _ _ hl rfl;have b0:=x0.same _ _ hk rfl;have d0:w.heap.size+1<W2.heap.size:=(Array.getElem?_eq_some_iff.1 k0).1;refine⟨W2.putObj (w.heap.size+1) (.loop { rec .ready none with state:= .busy }),run_beginRound k0 (by rw[q0]),?_⟩;have ha:=Alike.others (B:=w.heap.size) k0 rfl (by omega) (.loop { rec .ready none with state:= .busy });have p1:(W2.putObj (w.heap.size+1) (.loop { rec .ready none with state:= .busy })).heap[w.heap.size+1]? = some (.loop { rec .ready none with state:= .busy }):=World.putObj_heap_same d0;have w0:(W2.putObj (w.heap.size+1) (.loop { rec .ready none with state:= .busy })).heap[w.heap.size]? = some (.deferred (some [])):=(World.putObj_heap_other (by omega)).trans b0;refine wpIn_mono (m0 _ ha) ?_;rintro e a3 W3 hp;cases e with
    | normal =>
     obtain⟨p0,c0,r0⟩:=hp;have y0:=p0.same _ _ p1 rfl;have h1:=p0.same _ _ w0 rfl;have hr:=run_endRound (P:=P) none y0;rw[q0]at hr;have u0:=Alike.others (B:=w.heap.size) y0 rfl (by omega) (.loop (rec .ready none));rw[q0]at u0;refine⟨_,_,hr,rfl,⟨hI _ _ _ r0 u0,?_,?_⟩,a0 _ _ _ (a0 _ _ _ q1 (f0 _ _ ha)) (a0 _ _ _ c0 (f0 _ _ u0)),?_⟩
     ·rw[q0];exact World.putObj_heap_same (Array.getElem?_eq_some_iff.1 y0).1
     ·exact(World.putObj_heap_other (by omega)).trans h1
     ·refine⟨Nat.le_trans x0.size (Nat.le_trans ha.size (Nat.le_trans p0.size u0.size)),fun q o ho hc=>?_⟩;by_cases hq:q=w.heap.size+1
      ·subst hq;rw[hl,q0]at ho;rw[<-ho];exact World.putObj_heap_same (Array.getElem?_eq_some_iff.1 y0).1
      ·refine(World.putObj_heap_other hq).trans (p0.same q o ?_ hc);exact(World.putObj_heap_other hq).trans (x0.same q o ho hc)
    | ret=>exact hp.elim
    | exit id=>exact hp.elim
    | goto t=>exact hp.elim
    | panic ch=>exact hp.elim
    | outgrown=>exact hp.elim
   | ret=>exact hq.elim
   | exit id=>exact hq.elim
   | goto t=>exact hq.elim
   | panic ch=>exact hq.elim
   | outgrown=>exact hq.elim
  ·rintro e W2 ⟨⟨v,rfl⟩,xs,W3,⟨hi,hl,hk⟩,hf⟩;have k0:=(g0 _ _ _ hf).same _ _ hl rfl;have b0:=(g0 _ _ _ hf).same _ _ hk rfl;refine⟨none,_,by have:=run_endLoop (P:=P) k0 (by rw[q0];simp);rw[q0]at this;exact this,t0 _ xs W3 W2 _ (Nat.le_refl _) hi hf ?_ ((World.putObj_heap_other (by omega)).trans b0)⟩;rw[q0]at k0;exact Alike.others k0 rfl (by omega) _
end
end Go.Proofs.YtkdcnhnaiknaaaaGreat
