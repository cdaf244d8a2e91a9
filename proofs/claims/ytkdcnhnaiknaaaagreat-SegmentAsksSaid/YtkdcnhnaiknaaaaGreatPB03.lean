/- Texts of one proof, joined. -/
import Derived.Test.YtkdcnhnaiknaaaaGreatPB01
import Derived.Test.YtkdcnhnaiknaaaaGreatPB02
import Derived.HandedShaped
import Derived.Handed
import Derived.Deep.QuietTactic
import Derived.BigQuiet
import Derived.Laws.BitsAllLaws
import Derived.Lib.AppendZeros
set_option linter.unusedSimpArgs false
set_option linter.unusedVariables false
set_option maxRecDepth 100000
set_option maxHeartbeats 16000000
namespace Go.Proofs.YtkdcnhnaiknaaaaGreat
section
def vb (n:Nat):List UInt8:=if _h:n<128 then [UInt8.ofNat n] else UInt8.ofNat (n%128+128)::vb (n / 128)
termination_by n
decreasing_by omega
theorem ZF4 {n:Nat} (h:n<128):vb n = [UInt8.ofNat n]:=by rw[vb,dif_pos h]
theorem ZJg {n:Nat} (h:¬ n<128):vb n=UInt8.ofNat (n%128+128)::vb (n / 128):=by rw[vb,dif_neg h]
theorem ZES:∀(k n:Nat),n<128^k->(vb n).length<=max k 1
 | 0,n,h=>by
  have:n=0:=by simpa using h
  subst this;rw[ZF4 (by omega)];simp
 | k+1,n,h=>by
  by_cases hn:n<128
  ·rw[ZF4 hn];simp
  ·rw[ZJg hn,List.length_cons];have ih:=ZES k (n / 128) (by rw[Nat.pow_succ]at h;omega);have:1<=k:=by
    rcases Nat.eq_zero_or_pos k with rfl | hk
    ·simp at h;omega
    ·exact hk
   omega
theorem ZD {n:Nat} (h:n<18446744073709551616):(vb n).length<=10:=ZES 10 n (by omega)
theorem ZKS (n:Nat):1<=(vb n).length:=by
 by_cases hn:n<128
 ·rw[ZF4 hn];simp
 ·rw[ZJg hn];simp
def getV (i:Nat):List UInt8->Except Nat (Nat×List UInt8)
 | []=> .error 6
 | x::l=>if 10<=i then .error 6 else if (i=9/\1<x.toNat)\/(0<i/\x.toNat=0) then .error 20 else
  if x.toNat<128 then .ok (x.toNat,l) else match getV (i+1) l with
   | .ok (n,r)=> .ok (x.toNat - 128+128*n,r)
   | .error e=> .error e
theorem ZAH:∀(l:List UInt8) (i n:Nat) (r:List UInt8),getV i l = .ok (n,r)->i<=9/\n<2*128^(9 - i)/\∃p,l=p++r/\p ≠ []
 | [],i,n,r,h=>by simp[getV]at h
 | x::l,i,n,r,h=>by
  unfold getV at h;by_cases q0:10<=i
  ·rw[if_pos q0]at h;cases h
  rw[if_neg q0]at h;by_cases hb:(i=9/\1<x.toNat)\/(0<i/\x.toNat=0)
  ·rw[if_pos hb]at h;cases h
  rw[if_neg hb]at h;have hx:=x.toNat_lt;by_cases h0:x.toNat<128
  ·rw[if_pos h0]at h;injection h with h;injection h with h1 h2;subst h1 h2;refine⟨by omega,?_,[x],rfl,by simp⟩;by_cases h9:i=9
   ·subst h9;simp only[Nat.sub_self,Nat.pow_zero];omega
   ·have:128^1<=128^(9 - i):=Nat.pow_le_pow_right (by omega) (by omega);omega
  ·rw[if_neg h0]at h;split at h
   ·rename_i m r' hg;injection h with h;injection h with h1 h2;subst h1 h2;obtain⟨h3,h4,p,hp,_⟩:=ZAH l (i+1) m r' hg;refine⟨by omega,?_,x::p,by rw[hp];rfl,by simp⟩;have:9 - i=(9 - (i+1))+1:=by omega
    rw[this,Nat.pow_succ];omega
   ·cases h
theorem Zp {l:List UInt8} {n:Nat} {r:List UInt8} (h:getV 0 l = .ok (n,r)):n<18446744073709551616:=by
 have:=(ZAH l 0 n r h).2.1;omega
theorem ZK5:∀(k i n:Nat) (r:List UInt8),k+i=9->n<2*128^k->(0<i->0<n)->getV i (vb n++r) = .ok (n,r)
 | k,i,n,r,hk,hn,h0=>by
  by_cases q0:n<128
  ·rw[ZF4 q0];have hx:(UInt8.ofNat n).toNat=n:=by rw[UInt8.toNat_ofNat'];omega
   show getV i (UInt8.ofNat n::r)=_;unfold getV;rw[if_neg (by omega),hx,if_neg,if_pos q0];rintro(⟨rfl,h1⟩ | ⟨h1,h2⟩)
   ·obtain rfl:k=0:=by omega
    simp at hn;omega
   ·have:=h0 h1;omega
  ·rw[ZJg q0];have hx:(UInt8.ofNat (n%128+128)).toNat=n%128+128:=by rw[UInt8.toNat_ofNat'];omega
   show getV i (UInt8.ofNat (n%128+128)::(vb (n / 128)++r))=_;have p0:1<=k:=by
    rcases Nat.eq_zero_or_pos k with rfl | h
    ·simp at hn;omega
    ·exact h
   obtain⟨k,rfl⟩:∃j,k=j+1:=⟨k - 1,by omega⟩
   have ih:=ZK5 k (i+1) (n / 128) r (by omega) (by rw[Nat.pow_succ]at hn;omega) (fun _=>by omega);unfold getV;rw[if_neg (by omega),hx,if_neg (by omega),if_neg (by omega),ih];simp only;rw[show n%128+128 - 128+128*(n / 128)=n by omega]
theorem Zm {n:Nat} (h:n<18446744073709551616) (r:List UInt8):getV 0 (vb n++r) = .ok (n,r):=ZK5 9 0 n r rfl (by omega) (by omega)
def zig (n:Int):Nat:=if 0<=n then 2*n.toNat else 2*(-1 - n).toNat+1
def unzig (u:Nat):Int:=if u%2=0 then ((u / 2:Nat):Int) else -1 - ((u / 2:Nat):Int)
theorem ZLg (n:Int):unzig (zig n)=n:=by
 unfold unzig zig;split <;> split <;> omega
theorem ZBB {n:Int} (h1 : -9223372036854775808<=n) (h2:n<=9223372036854775807):zig n<18446744073709551616:=by
 unfold zig;split <;> omega
theorem ZFH {u:Nat} (h:u<18446744073709551616) : -9223372036854775808<=unzig u/\unzig u<=9223372036854775807:=by
 unfold unzig;split <;> omega
def vall (l:List Int):List UInt8:=l.flatMap fun n=>vb (zig n)
end
section
abbrev Po:=Int×List Int
def okPs (l:List Po):Bool:=risB 65536 (-1) (l.map (·.1))&&l.all fun p=>decide (0<p.2.length)&&risB 1048576 (-1) p.2
def stepsL:Int->List Int->List UInt8
 | _,[]=> []
 | last,n::t=>vb (n - last - 1).toNat++stepsL n t
def onePo (last:Int) (p:Po):List UInt8:=vb (p.1 - last - 1).toNat++vb p.2.length++stepsL (-1) p.2
def blockPo:Int->List Po->List UInt8
 | _,[]=> []
 | last,p::t=>onePo last p++blockPo p.1 t
def lastPo:Int->List Po->Int
 | last,[]=>last
 | _,p::t=>lastPo p.1 t
def headPo:Int->List (List Po)->List UInt8
 | _,[]=> []
 | last,b::bs=>vb (lastPo last b).toNat++vb (blockPo last b).length++headPo (lastPo last b) bs
def encPs (l:List Po):List UInt8:=vb l.length++headPo (-1) (chunkL 32 l)++blockPo (-1) l
theorem Zn:∀(a b:List Po) (last:Int),blockPo last (a++b)=blockPo last a++blockPo (lastPo last a) b
 | [],b,last=>rfl
 | p::t,b,last=>by
  show onePo last p++blockPo p.1 (t++b)=_;rw[Zn t b];show _=(onePo last p++blockPo p.1 t)++blockPo (lastPo p.1 t) b;rw[List.append_assoc]
theorem ZAl:∀(a b:List Po) (last:Int),lastPo last (a++b)=lastPo (lastPo last a) b
 | [],b,last=>rfl
 | p::t,b,last=>ZAl t b p.1
theorem ZCS:∀(a b:List (List Po)) (last:Int),headPo last (a++b)=headPo last a++headPo (lastPo last (a.flatMap id)) b
 | [],b,last=>rfl
 | p::t,b,last=>by
  show vb (lastPo last p).toNat++vb (blockPo last p).length++headPo (lastPo last p) (t++b)=_;rw[ZCS t b,List.flatMap_cons];show _=(vb (lastPo last p).toNat++vb (blockPo last p).length++headPo (lastPo last p) t)++headPo (lastPo last (p++t.flatMap id)) b;rw[ZAl,List.append_assoc _ _ (headPo _ b)]
theorem ZEX:∀(a:List Int) (x last:Int),stepsL last (a ++ [x])=stepsL last a++vb (x - (a.getLast?.getD last) - 1).toNat
 | [],x,last=>by simp[stepsL]
 | y::t,x,last=>by
  show vb _++stepsL y (t ++ [x])=_;rw[ZEX t x y];have:(y::t).getLast?.getD last=t.getLast?.getD y:=by
   cases t with
   | nil=>rfl
   | cons z u=>rw[List.getLast?_cons_cons];cases h:(z::u).getLast? with
    | none=>simp at h
    | some v=>rfl
  rw[this];show _=(vb _++stepsL y t)++_;rw[List.append_assoc]
theorem ZCH {n:Int}:∀ {l:List Int} {lo:Int},risB n lo l=true->lo<n->(l.length:Int)<n - lo
 | [],lo,_,h=>by simp;omega
 | y::t,lo,h,_=>by
  unfold risB at h;rw[Bool.and_eq_true,Bool.and_eq_true]at h;have h1:=of_decide_eq_true h.1.1;have h2:=of_decide_eq_true h.1.2;have:=ZCH h.2 h2;rw[List.length_cons];omega
theorem ZL6 {n k:Nat} (h:n<128^k) (hk:1<=k):(vb n).length<=k:=by
 have:=ZES k n h;omega
theorem ZEs:∀ {l:List Int} {lo:Int},risB 1048576 lo l=true -> -1<=lo->(stepsL lo l).length<=3*l.length
 | [],lo,_,_=>by simp[stepsL]
 | y::t,lo,h,q0=>by
  unfold risB at h;rw[Bool.and_eq_true,Bool.and_eq_true]at h;have h1:=of_decide_eq_true h.1.1;have h2:=of_decide_eq_true h.1.2;have ih:=ZEs h.2 (by omega);have h0:(128:Nat)^3=2097152:=by decide
  have hv:=ZL6 (n:=(y - lo - 1).toNat) (k:=3) (by omega) (by omega);show (vb _++stepsL y t).length<=_;rw[List.length_append,List.length_cons];omega
end
section
open Go.ChangeShapes Go.WideShapes Go.Deep Go.RowKit
section
variable {H:Type} {enc:TypeId×Value->H} {w:World} {base:Nat} {spare:Nat->Bool} {held:Bool}
theorem ZGN {t:TypeId} {fs:Array Field} {tys:Array TypeId} {fuel:Nat} {cs:List Value} {y:DataW H×List MemPlace} (k0:Tryz.prog.underlying t=some (.struct fs)) (q0:oneCellFields Tryz.prog fs=true) (g0:fs.map Field.type=tys)
 (h:DataW.trod enc Tryz.prog w base spare held fuel t cs=some y):∃n,∀(j:Nat) (t:TypeId) (v:Value),tys[j]? = some t->cs[j]? = some v->∃z,DataW.trod enc Tryz.prog w base spare held n t [v]=some z:=by
 obtain⟨ys,n,hn,hy,hlen,t0,hf⟩:=DataW.trod_struct k0 h;refine⟨n,fun j t v hj hv=>?_⟩;rw[<-g0,Array.getElem?_map]at hj;obtain⟨f,h0,rfl⟩:=Option.map_eq_some_iff.1 hj;obtain⟨ho,hk⟩:=hone_of q0 j f h0;have h1:=hf j f h0;have p0:j<cs.length:=(List.getElem?_eq_some_iff.1 hv).1;rw[ho,hk,List.drop_eq_getElem_cons p0]at h1;have m0:cs[j]=v:=by rw[List.getElem?_eq_getElem p0]at hv;simpa using hv
 rw[m0]at h1;have j0:j<ys.length:=by rw[t0];exact(Array.getElem?_eq_some_iff.1 h0).1
 rw[List.getElem?_eq_getElem j0]at h1;exact⟨_,h1⟩
theorem Ze {α:Type} {k:Nat} {cellsA:α->List Value} (hlen:∀x,(cellsA x).length=k):∀xs:List α,(xs.flatMap cellsA).length=xs.length*k
 | []=>by simp
 | x::xs=>by rw[List.flatMap_cons,List.length_append,hlen,Ze hlen xs,List.length_cons,Nat.add_mul,Nat.one_mul,Nat.add_comm]
theorem Zj {α:Type} {k:Nat} {cellsA:α->List Value} (hlen:∀x,(cellsA x).length=k):∀(xs:List α) (i:Nat) (x:α) (j:Nat),xs[i]? = some x->j<k->(xs.flatMap cellsA)[i*k+j]? = (cellsA x)[j]?
 | [],i,x,j,h,_=>by simp at h
 | y::xs,0,x,j,h,hj=>by
  obtain rfl:y=x:=by simpa using h
  rw[List.flatMap_cons,List.getElem?_append_left (by rw[hlen];omega),Nat.zero_mul,Nat.zero_add]
 | y::xs,i+1,x,j,h,hj=>by
  have h':xs[i]? = some x:=by simpa using h
  rw[List.flatMap_cons,List.getElem?_append_right (by rw[hlen,Nat.add_mul,Nat.one_mul];omega),hlen,show (i+1)*k+j - k=i*k+j by rw[Nat.add_mul,Nat.one_mul];omega];exact Zj hlen xs i x j h' hj
theorem ZF9 {t e:TypeId} {k fuel:Nat} {v:Value} {x:DataW H×List MemPlace} {α:Type} {cellsA:α->List Value} {Q:α->Prop} (ht:Tryz.prog.underlying t=some (.slice e)) (hc:Tryz.prog.cellsOf e=k) (t0:0<k) (hlen:∀x,(cellsA x).length=k)
 (y0:∀(fuel:Nat) (cs:List Value) (y:DataW H×List MemPlace),cs.length=k->DataW.trod enc Tryz.prog w base spare held fuel e cs=some y->∃x,Q x/\cellsA x=cs) (h:DataW.trod enc Tryz.prog w base spare held fuel t [v]=some x) :
 ∃(A:Option Addr) (c:Nat) (xs:List α),v = .slice A xs.length c/\Cells w A (xs.flatMap cellsA)/\(xs ≠ []->∀a,A=some a->a.block<w.heap.size/\a.spot=none)/\xs.length<=c/\xs.length<=9223372036854775807/\∀x∈xs,Q x:=by
 rcases open_slice ht h with ⟨g0,_⟩ | ⟨a,m,c,k',n,D,Pl,g0,hb,hl,hm,hk,hx,hi⟩
 ·obtain rfl:v = .slice none 0 0:=by simpa using g0
  exact⟨none,0,[],rfl,.inl rfl,fun h=>absurd rfl h,Nat.le_refl _,by show 0<=_;omega,nofun⟩
 ·obtain rfl:v = .slice (some a) m c:=by simpa using g0
  rw[hc]at hi;have a0:m<=k':=by rw[hk];split <;> omega
  obtain⟨xs,z0,u0⟩:=ZKw (Q:=fun i (p:α)=>Q p/\∀j v,(cellsA p)[j]? = some v->w.cell? ((a.add (i*k)).add j)=some v) m fun i k0=>by
   obtain⟨cs,hc,ht⟩:=hi i (by omega);obtain⟨_,x0,j0⟩:=World.cells?_some hc;obtain⟨p,hp,rfl⟩:=y0 _ _ _ x0 ht;exact⟨p,hp,fun j v hv=>by rw[j0 j (by have:=(List.getElem?_eq_some_iff.1 hv).1;omega)];exact hv⟩
  subst z0;have j0:∀i v,(xs.flatMap cellsA)[i]? = some v->w.cell? (a.add i)=some v:=fun i v hv=>by
   have k0:i<(xs.flatMap cellsA).length:=(List.getElem?_eq_some_iff.1 hv).1;rw[Ze hlen]at k0;have p0:i / k<xs.length:=Nat.div_lt_of_lt_mul (by rw[Nat.mul_comm];exact k0);have hg:=Zj hlen xs (i / k) xs[i / k] (i%k) (List.getElem?_eq_getElem p0) (Nat.mod_lt _ t0);have m0:i / k*k+i%k=i:=Nat.div_add_mod' i k;rw[m0,hv]at hg;have:=(u0 (i / k) _ (List.getElem?_eq_getElem p0)).2 (i%k) v hg.symm;rw[Addr.add_add,m0]at this;exact this
  have v0:xs ≠ []->a.block<w.heap.size/\a.spot=none:=fun q0=>by
   have h0:0<(xs.flatMap cellsA).length:=by
    rw[Ze hlen];exact Nat.mul_pos (List.length_pos_iff.2 q0) t0
   have:=j0 0 _ (List.getElem?_eq_getElem h0);have:=ZNr this;simpa [Addr.add]using this
  refine⟨some a,c,xs,rfl,?_,fun q0 b hb=>by cases hb;exact v0 q0,hl,by unfold maxLen at hm;omega,fun p hp=>?_⟩
  ·by_cases q0:xs = []
   ·rw[q0];exact .inl rfl
   ·obtain⟨b,o,s⟩:=a;obtain rfl:s=none:=(v0 q0).2;exact .inr ⟨b,o,rfl,fun i v hv=>by have:=j0 i v hv;rw[Addr.add_lit]at this;exact this⟩
  ·obtain⟨i,k0,rfl⟩:=List.mem_iff_getElem.1 hp;exact(u0 i _ (List.getElem?_eq_getElem k0)).1
end
section
variable {H:Type} {enc:TypeId×Value->H}
end
end
section
open Go.RowKit
structure PoC where
  doc:Int
  pos:List Int
  A:Option Addr
  c:Nat
def PoC.val (x:PoC):Value:= .agg #[.int .i64 x.doc,.slice x.A x.pos.length x.c]
def PoC.cells (x:PoC):List Value:= [.int .i64 x.doc,.slice x.A x.pos.length x.c]
def PoC.po (x:PoC):Po:=(x.doc,x.pos)
def pcells (l:List PoC):List Value:=l.flatMap PoC.cells
theorem ZET (l:List PoC):(pcells l).length=l.length*2:=Ze (cellsA:=PoC.cells) (k:=2) (fun _=>rfl) l
theorem ZEw {l:List PoC} {i:Nat} {x:PoC} (h:l[i]? = some x) {j:Nat} (hj:j<2):(pcells l)[i*2+j]? = x.cells[j]? :=Zj (cellsA:=PoC.cells) (k:=2) (fun _=>rfl) l i x j h hj
theorem Z5 {w:World} {A:Option Addr} {l:List PoC} (h:Cells w A (pcells l)) {i:Nat} {x:PoC} (hx:l[i]? = some x):∃g o,A=some ⟨g,o,none⟩/\w.cell? ⟨g,o+i*2,none⟩=some (.int .i64 x.doc)/\w.cell? ⟨g,o+i*2+1,none⟩=some (.slice x.A x.pos.length x.c):=by
 obtain⟨g,o,hA,hc⟩:=h.at_ (by rw[ZET];have:=(List.getElem?_eq_some_iff.1 hx).1;omega);refine⟨g,o,hA,?_,?_⟩
 ·have:=hc (i*2+0) _ (by rw[ZEw hx (by omega)];rfl);exact this
 ·have:=hc (i*2+1) _ (by rw[ZEw hx (by omega)];rfl);exact this
structure PosOk (w:World) (A:Option Addr) (l:List PoC):Prop where
  cells:Cells w A (pcells l)
  each:∀x∈l,Cells w x.A (x.pos.map IV)/\x.pos.length<=1000000000
theorem PosOk.ext {w w1:World} {A:Option Addr} {l:List PoC} (h:PosOk w A l) (hE:Ext w w1):PosOk w1 A l:=⟨h.cells.ext hE,fun x hx=>⟨(h.each x hx).1.ext hE,(h.each x hx).2⟩⟩
theorem PosOk.nil (w:World) (A:Option Addr):PosOk w A []:=⟨.inl rfl,nofun⟩
def docV:Value:= .func (.func 141) #[] #[]
theorem ZMT (x:PoC) (w:World):Calls Tryz.prog 141 #[x.val] w fun e w'=>e = .returned (.int .i64 x.doc)/\Ext w w':=by
 obtain⟨d,p,A,c⟩:=x;unfold PoC.val;go_enter Tryz.func141,Tryz.ntmps141;go_wp2;go_ret;exact⟨rfl,(Ext.refl w).alloc _⟩
theorem ZHF (ps:List PoC) (A:Option Addr) (m c:Nat) (n:Int) (w:World) (hm:m=ps.length) (hc:Cells w A (pcells ps)) (y0:m<=1000000000) :
 Calls Tryz.prog 140 #[.slice A m c,.int .i64 n,docV] w fun e w'=>e = .returned (.bool (risB n (-1) (ps.map (·.doc))))/\Ext w w':=by
 unfold docV;have x0:=ZA (fun x W=>ZMT x W);obtain⟨Z,hZ⟩:∃Z,Z=risB n (-1) (ps.map (·.doc)):=⟨_,rfl⟩
 rw[<-hZ];replace hZ:=ZA hZ;replace hc:=ZA hc;replace hm:=ZA hm;go_enter Tryz.func140,Tryz.ntmps140;go_wp2_with fail
 go_loopw [7,13] (fun s7 s13 wr=>∃(i:Nat) (p:Int),s7 = .int .i64 p/\s13 = .int .i64 (i:Int)/\i<=m/\Hid (Z=risB n p ((ps.drop i).map (·.doc)))/\Hid (Ext w wr)) (fun _ s13 _=>m - (intOf s13).toNat)
 case atStart=>exact⟨0,-1,rfl,rfl,by omega,ZA (by rw[hZ.out];rfl),ZA (Ext.refl w)⟩
 case round =>
  obtain⟨i,p,rfl,rfl,hi,m0,hE⟩:=hrel;by_cases h:i<m
  ·obtain⟨x,k0⟩:∃x,ps[i]? = some x:=⟨_,List.getElem?_eq_getElem (by rw[<-hm.out];exact h)⟩
   obtain⟨g,o,hA,v0,u0⟩:=Z5 (hc.out.ext hE.out) k0;subst hA;have g0:ps.drop i=x::ps.drop (i+1):=by
    rw[List.drop_eq_getElem_cons (List.getElem?_eq_some_iff.1 k0).1];congr 1;exact(List.getElem?_eq_some_iff.1 k0).2
   have h0:=m0.out;rw[g0,List.map_cons,risB]at h0;have p0:=ZA (fun W=>x0.out x W);have j0:=ZA (fun W=>(hE.out.alloc (.cells #[.int .i64 x.doc,.slice x.A x.pos.length x.c] W)));replace k0:=ZA k0;replace g0:=ZA g0;obtain⟨d,pos,B,cB⟩:=x;unfold PoC.val at p0;simp only at v0 u0 h0 p0 j0;by_cases h1:p<d
   ·by_cases h2:d<n
    ·rw[decide_eq_true h1,decide_eq_true h2,Bool.true_and,Bool.true_and]at h0;replace h0:=ZA h0;go_wp2_with fail;refine(p0.out _).mono ?_;rintro e w2 ⟨rfl,q0⟩;go_wp2_with fail;exact⟨⟨i+1,d,rfl,rfl,by omega,h0,ZA ((j0.out _).trans q0)⟩,by simp only[intOf];omega⟩
    ·rw[decide_eq_true h1,decide_eq_false h2,Bool.true_and,Bool.false_and]at h0;subst h0;go_wp2_with fail;refine(p0.out _).mono ?_;rintro e w2 ⟨rfl,q0⟩;go_wp2_with fail;go_ret;exact⟨rfl,(j0.out _).trans q0⟩
   ·rw[decide_eq_false h1,Bool.false_and,Bool.false_and]at h0;subst h0;go_wp2_with fail;refine(p0.out _).mono ?_;rintro e w2 ⟨rfl,q0⟩;go_wp2_with fail;go_ret;exact⟨rfl,(j0.out _).trans q0⟩
  ·obtain rfl:i=m:=by omega
   have t0:Z=true:=by rw[m0.out,List.drop_eq_nil_of_le (by rw[<-hm.out];exact Nat.le_refl _),List.map_nil,risB]
   subst t0;go_wp2_with fail;go_ret;exact⟨rfl,hE.out⟩
def okPo (p:Po):Bool:=decide (0<p.2.length)&&risB 1048576 (-1) p.2
theorem ZCU (l:List Po):okPs l=(risB 65536 (-1) (l.map (·.1))&&l.all okPo):=rfl
theorem ZFU {α:Type} {l:List α} {f:α->Bool} {i:Nat} {x:α} (h:l[i]? = some x):(l.take (i+1)).all f=((l.take i).all f&&f x):=by
 obtain⟨hi,rfl⟩:=List.getElem?_eq_some_iff.1 h;rw[List.take_succ_eq_append_getElem hi,List.all_append];simp
theorem ZHo (ps:List PoC) (A:Option Addr) (m c:Nat) (w:World) (hm:m=ps.length) (h:PosOk w A ps) (o0:m<=1000000000) :
 Calls Tryz.prog 82 #[.slice A m c] w fun e w'=>e = .returned (.int .i64 (if okPs (ps.map PoC.po) then 0 else 80))/\Ext w w':=by
 have z0:=ZA (fun W hE=>ZHF ps A m c 65536 W hm (Cells.ext h.cells hE) o0);have e0:=ZA (fun xs A k c W h1 h2 h3=>ZHG xs A k c 1048576 W h1 h2 h3);obtain⟨R,hR⟩:∃R,R=risB 65536 (-1) (ps.map (·.doc)):=⟨_,rfl⟩
 obtain⟨Z,hZ⟩:∃Z:Int,Z=if okPs (ps.map PoC.po) then 0 else 80:=⟨_,rfl⟩
 have x0:okPs (ps.map PoC.po)=(R&&ps.all fun x=>okPo x.po):=by
  rw[ZCU,List.map_map,hR,List.all_map];rfl
 rw[x0]at hZ;rw[x0,<-hZ];rw[<-hR]at z0;unfold docV at z0;unfold idV at e0;replace hZ:=ZA hZ;replace hR:=ZA hR;replace hm:=ZA hm;replace h:=ZA h;clear x0;go_enter Tryz.func82,Tryz.ntmps82;go_wp2_with fail;refine(z0.out _ (Ext.refl w)).mono ?_;rintro e w1 ⟨rfl,f0⟩;go_wp2_with fail
 go_loopw [3,10] (fun s3 s10 wr=>∃(i:Nat) (b:Bool),s3 = .bool b/\s10 = .int .i64 (i:Int)/\i<=m/\Hid (b=(R&&(ps.take i).all fun x=>okPo x.po))/\Hid (Ext w wr)) (fun _ s10 _=>m - (intOf s10).toNat)
 case atStart=>exact⟨0,R,rfl,rfl,by omega,ZA (by simp),ZA f0⟩
 case round =>
  obtain⟨i,b,rfl,rfl,hi,hb,hE⟩:=hrel;by_cases n0:i<m
  ·obtain⟨x,t0⟩:∃x,ps[i]? = some x:=⟨_,List.getElem?_eq_getElem (by rw[<-hm.out];exact n0)⟩
   obtain⟨g,o,hA,l0,c0⟩:=Z5 (h.out.cells.ext hE.out) t0;subst hA;have hx:=h.out.each x (List.mem_of_getElem? t0);have a0:=ZFU (f:=fun x:PoC=>okPo x.po) t0;obtain⟨W2,p0⟩:∃W2,W2=wr.alloc (.cells #[.int .i64 x.doc,.slice x.A x.pos.length x.c] 107):=⟨_,rfl⟩
   have j0:Ext w W2:=by rw[p0];exact hE.out.alloc _
   have u0:=ZA (fun W hE=>e0.out x.pos x.A x.pos.length x.c W rfl (Cells.ext hx.1 (Ext.trans j0 hE)) hx.2);have k0:Row W2 wr.heap.size 107 #[.int .i64 x.doc,.slice x.A x.pos.length x.c]:=by rw[p0];exact Row.new wr _ _
   have q0:Hid (∀v:Bool,v=(b&&okPo x.po)->v=(R&&(ps.take (i+1)).all fun x=>okPo x.po)):=ZA (by
    intro v hv;rw[hv,hb.out,a0,Bool.and_assoc])
   have m0:okPo x.po=(decide (0<x.pos.length)&&risB 1048576 (-1) x.pos):=rfl;rw[m0]at q0;have d0:=hx.2;replace a0:=ZA a0;replace hb:=ZA hb;replace t0:=ZA t0;replace hx:=ZA hx;clear m0;obtain⟨d,pos,B,cB⟩:=x;simp only at l0 c0 u0 q0 k0 d0 p0;obtain⟨pl,y0⟩:∃pl,pl=pos.length:=⟨_,rfl⟩
   rw[<-y0]at c0 u0 q0 k0 d0 p0;replace y0:=ZA y0;obtain⟨g2,g0⟩:∃g2,g2=wr.heap.size:=⟨_,rfl⟩
   rw[<-g0]at k0;have r0:=k0.cell 0 rfl;have r1:=k0.cell 1 rfl;replace k0:=ZA k0;replace g0:=ZA g0;replace j0:=ZA j0;replace p0:=ZA p0;cases b with
   | false =>
    have hv:=ZA (q0.out false rfl);clear q0;go_upto_region 5 with fail;rw[<-p0.out,<-g0.out];go_wp2_with fail;exact⟨⟨i+1,false,rfl,rfl,by omega,hv,j0⟩,by simp only[intOf];omega⟩
   | true =>
    by_cases h0:0<pl
    ·obtain⟨v,b0⟩:∃v,v=risB 1048576 (-1) pos:=⟨_,rfl⟩
     rw[<-b0]at u0 q0;have hv:=ZA (q0.out v (by rw[decide_eq_true h0,Bool.true_and,Bool.true_and]));clear q0;replace b0:=ZA b0;go_upto_region 5 with fail;rw[<-p0.out,<-g0.out];go_wp2_with fail;refine(u0.out _ (Ext.refl W2)).mono ?_;rintro e w3 ⟨rfl,i0⟩;go_wp2_with fail;exact⟨⟨i+1,v,rfl,rfl,by omega,hv,ZA (j0.out.trans i0)⟩,by simp only[intOf];omega⟩
    ·have hv:=ZA (q0.out false (by rw[decide_eq_false h0];rfl));clear q0;go_upto_region 5 with fail;rw[<-p0.out,<-g0.out];go_wp2_with fail;exact⟨⟨i+1,false,rfl,rfl,by omega,hv,j0⟩,by simp only[intOf];omega⟩
  ·obtain rfl:i=m:=by omega
   have v0:=hb.out;rw[List.take_of_length_le (by rw[<-hm.out];exact Nat.le_refl _)]at v0;rw[<-v0]at hZ;cases b with
   | true =>
    obtain rfl:Z=0:=hZ.out;clear v0 hb;go_wp2_with fail;go_ret;exact⟨rfl,hE.out⟩
   | false =>
    obtain rfl:Z=80:=hZ.out;clear v0 hb;go_wp2_with fail;go_ret;exact⟨rfl,hE.out⟩
end
section
theorem Zv {n:Int}:∀ {l:List Int} {lo:Int} (k:Nat),risB n lo l=true->risB n lo (l.take k)=true
 | [],lo,k,h=>by rw[List.take_nil];exact h
 | x::t,lo,0,h=>rfl
 | x::t,lo,k+1,h=>by
  unfold risB at h;rw[Bool.and_eq_true,Bool.and_eq_true]at h;rw[List.take_succ_cons,risB,h.1.1,h.1.2,Zv k h.2];rfl
theorem ZD5 {n:Int}:∀ {l:List Po} {lo:Int} (k:Nat),risB n lo (l.map (·.1))=true->risB n (lastPo lo (l.take k)) ((l.drop k).map (·.1))=true
 | [],lo,k,h=>by rw[List.drop_nil,List.take_nil];exact h
 | x::t,lo,0,h=>h
 | x::t,lo,k+1,h=>by
  rw[List.map_cons,risB,Bool.and_eq_true,Bool.and_eq_true]at h;exact ZD5 k h.2
theorem ZAj {n:Int}:∀ {l:List Po} {lo:Int},risB n lo (l.map (·.1))=true->lo<n->lo<=lastPo lo l/\lastPo lo l<n
 | [],lo,_,h=>⟨Int.le_refl _,h⟩
 | x::t,lo,h,_=>by
  rw[List.map_cons,risB,Bool.and_eq_true,Bool.and_eq_true]at h;have h1:=of_decide_eq_true h.1.1;have h2:=of_decide_eq_true h.1.2;have:=ZAj h.2 h2;exact⟨by show lo<=lastPo x.1 t;omega,this.2⟩
theorem ZEk:∀(bs:List (List Po)) (lo:Int),(∀k:Nat,lastPo lo ((bs.take k).flatMap id)<9223372036854775808/\(blockPo lo ((bs.take k).flatMap id)).length<9223372036854775808)->(headPo lo bs).length<=20*bs.length
 | [],lo,_=>by simp[headPo]
 | b::bs,lo,h=>by
  have h1:=h 1;rw[List.take_succ_cons,List.take_zero,List.flatMap_cons,List.flatMap_nil,List.append_nil]at h1;have hv:=ZD (n:=(lastPo lo b).toNat) (by have:=h1.1;simp only[id]at this;omega);have h0:=ZD (n:=(blockPo lo b).length) (by have:=h1.2;simp only[id]at this;omega);have ih:=ZEk bs (lastPo lo b) fun k=>by
   have:=h (k+1);rw[List.take_succ_cons,List.flatMap_cons,ZAl,Zn,List.length_append]at this;exact⟨this.1,by simp only[id]at this ⊢;omega⟩
  show (vb _++vb _++headPo _ bs).length<=_;rw[List.length_append,List.length_append,List.length_cons];omega
theorem ZDy:∀(l:List Int) (lo:Int),l.length<=(stepsL lo l).length
 | [],lo=>by simp
 | x::t,lo=>by
  show _<=(vb _++stepsL x t).length;have:=ZDy t x;have:=ZKS (x - lo - 1).toNat;rw[List.length_append,List.length_cons];omega
structure PoRound (P:List Po) (r:Nat) (bP:List Po) (lst:Int):Prop where
  part:bP=(P.drop (r*32)).take 32
  lo : -1<=lst
  hi:lst<65536
  ris:risB 65536 lst (bP.map (·.1))=true
  pos:∀p∈bP,okPo p=true
  hi2 : -1<=lastPo lst bP/\lastPo lst bP<65536
  ne:0<=lastPo lst bP
  head:headPo (-1) ((chunkL 32 P).take (r+1))=headPo (-1) ((chunkL 32 P).take r)++(vb (lastPo lst bP).toNat++vb (blockPo lst bP).length)
  body:blockPo (-1) (P.take ((r+1)*32))=blockPo (-1) (P.take (r*32))++blockPo lst bP
  last:lastPo (-1) (P.take (r*32))=lst
  last2:lastPo (-1) (P.take ((r+1)*32))=lastPo lst bP
  len:(blockPo (-1) (P.take (r*32))).length+(blockPo lst bP).length<=(blockPo (-1) P).length
  hlen:(headPo (-1) ((chunkL 32 P).take r)).length<=20*r
theorem ZBt (P:List Po) (k:Nat):(blockPo (-1) (P.take k)).length<=(blockPo (-1) P).length:=by
 conv=>rhs;rw[<-List.take_append_drop k P,Zn,List.length_append]
 omega
theorem ZDD {P:List Po} (h0:okPs P=true) (q0:(blockPo (-1) P).length<=50000000) (r:Nat):(headPo (-1) ((chunkL 32 P).take r)).length<=20*r:=by
 rw[ZCU,Bool.and_eq_true]at h0;refine Nat.le_trans (ZEk _ _ fun k=>?_) (Nat.mul_le_mul_left _ (List.length_take_le _ _));rw[List.take_take,Zx (by omega)];have h1:=(ZAj (l:=P.take (min k r*32)) (lo:= -1) (n:=65536) (by rw[List.map_take];exact Zv _ h0.1) (by omega)).2;have h2:=ZBt P (min k r*32);omega
theorem ZFP {P:List Po} (q0:okPs P=true) (v0:(blockPo (-1) P).length<=50000000) {r:Nat} (hr:r*32<P.length):PoRound P r ((P.drop (r*32)).take 32) (lastPo (-1) (P.take (r*32))):=by
 have p0:=q0;rw[ZCU,Bool.and_eq_true]at q0;obtain⟨h1,h2⟩:=q0;have j0:=ZAj (l:=P.take (r*32)) (lo:= -1) (n:=65536) (by rw[List.map_take];exact Zv _ h1) (by omega);have t0:=ZD5 (r*32) h1;have h0:risB 65536 (lastPo (-1) (P.take (r*32))) (((P.drop (r*32)).take 32).map (·.1))=true:=by rw[List.map_take];exact Zv _ t0
 have g0:=ZAj h0 (by omega);have k0:P.take ((r+1)*32)=P.take (r*32)++(P.drop (r*32)).take 32:=by rw[Nat.succ_mul,List.take_add]
 have m0:0<=lastPo (lastPo (-1) (P.take (r*32))) ((P.drop (r*32)).take 32):=by
  cases hd:(P.drop (r*32)).take 32 with
  | nil =>
   have:=congrArg List.length hd;rw[List.length_take,List.length_drop,List.length_nil]at this;omega
  | cons x t =>
   rw[hd,List.map_cons]at h0;rw[risB,Bool.and_eq_true,Bool.and_eq_true]at h0;have h3:=of_decide_eq_true h0.1.1;have h4:=of_decide_eq_true h0.1.2;have h5:=ZAj h0.2 h4;show 0<=lastPo x.1 t;omega
 refine⟨rfl,j0.1,j0.2,h0,fun p hp=>List.all_eq_true.1 h2 p (List.mem_of_mem_drop (List.mem_of_mem_take hp)),⟨by omega,g0.2⟩,m0,?_,?_,rfl,?_,?_,ZDD p0 v0 r⟩
 ·rw[List.take_add_one,ZAP (by omega) r P hr,ZCS,Zx (by omega)];show _++(vb _++vb _++headPo _ [])=_;rw[show ∀lo,headPo lo [] = [] from fun _=>rfl,List.append_nil]
 ·rw[k0,Zn]
 ·rw[k0,ZAl]
 ·have:=ZBt P ((r+1)*32);rw[k0,Zn,List.length_append]at this;exact this
theorem ZF5 (P:List Po) (r:Nat) (h:P.length<=r*32):encPs P=vb P.length++headPo (-1) ((chunkL 32 P).take r)++blockPo (-1) (P.take (r*32)):=by
 have:=ZAR (by omega) r P h;rw[List.take_of_length_le this,List.take_of_length_le h];rfl
end
section
open Go.RowKit
def txL (s:List UInt8):List UInt8:=vb s.length++s
def getT (most:Nat) (l:List UInt8):Except Nat (List UInt8×List UInt8):=match getV 0 l with
 | .error k=> .error k
 | .ok (n,r)=>if most<n then .error 2 else if r.length<n then .error 6 else .ok (r.take n,r.drop n)
theorem ZFI {most:Nat} {s:List UInt8} (h:s.length<=most) (h2:s.length<18446744073709551616) (r:List UInt8):getT most (txL s++r) = .ok (s,r):=by
 unfold getT txL;rw[List.append_assoc,Zm h2];simp only;rw[if_neg (by omega),if_neg (by rw[List.length_append];omega),List.take_left' rfl,List.drop_left' rfl]
theorem ZCW {most:Nat} {l s r:List UInt8} (h:getT most l = .ok (s,r)):s.length<=most/\r.length+s.length<l.length/\∃p,l=p++r:=by
 unfold getT at h;split at h
 ·cases h
 ·rename_i n r0 hg;obtain⟨_,_,p,rfl,hp⟩:=ZAH l 0 n r0 hg;have h0:1<=p.length:=List.length_pos_iff.2 hp;split at h
  ·cases h
  ·split at h
   ·cases h
   ·injection h with h;injection h with h1 h2;refine⟨by rw[<-h1,List.length_take];omega,by rw[<-h1,<-h2,List.length_take,List.length_drop,List.length_append];omega,p++r0.take n,?_⟩;rw[<-h2,List.append_assoc,List.take_append_drop]
def putF (f:Fd):List UInt8:=txL f.1++txL f.2
def putFs (fs:List Fd):List UInt8:=fs.flatMap putF
def putE (e:Ev):List UInt8:=vb (zig e.at_)++vb e.fs.length++putFs e.fs
def sizeF (f:Fd):Nat:=f.1.length+f.2.length
def sizeFs (fs:List Fd):Nat:=(fs.map sizeF).sum
def getFs:Nat->List UInt8->Option (List Fd×List UInt8)
 | 0,l=>some ([],l)
 | k+1,l=>match getT 32 l with
  | .error _=>none
  | .ok (nm,r)=>match getT 4096 r with
   | .error _=>none
   | .ok (tx,r2)=>match getFs k r2 with
    | none=>none
    | some (fs,r3)=>some ((nm,tx)::fs,r3)
def getE (l:List UInt8):Option (Ev×List UInt8):=match getV 0 l with
 | .error _=>none
 | .ok (u,r)=>match getV 0 r with
  | .error _=>none
  | .ok (n,r2)=>if 16<n then none else match getFs n r2 with
   | none=>none
   | some (fs,r3)=>if checkE fs=0 then some (⟨unzig u,fs⟩,r3) else none
theorem ZGd:∀(fs:List Fd) (r:List UInt8),(∀f∈fs,f.1.length<=32/\f.2.length<=4096)->getFs fs.length (putFs fs++r)=some (fs,r)
 | [],r,_=>rfl
 | f::fs,r,h=>by
  have hf:=h f (by simp);show getFs (fs.length+1) _=_;unfold getFs;rw[show putFs (f::fs)++r=txL f.1++(txL f.2++(putFs fs++r))by unfold putFs;rw[List.flatMap_cons];unfold putF;simp,ZFI hf.1 (by omega)];simp only;rw[ZFI hf.2 (by omega)];simp only;rw[ZGd fs r fun x hx=>h x (by simp[hx])]
theorem ZGp:∀ {fs:List Fd},checkF fs=0->∀f∈fs,f.1.length<=32/\f.2.length<=4096
 | [],_=>nofun
 | f::fs,h=>by
  unfold checkF at h;split at h
  ·cases h
  ·rename_i hn;split at h
   ·cases h
   ·intro g hg;rcases List.mem_cons.1 hg with rfl | hg
    ·refine⟨?_,by omega⟩;unfold nameL at hn;simp at hn;omega
    ·exact ZGp h g hg
theorem Zd {fs:List Fd} (h:checkE fs=0):fs.length<=16/\∀f∈fs,f.1.length<=32/\f.2.length<=4096:=by
 unfold checkE at h;split at h
 ·cases h
 ·exact⟨by omega,ZGp h⟩
theorem ZHw {e:Ev} (ha:I64ok' e.at_) (h:checkE e.fs=0) (r:List UInt8):getE (putE e++r)=some (e,r):=by
 obtain⟨q0,h0⟩:=Zd h;unfold getE putE;rw[List.append_assoc,List.append_assoc,Zm (ZBB ha.1 ha.2)];simp only;rw[Zm (by omega)];simp only;rw[if_neg (by omega),ZGd _ _ h0];simp only;rw[if_pos h,ZLg]
theorem ZAt {n:Nat} (h:n<18446744073709551616):(vb n).length<=10:=ZD h
theorem ZBj {s:List UInt8} (h:s.length<18446744073709551616):(txL s).length<=10+s.length:=by
 unfold txL;rw[List.length_append];have:=ZAt h;omega
theorem ZGQ:∀ {fs:List Fd},(∀f∈fs,f.1.length<=32/\f.2.length<=4096)->(putFs fs).length<=20*fs.length+sizeFs fs
 | [],_=>by simp[putFs,sizeFs]
 | f::fs,h=>by
  have h1:=ZGQ (fs:=fs) fun x hx=>h x (by simp[hx]);have hf:=h f (by simp);have h2:=ZBj (s:=f.1) (by omega);have h3:=ZBj (s:=f.2) (by omega);have h4:(putFs (f::fs)).length=(txL f.1).length+(txL f.2).length+(putFs fs).length:=by unfold putFs;rw[List.flatMap_cons,List.length_append];unfold putF;rw[List.length_append]
  have h5:sizeFs (f::fs)=f.1.length+f.2.length+sizeFs fs:=by unfold sizeFs;rw[List.map_cons,List.sum_cons];rfl
  rw[h4,h5,List.length_cons];omega
end
section
abbrev Dc:=Int×Ev
def okD (p:Dc):Bool:=decide (checkE p.2.fs=0)
def okDs (l:List Dc):Bool:=decide (l.length<=65536)&&(risB 1099511627777 0 (l.map (·.1))&&l.all okD)
def oneD (last:Int) (p:Dc):List UInt8:=vb (p.1 - last - 1).toNat++putE p.2
def blockD:Int->List Dc->List UInt8
 | _,[]=> []
 | last,p::t=>oneD last p++blockD p.1 t
def lastD:Int->List Dc->Int
 | last,[]=>last
 | _,p::t=>lastD p.1 t
def headD:Int->List (List Dc)->List UInt8
 | _,[]=> []
 | last,b::bs=>vb (lastD last b).toNat++vb (blockD last b).length++headD (lastD last b) bs
def encDs (l:List Dc):List UInt8:=vb l.length++headD 0 (chunkL 16 l)++blockD 0 l
theorem Zs:∀(a b:List Dc) (last:Int),blockD last (a++b)=blockD last a++blockD (lastD last a) b
 | [],b,last=>rfl
 | p::t,b,last=>by
  show oneD last p++blockD p.1 (t++b)=_;rw[Zs t b];show _=(oneD last p++blockD p.1 t)++blockD (lastD p.1 t) b;rw[List.append_assoc]
theorem ZAh:∀(a b:List Dc) (last:Int),lastD last (a++b)=lastD (lastD last a) b
 | [],b,last=>rfl
 | p::t,b,last=>ZAh t b p.1
theorem ZDz:∀(a b:List (List Dc)) (last:Int),headD last (a++b)=headD last a++headD (lastD last (a.flatMap id)) b
 | [],b,last=>rfl
 | p::t,b,last=>by
  show vb (lastD last p).toNat++vb (blockD last p).length++headD (lastD last p) (t++b)=_;rw[ZDz t b,List.flatMap_cons];show _=(vb (lastD last p).toNat++vb (blockD last p).length++headD (lastD last p) t)++headD (lastD last (p++t.flatMap id)) b;rw[ZAh,List.append_assoc _ _ (headD _ b)]
theorem ZF3 {n:Int}:∀ {l:List Dc} {lo:Int} (k:Nat),risB n lo (l.map (·.1))=true->risB n (lastD lo (l.take k)) ((l.drop k).map (·.1))=true
 | [],lo,k,h=>by rw[List.drop_nil,List.take_nil];exact h
 | x::t,lo,0,h=>h
 | x::t,lo,k+1,h=>by
  rw[List.map_cons,risB,Bool.and_eq_true,Bool.and_eq_true]at h;exact ZF3 k h.2
theorem ZAu {n:Int}:∀ {l:List Dc} {lo:Int},risB n lo (l.map (·.1))=true->lo<n->lo<=lastD lo l/\lastD lo l<n
 | [],lo,_,h=>⟨Int.le_refl _,h⟩
 | x::t,lo,h,_=>by
  rw[List.map_cons,risB,Bool.and_eq_true,Bool.and_eq_true]at h;have h1:=of_decide_eq_true h.1.1;have h2:=of_decide_eq_true h.1.2;have:=ZAu h.2 h2;exact⟨by show lo<=lastD x.1 t;omega,this.2⟩
theorem ZGT:∀(bs:List (List Dc)) (lo:Int),(∀k:Nat,lastD lo ((bs.take k).flatMap id)<9223372036854775808/\(blockD lo ((bs.take k).flatMap id)).length<9223372036854775808)->(headD lo bs).length<=20*bs.length
 | [],lo,_=>by simp[headD]
 | b::bs,lo,h=>by
  have h1:=h 1;rw[List.take_succ_cons,List.take_zero,List.flatMap_cons,List.flatMap_nil,List.append_nil]at h1;have hv:=ZD (n:=(lastD lo b).toNat) (by have:=h1.1;simp only[id]at this;omega);have h0:=ZD (n:=(blockD lo b).length) (by have:=h1.2;simp only[id]at this;omega);have ih:=ZGT bs (lastD lo b) fun k=>by
   have:=h (k+1);rw[List.take_succ_cons,List.flatMap_cons,ZAh,Zs,List.length_append]at this;exact⟨this.1,by simp only[id]at this ⊢;omega⟩
  show (vb _++vb _++headD _ bs).length<=_;rw[List.length_append,List.length_append,List.length_cons];omega
structure SdRound (P:List Dc) (r:Nat) (bP:List Dc) (lst:Int):Prop where
  part:bP=(P.drop (r*16)).take 16
  lo:0<=lst
  hi:lst<1099511627777
  ris:risB 1099511627777 lst (bP.map (·.1))=true
  pos:∀p∈bP,okD p=true
  hi2:0<=lastD lst bP/\lastD lst bP<1099511627777
  ne:0<=lastD lst bP
  head:headD 0 ((chunkL 16 P).take (r+1))=headD 0 ((chunkL 16 P).take r)++(vb (lastD lst bP).toNat++vb (blockD lst bP).length)
  body:blockD 0 (P.take ((r+1)*16))=blockD 0 (P.take (r*16))++blockD lst bP
  last:lastD 0 (P.take (r*16))=lst
  last2:lastD 0 (P.take ((r+1)*16))=lastD lst bP
  len:(blockD 0 (P.take (r*16))).length+(blockD lst bP).length<=(blockD 0 P).length
  hlen:(headD 0 ((chunkL 16 P).take r)).length<=20*r
theorem ZAX (P:List Dc) (k:Nat):(blockD 0 (P.take k)).length<=(blockD 0 P).length:=by
 conv=>rhs;rw[<-List.take_append_drop k P,Zs,List.length_append]
 omega
theorem ZFM {P:List Dc} (h0:okDs P=true) (q0:(blockD 0 P).length<=50000000) (r:Nat):(headD 0 ((chunkL 16 P).take r)).length<=20*r:=by
 unfold okDs at h0;rw[Bool.and_eq_true,Bool.and_eq_true]at h0;replace h0:=h0.2;refine Nat.le_trans (ZGT _ _ fun k=>?_) (Nat.mul_le_mul_left _ (List.length_take_le _ _));rw[List.take_take,Zx (by omega)];have h1:=(ZAu (l:=P.take (min k r*16)) (lo:=0) (n:=1099511627777) (by rw[List.map_take];exact Zv _ h0.1) (by omega)).2;have h2:=ZAX P (min k r*16);omega
theorem ZFX {P:List Dc} (q0:okDs P=true) (v0:(blockD 0 P).length<=50000000) {r:Nat} (hr:r*16<P.length):SdRound P r ((P.drop (r*16)).take 16) (lastD 0 (P.take (r*16))):=by
 have p0:=q0;unfold okDs at q0;rw[Bool.and_eq_true,Bool.and_eq_true]at q0;replace q0:=q0.2;obtain⟨h1,h2⟩:=q0;have j0:=ZAu (l:=P.take (r*16)) (lo:=0) (n:=1099511627777) (by rw[List.map_take];exact Zv _ h1) (by omega);have t0:=ZF3 (r*16) h1;have h0:risB 1099511627777 (lastD 0 (P.take (r*16))) (((P.drop (r*16)).take 16).map (·.1))=true:=by rw[List.map_take];exact Zv _ t0
 have g0:=ZAu h0 (by omega);have k0:P.take ((r+1)*16)=P.take (r*16)++(P.drop (r*16)).take 16:=by rw[Nat.succ_mul,List.take_add]
 have m0:0<=lastD (lastD 0 (P.take (r*16))) ((P.drop (r*16)).take 16):=by
  cases hd:(P.drop (r*16)).take 16 with
  | nil =>
   have:=congrArg List.length hd;rw[List.length_take,List.length_drop,List.length_nil]at this;omega
  | cons x t =>
   rw[hd,List.map_cons]at h0;rw[risB,Bool.and_eq_true,Bool.and_eq_true]at h0;have h3:=of_decide_eq_true h0.1.1;have h4:=of_decide_eq_true h0.1.2;have h5:=ZAu h0.2 h4;show 0<=lastD x.1 t;omega
 refine⟨rfl,j0.1,j0.2,h0,fun p hp=>List.all_eq_true.1 h2 p (List.mem_of_mem_drop (List.mem_of_mem_take hp)),⟨by omega,g0.2⟩,m0,?_,?_,rfl,?_,?_,ZFM p0 v0 r⟩
 ·rw[List.take_add_one,ZAP (by omega) r P hr,ZDz,Zx (by omega)];show _++(vb _++vb _++headD _ [])=_;rw[show ∀lo,headD lo [] = [] from fun _=>rfl,List.append_nil]
 ·rw[k0,Zs]
 ·rw[k0,ZAh]
 ·have:=ZAX P ((r+1)*16);rw[k0,Zs,List.length_append]at this;exact this
theorem ZFr (P:List Dc) (r:Nat) (h:P.length<=r*16):encDs P=vb P.length++headD 0 ((chunkL 16 P).take r)++blockD 0 (P.take (r*16)):=by
 have:=ZAR (by omega) r P h;rw[List.take_of_length_le this,List.take_of_length_le h];rfl
end
section
structure En where
  t:List UInt8
  off:Nat
  len:Nat
  n:Nat
def cpl:List UInt8->List UInt8->Nat
 | x::a,y::b=>if x=y then cpl a b+1 else 0
 | _,_=>0
theorem ZCp:∀(a b:List UInt8),cpl a b<=a.length/\cpl a b<=b.length
 | [],b=>by unfold cpl;simp
 | x::a,[]=>by unfold cpl;simp
 | x::a,y::b=>by
  unfold cpl;have:=ZCp a b;split
  ·simp only[List.length_cons];omega
  ·simp
theorem ZH6:∀(a b:List UInt8),a.take (cpl a b)=b.take (cpl a b)
 | [],b=>by unfold cpl;simp
 | x::a,[]=>by unfold cpl;simp
 | x::a,y::b=>by
  unfold cpl;split
  ·rename_i h;rw[List.take_succ_cons,List.take_succ_cons,ZH6 a b,h]
  ·simp
theorem ZFe:∀(i:Nat) (a b:List UInt8),a.take i=b.take i->i<=a.length->i<=b.length->cpl a b=i+cpl (a.drop i) (b.drop i)
 | 0,a,b,_,_,_=>by simp
 | i+1,[],b,_,h,_=>by simp at h
 | i+1,x::a,[],_,_,h=>by simp at h
 | i+1,x::a,y::b,h,h1,h2=>by
  rw[List.take_succ_cons,List.take_succ_cons]at h;injection h with h3 h4;rw[cpl,if_pos h3,ZFe i a b h4 (by simpa using h1) (by simpa using h2),List.drop_succ_cons,List.drop_succ_cons];omega
def okEn (e:En):Prop:=e.t.length<=65/\e.off<=67108864/\e.len<=67108864/\e.n<=67108864
structure OkEs (l:List En):Prop where
  few:l.length<=262144
  each:∀e∈l,okEn e/\e.t ≠ []
  up:l.Pairwise fun a b=>a.t<b.t
def enB (last:List UInt8) (e:En):List UInt8:=vb (cpl last e.t)++txL (e.t.drop (cpl last e.t))++(vb e.off++vb e.len++vb e.n)
def blockE:List UInt8->List En->List UInt8
 | _,[]=> []
 | last,e::t=>enB last e++blockE e.t t
def partsE:List (List En)->List UInt8
 | []=> []
 | c::cs=>vb (blockE [] c).length++blockE [] c++partsE cs
def encEs (l:List En):List UInt8:=vb l.length++partsE (chunkL 16 l)
theorem ZEj:∀(a b:List (List En)),partsE (a++b)=partsE a++partsE b
 | [],b=>rfl
 | c::cs,b=>by
  show vb _++blockE [] c++partsE (cs++b)=_;rw[ZEj cs b,<-List.append_assoc];rfl
theorem ZKI {last:List UInt8} {e:En} (h:okEn e):(enB last e).length<=200:=by
 obtain⟨h1,h2,h3,h4⟩:=h;have hc:=ZCp last e.t;have v1:=ZD (n:=cpl last e.t) (by omega);have v2:=ZD (n:=e.off) (by omega);have v3:=ZD (n:=e.len) (by omega);have v4:=ZD (n:=e.n) (by omega);have v5:=ZBj (s:=e.t.drop (cpl last e.t)) (by rw[List.length_drop];omega);have v6:(e.t.drop (cpl last e.t)).length<=e.t.length:=by rw[List.length_drop];omega
 unfold enB;simp only[List.length_append];omega
theorem ZBU:∀ {l:List En} {last:List UInt8},(∀e∈l,okEn e)->(blockE last l).length<=200*l.length
 | [],_,_=>by simp[blockE]
 | e::t,last,h=>by
  have h1:=ZKI (last:=last) (h e (List.mem_cons_self ..));have h2:=ZBU (l:=t) (last:=e.t) fun x hx=>h x (List.mem_cons_of_mem _ hx);show (enB last e++blockE e.t t).length<=_;rw[List.length_append,List.length_cons];omega
theorem ZCR:∀ {cs:List (List En)},(∀c∈cs,(∀e∈c,okEn e)/\c.length<=16)->(partsE cs).length<=3300*cs.length
 | [],_=>by simp[partsE]
 | c::cs,h=>by
  obtain⟨h1,h2⟩:=h c (List.mem_cons_self ..);have h3:=ZBU (last:= []) h1;have h4:=ZCR (cs:=cs) fun x hx=>h x (List.mem_cons_of_mem _ hx);have h5:=ZD (n:=(blockE [] c).length) (by omega);show (vb _++blockE [] c++partsE cs).length<=_;rw[List.length_append,List.length_append,List.length_cons];omega
theorem ZDa {l:List En} (h:∀e∈l,okEn e) (hl:l.length<=262144) (r:Nat):(partsE ((chunkL 16 l).take r)).length<=60000000:=by
 have h1:=ZCR (cs:=(chunkL 16 l).take r) fun c hc=>⟨fun e he=>h e (ZEx (by omega) (List.mem_of_mem_take hc) e he),(ZDh (by omega) (List.mem_of_mem_take hc)).2⟩
 have h2:((chunkL 16 l).take r).length<=(chunkL 16 l).length:=List.length_take_le' ..;rw[ZZ (by omega)]at h2;omega
theorem ZF6 (l:List En) (r:Nat) (h:l.length<=r*16):encEs l=vb l.length++partsE ((chunkL 16 l).take r):=by
 have:=ZAR (by omega) r l h;rw[List.take_of_length_le this];rfl
theorem ZDk {l:List En} {r:Nat} (h:r*16<l.length):partsE ((chunkL 16 l).take (r+1))=partsE ((chunkL 16 l).take r)++(vb (blockE [] ((l.drop (r*16)).take 16)).length++blockE [] ((l.drop (r*16)).take 16)):=by
 rw[List.take_add_one,ZAP (by omega) r l h,ZEj];show _++(vb _++blockE [] _++partsE [])=_;rw[show partsE [] = [] from rfl,List.append_nil]
end
section
def fnvS (h:Nat) (c:UInt8):Nat:=(h ^^^ c.toNat)*1099511628211%18446744073709551616
def fnv (s:List UInt8):Nat:=s.foldl fnvS 14695981039346656037
theorem ZHz (s:List UInt8) (c:UInt8):fnv (s ++ [c])=fnvS (fnv s) c:=by unfold fnv;rw[List.foldl_append,List.foldl_cons,List.foldl_nil]
theorem ZHf (h:Nat) (c:UInt8):fnvS h c<18446744073709551616:=by unfold fnvS;exact Nat.mod_lt _ (by omega)
theorem ZOV (s:List UInt8):fnv s<18446744073709551616:=by
 have key:∀(l:List UInt8) (h:Nat),h<18446744073709551616->l.foldl fnvS h<18446744073709551616:=by
  intro l
  induction l with
  | nil=>exact fun h hh=>hh
  | cons c l ih=>exact fun h _=>ih _ (ZHf h c)
 exact key s _ (by omega)
def fpl (s:List UInt8) (m i:Nat):Nat:=(fnv s%4294967296+i*(fnv s / 4294967296 ||| 1))%m
def hasB (f:List UInt8) (k:Nat):Bool:=decide ((f.getD (k / 8) 0).toNat / 2^(k%8)%2=1)
def setB (f:List UInt8) (k:Nat):List UInt8:=f.set (k / 8) (UInt8.ofNat ((f.getD (k / 8) 0).toNat ||| 2^(k%8)))
def addB (f:List UInt8) (s:List UInt8):List UInt8:=setB (setB (setB (setB f (fpl s (8*f.length) 0)) (fpl s (8*f.length) 1)) (fpl s (8*f.length) 2)) (fpl s (8*f.length) 3)
def filL (n:Nat):Nat:=(min (max (10*n) 64) 1048576+7) / 8
def ofB (ts:List (List UInt8)):List UInt8:=ts.foldl addB (List.replicate (filL (min ts.length 262144)) 0)
def mayB (f:List UInt8) (s:List UInt8):Bool:=hasB f (fpl s (8*f.length) 0)&&hasB f (fpl s (8*f.length) 1)&&hasB f (fpl s (8*f.length) 2)&&hasB f (fpl s (8*f.length) 3)
theorem ZAa (f:List UInt8) (k:Nat):(setB f k).length=f.length:=List.length_set ..
theorem ZCx (f:List UInt8) (s:List UInt8):(addB f s).length=f.length:=by unfold addB;rw[ZAa,ZAa,ZAa,ZAa]
theorem ZDU (n:Nat):8<=filL n/\filL n<=131072:=by unfold filL;omega
theorem ZNu (ts:List (List UInt8)):(ofB ts).length=filL (min ts.length 262144):=by
 have key:∀(l:List (List UInt8)) (f:List UInt8),(l.foldl addB f).length=f.length:=by
  intro l
  induction l with
  | nil=>exact fun f=>rfl
  | cons c l ih=>exact fun f=>by rw[List.foldl_cons,ih,ZCx]
 unfold ofB;rw[key,List.length_replicate]
theorem ZN9 {x k:Nat} (hx:x<256) (hk:k<8):x ||| 2^k<256:=by
 have:2^k<2^8:=Nat.pow_lt_pow_right (by omega) hk;exact Nat.or_lt_two_pow (n:=8) hx this
theorem ZGh (s:List UInt8) {m:Nat} (i:Nat) (hm:0<m):fpl s m i<m:=Nat.mod_lt _ hm
end
section
open Go.RowKit Go.Maps
theorem ZAq (A:Option Addr) (n c:Nat) (l:List UInt8) (w:World) (hn:n=l.length) (hl:Bs w A l) (hz:A=none->c=0) (t0:n<=1073741824) :
 Calls Tryz.prog 51 #[.slice A n c] w fun e w'=>∃A1 c1,e = .returned (.slice A1 n c1)/\Buf w' w.heap.size 5 A1 n c1 (l.map B8)/\Ext w w':=by
 cases A with
 | none =>
  have h0:l = []:=by
   rcases hl with h | ⟨_,_,h,_⟩
   ·simpa using h
   ·cases h
  subst h0;obtain rfl:c=0:=hz rfl;obtain rfl:n=0:=hn;have hq:=ZOD w;go_enter Tryz.func51,Tryz.ntmps51;go_wp2_with fail;go_ret;exact⟨none,0,rfl,Buf.nil _ _ _,Ext.refl _⟩
 | some a =>
  have hq:=ZOA a n c w;have ho:=ZGr w 5;have q0:Ext w (w.alloc (.cells #[] 5)):=(Ext.refl w).alloc _;have hb:=hl.ext q0;have p0:(l.map B8).length=n*1:=by rw[List.length_map,hn];omega
  have g0:w.heap.size<=(w.alloc (.cells #[] 5)).heap.size:=q0.size;replace p0:=ZA p0;replace hn:=ZA hn;go_enter Tryz.func51,Tryz.ntmps51;go_wp2_with (at_builtin;refine Zh (m:=n) ZV ho hb (.tmp 5) (.tmp 6) rfl rfl rfl rfl rfl p0.out (ZF _) (by omega) g0 (fun A1 c1 w3 j0 k0 m0=>?_));go_ret;refine⟨A1,c1,rfl,?_,q0.grown k0 (fun k hk=>by cases hk;exact Nat.le_refl _)⟩;have:=Buf.of_own j0;rw[Nat.zero_add]at this;exact this
end
section
open Go.RowKit
theorem ZIY {x m:Nat} {pre:List UInt8} (h:vb x=pre++vb m) (hm:128<=m):vb x=(pre ++ [UInt8.ofNat (m%128+128)])++vb (m / 128):=by
 rw[h,ZJg (by omega),List.append_assoc];rfl
theorem ZKW (k a:Nat) (h:a<2^k):(2^k - 1) ^^^ a=2^k - 1 - a:=by
 apply Nat.eq_of_testBit_eq;intro i;rw[Nat.testBit_xor,Nat.testBit_two_pow_sub_one,show 2^k - 1 - a=2^k - (a+1)by omega,Nat.testBit_two_pow_sub_succ h];by_cases hi:i<k
 ·simp[hi]
 ·have:a.testBit i=false:=Nat.testBit_lt_two_pow (Nat.lt_of_lt_of_le h (Nat.pow_le_pow_right (by omega) (by omega)));simp[hi,this]
theorem ZJj (a:Nat) (h:a<18446744073709551616):bits .xor .u64 IntKind.u64.max (a:Int)=((18446744073709551615 - a:Nat):Int):=by
 rw[show IntKind.u64.max=((18446744073709551615:Nat):Int)from rfl,u64_xor_nat _ _ (by omega) h];exact congrArg _ (ZKW 64 a h)
theorem ZBY (a:Nat) (h:a<4294967296):bits .xor .u32 IntKind.u32.max (a:Int)=((4294967295 - a:Nat):Int):=by
 rw[show IntKind.u32.max=((4294967295:Nat):Int)from rfl,u32_xor_nat _ _ (by omega) h];exact congrArg _ (ZKW 32 a h)
theorem ZMK (x:Int) (h:x<0) (h2 : -9223372036854775808<=x):IntKind.u64.wrap (IntKind.u64.wrap x*2)=((18446744073709551615 - (2*(-1 - x).toNat+1):Nat):Int):=by
 have e:∀y:Int,IntKind.u64.wrap y=y%18446744073709551616:=fun y=>by simp[IntKind.wrap,IntKind.bits,IntKind.signed]
 rw[e,e];omega
theorem ZNQ (m:Nat):bits .or .u8 ((m:Int)%256) 128=((m%128+128:Nat):Int):=by
 have h:∀k:Fin 256,k.val ||| 128=k.val%128+128:=by decide +kernel
 have hk:=h ⟨m%256,by omega⟩;simp only at hk;rw[show (m:Int)%256=((m%256:Nat):Int)by omega,show (128:Int)=((128:Nat):Int)from rfl,u8_or_nat _ _ (by omega) (by omega),hk];congr 1;omega
theorem ZHC (l:List UInt8) {k:Nat} (hk:k<256):(l ++ [UInt8.ofNat k]).map B8=l.map B8 ++ [.int .u8 (k:Int)]:=by
 rw[List.map_append,List.map_singleton];unfold B8;rw[UInt8.toNat_ofNat',Nat.mod_eq_of_lt hk]
theorem ZA3 (A:Option Addr) (n c x:Nat) (l:List UInt8) (w:World) (hn:n=l.length) (hl:Bs w A l) (hz:A=none->c=0) (v0:n<=1000000000) (hx:x<18446744073709551616) :
 Calls Tryz.prog 78 #[.slice A n c,.int .u64 x] w fun e w'=>NewB w (l++vb x) e w':=by
 have k0:=ZAq A n c l w hn hl hz (by omega);have t0:=ZD hx;replace k0:=ZA k0;replace hn:=ZA hn;clear hl hz;go_enter Tryz.func78,Tryz.ntmps78;go_wp2_with fail;refine k0.out.mono ?_;rintro e w1 ⟨A1,c1,rfl,m0,g0⟩;go_wp2_with fail
 go_loopw [1,5] (fun s1 s5 wr=>∃(m:Nat) (pre:List UInt8) (A2:Option Addr) (c2:Nat),s1 = .int .u64 m/\s5 = .slice A2 (n+pre.length) c2/\m<18446744073709551616/\pre.length<=10/\Hid (vb x=pre++vb m)/\Hid (Buf wr w.heap.size 5 A2 (n+pre.length) c2 ((l++pre).map B8))/\Hid (Ext w wr)) (fun s1 _ _=>(intOf s1).toNat)
 case atStart=>exact⟨x,[],A1,c1,rfl,rfl,hx,by simp,rfl,by rw[List.append_nil];exact ZA m0,ZA g0⟩
 case round =>
  obtain⟨m,pre,A2,c2,rfl,rfl,hm,hp,hv,hb,hE⟩:=hrel;have j0:=hE.out.size;by_cases h0:128<=m
  ·have u0:=ZNQ m;go_wp2_with (at_builtin;refine ZM ZV hb.out (.tmp 10) (.tmp 14) rfl rfl rfl rfl (ZS rfl) (by simp;omega) j0 (fun A3 c3 w3 p0 q0=>?_));go_roundw
   case rel=>exact⟨m / 128,pre ++ [UInt8.ofNat (m%128+128)],A3,c3,by go_num,by rw[List.length_append];rfl,by omega,(by
    have h1:=congrArg List.length (ZIY hv.out h0);have h2:=ZKS (m / 128);rw[List.length_append,List.length_append,List.length_singleton]at h1;rw[List.length_append,List.length_singleton];omega),ZA (ZIY hv.out h0),ZA (by rw[<-List.append_assoc,ZHC _ (by omega),List.length_append];exact p0),ZA (q0 w hE.out (Nat.le_refl _))⟩
   case measure=>simp[intOf];omega
  ·go_wp2_with (at_builtin;refine ZM ZV hb.out (.tmp 18) (.tmp 21) rfl rfl rfl rfl (ZS rfl) (by simp;omega) j0 (fun A3 c3 w3 p0 q0=>?_));go_ret;have hl:l++vb x=(l++pre) ++ [UInt8.ofNat m]:=by rw[hv.out,ZF4 (by omega),List.append_assoc]
   have hlen:(l++vb x).length=n+pre.length+1:=by rw[hl,hn.out];simp;omega
   exact⟨A3,c3,by rw[hlen];rfl,by rw[hlen,hl,ZHC _ (by omega)];exact p0,q0 w hE.out (Nat.le_refl _)⟩
theorem ZCM (A:Option Addr) (n c:Nat) (x:Int) (l:List UInt8) (w:World) (hn:n=l.length) (hl:Bs w A l) (hz:A=none->c=0) (t0:n<=1000000000) (hx : -9223372036854775808<=x) (m0:x<=9223372036854775807) :
 Calls Tryz.prog 88 #[.slice A n c,.int .i64 x] w fun e w'=>NewB w (l++vb (zig x)) e w':=by
 have hp:=ZA3 A n c (zig x) l w hn hl hz t0 (ZBB hx m0);have p0:zig x=if 0<=x then 2*x.toNat else 2*(-1 - x).toNat+1:=rfl;obtain⟨Z,hZ⟩:∃Z,Z=zig x:=⟨_,rfl⟩
 rw[<-hZ]at hp p0 ⊢;clear hZ hn hl hz;replace hp:=ZA hp;by_cases h0:0<=x
 ·rw[if_pos h0]at p0;replace p0:=ZA p0;go_enter Tryz.func88,Tryz.ntmps88;go_wp2_with fail;rw[show (x*2:Int)=(Z:Int)by have:=p0.out;omega];refine hp.out.mono ?_;rintro e w1 ⟨A1,c1,rfl,g0,j0⟩;go_wp2_with fail;go_ret;exact⟨A1,c1,ZAn (by rw[List.length_append]),g0,j0⟩
 ·rw[if_neg h0]at p0;have k0:=ZBB hx m0;unfold zig at k0;rw[if_neg h0]at k0;have q0:=ZJj (18446744073709551615 - (2*(-1 - x).toNat+1)) (by omega);rw[show 18446744073709551615 - (18446744073709551615 - (2*(-1 - x).toNat+1))=2*(-1 - x).toNat+1 by omega,<-ZMK x (by omega) hx,<-p0]at q0;clear k0;replace p0:=ZA p0;replace q0:=ZA q0;go_enter Tryz.func88,Tryz.ntmps88;go_wp2_with fail;rw[q0.out];refine hp.out.mono ?_;rintro e w1 ⟨A1,c1,rfl,g0,j0⟩;go_wp2_with fail;go_ret;exact⟨A1,c1,ZAn (by rw[List.length_append]),g0,j0⟩
theorem ZBE (xs:List Int) (hx:∀x∈xs,-9223372036854775808<=x/\x<=9223372036854775807):∀i,(vall (xs.take i)).length<=10*i:=by
 induction xs with
 | nil=>intro i;simp[vall]
 | cons x xs ih =>
  intro i;cases i with
  | zero=>simp[vall]
  | succ i =>
   have h1:=ih (fun y hy=>hx y (List.mem_cons_of_mem _ hy)) i;have h2:=hx x (List.mem_cons_self ..);have h3:=ZD (ZBB h2.1 h2.2);unfold vall at h1 ⊢;rw[List.take_succ_cons,List.flatMap_cons,List.length_append];omega
theorem ZJU (A B:Option Addr) (n c k c2:Nat) (xs:List Int) (l:List UInt8) (w:World) (hn:n=l.length) (hl:Bs w A l) (hz:A=none->c=0) (hk:k=xs.length) (c0:Cells w B (xs.map (Value.int .i64))) (d0:n+10*k<=1000000000) (hx:∀x∈xs,-9223372036854775808<=x/\x<=9223372036854775807) :
 Calls Tryz.prog 47 #[.slice A n c,.slice B k c2] w fun e w'=>NewB w (l++vall xs) e w':=by
 have g0:=ZAq A n c l w hn hl hz (by omega);have hlen:∀i,(vall (xs.take i)).length<=10*i:=ZBE xs hx;replace g0:=ZA g0;replace hn:=ZA hn;replace hk:=ZA hk;replace hx:=ZA hx;replace hlen:=ZA hlen;clear hl hz;go_enter Tryz.func47,Tryz.ntmps47;go_wp2_with fail;refine g0.out.mono ?_;rintro e w1 ⟨A1,c1,rfl,z0,x0⟩;go_wp2_with fail
 go_loopw [5,12] (fun s5 s12 wr=>∃(i:Nat) (A2:Option Addr) (m2 c2:Nat),s12 = .int .i64 i/\i<=k/\s5 = .slice A2 m2 c2/\Hid (m2=(l++vall (xs.take i)).length)/\Hid (Buf wr w.heap.size 5 A2 m2 c2 ((l++vall (xs.take i)).map B8))/\Hid (Ext w wr)) (fun _ s12 _=>k - (intOf s12).toNat)
 case atStart=>exact⟨0,A1,n,c1,rfl,by omega,rfl,ZA (by rw[hn.out];simp[vall]),ZA (by simpa [vall]using z0),ZA x0⟩
 case round =>
  obtain⟨i,A2,m2,c3,rfl,hi,rfl,k0,hb,hE⟩:=hrel;by_cases b0:i<k
  ·have h0:i<xs.length:=by rw[<-hk.out];exact b0
   obtain⟨g,o,rfl,hc⟩:=c0.at_ (by rw[List.length_map];omega);have t0:=hx.out xs[i] (List.getElem_mem h0);have q0:=hE.out.cell (hc i (.int .i64 xs[i]) (by rw[List.getElem?_map,List.getElem?_eq_getElem h0];rfl));have m0:=hlen.out i;have j0:=ZCM A2 m2 c3 xs[i] (l++vall (xs.take i)) wr k0.out hb.out.cells hb.out.none_cap (by rw[k0.out,List.length_append,<-hn.out];omega) t0.1 t0.2;have v0:(l++vall (xs.take i))++vb (zig xs[i])=l++vall (xs.take (i+1)):=by
    rw[List.append_assoc,List.take_succ_eq_append_getElem h0];unfold vall;rw[List.flatMap_append];simp
   rw[v0]at j0;obtain⟨X,hX⟩:∃X,X=xs[i]:=⟨_,rfl⟩
   rw[<-hX]at q0 j0 t0;replace j0:=ZA j0;clear hX v0 hc m0;go_wp2_with fail;refine j0.out.mono ?_;rintro e w3 ⟨A3,c4,rfl,a0,y0⟩;go_wp2_with fail;go_roundw
   case rel=>exact⟨i+1,A3,_,c4,by go_num,by omega,rfl,ZA (by rw[List.length_append]),ZA (by rw[<-List.length_append];exact a0.lower hE.out.size),ZA (hE.out.trans y0)⟩
   case measure=>simp[intOf];omega
  ·have p0:i=k:=by omega
   have u0:xs.take i=xs:=List.take_of_length_le (by rw[p0,hk.out];exact Nat.le_refl _);rw[u0]at hb k0;clear u0 p0;go_wp2_with fail;go_ret;exact⟨A2,c3,by rw[k0.out];rfl,by rw[<-k0.out];exact hb.out,hE.out⟩
theorem ZCT (w:World) (us:List Value) (t:TypeId) (h:us.length<=9223372036854775807):Buf (w.alloc (.cells us.toArray t)) w.heap.size t (some ⟨w.heap.size,0,none⟩) us.length us.length us :=
 ⟨rfl,Nat.le_refl _,.inr ⟨w.heap.size,us.toArray,rfl,Nat.le_refl _,heap_alloc_new w _,by simp,by simp⟩⟩
theorem ZIc (w:World) {k:Nat} (hk:k<256):NewB w [UInt8.ofNat k] (.returned (.slice (some ⟨w.heap.size,0,none⟩) 1 1)) (w.alloc (.cells #[.int .u8 (k:Int)] 5)):=by
 have h:=ZHC [] hk;rw[List.nil_append]at h;refine⟨_,_,rfl,?_,(Ext.refl w).alloc _⟩;rw[h];exact ZCT w [.int .u8 (k:Int)] 5 (by simp)
theorem ZIo (k:Nat):∀(n:Nat) (w:World),n<128^(k+1)->n<18446744073709551616->Calls Tryz.prog 161 #[.int .u64 n] w fun e w'=>NewB w (vb n) e w':=by
 induction k with
 | zero =>
  intro n w h1 h2;have h3:n<128:=by simpa using h1
  rw[ZF4 h3];clear h1;go_enter Tryz.func161,Tryz.ntmps161;go_wp2_with fail;go_ret;exact ZIc w (by omega)
 | succ k ih =>
  intro n w h1 h2;by_cases h3:n<128
  ·rw[ZF4 h3];clear h1 ih;go_enter Tryz.func161,Tryz.ntmps161;go_wp2_with fail;go_ret;exact ZIc w (by omega)
  ·obtain⟨q,hq⟩:∃q,q=n%128+128:=⟨_,rfl⟩
   obtain⟨m,hm⟩:∃m,m=n / 128:=⟨_,rfl⟩
   have k0:=ih m (w.alloc (.cells #[.int .u8 (q:Int)] 5)) (by rw[Nat.pow_succ]at h1;omega) (by omega);have p0:=ZCT w [.int .u8 (q:Int)] 5 (by simp);have z0:=ZD (n:=m) (by omega);have q0:Ext w (w.alloc (.cells #[.int .u8 (q:Int)] 5)):=(Ext.refl w).alloc _;have j0:B8 (UInt8.ofNat q) = .int .u8 (q:Int):=by unfold B8;rw[UInt8.toNat_ofNat',Nat.mod_eq_of_lt (by omega)]
   have h0:=ZJg h3;rw[<-hq,<-hm]at h0;have b0:((n:Int)%128+128)=(q:Int):=by omega
   have c0:(n:Int) / 128=(m:Int):=by omega
   have a0:q<256:=by omega
   clear h1 ih hq hm;replace k0:=ZA k0;replace p0:=ZA p0;replace q0:=ZA q0;replace j0:=ZA j0;replace h0:=ZA h0;go_enter Tryz.func161,Tryz.ntmps161;go_wp2_with fail;refine k0.out.mono ?_;rintro e w1 ⟨A1,c1,rfl,v0,g0⟩;have u0:=p0.out.ext g0;have m0:=q0.out.trans g0;have y0:=m0.size;go_wp2_with (at_builtin;refine ZG ZV u0 v0.cells (.tmp 12) (.tmp 15) rfl rfl rfl rfl rfl (by rw[List.length_map]) (ZF _) (by simp;omega) y0 (fun A3 c3 w3 x0 _ t0 _=>?_));go_ret;rw[h0.out];refine⟨A3,c3,ZAn (by rw[List.length_cons,Nat.add_comm]),?_,t0 w m0 (Nat.le_refl _)⟩;have:(UInt8.ofNat q::vb m).map B8 = [.int .u8 (q:Int)]++(vb m).map B8:=by rw[List.map_cons,j0.out];rfl
   rw[this,List.length_cons,Nat.add_comm];exact x0
theorem rbytes (n:Nat) (w:World) (h:n<18446744073709551616):Calls Tryz.prog 161 #[.int .u64 n] w fun e w'=>NewB w (vb n) e w':=ZIo 9 n w (by omega) h
theorem ZJM (x:Int) (w:World) (hx : -9223372036854775808<=x) (h0:x<=9223372036854775807):Calls Tryz.prog 166 #[.int .i64 x] w fun e w'=>e = .returned (.int .u64 (zig x))/\w'=w:=by
 go_enter Tryz.func166,Tryz.ntmps166;go_wp2_with fail
 all_goals go_ret
 all_goals exact⟨ZCc (by unfold zig;first | (rw[if_pos (by omega)];omega) | (rw[if_neg (by omega)];omega)),rfl⟩
theorem ZE6 (x:Int) (w:World) (hx : -9223372036854775808<=x) (h0:x<=9223372036854775807):Calls Tryz.prog 119 #[.int .i64 x] w fun e w'=>NewB w (vb (zig x)) e w':=by
 have hz:=ZA (fun w=>ZJM x w hx h0);have hb:=ZA (fun w=>rbytes (zig x) w (ZBB hx h0));go_enter Tryz.func119,Tryz.ntmps119;go_wp2_with fail;refine(hz.out _).mono ?_;rintro e w1 ⟨rfl,rfl⟩;go_wp2_with fail;refine(hb.out _).mono ?_;rintro e w2 ⟨A,c,rfl,q0,hE⟩;go_wp2_with fail;go_ret;exact⟨A,c,rfl,q0,hE⟩
theorem ZLv (B:Option Addr) (k c2:Nat) (xs:List Int) (w:World) (hk:k=xs.length) (f0:Cells w B (xs.map (Value.int .i64))) (i0:k<=100000000) (hx:∀x∈xs,-9223372036854775808<=x/\x<=9223372036854775807) :
 Calls Tryz.prog 64 #[.slice B k c2] w fun e w'=>NewB w (vall xs) e w':=by
 have hlen:∀i,(vall (xs.take i)).length<=10*i:=ZBE xs hx;replace hk:=ZA hk;replace hx:=ZA hx;replace hlen:=ZA hlen;go_enter Tryz.func64,Tryz.ntmps64;go_wp2_with fail
 go_loopw [3,4] (fun s3 s4 wr=>∃(i:Nat) (A2:Option Addr) (m2 c2:Nat),s4 = .int .i64 i/\i<=k/\s3 = .slice A2 m2 c2/\Hid (m2=(vall (xs.take i)).length)/\Hid (Buf wr w.heap.size 5 A2 m2 c2 ((vall (xs.take i)).map B8))/\Hid (Ext w wr)) (fun _ s4 _=>k - (intOf s4).toNat)
 case atStart=>exact⟨0,none,0,0,rfl,by omega,rfl,ZA rfl,ZA (Buf.nil _ _ _),ZA (Ext.refl w)⟩
 case round =>
  obtain⟨i,A2,m2,c3,rfl,hi,rfl,j0,hb,hE⟩:=hrel;by_cases c0:i<k
  ·have h0:i<xs.length:=by rw[<-hk.out];exact c0
   obtain⟨g,o,rfl,hc⟩:=f0.at_ (by rw[List.length_map];omega);have m0:=hx.out xs[i] (List.getElem_mem h0);have q0:=hE.out.cell (hc i (.int .i64 xs[i]) (by rw[List.getElem?_map,List.getElem?_eq_getElem h0];rfl));have k0:=hlen.out i;have t0:=fun w=>ZE6 xs[i] w m0.1 m0.2;have g0:vall (xs.take i)++vb (zig xs[i])=vall (xs.take (i+1)):=by
    rw[List.take_succ_eq_append_getElem h0];unfold vall;rw[List.flatMap_append];simp
   have e0:=ZD (ZBB m0.1 m0.2);have l0:m2<=10*i:=by rw[j0.out];exact k0
   obtain⟨X,hX⟩:∃X,X=xs[i]:=⟨_,rfl⟩
   rw[<-hX]at q0 t0 m0 e0 g0;replace t0:=ZA t0;replace g0:=ZA g0;clear hX hc k0;go_wp2_with fail;refine(t0.out _).mono ?_;rintro e w3 ⟨A3,c4,rfl,a0,v0⟩;have z0:=hb.out.ext v0;have u0:=hE.out.trans v0;have d0:=u0.size;go_wp2_with (at_builtin;refine ZG ZV z0 a0.cells (.tmp 11) (.tmp 16) rfl rfl rfl rfl rfl (by rw[List.length_map]) (ZF _) (by omega) d0 (fun A5 c5 w5 b0 _ y0 _=>?_));go_roundw
   case rel=>exact⟨i+1,A5,_,c5,by go_num,by omega,rfl,ZA (by rw[<-g0.out,List.length_append,j0.out]),ZA (by rw[<-g0.out,List.map_append];exact b0),ZA (y0 w u0 (Nat.le_refl _))⟩
   case measure=>simp[intOf];omega
  ·have p0:i=k:=by omega
   have x0:xs.take i=xs:=List.take_of_length_le (by rw[p0,hk.out];exact Nat.le_refl _);rw[x0]at hb j0;clear x0 p0;go_wp2_with fail;go_ret;exact⟨A2,c3,by rw[<-j0.out];rfl,by rw[<-j0.out];exact hb.out,hE.out⟩
structure In8 (w:World) (A:Option Addr) (n c:Nat) (l:List UInt8):Prop where
  len:n=l.length
  bytes:Bs w A l
  cap:n<=c
  nil_:A=none->c=0
  at_:∀a,A=some a->a.spot=Option.none/\a.block<w.heap.size
theorem In8.ext {w w1:World} {A:Option Addr} {n c:Nat} {l:List UInt8} (h:In8 w A n c l) (hE:Ext w w1):In8 w1 A n c l :=
 ⟨h.len,h.bytes.ext hE,h.cap,h.nil_,fun a ha=>⟨(h.at_ a ha).1,Nat.lt_of_lt_of_le (h.at_ a ha).2 hE.size⟩⟩
theorem Buf.in8 {w:World} {base:Nat} {e:TypeId} {A:Option Addr} {n c:Nat} {l:List UInt8} (h:Buf w base e A n c (l.map B8)):In8 w A n c l:=by
 refine⟨by have:=h.1;simpa using this.symm,h.cells,h.2.1,h.none_cap,fun a ha=>⟨?_,h.lt a ha⟩⟩;rcases h.2.2 with ⟨h0,_⟩ | ⟨g,cur,hA,_⟩
 ·rw[h0]at ha;cases ha
 ·rw[hA]at ha;cases ha;rfl
def comb (i acc:Nat):Except Nat (Nat×List UInt8)->Except Nat (Nat×List UInt8)
 | .ok (n,r)=> .ok (acc+128^i*n,r)
 | .error e=> .error e
theorem ZGt (x:Except Nat (Nat×List UInt8)):comb 0 0 x=x:=by
 unfold comb;split <;> simp
def Got (w0 w:World) (res:Except Nat (Nat×List UInt8)) (e:Ending) (w':World):Prop:=Ext w w'/\match res with
 | .ok (v,r)=>∃A c,e = .returned (.tuple #[.int .u64 v,.slice A r.length c,.int .i64 0])/\In8 w0 A r.length c r
 | .error k=>e = .returned (.tuple #[.int .u64 0,.slice none 0 0,.int .i64 k])
theorem ZDc {n c k:Nat} {A:Option Addr} (h:k<=c) (hA:∀a,A=some a->a.spot=none) (W:World) :
 (Instr.sliceAt 25 (.slice A n c) none (some (.int .i64 k)) none).run Tryz.prog W = .ok (.slice A k c) W:=by
 have ht:=Tryz.underlying25;have he:Tryz.prog.elem 25=5:=by unfold Program.elem;rw[ht]
 have hs:∀W:World,(sizeOf 5).run Tryz.prog W = .ok 1 W:=fun W=>by kernel_rfl
 rw[run_sliceAt_slice W _ _ _ _ _ (by rw[ht,he]),run_slice_h W _ A n c (by rw[ht,he]) .i64 k (by omega) (by omega),he,hs];simp only[Result.andThen_ok];congr 1;unfold sliced;have:(if c=0 then A else A.map fun x=>x.add (0*1))=A:=by
  cases A with
  | none=>simp
  | some a =>
   obtain⟨b,o,sp⟩:=a;obtain rfl:sp=none:=hA _ rfl;simp[Addr.add_lit]
 rw[this];simp
theorem In8.from_ {w:World} {A:Option Addr} {n c:Nat} {l:List UInt8} (h:In8 w A n c l) {fr:Nat} (hf:fr<=n) {z:Int} (hz:z=(fr:Int)) :
 ∃A' c',(∀W:World,(Instr.sliceAt 25 (.slice A n c) (some (.int .i64 z)) none none).run Tryz.prog W = .ok (.slice A' (n - fr) c') W)/\In8 w A' (n - fr) c' (l.drop fr):=by
 subst hz;have ht:=Tryz.underlying25;have he:Tryz.prog.elem 25=5:=by unfold Program.elem;rw[ht]
 have hs:∀W:World,(sizeOf 5).run Tryz.prog W = .ok 1 W:=fun W=>by kernel_rfl
 have h0:∀W:World,(Instr.sliceAt 25 (.slice A n c) (some (.int .i64 fr)) none none).run Tryz.prog W = .ok (sliced A fr n c 1) W:=by
  intro W;rw[run_sliceAt_slice W _ _ _ _ _ (by rw[ht,he]),run_slice_l W _ A n c (by rw[ht,he]) .i64 fr (by omega) (by omega),he,hs];simp only[Result.andThen_ok];congr 1
 have q0:=h.cap;refine⟨_,_,h0,by rw[List.length_drop,<-h.len],?_,by omega,?_,?_⟩
 ·rcases h.bytes with hb | ⟨g,o,rfl,hb⟩
  ·left;have:l = []:=by simpa using hb
   rw[this];simp
  ·by_cases p0:c=fr
   ·left;have:=h.len;rw[List.drop_of_length_le (by omega)];rfl
   ·refine .inr ⟨g,o+fr,by rw[if_neg p0];simp[Addr.add_lit],fun i v hv=>?_⟩;rw[Nat.add_assoc];refine hb (fr+i) v ?_;rw[List.getElem?_map]at hv ⊢;rw[List.getElem?_drop]at hv;exact hv
 ·intro hn;cases A with
  | none=>have:=h.nil_ rfl;omega
  | some a=>split at hn <;> cases hn
 ·intro a ha;cases A with
  | none=>split at ha <;> cases ha
  | some b =>
   obtain⟨h1,h2⟩:=h.at_ b rfl;obtain⟨b,o,sp⟩:=b;obtain rfl:sp=Option.none:=h1;split at ha
   ·cases ha;exact⟨rfl,h2⟩
   ·cases ha;show (Addr.add ⟨b,o,none⟩ (fr*1)).spot=none/\(Addr.add ⟨b,o,none⟩ (fr*1)).block<w.heap.size;rw[Addr.add_lit];exact⟨rfl,h2⟩
theorem ZH5 {l:List UInt8} {i:Nat} {x:UInt8} (h:l[i]? = some x) (q0:i<10) (acc:Nat):comb i acc (getV i (l.drop i))=if (i=9/\1<x.toNat)\/(0<i/\x.toNat=0) then .error 20 else
 if x.toNat<128 then .ok (acc+128^i*x.toNat,l.drop (i+1)) else comb (i+1) (acc+128^i*(x.toNat - 128)) (getV (i+1) (l.drop (i+1))):=by
 have hi:=(List.getElem?_eq_some_iff.1 h).1;have h2:=(List.getElem?_eq_some_iff.1 h).2;rw[List.drop_eq_getElem_cons hi,h2]
 conv=>lhs;unfold getV
 rw[if_neg (by omega)];by_cases hb:(i=9/\1<x.toNat)\/(0<i/\x.toNat=0)
 ·rw[if_pos hb,if_pos hb];rfl
 ·rw[if_neg hb,if_neg hb];by_cases h0:x.toNat<128
  ·rw[if_pos h0,if_pos h0];rfl
  ·rw[if_neg h0,if_neg h0];unfold comb;cases getV (i+1) (l.drop (i+1))with
   | error e=>rfl
   | ok p =>
    obtain⟨n,r⟩:=p;simp only;rw[Nat.mul_add,Nat.pow_succ,Nat.add_assoc,Nat.mul_assoc]
theorem ZIR {l:List UInt8} {i:Nat} (h:l.length<=i\/10<=i) (acc:Nat):comb i acc (getV i (l.drop i)) = .error 6:=by
 rcases h with h | h
 ·rw[List.drop_of_length_le h];rfl
 ·cases l.drop i with
  | nil=>rfl
  | cons x r=>unfold getV;rw[if_pos h];rfl
theorem ZNz {i acc y:Nat} (hi:i<=9) (ha:acc<128^i) (hy:y<128) (h9:i=9->y<=1):bits .or .u64 (acc:Int) (IntKind.u64.wrap ((y:Int)*2^(7*i)))=((acc+128^i*y:Nat):Int):=by
 have e:∀y:Int,IntKind.u64.wrap y=y%18446744073709551616:=fun y=>by simp[IntKind.wrap,IntKind.bits,IntKind.signed]
 have hp:(128:Nat)^i=2^(7*i):=by rw[show (128:Nat)=2^7 from rfl,<-Nat.pow_mul]
 rw[hp]at ha ⊢;have q0:y*2^(7*i)<18446744073709551616:=by
  rcases Nat.lt_or_ge i 9 with h | h
  ·have h1:2^(7*i)<=2^56:=Nat.pow_le_pow_right (by omega) (by omega);have h2:y*2^(7*i)<=127*2^56:=Nat.mul_le_mul (by omega) h1;omega
  ·obtain rfl:i=9:=by omega
   have:=h9 rfl;have h2:y*2^(7*9)<=1*2^63:=Nat.mul_le_mul this (Nat.le_refl _);omega
 have h0:acc<18446744073709551616:=Nat.lt_of_lt_of_le ha (by
  have:2^(7*i)<=2^63:=Nat.pow_le_pow_right (by omega) (by omega);omega)
 have hc:IntKind.u64.wrap ((y:Int)*2^(7*i))=((y*2^(7*i):Nat):Int):=by
  rw[e];have:(y:Int)*2^(7*i)=((y*2^(7*i):Nat):Int):=by simp
  rw[this];omega
 rw[hc,u64_or_nat _ _ h0 q0];have:=Nat.shiftLeft_add_eq_or_of_lt ha y;rw[Nat.shiftLeft_eq]at this;rw[Nat.or_comm,<-this,Nat.add_comm,Nat.mul_comm y]
theorem ZGo {i acc y:Nat} (ha:acc<128^i) (hy:y<128):acc+128^i*y<128^(i+1):=by
 have h:=Nat.mul_le_mul_left (128^i) (show y+1<=128 by omega);rw[Nat.mul_add,Nat.mul_one]at h;rw[Nat.pow_succ];omega
theorem ZE0 {w0 w w':World} {res:Except Nat (Nat×List UInt8)} {v:Nat} {r:List UInt8} {A:Option Addr} {m c:Nat} {E:Int} (hr:res = .ok (v,r)) (hE:Ext w w') (hi:In8 w0 A m c r) (hv:E=(v:Int)):Got w0 w res (.returned (.tuple #[.int .u64 E,.slice A m c,.int .i64 0])) w':=by
 subst hr hv;have:=hi.len;subst this;exact⟨hE,A,c,rfl,hi⟩
theorem ZBF {w0 w w':World} {res:Except Nat (Nat×List UInt8)} {k:Nat} (hr:res = .error k) (hE:Ext w w'):Got w0 w res (.returned (.tuple #[.int .u64 0,.slice none 0 0,.int .i64 k])) w':=by
 subst hr;exact⟨hE,rfl⟩
theorem ZNc {x:Nat} (h:x<256):bits .and .u8 (x:Int) 127=((x%128:Nat):Int):=by
 have hf:∀k:Fin 256,k.val &&& 127=k.val%128:=by decide +kernel
 have hk:=hf ⟨x,h⟩;simp only at hk;rw[show (127:Int)=((127:Nat):Int)from rfl,u8_and_nat _ _ (by omega) (by omega),hk]
theorem ZA1 (A:Option Addr) (n c:Nat) (l:List UInt8) (w0 w:World) (h:In8 w0 A n c l) (hw:Ext w0 w) (m1:n<=1000000000) :
 Calls Tryz.prog 94 #[.slice A n c] w fun e w'=>Got w0 w (getV 0 l) e w':=by
 obtain⟨k,hk⟩:∃k:Nat,(k:Int)=min (n:Int) 10:=⟨min n 10,by omega⟩
 have r0:=h.cap;have s0:=fun(W:World)=>Zf (P:=Tryz.prog) #[3,3] 3 hk W;have p1:=fun(W:World)=>ZDc (n:=n) (c:=c) (k:=k) (A:=A) (by omega) (fun a ha=>(h.at_ a ha).1) W;have j1:k<=10:=by omega
 have g1:k<=n:=by omega
 have e0:n<=k\/10<=k:=by omega
 replace hk:=ZA hk;replace e0:=ZA e0;replace h:=ZA h;go_enter Tryz.func94,Tryz.ntmps94;go_wp2_with fail;go_step3;go_wp2_with fail;go_step3;go_wp2_with fail
 go_loopw [2,4,13] (fun s2 s4 s13 wr=>∃(i acc:Nat),s13 = .int .i64 i/\s2 = .int .u64 acc/\s4 = .int .i64 6/\i<=k/\acc<128^i/\Hid (getV 0 l=comb i acc (getV i (l.drop i)))/\Hid (Ext w wr)) (fun _ _ s13 _=>k - (intOf s13).toNat)
 case atStart=>exact⟨0,0,rfl,rfl,rfl,by omega,by simp,ZA (by rw[ZGt];rfl),ZA (Ext.refl w)⟩
 case round =>
  obtain⟨i,acc,rfl,rfl,rfl,hi,p0,hg,hE⟩:=hrel;by_cases k1:i<k
  ·have i0:i<l.length:=by rw[<-h.out.len];omega
   obtain⟨g,o,rfl,hc⟩:=h.out.bytes.at_ (by omega);have u0:=(hw.trans hE.out).cell (hc i i0);have k0:=ZH5 (List.getElem?_eq_getElem i0) (by omega) acc;rw[<-hg.out]at k0;obtain⟨x,hx⟩:∃x,x=l[i].toNat:=⟨_,rfl⟩
   have y0:x<256:=by rw[hx];exact l[i].toNat_lt
   rw[<-hx]at u0 k0;replace hx:=ZA hx;replace k0:=ZA k0;have c0:=ZNc y0;obtain⟨y,hy⟩:∃y,y=x%128:=⟨_,rfl⟩
   rw[<-hy]at c0;replace hy:=ZA hy;obtain⟨A',c',f0,l0⟩:=h.out.from_ (fr:=i+1) (by omega) (z:=(i:Int)+1) (by omega);have m0:=fun h9:i=9->y<=1=>ZNz (i:=i) (acc:=acc) (y:=y) (by omega) p0 (by have:=hy.out;omega) h9;replace m0:=ZA m0;have j0:=ZA l0;clear hc hg l0;have a0:=fun(h1:¬((i=9/\1<x)\/(0<i/\x=0))) (h2:128<=x)=>k0.out.trans ((if_neg h1).trans (if_neg (by omega)));have x0:=fun(h1:¬((i=9/\1<x)\/(0<i/\x=0))) (h2:x<128)=>k0.out.trans ((if_neg h1).trans (if_pos h2));have h0:=fun(h1:(i=9/\1<x)\/(0<i/\x=0))=>k0.out.trans (if_pos h1);have o0:y<128:=by have:=hy.out;omega
   have v0:x<128->y=x:=fun h=>by have:=hy.out;omega
   have q0:128<=x->y=x - 128:=fun h=>by have:=hy.out;omega
   have hz:((x:Int)==0)=true->x=0:=fun h=>by simp at h;omega
   have b0:((x:Int)==0)=false->x≠0:=fun h=>by simp at h;omega
   replace a0:=ZA a0;replace x0:=ZA x0;replace h0:=ZA h0;replace v0:=ZA v0;replace q0:=ZA q0;replace hz:=ZA hz;replace b0:=ZA b0;by_cases h9:i=9
   ·subst h9;have t0:y<=1->bits .or .u64 (acc:Int) (IntKind.u64.wrap ((y:Int)*9223372036854775808))=((acc+128^9*y:Nat):Int):=fun q1=>by
     have e:(2:Int)^(7*9)=9223372036854775808:=by simp
     have:=m0.out fun _=>q1;rw[e]at this;exact this
    replace t0:=ZA t0;obtain⟨A9,c9,n0,g0⟩:=h.out.from_ (fr:=10) (by omega) (z:=10) rfl;replace g0:=ZA g0;clear f0 j0;go_wp2_with fail
    ·go_ret3;exact ZBF (h0.out (.inl ⟨by trivial,by omega⟩)) hE.out
    ·go_ret3;exact ZBF (h0.out (.inr ⟨by omega,hz.out (by assumption)⟩)) hE.out
    ·refine ZPw (fun K hK=>?_);go_wp2_with fail;refine⟨by kernel_rfl,?_⟩;go_wp2_with fail;go_ret3;have t1:x<=1:=by omega
     exact ZE0 (x0.out (by have:=b0.out (by assumption);omega) (by omega)) hE.out.drew g0.out (by rw[t0.out (by have:=v0.out (by omega);omega),v0.out (by omega)])
   ·go_wp2_with fail
    ·rw[Exit.noGoto_ret];go_ret3;exact ZBF (h0.out (.inr ⟨by omega,hz.out (by assumption)⟩)) hE.out
    ·refine ZPw (fun K hK=>?_);go_wp2_with fail;refine⟨by kernel_rfl,?_⟩;go_wp2_with fail;rw[Exit.noGoto_ret];go_ret3;exact ZE0 (x0.out (by have:=b0.out (by assumption);omega) (by omega)) hE.out.drew j0.out (by rw[m0.out (by omega),v0.out (by omega)])
    ·go_roundw
     case rel=>exact⟨i+1,acc+128^i*y,by go_num,by rw[m0.out (by omega)],rfl,by omega,ZGo p0 o0,ZA (by rw[a0.out (by omega) (by omega),q0.out (by omega)]),hE⟩
     case measure=>simp[intOf];omega
    ·refine ZPw (fun K hK=>?_);go_wp2_with fail;refine⟨by kernel_rfl,?_⟩;go_wp2_with fail;rw[Exit.noGoto_ret];go_ret3;exact ZE0 (x0.out (by omega) (by omega)) hE.out.drew j0.out (by rw[m0.out (by omega),v0.out (by omega)])
    ·go_roundw
     case rel=>exact⟨i+1,acc+128^i*y,by go_num,by rw[m0.out (by omega)],rfl,by omega,ZGo p0 o0,ZA (by rw[a0.out (by omega) (by omega),q0.out (by omega)]),hE⟩
     case measure=>simp[intOf];omega
  ·have d0:i=k:=by omega
   have z0:=ZIR (l:=l) (i:=i) (by rw[<-h.out.len,d0];exact e0.out) acc;rw[<-hg.out]at z0;replace z0:=ZA z0;replace d0:=ZA d0;go_wp2_with fail;rw[Exit.noGoto_ret];go_ret3;exact ZBF z0.out hE.out
theorem ZLn (kk:IntKind) {n c k:Nat} {A:Option Addr} (h:k<=c) (hA:∀a,A=some a->a.spot=none) (W:World) :
 (Instr.sliceAt 25 (.slice A n c) none (some (.int kk k)) none).run Tryz.prog W = .ok (.slice A k c) W:=by
 have ht:=Tryz.underlying25;have he:Tryz.prog.elem 25=5:=by unfold Program.elem;rw[ht]
 have hs:∀W:World,(sizeOf 5).run Tryz.prog W = .ok 1 W:=fun W=>by kernel_rfl
 rw[run_sliceAt_slice W _ _ _ _ _ (by rw[ht,he]),run_slice_h W _ A n c (by rw[ht,he]) kk k (by omega) (by omega),he,hs];simp only[Result.andThen_ok];congr 1;unfold sliced;have:(if c=0 then A else A.map fun x=>x.add (0*1))=A:=by
  cases A with
  | none=>simp
  | some a =>
   obtain⟨b,o,sp⟩:=a;obtain rfl:sp=none:=hA _ rfl;simp[Addr.add_lit]
 rw[this];simp
theorem In8.fromk (kk:IntKind) {w:World} {A:Option Addr} {n c:Nat} {l:List UInt8} (h:In8 w A n c l) {fr:Nat} (hf:fr<=n) {z:Int} (hz:z=(fr:Int)) :
 ∃A' c',(∀W:World,(Instr.sliceAt 25 (.slice A n c) (some (.int kk z)) none none).run Tryz.prog W = .ok (.slice A' (n - fr) c') W)/\In8 w A' (n - fr) c' (l.drop fr):=by
 subst hz;have ht:=Tryz.underlying25;have he:Tryz.prog.elem 25=5:=by unfold Program.elem;rw[ht]
 have hs:∀W:World,(sizeOf 5).run Tryz.prog W = .ok 1 W:=fun W=>by kernel_rfl
 have h0:∀W:World,(Instr.sliceAt 25 (.slice A n c) (some (.int kk fr)) none none).run Tryz.prog W = .ok (sliced A fr n c 1) W:=by
  intro W;rw[run_sliceAt_slice W _ _ _ _ _ (by rw[ht,he]),run_slice_l W _ A n c (by rw[ht,he]) kk fr (by omega) (by omega),he,hs];simp only[Result.andThen_ok];congr 1
 have q0:=h.cap;refine⟨_,_,h0,by rw[List.length_drop,<-h.len],?_,by omega,?_,?_⟩
 ·rcases h.bytes with hb | ⟨g,o,rfl,hb⟩
  ·left;have:l = []:=by simpa using hb
   rw[this];simp
  ·by_cases p0:c=fr
   ·left;have:=h.len;rw[List.drop_of_length_le (by omega)];rfl
   ·refine .inr ⟨g,o+fr,by rw[if_neg p0];simp[Addr.add_lit],fun i v hv=>?_⟩;rw[Nat.add_assoc];refine hb (fr+i) v ?_;rw[List.getElem?_map]at hv ⊢;rw[List.getElem?_drop]at hv;exact hv
 ·intro hn;cases A with
  | none=>have:=h.nil_ rfl;omega
  | some a=>split at hn <;> cases hn
 ·intro a ha;cases A with
  | none=>split at ha <;> cases ha
  | some b =>
   obtain⟨h1,h2⟩:=h.at_ b rfl;obtain⟨b,o,sp⟩:=b;obtain rfl:sp=Option.none:=h1;split at ha
   ·cases ha;exact⟨rfl,h2⟩
   ·cases ha;show (Addr.add ⟨b,o,none⟩ (fr*1)).spot=none/\(Addr.add ⟨b,o,none⟩ (fr*1)).block<w.heap.size;rw[Addr.add_lit];exact⟨rfl,h2⟩
theorem In8.headk (kk:IntKind) {w:World} {A:Option Addr} {n c:Nat} {l:List UInt8} (h:In8 w A n c l) {k:Nat} (hk:k<=n) {z:Int} (hz:z=(k:Int)) :
 (∀W:World,(Instr.sliceAt 25 (.slice A n c) none (some (.int kk z)) none).run Tryz.prog W = .ok (.slice A k c) W)/\In8 w A k c (l.take k):=by
 subst hz;refine⟨fun W=>ZLn kk (by have:=h.cap;omega) (fun a ha=>(h.at_ a ha).1) W,by rw[List.length_take,<-h.len];omega,?_,by have:=h.cap;omega,h.nil_,h.at_⟩;rcases h.bytes with hb | ⟨g,o,rfl,hb⟩
 ·left;have:l = []:=by simpa using hb
  rw[this];simp
 ·refine .inr ⟨g,o,rfl,fun i v hv=>hb i v ?_⟩;rw[List.getElem?_map]at hv ⊢;rw[List.getElem?_take]at hv;split at hv
  ·exact hv
  ·cases hv
theorem In8.subk (kk k2:IntKind) {w:World} {A:Option Addr} {n c:Nat} {l:List UInt8} (h:In8 w A n c l) {fr k:Nat} (hf:fr+k<=n) {z0 z:Int} (k0:z0=(fr:Int)) (hz:z=(fr:Int)+(k:Int)) :
 ∃A' c',(∀W:World,(Instr.sliceAt 25 (.slice A n c) (some (.int kk z0)) (some (.int k2 z)) none).run Tryz.prog W = .ok (.slice A' k c') W)/\In8 w A' k c' ((l.drop fr).take k):=by
 subst k0;subst hz;have ht:=Tryz.underlying25;have he:Tryz.prog.elem 25=5:=by unfold Program.elem;rw[ht]
 have hs:∀W:World,(sizeOf 5).run Tryz.prog W = .ok 1 W:=fun W=>by kernel_rfl
 have q0:=h.cap;have h0:∀W:World,(Instr.sliceAt 25 (.slice A n c) (some (.int kk fr)) (some (.int k2 ((fr:Int)+(k:Int)))) none).run Tryz.prog W = .ok (sliced A fr (fr+k) c 1) W:=by
  intro W;rw[run_sliceAt_slice W _ _ _ _ _ (by rw[ht,he]),run_slice_lh W _ A n c (by rw[ht,he]) kk k2 fr ((fr:Int)+k) (by omega) (by omega) (by omega),he,hs];simp only[Result.andThen_ok];congr 1
 unfold sliced at h0;rw[Nat.add_sub_cancel_left]at h0;refine⟨_,_,h0,by rw[List.length_take,List.length_drop,<-h.len];omega,?_,by omega,?_,?_⟩
 ·rcases h.bytes with hb | ⟨g,o,rfl,hb⟩
  ·left;have:l = []:=by simpa using hb
   rw[this];simp
  ·by_cases p0:c=fr
   ·left;have:k=0:=by omega
    subst this;simp
   ·refine .inr ⟨g,o+fr,by rw[if_neg p0];simp[Addr.add_lit],fun i v hv=>?_⟩;rw[Nat.add_assoc];refine hb (fr+i) v ?_;rw[List.getElem?_map]at hv ⊢;rw[List.getElem?_take]at hv;split at hv
    ·rw[List.getElem?_drop]at hv;exact hv
    ·cases hv
 ·intro hn;cases A with
  | none=>have:=h.nil_ rfl;omega
  | some a=>split at hn <;> cases hn
 ·intro a ha;cases A with
  | none=>split at ha <;> cases ha
  | some b =>
   obtain⟨h1,h2⟩:=h.at_ b rfl;obtain⟨b,o,sp⟩:=b;obtain rfl:sp=Option.none:=h1;split at ha
   ·cases ha;exact⟨rfl,h2⟩
   ·cases ha;show (Addr.add ⟨b,o,none⟩ (fr*1)).spot=none/\(Addr.add ⟨b,o,none⟩ (fr*1)).block<w.heap.size;rw[Addr.add_lit];exact⟨rfl,h2⟩
end
section
def cstep (y:Nat):Nat:=if y%2=1 then (y / 2) ^^^ 3988292384 else y / 2
def c8 (y:Nat):Nat:=cstep (cstep (cstep (cstep (cstep (cstep (cstep (cstep y)))))))
def con (x:Nat) (c:UInt8):Nat:=c8 (x ^^^ c.toNat)
def cnot (x:Nat):Nat:=4294967295 - x
def cnext (s:Nat) (l:List UInt8):Nat:=cnot (l.foldl con (cnot s))
theorem ZMp (a b:Nat):(a ^^^ b) / 2=(a / 2) ^^^ (b / 2):=by
 have:=Nat.shiftRight_xor_distrib (a:=a) (b:=b) (i:=1);simpa [Nat.shiftRight_eq_div_pow]using this
theorem ZNe (a b:Nat):(a ^^^ b)%2=(a%2) ^^^ (b%2):=by
 have:=Nat.xor_mod_two_pow (a:=a) (b:=b) (n:=1);simpa using this
theorem ZKe (a b:Nat):cstep (a ^^^ b)=cstep a ^^^ cstep b:=by
 unfold cstep;rw[ZMp,ZNe];rcases Nat.mod_two_eq_zero_or_one a with ha | ha <;> rcases Nat.mod_two_eq_zero_or_one b with hb | hb <;> rw[ha,hb]
 ·rfl
 ·show (a / 2 ^^^ b / 2) ^^^ 3988292384=(a / 2) ^^^ (b / 2 ^^^ 3988292384);rw[Nat.xor_assoc]
 ·show (a / 2 ^^^ b / 2) ^^^ 3988292384=(a / 2 ^^^ 3988292384) ^^^ (b / 2);rw[Nat.xor_assoc,Nat.xor_assoc,Nat.xor_comm (b / 2)]
 ·show (a / 2 ^^^ b / 2)=(a / 2 ^^^ 3988292384) ^^^ (b / 2 ^^^ 3988292384);rw[Nat.xor_assoc,<-Nat.xor_assoc 3988292384,Nat.xor_comm 3988292384 (b / 2),Nat.xor_assoc (b / 2),Nat.xor_self,Nat.xor_zero]
theorem ZOF (a b:Nat):c8 (a ^^^ b)=c8 a ^^^ c8 b:=by
 unfold c8;simp only[ZKe]
theorem ZLS (z:Nat):cstep (z*2)=z:=by
 unfold cstep;rw[if_neg (by omega)];omega
theorem ZNT (z:Nat):c8 (z*256)=z:=by
 unfold c8;rw[show z*256=z*2*2*2*2*2*2*2*2 by omega];simp only[ZLS]
theorem ZLE (y:Nat):y=(y%256) ^^^ (y / 256*256):=by
 have h:y / 256*256 ||| y%256=y / 256*256+y%256:=by
  have:=Nat.shiftLeft_add_eq_or_of_lt (b:=y%256) (i:=8) (Nat.mod_lt _ (by decide)) (y / 256);rw[Nat.shiftLeft_eq]at this;exact this.symm
 apply Nat.eq_of_testBit_eq;intro i;rw[Nat.testBit_xor];have h1:(y%256).testBit i=(decide (i<8)&&y.testBit i):=Nat.testBit_mod_two_pow y 8 i;have h2:(y / 256*256).testBit i=(decide (8<=i)&&y.testBit i):=by
  have e:y / 256*256=(y >>> 8) <<< 8:=by rw[Nat.shiftRight_eq_div_pow,Nat.shiftLeft_eq]
  rw[e,Nat.testBit_shiftLeft,Nat.testBit_shiftRight];by_cases h8:8<=i
  ·rw[show 8+(i - 8)=i by omega]
  ·simp[h8]
 rw[h1,h2];by_cases h8:i<8
 ·simp[h8,show ¬ 8<=i by omega]
 ·simp[h8,show 8<=i by omega]
theorem ZJs (x:Nat) (c:UInt8):con x c=c8 ((x ^^^ c.toNat)%256) ^^^ (x / 256):=by
 unfold con;have hc:c.toNat / 256=0:=by have:=c.toNat_lt;omega
 have h:=Nat.shiftRight_xor_distrib (a:=x) (b:=c.toNat) (i:=8);rw[Nat.shiftRight_eq_div_pow,Nat.shiftRight_eq_div_pow,Nat.shiftRight_eq_div_pow]at h;have h2:(x ^^^ c.toNat) / 256=x / 256:=by
  have:(2:Nat)^8=256:=rfl;rw[this,hc,Nat.xor_zero]at h;exact h
 conv=>lhs;rw[ZLE (x ^^^ c.toNat)]
 rw[ZOF,ZNT,h2]
theorem ZAD {y:Nat} (h:y<4294967296):cstep y<4294967296:=by
 unfold cstep;split
 ·exact Nat.xor_lt_two_pow (n:=32) (by omega) (by omega)
 ·omega
theorem ZN5 {y:Nat} (h:y<4294967296):c8 y<4294967296:=by
 unfold c8;exact ZAD (ZAD (ZAD (ZAD (ZAD (ZAD (ZAD (ZAD h)))))))
theorem ZLo {x:Nat} (c:UInt8) (h:x<4294967296):con x c<4294967296:=by
 unfold con;have:=c.toNat_lt;exact ZN5 (Nat.xor_lt_two_pow (n:=32) (by omega) (by omega))
theorem ZLf:∀(l:List UInt8) {x:Nat},x<4294967296->l.foldl con x<4294967296
 | [],_,h=>h
 | c::l,_,h=>ZLf l (ZLo c h)
theorem ZCt (s:Nat) (l:List UInt8):cnext s l<4294967296:=by
 unfold cnext cnot;omega
end
section
open Go.RowKit
def citer:Nat->Nat->Nat
 | 0,y=>y
 | k+1,y=>citer k (cstep y)
theorem ZM6 (y:Nat):c8 y=citer 8 y:=rfl
theorem ZEe {z v j:Nat} (h:z=citer (8 - j) v) (hj:j<8):z=citer (8 - (j+1)) (cstep v):=by
 rw[h,show 8 - j=(8 - (j+1))+1 by omega];rfl
theorem ZGE {z v j:Nat} (h:z=citer (8 - j) v) (hj:8<=j):z=v:=by
 rw[h,show 8 - j=0 by omega];rfl
theorem ZGI {v:Nat} (h:v%2=1):cstep v=(v / 2) ^^^ 3988292384:=by unfold cstep;rw[if_pos h]
theorem ZEa {v:Nat} (h:v%2=0):cstep v=v / 2:=by unfold cstep;rw[if_neg (by omega)]
theorem ZId {d:Nat} (h:d<4294967296):bits .xor .u32 (d:Int) 3988292384=((d ^^^ 3988292384:Nat):Int):=by
 rw[show (3988292384:Int)=((3988292384:Nat):Int)from rfl,u32_xor_nat _ _ h (by omega)]
theorem ZOP (x c:Nat) (w:World) (hx:x<4294967296) (hc:c<256):Calls Tryz.prog 188 #[.int .u32 x,.int .u8 c] w fun e w'=>e = .returned (.int .u32 (c8 (x ^^^ c):Nat))/\w'=w:=by
 have p0:bits .xor .u32 (x:Int) (c:Int)=((x ^^^ c:Nat):Int):=u32_xor_nat _ _ hx (by omega);have k0:x ^^^ c<4294967296:=Nat.xor_lt_two_pow (n:=32) hx (by omega);obtain⟨y,hy⟩:∃y,y=x ^^^ c:=⟨_,rfl⟩
 rw[<-hy]at p0 k0 ⊢;obtain⟨z,hz⟩:∃z,z=c8 y:=⟨_,rfl⟩
 rw[<-hz];rw[ZM6]at hz;replace hz:=ZA hz;clear hy;go_enter Tryz.func188,Tryz.ntmps188;go_wp2_with fail
 go_loop [0,5] (fun s0 s5=>∃(j v:Nat),s5 = .int .i64 j/\j<=8/\s0 = .int .u32 v/\v<4294967296/\Hid (z=citer (8 - j) v)) (fun _ s5=>8 - (intOf s5).toNat)
 case atStart=>exact⟨0,y,rfl,by omega,rfl,k0,hz⟩
 case round =>
  obtain⟨j,v,rfl,hj,rfl,hv,q0⟩:=hrel;by_cases j0:j<8
  ·have hn:=ZEe q0.out j0;have h0:=ZAD hv;replace hn:=ZA hn;rcases Nat.mod_two_eq_zero_or_one v with hm | hm
   ·have hs:=ZEa hm;have g0:(v:Int)%2=0:=by omega
    rw[hs]at hn h0;clear hm hs q0;go_wp2_with fail
    go_round
    case rel=>exact⟨j+1,v / 2,by go_num,by omega,by go_num,h0,hn⟩
    case measure=>simp[intOf];omega
   ·have hs:=ZGI hm;have g0:(v:Int)%2=1:=by omega
    obtain⟨d,hd⟩:∃d,d=v / 2:=⟨_,rfl⟩
    have t0:(v:Int) / 2=(d:Int):=by omega
    have m0:=ZId (d:=d) (by omega);rw[hs,<-hd]at hn h0;obtain⟨q,hq⟩:∃q,q=d ^^^ 3988292384:=⟨_,rfl⟩
    rw[<-hq]at hn h0 m0;clear hm hs q0 hd hq;go_wp2_with fail
    go_round
    case rel=>exact⟨j+1,q,by go_num,by omega,rfl,h0,hn⟩
    case measure=>simp[intOf];omega
  ·have hn:=ZGE q0.out (by omega);replace hn:=ZA hn;clear q0;go_wp2_with fail;go_ret;exact⟨by rw[hn.out];rfl,rfl⟩
theorem ZKU (A:Option Addr) (s n c:Nat) (l:List UInt8) (w0 w:World) (hb:In8 w0 A n c l) (hw:Ext w0 w) (hs:s<4294967296) (v0:n<=1000000000) :
 Calls Tryz.prog 169 #[.int .u32 s,.slice A n c] w fun e w'=>e = .returned (.int .u32 (cnext s l:Nat))/\w'=w:=by
 have q0:=ZBY s hs;have j0:cnot s<4294967296:=by unfold cnot;omega
 rw[show 4294967295 - s=cnot s from rfl]at q0;obtain⟨y,hy⟩:∃y,y=cnot s:=⟨_,rfl⟩
 rw[<-hy]at q0 j0;have hr:cnext s l=4294967295 - l.foldl con y:=by unfold cnext;rw[<-hy];rfl
 replace hr:=ZA hr;clear hy;replace hb:=ZA hb;go_enter Tryz.func169,Tryz.ntmps169;go_wp2_with fail
 go_loop [0,5] (fun s0 s5=>∃(i v:Nat),s5 = .int .i64 i/\i<=n/\s0 = .int .u32 v/\v<4294967296/\Hid (l.foldl con y=(l.drop i).foldl con v)) (fun _ s5=>n - (intOf s5).toNat)
 case atStart=>exact⟨0,y,rfl,by omega,rfl,j0,rfl⟩
 case round =>
  obtain⟨i,v,rfl,hi,rfl,hv,hf⟩:=hrel;by_cases t0:i<n
  ·have g0:i<l.length:=by rw[<-hb.out.len];omega
   obtain⟨g,o,rfl,hc⟩:=hb.out.bytes.at_ (by omega);have k0:=hw.cell (hc i g0);have m0:=ZA (fun w=>ZOP v l[i].toNat w hv l[i].toNat_lt);have hn:l.foldl con y=(l.drop (i+1)).foldl con (con v l[i]):=by rw[hf.out,List.drop_eq_getElem_cons g0];rfl
   have h0:=ZLo l[i] hv;unfold con at hn h0;replace hn:=ZA hn;clear hc hf;go_wp2_with fail;refine(m0.out _).mono ?_;rintro e w1 ⟨rfl,rfl⟩;go_wp2_with fail
   go_round
   case rel=>exact⟨i+1,_,by go_num,by omega,rfl,h0,hn⟩
   case measure=>simp[intOf];omega
  ·have p0:l.foldl con y=v:=by rw[hf.out,List.drop_of_length_le (by rw[<-hb.out.len];omega)];rfl
   have u0:=ZBY v hv;replace p0:=ZA p0;clear hf;go_wp2_with fail;go_ret;exact⟨ZCc (by rw[hr.out,p0.out]),rfl⟩
theorem ZNB (A:Option Addr) (n c:Nat) (l:List UInt8) (w0 w:World) (h:In8 w0 A n c l) (hw:Ext w0 w) (h0:n<=1000000000) :
 Calls Tryz.prog 124 #[.slice A n c] w fun e w'=>e = .returned (.int .u32 (cnext 0 l:Nat))/\w'=w:=by
 have hn:=ZA (ZKU A 0 n c l w0 w h hw (show 0<4294967296 by decide) h0);clear h;go_enter Tryz.func124,Tryz.ntmps124;go_wp2_with fail;refine hn.out.mono ?_;rintro e w1 ⟨rfl,rfl⟩;go_wp2_with fail;go_ret;exact⟨rfl,rfl⟩
def tabA (i:Nat):Array Value:=((List.range 256).map fun k=>if k<i then Value.int .u32 (c8 k:Nat) else .int .u32 0).toArray
theorem ZCz {i k:Nat} (hk:k<256):(tabA i)[k]? = some (if k<i then Value.int .u32 (c8 k:Nat) else .int .u32 0):=by
 unfold tabA;simp[hk]
theorem ZL8 {i:Nat} (hi:i<256):(tabA i).setIfInBounds i (.int .u32 (c8 i:Nat))=tabA (i+1):=by
 apply Array.ext_getElem?;intro k;rw[Array.getElem?_setIfInBounds];by_cases hk:k<256
 ·rw[ZCz hk,ZCz hk];have hs:i<(tabA i).size:=by unfold tabA;simp;omega
  by_cases h0:i=k
  ·subst h0;rw[if_pos rfl,if_pos hs,if_pos (by omega)]
  ·rw[if_neg h0];by_cases h1:k<i
   ·rw[if_pos h1,if_pos (by omega)]
   ·rw[if_neg h1,if_neg (by omega)]
 ·have h1:(tabA i)[k]? = none:=by unfold tabA;simp;omega
  have h2:(tabA (i+1))[k]? = none:=by unfold tabA;simp;omega
  rw[h1,h2,if_neg (by omega)]
theorem ZK9:Tryz.zeroCells286=tabA 0:=by kernel_rfl
theorem ZNg {v:Nat} (h:v<4294967296):bits .and .u32 (v:Int) 1=((v%2:Nat):Int):=by
 rw[show (1:Int)=((1:Nat):Int)from rfl,u32_and_nat _ _ h (by omega),Nat.and_one_is_mod]
theorem ZKj (w:World):Calls Tryz.prog 212 #[] w fun e w'=>e = .returned (.pointer (some ⟨w.heap.size,0,none⟩))/\Row w' w.heap.size 286 (tabA 256)/\Ext w w':=by
 have hz:Row (w.alloc (.cells Tryz.zeroCells286 286)) w.heap.size 286 (tabA 0):=by rw[ZK9];exact Row.new w _ _
 have g0:Ext w (w.alloc (.cells Tryz.zeroCells286 286)):=(Ext.refl w).alloc _;replace hz:=ZA hz;replace g0:=ZA g0;go_enter Tryz.func212,Tryz.ntmps212;go_wp2_with fail
 go_loopw [2,3,4,5] (fun _ _ _ s5 wr=>∃(i:Nat),s5 = .int .i64 i/\i<=256/\Hid (Row wr w.heap.size 286 (tabA i))/\Hid (Ext w wr)) (fun _ _ _ s5 _=>256 - (intOf s5).toNat)
 case atStart=>exact⟨0,rfl,by omega,hz,g0⟩
 case round =>
  obtain⟨i,rfl,hi,hr,hE⟩:=hrel;by_cases t0:i<256
  ·obtain⟨z,p0⟩:∃z,z=c8 i:=⟨_,rfl⟩
   have u0:=ZA p0;rw[ZM6]at p0;replace p0:=ZA p0;obtain⟨wo,rfl⟩:∃wo:World,wo=wr:=⟨_,rfl⟩
   go_wp2_with fail
   go_loop [3,4,10] (fun s3 _ s10=>∃(j v:Nat),s10 = .int .i64 j/\j<=8/\s3 = .int .u32 v/\v<4294967296/\Hid (z=citer (8 - j) v)) (fun _ _ s10=>8 - (intOf s10).toNat)
   case atStart=>exact⟨0,i,rfl,by omega,by go_num,by omega,p0⟩
   case round =>
    obtain⟨j,v,rfl,hj,rfl,hv,k0⟩:=hrel;by_cases y0:j<8
    ·have hn:=ZEe k0.out y0;have j0:=ZAD hv;have m0:=ZNg hv;obtain⟨q,hq⟩:∃q,q=v%2:=⟨_,rfl⟩
     obtain⟨d,hd⟩:∃d,d=v / 2:=⟨_,rfl⟩
     have a0:(v:Int) / 2=(d:Int):=by omega
     have q0:d<4294967296:=by omega
     have z0:=ZId q0;rw[<-hq]at m0;rcases (show q=0\/q=1 by omega)with rfl | rfl
     ·rw[ZEa hq.symm,<-hd]at hn;replace hn:=ZA hn;clear hq hd k0 j0;go_wp2_with fail
      go_round
      case rel=>exact⟨j+1,d,by go_num,by omega,rfl,q0,hn⟩
      case measure=>simp[intOf];omega
     ·rw[ZGI hq.symm,<-hd]at hn j0;obtain⟨y,hy⟩:∃y,y=d ^^^ 3988292384:=⟨_,rfl⟩
      rw[<-hy]at hn j0 z0;replace hn:=ZA hn;clear hq hd k0 hy;go_wp2_with fail
      go_round
      case rel=>exact⟨j+1,y,by go_num,by omega,rfl,j0,hn⟩
      case measure=>simp[intOf];omega
    ·have hn:=ZGE k0.out (by omega);have h0:=hr.out.cell i (ZCz t0);have b0:=hr.out.free i;have c0:=hr.out.lt;rw[if_neg (by omega)]at h0;have hp:=hr.out.put i (.int .u32 (v:Nat));rw[<-hn,u0.out,ZL8 t0]at hp;have v0:=ZA (u0.out.symm.trans hn);replace hp:=ZA hp;have x0:=ZA (hE.out.setCell (p:=⟨w.heap.size,i,none⟩) (Nat.le_refl _) (.int .u32 ((c8 i:Nat):Int)));clear k0 hn;go_wp2_with fail;go_roundw
     case rel=>exact⟨i+1,by go_num,by omega,by rw[<-v0.out];exact hp,by rw[<-v0.out];exact x0⟩
     case measure=>simp[intOf];omega
  ·obtain rfl:i=256:=by omega
   go_wp2_with fail;go_ret;exact⟨rfl,hr.out,hE.out⟩
theorem ZLp (v:Nat) (c:UInt8):con v c=c8 ((v%256) ^^^ c.toNat) ^^^ (v / 256):=by
 rw[ZJs];congr 2;have h:=Nat.xor_mod_two_pow (a:=v) (b:=c.toNat) (n:=8);have hc:=c.toNat_lt;rw[show (2:Nat)^8=256 from rfl,Nat.mod_eq_of_lt (a:=c.toNat) (by omega)]at h;exact h
theorem ZL7 (A:Option Addr) (s n c:Nat) (l:List UInt8) (w0 w:World) (hb:In8 w0 A n c l) (hw:Ext w0 w) (hs:s<4294967296) (i0:n<=1000000000) :
 Calls Tryz.prog 184 #[.int .u32 s,.slice A n c] w fun e w'=>e = .returned (.int .u32 (cnext s l:Nat))/\Ext w w':=by
 have u0:=ZA (ZKj w);have j0:=ZBY s hs;have x0:cnot s<4294967296:=by unfold cnot;omega
 rw[show 4294967295 - s=cnot s from rfl]at j0;obtain⟨y,hy⟩:∃y,y=cnot s:=⟨_,rfl⟩
 rw[<-hy]at j0 x0;have hr:cnext s l=4294967295 - l.foldl con y:=by unfold cnext;rw[<-hy];rfl
 replace hr:=ZA hr;clear hy;replace hb:=ZA hb;go_enter Tryz.func184,Tryz.ntmps184;go_wp2_with fail;refine u0.out.mono ?_;rintro e w1 ⟨rfl,q0,g0⟩;replace q0:=ZA q0;replace g0:=ZA g0;go_wp2_with fail
 go_loop [6,8,14] (fun s6 _ s14=>∃(i v:Nat),s14 = .int .i64 i/\i<=n/\s6 = .int .u32 v/\v<4294967296/\Hid (l.foldl con y=(l.drop i).foldl con v)) (fun _ _ s14=>n - (intOf s14).toNat)
 case atStart=>exact⟨0,y,rfl,by omega,rfl,x0,rfl⟩
 case round =>
  obtain⟨i,v,rfl,hi,rfl,hv,hf⟩:=hrel;by_cases f0:i<n
  ·have y0:i<l.length:=by rw[<-hb.out.len];omega
   obtain⟨g,o,rfl,hc⟩:=hb.out.bytes.at_ (by omega);have p0:=(hw.trans g0.out).cell (hc i y0);have hn:l.foldl con y=(l.drop (i+1)).foldl con (con v l[i]):=by rw[hf.out,List.drop_eq_getElem_cons y0];rfl
   have k0:=ZLo l[i] hv;have h0:=ZLp v l[i];obtain⟨x,hx⟩:∃x,x=l[i].toNat:=⟨_,rfl⟩
   have b0:x<256:=by rw[hx];exact l[i].toNat_lt
   rw[<-hx]at p0 h0;obtain⟨z,hz⟩:∃z,z=con v l[i]:=⟨_,rfl⟩
   rw[<-hz]at hn k0 h0;obtain⟨m,hm⟩:∃m,m=v%256:=⟨_,rfl⟩
   have l0:(v:Int)%256=(m:Int):=by omega
   have z0:m<256:=by omega
   have c0:=u8_xor_nat m x z0 b0;rw[<-hm]at h0;have t0:m ^^^ x<256:=Nat.xor_lt_two_pow (n:=8) z0 b0;obtain⟨k,hk⟩:∃k,k=m ^^^ x:=⟨_,rfl⟩
   rw[<-hk]at h0 c0 t0;have a0:=q0.out.cell k (ZCz t0);rw[if_pos t0]at a0;obtain⟨t,ht⟩:∃t,t=c8 k:=⟨_,rfl⟩
   have v0:t<4294967296:=by rw[ht];exact ZN5 (by omega)
   rw[<-ht]at a0 h0;obtain⟨d,hd⟩:∃d,d=v / 256:=⟨_,rfl⟩
   have e0:(v:Int) / 256=(d:Int):=by omega
   have d0:=u32_xor_nat t d v0 (by omega);rw[<-hd]at h0;rw[<-h0]at d0;replace hn:=ZA hn;clear hc hf hx hz hm hk ht hd h0;go_wp2_with fail
   go_round
   case rel=>exact⟨i+1,z,by go_num,by omega,rfl,k0,hn⟩
   case measure=>simp[intOf];omega
  ·have m0:l.foldl con y=v:=by rw[hf.out,List.drop_of_length_le (by rw[<-hb.out.len];omega)];rfl
   have n0:=ZBY v hv;replace m0:=ZA m0;clear hf;go_wp2_with fail;go_ret;exact⟨ZCc (by rw[hr.out,m0.out]),g0.out⟩
def csum (s:Nat) (ls:List (List UInt8)):Nat:=ls.foldl cnext s
theorem ZK3 (B:Option Addr) (k c2:Nat) (ps:List (Option Addr×Nat×List UInt8)) (w:World) (hk:k=ps.length) (hB:Cells w B (ps.map fun p=> .slice p.1 p.2.2.length p.2.1)) (g0:∀p∈ps,In8 w p.1 p.2.2.length p.2.1 p.2.2) (m0:∀p∈ps,p.2.2.length<=1000000000) (u0:k<=1000000) :
 Calls Tryz.prog 148 #[.slice B k c2] w fun e w'=>e = .returned (.int .u32 (csum 0 (ps.map fun p=>p.2.2):Nat))/\Ext w w':=by
 replace hk:=ZA hk;replace g0:=ZA g0;replace m0:=ZA m0;go_enter Tryz.func148,Tryz.ntmps148;go_wp2_with fail
 go_loopw [3,5,8] (fun s3 _ s8 wr=>∃(i v:Nat),s8 = .int .i64 i/\i<=k/\s3 = .int .u32 v/\v<4294967296/\Hid (csum 0 (ps.map fun p=>p.2.2)=csum v ((ps.drop i).map fun p=>p.2.2))/\Hid (Ext w wr)) (fun _ _ s8 _=>k - (intOf s8).toNat)
 case atStart=>exact⟨0,0,rfl,by omega,rfl,by omega,ZA rfl,ZA (Ext.refl w)⟩
 case round =>
  obtain⟨i,v,rfl,hi,rfl,hv,hf,hE⟩:=hrel;by_cases v0:i<k
  ·have p0:i<ps.length:=by rw[<-hk.out];omega
   obtain⟨g,o,rfl,hc⟩:=hB.at_ (by rw[List.length_map];omega);have h0:=hE.out.cell (hc i _ (by rw[List.getElem?_map,List.getElem?_eq_getElem p0];rfl));have hn:csum 0 (ps.map fun p=>p.2.2)=csum (cnext v ps[i].2.2) ((ps.drop (i+1)).map fun p=>p.2.2):=by rw[hf.out,List.drop_eq_getElem_cons p0];rfl
   have q0:=ZL7 ps[i].1 v ps[i].2.2.length ps[i].2.1 ps[i].2.2 w wr (g0.out _ (List.getElem_mem p0)) hE.out hv (m0.out _ (List.getElem_mem p0));have k0:=ZCt v ps[i].2.2;obtain⟨p,hp⟩:∃p,p=ps[i]:=⟨_,rfl⟩
   rw[<-hp]at h0 hn q0 k0;obtain⟨z,hz⟩:∃z,z=cnext v p.2.2:=⟨_,rfl⟩
   rw[<-hz]at hn q0 k0;replace hn:=ZA hn;replace q0:=ZA q0;clear hp hc hf hz;go_wp2_with fail;refine q0.out.mono ?_;rintro e w1 ⟨rfl,t0⟩;go_wp2_with fail;go_roundw
   case rel=>exact⟨i+1,z,by go_num,by omega,rfl,k0,hn,ZA (hE.out.trans t0)⟩
   case measure=>simp[intOf];omega
  ·have j0:csum 0 (ps.map fun p=>p.2.2)=v:=by rw[hf.out,List.drop_of_length_le (by rw[<-hk.out];omega)];rfl
   replace j0:=ZA j0;clear hf;go_wp2_with fail;go_ret;exact⟨by rw[j0.out];rfl,hE.out⟩
theorem ZL9 (n:Nat) (w:World) (hn:n<=1000000000):Calls Tryz.prog 185 #[.slice none 0 0,.int .i64 n] w fun e w'=>∃A c,e = .returned (.slice A 0 c)/\Buf w' w.heap.size 5 A 0 c []/\Ext w w':=by
 have u0:¬ (n:Int)<0:=by omega
 rcases Nat.eq_zero_or_pos n with rfl | k0
 ·go_enter Tryz.func185,Tryz.ntmps185;go_wp2_with fail;go_ret;exact⟨none,0,rfl,Buf.nil _ _ _,Ext.refl w⟩
 ·have j0:(0:Int)<n:=by omega
  obtain⟨i,z,hi,hz,h3,h4,h5⟩:=ZV.hi;have p0:=fun W ty=>Lib.run_append_nil_zeros (P:=Tryz.prog) W 25 3 ty 5 i z .i64 .i64 Tryz.underlying25 Tryz.underlying3 hi hz n k0 (by omega) (by omega) (by rw[h4];omega);have m0:=grownCap_ge w n 0 5;obtain⟨cur,q0⟩:∃cur,cur=Builtin.zeroCells z.cells n++Builtin.zeroCells z.cells (grownCap w n 0 5 - n):=⟨_,rfl⟩
  have g0:cur.size=grownCap w n 0 5:=by rw[q0,Array.size_append,size_zeroCells,size_zeroCells,h5];omega
  have v0:=fun W=>ZDc (n:=0) (c:=0) (k:=0) (A:=none) (Nat.le_refl _) nofun W;have t0:=fun W=>ZDc (n:=n) (c:=grownCap w n 0 5) (k:=0) (A:=some ⟨w.heap.size,0,none⟩) (by omega) (fun a ha=>by cases ha;rfl) W;obtain⟨C,hC⟩:∃C,C=grownCap w n 0 5:=⟨_,rfl⟩
  rw[<-hC]at m0 t0;have h0:=fun ty=>p0 w ty;rw[<-q0,<-hC]at h0;rw[<-hC]at g0;replace h0:=ZA h0;clear p0 hC q0 h5 h4 h3 hz hi;go_enter Tryz.func185,Tryz.ntmps185;go_wp2_with (at_builtin;refine Lib.wpList_append_run _ rfl (.tmp 20) (.tmp 21) 25 3 rfl (.slice none 0 0) (.int .i64 n) rfl rfl _ _ (h0.out _) ?_);go_ret;refine⟨some ⟨w.heap.size,0,none⟩,C,rfl,⟨rfl,Nat.zero_le _,.inr ⟨w.heap.size,cur,rfl,Nat.le_refl _,heap_alloc_new w _,by omega,by simp⟩⟩,?_⟩;exact((Ext.refl w).alloc _).drew
def catL (ps:List (Option Addr×Nat×List UInt8)):List UInt8:=ps.flatMap fun p=>p.2.2
theorem ZGm {ps:List (Option Addr×Nat×List UInt8)} {i:Nat} (h:i<ps.length):catL (ps.take (i+1))=catL (ps.take i)++ps[i].2.2:=by
 unfold catL;rw[List.take_succ_eq_append_getElem h,List.flatMap_append];simp
theorem ZFB (ps:List (Option Addr×Nat×List UInt8)) (i:Nat):(catL (ps.take i)).length<=(catL ps).length:=by
 have h:catL ps=catL (ps.take i)++catL (ps.drop i):=by
  unfold catL;rw[<-List.flatMap_append,List.take_append_drop]
 rw[h,List.length_append];omega
theorem ZIx (B:Option Addr) (k c2:Nat) (ps:List (Option Addr×Nat×List UInt8)) (w:World) (hk:k=ps.length) (hB:Cells w B (ps.map fun p=> .slice p.1 p.2.2.length p.2.1)) (y0:∀p∈ps,In8 w p.1 p.2.2.length p.2.1 p.2.2) (s0:(catL ps).length<=1000000000) (k1:k<=1000000) :
 Calls Tryz.prog 149 #[.slice B k c2] w fun e w'=>NewB w (catL ps) e w':=by
 have q0:=ZFB ps;obtain⟨T,hT⟩:∃T,T=(catL ps).length:=⟨_,rfl⟩
 rw[<-hT]at s0 q0;replace hk:=ZA hk;replace y0:=ZA y0;replace q0:=ZA q0;replace hT:=ZA hT;go_enter Tryz.func149,Tryz.ntmps149;go_wp2_with fail
 go_loopw [3,5,11] (fun s3 _ s11 wr=>∃(i v:Nat),s11 = .int .i64 (i:Int)/\i<=k/\s3 = .int .i64 (v:Int)/\v<=T/\Hid (v=(catL (ps.take i)).length)/\wr=w) (fun _ _ s11 _=>k - (intOf s11).toNat)
 case atStart=>exact⟨0,0,rfl,by omega,rfl,by omega,ZA (by simp[catL]),rfl⟩
 case round =>
  obtain⟨i,v,rfl,hi,rfl,hv,i0,rfl⟩:=hrel;by_cases q1:i<k
  ·have v0:i<ps.length:=by rw[<-hk.out];omega
   obtain⟨g,o,rfl,hc⟩:=hB.at_ (by rw[List.length_map];omega);have h0:=hc i _ (by rw[List.getElem?_map,List.getElem?_eq_getElem v0];rfl);have k0:=ZGm v0;have d0:=q0.out (i+1);obtain⟨p,hp⟩:∃p,p=ps[i]:=⟨_,rfl⟩
   rw[<-hp]at h0 k0;have t0:v+p.2.2.length=(catL (ps.take (i+1))).length:=by rw[k0,List.length_append,i0.out]
   have e0:v+p.2.2.length<=T:=by omega
   have g1:¬ ((v:Int)+(p.2.2.length:Int))<0:=by omega
   have r0:(0:Int)<=i:=by omega
   have hi1:(i:Int)<k:=by omega
   replace t0:=ZA t0;clear hp hc k0 d0;go_wp2_with fail;go_roundw
   case rel=>exact⟨i+1,v+p.2.2.length,by go_num,by omega,by go_num,e0,t0,trivial⟩
   case measure=>simp[intOf];omega
  ·have j0:ps.take i=ps:=List.take_of_length_le (by rw[<-hk.out];omega);have o0:=ZA (ZL9 v wr (by omega));rw[j0]at i0;go_wp2_with fail;refine o0.out.mono ?_;rintro e w1 ⟨A1,c1,rfl,x0,f0⟩;replace x0:=ZA x0;obtain⟨wo,a0⟩:∃wo,wo=wr:=⟨_,rfl⟩
   rw[<-a0]at f0 hB y0 x0;have p0:∀e w',NewB wo (catL ps) e w'->NewB wr (catL ps) e w':=fun e w' h=>by rw[<-a0];exact h
   replace p0:=ZA p0;replace a0:=ZA a0;go_wp2_with fail
   go_loopw [6,8,27] (fun s6 _ s27 wz=>∃(i n4 c4:Nat) (A4:Option Addr),s27 = .int .i64 (i:Int)/\i<=k/\s6 = .slice A4 n4 c4/\n4<=T/\Hid (n4=(catL (ps.take i)).length)/\Hid (Buf wz wo.heap.size 5 A4 n4 c4 ((catL (ps.take i)).map B8))/\Hid (Ext wo wz)) (fun _ _ s27 _=>k - (intOf s27).toNat)
   case atStart=>exact⟨0,0,c1,A1,rfl,by omega,rfl,by omega,ZA (by simp[catL]),ZA (by simpa [catL]using x0.out),ZA f0⟩
   case round =>
    obtain⟨j,n4,c4,A4,rfl,hj,rfl,j1,z0,b0,hE⟩:=hrel;by_cases p1:j<k
    ·have v0:j<ps.length:=by rw[<-hk.out];omega
     obtain⟨g,o,rfl,hc⟩:=hB.at_ (by rw[List.length_map];omega);have h0:=hE.out.cell (hc j _ (by rw[List.getElem?_map,List.getElem?_eq_getElem v0];rfl));have k0:=ZGm v0;have d0:=q0.out (j+1);have u0:=(y0.out _ (List.getElem_mem v0)).ext hE.out;obtain⟨p,hp⟩:∃p,p=ps[j]:=⟨_,rfl⟩
     rw[<-hp]at h0 k0 u0;have t0:n4+p.2.2.length=(catL (ps.take (j+1))).length:=by rw[k0,List.length_append,z0.out]
     have e0:n4+p.2.2.length<=T:=by omega
     have m0:(catL (ps.take (j+1))).map B8=(catL (ps.take j)).map B8++p.2.2.map B8:=by rw[k0,List.map_append]
     have r0:(0:Int)<=j:=by omega
     have hi1:(j:Int)<k:=by omega
     have c0:wo.heap.size<=(‹World›).heap.size:=hE.out.size;replace t0:=ZA t0;replace m0:=ZA m0;clear hp hc k0 d0;go_wp2_with (at_builtin;refine ZG ZV b0.out u0.bytes (.tmp 31) (.tmp 32) rfl rfl rfl rfl rfl (by rw[List.length_map]) (fun u hu=>by obtain⟨x,_,rfl⟩:=List.mem_map.1 hu;rfl) (by omega) c0 (fun A5 c5 w5 n0 w0 l0 _=>?_));refine⟨⟨j+1,n4+p.2.2.length,c5,A5,by go_num,by omega,rfl,e0,t0,ZA (by rw[m0.out];exact n0),ZA (l0 _ hE.out (Nat.le_refl _))⟩,?_⟩;simp[intOf];omega
    ·have j0:ps.take j=ps:=List.take_of_length_le (by rw[<-hk.out];omega);rw[j0]at z0 b0;have g0:∀wz,Ext wo wz->Buf wz wo.heap.size 5 A4 n4 c4 ((catL ps).map B8)->NewB wo (catL ps) (.returned (.slice A4 n4 c4)) wz:=fun wz h1 h2=>⟨A4,c4,by rw[<-z0.out],by rw[<-z0.out];exact h2,h1⟩
     replace g0:=ZA g0;go_wp2_with fail;go_ret;exact p0.out _ _ (g0.out _ hE.out b0.out)
end
end Go.Proofs.YtkdcnhnaiknaaaaGreat
