/- Texts of one proof, joined. -/
import Derived.Test.YtfifdilapbeiiaaGreatPO02
import Derived.Lib.AppendZeros
import Derived.Laws.DeepNot64
import Derived.Lib.AppendStr
import Derived.Laws.StructEq
import Derived.Deep.RegionHeld3
set_option linter.unusedSimpArgs false
set_option linter.unusedVariables false
set_option maxRecDepth 100000
set_option maxHeartbeats 16000000
namespace Go.Proofs.YtfifdilapbeiiaaGreat
open _root_.Go.Proofs.Tryz
variable {ops:Array Oper} {Q:Exit → Act → World → Prop} {z z0:Int} {l p pre r s:List UInt8} {xs:List Value} {c fr i k m n x:Nat} {o:Oper} {A:Option Addr} {P:Program} {e:TypeId} {w w' w0 w1:World}
section
open Go.RowKit
structure PoC where
  doc:Int
  pos:List Int
  A:Option Addr
  c:Nat
def PoC.val (x:PoC):Value:= .agg #[.int .i64 x.doc,.slice x.A x.pos.length x.c]
def PoC.cells (x:PoC):List Value:= [.int .i64 x.doc,.slice x.A x.pos.length x.c]
def PoC.po (x:PoC):Po:=(x.doc,x.pos)
def pcells (l:List PoC):List Value:=l.flatMap PoC.cells
theorem G9 (l:List PoC):(pcells l).length=l.length*2:=AU (cellsA:=PoC.cells) (k:=2) (fun _=>rfl) l
theorem G8 {l:List PoC} {x:PoC} (h:l[i]? = some x) {j:Nat} (b:j<2):(pcells l)[i*2+j]? = x.cells[j]? :=AW (cellsA:=PoC.cells) (k:=2) (fun _=>rfl) l i x j h b
theorem Bc {l:List PoC} (h:Cells w A (pcells l)) {x:PoC} (j:l[i]? = some x):∃g o,A=some ⟨g,o,none⟩/\w.cell? ⟨g,o+i*2,none⟩=some (.int .i64 x.doc)/\w.cell? ⟨g,o+i*2+1,none⟩=some (.slice x.A x.pos.length x.c):=by
 obtain⟨g,o,a,b⟩:=h.at_ (by rw[G9];have:=(List.getElem?_eq_some_iff.1 j).1;omega);refine⟨g,o,a,?_,?_⟩
 ·have:=b (i*2+0) _ (by rw[G8 j (by omega)];rfl);exact this
 ·have:=b (i*2+1) _ (by rw[G8 j (by omega)];rfl);exact this
structure PosOk (w:World) (A:Option Addr) (l:List PoC):Prop where
  cells:Cells w A (pcells l)
  each:∀x∈l,Cells w x.A (x.pos.map IV)/\x.pos.length<=1000000000
theorem PosOk.ext {l:List PoC} (h:PosOk w A l) (j:Ext w w1):PosOk w1 A l:=⟨h.cells.ext j,fun x b=>⟨(h.each x b).1.ext j,(h.each x b).2⟩⟩
theorem PosOk.nil (w:World) (A:Option Addr):PosOk w A []:=⟨.inl rfl,nofun⟩
def docV:Value:= .func (.func 119) #[] #[]
theorem O9 (x:PoC) (w:World):Calls prog 119 #[x.val] w fun e w'=>e = .returned (.int .i64 x.doc)/\Ext w w':=by
 obtain⟨d,p,A,c⟩:=x;unfold PoC.val
 go_in
 go_wp2;go_ret;exact⟨rfl,(Ext.refl w).alloc _⟩
theorem KG (ps:List PoC) (A:Option Addr) (m c:Nat) (n:Int) (w:World) (T:m=ps.length) (hc:Cells w A (pcells ps)) (g0:m<=1000000000) :
 Calls prog 118 #[.slice A m c,.int .i64 n,docV] w fun e w'=>e = .returned (.bool (risB n (-1) (ps.map (·.doc))))/\Ext w w':=by
 unfold docV;have k0:=Aa (fun x W=>O9 x W);obtain⟨Z,O⟩:=Ab (risB n (-1) (ps.map (·.doc)));rw[<-O];replace O:=Aa O;replace hc:=Aa hc;replace T:=Aa T
 go_in
 go_wp2_with fail
 go_loopw [7,13] (fun s7 s13 wr=>∃(i:Nat) (p:Int),s7 = .int .i64 p/\s13 = .int .i64 (i:Int)/\i<=m/\Hid (Z=risB n p ((ps.drop i).map (·.doc)))/\Hid (Ext w wr)) (fun _ s13 _=>m - (intOf s13).toNat)
 case atStart=>exact⟨0,-1,rfl,rfl,by omega,Aa (by rw[O.out];rfl),Aa (Ext.refl w)⟩
 case round =>
  obtain⟨i,p,rfl,rfl,hi,U,G⟩:=hrel;by_cases h:i<m
  ·obtain⟨x,H⟩:∃x,ps[i]? = some x:=⟨_,List.getElem?_eq_getElem (by rw[<-T.out];exact h)⟩
   obtain⟨g,o,hA,q0,p0⟩:=Bc (hc.out.ext G.out) H;subst hA;have J:ps.drop i=x::ps.drop (i+1):=by
    rw[List.drop_eq_getElem_cons (List.getElem?_eq_some_iff.1 H).1];congr 1;exact(List.getElem?_eq_some_iff.1 H).2
   have j:=U.out;rw[J,List.map_cons,risB]at j;have a:=Aa (fun W=>k0.out x W);have Y:=Aa (fun W=>(G.out.alloc (.cells #[.int .i64 x.doc,.slice x.A x.pos.length x.c] W)));replace H:=Aa H;replace J:=Aa J;obtain⟨d,pos,B,cB⟩:=x;unfold PoC.val at a;simp only at q0 p0 j a Y;by_cases h1:p<d
   ·by_cases h2:d<n
    ·rw[decide_eq_true h1,decide_eq_true h2,Bool.true_and,Bool.true_and]at j;replace j:=Aa j;go_wp2_with fail;refine(a.out _).mono ?_;rintro e w2 ⟨rfl,b⟩;go_wp2_with fail;exact⟨⟨i+1,d,rfl,rfl,by omega,j,Aa ((Y.out _).trans b)⟩,by simp only[intOf];omega⟩
    ·rw[decide_eq_true h1,decide_eq_false h2,Bool.true_and,Bool.false_and]at j;subst j;go_wp2_with fail;refine(a.out _).mono ?_;rintro e w2 ⟨rfl,b⟩;go_wp2_with fail;go_ret;exact⟨rfl,(Y.out _).trans b⟩
   ·rw[decide_eq_false h1,Bool.false_and,Bool.false_and]at j;subst j;go_wp2_with fail;refine(a.out _).mono ?_;rintro e w2 ⟨rfl,b⟩;go_wp2_with fail;go_ret;exact⟨rfl,(Y.out _).trans b⟩
  ·obtain rfl:i=m:=by omega
   have I:Z=true:=by rw[U.out,List.drop_eq_nil_of_le (by rw[<-T.out];exact Nat.le_refl _),List.map_nil,risB]
   subst I;go_wp2_with fail;go_ret;exact⟨rfl,G.out⟩
def okPo (p:Po):Bool:=decide (0<p.2.length)&&risB 1048576 (-1) p.2
theorem Ed (l:List Po):okPs l=(risB 65536 (-1) (l.map (·.1))&&l.all okPo):=rfl
theorem HR {α:Type} {l:List α} {f:α->Bool} {x:α} (h:l[i]? = some x):(l.take (i+1)).all f=((l.take i).all f&&f x):=by
 obtain⟨hi,rfl⟩:=List.getElem?_eq_some_iff.1 h;rw[List.take_succ_eq_append_getElem hi,List.all_append];simp
theorem Ku (ps:List PoC) (A:Option Addr) (m c:Nat) (w:World) (hm:m=ps.length) (h:PosOk w A ps) (n0:m<=1000000000) :
 Calls prog 74 #[.slice A m c] w fun e w'=>e = .returned (.int .i64 (if okPs (ps.map PoC.po) then 0 else 80))/\Ext w w':=by
 have j0:=Aa (fun W G=>KG ps A m c 65536 W hm (Cells.ext h.cells G) n0);have b0:=Aa (fun xs A k c W h1 h2 h3=>KF xs A k c 1048576 W h1 h2 h3);obtain⟨R,hR⟩:=Ab (risB 65536 (-1) (ps.map (·.doc)));obtain⟨Z,hZ⟩:=Ab (if okPs (ps.map PoC.po) then 0 else 80:Int);have p0:okPs (ps.map PoC.po)=(R&&ps.all fun x=>okPo x.po):=by
  rw[Ed,List.map_map,hR,List.all_map];rfl
 rw[p0]at hZ;rw[p0,<-hZ];rw[<-hR]at j0;unfold docV at j0;unfold idV at b0;replace hZ:=Aa hZ;replace hR:=Aa hR;replace hm:=Aa hm;replace h:=Aa h;clear p0
 go_in
 go_wp2_with fail;refine(j0.out _ (Ext.refl w)).mono ?_;rintro e w1 ⟨rfl,e0⟩;go_wp2_with fail
 go_loopw [3,10] (fun s3 s10 wr=>∃(i:Nat) (b:Bool),s3 = .bool b/\s10 = .int .i64 (i:Int)/\i<=m/\Hid (b=(R&&(ps.take i).all fun x=>okPo x.po))/\Hid (Ext w wr)) (fun _ s10 _=>m - (intOf s10).toNat)
 case atStart=>exact⟨0,R,rfl,rfl,by omega,Aa (by simp),Aa e0⟩
 case round =>
  obtain⟨i,b,rfl,rfl,hi,hb,G⟩:=hrel;by_cases l0:i<m
  ·obtain⟨x,U⟩:∃x,ps[i]? = some x:=⟨_,List.getElem?_eq_getElem (by rw[<-hm.out];exact l0)⟩
   obtain⟨g,o,hA,i0,v0⟩:=Bc (h.out.cells.ext G.out) U;subst hA;have hx:=h.out.each x (List.mem_of_getElem? U);have g0:=HR (f:=fun x:PoC=>okPo x.po) U;obtain⟨W2,a⟩:=Ab (wr.alloc (.cells #[.int .i64 x.doc,.slice x.A x.pos.length x.c] 89));have Y:Ext w W2:=by rw[a];exact G.out.alloc _
   have T:=Aa (fun W G=>b0.out x.pos x.A x.pos.length x.c W rfl (Cells.ext hx.1 (Ext.trans Y G)) hx.2);have H:Row W2 wr.heap.size 89 #[.int .i64 x.doc,.slice x.A x.pos.length x.c]:=by rw[a];exact Row.new wr _ _
   have j:Hid (∀v:Bool,v=(b&&okPo x.po)->v=(R&&(ps.take (i+1)).all fun x=>okPo x.po)):=Aa (by
    intro v hv;rw[hv,hb.out,g0,Bool.and_assoc])
   have I:okPo x.po=(decide (0<x.pos.length)&&risB 1048576 (-1) x.pos):=rfl;rw[I]at j;have x0:=hx.2;replace g0:=Aa g0;replace hb:=Aa hb;replace U:=Aa U;replace hx:=Aa hx;clear I;obtain⟨d,pos,B,cB⟩:=x;simp only at i0 v0 T j H x0 a;obtain⟨pl,k0⟩:=Ab pos.length;rw[<-k0]at v0 T j H x0 a;replace k0:=Aa k0;obtain⟨g2,J⟩:=Ab wr.heap.size;rw[<-J]at H;have r0:=H.cell 0 rfl;have r1:=H.cell 1 rfl;replace H:=Aa H;replace J:=Aa J;replace Y:=Aa Y;replace a:=Aa a;cases b with
   | false =>
    have hv:=Aa (j.out false rfl);clear j;go_upto_region 5 with fail;rw[<-a.out,<-J.out];go_wp2_with fail;exact⟨⟨i+1,false,rfl,rfl,by omega,hv,Y⟩,by simp only[intOf];omega⟩
   | true =>
    by_cases h0:0<pl
    ·obtain⟨v,t0⟩:=Ab (risB 1048576 (-1) pos);rw[<-t0]at T j;have hv:=Aa (j.out v (by rw[decide_eq_true h0,Bool.true_and,Bool.true_and]));clear j;replace t0:=Aa t0;go_upto_region 5 with fail;rw[<-a.out,<-J.out];go_wp2_with fail;refine(T.out _ (Ext.refl W2)).mono ?_;rintro e w3 ⟨rfl,f0⟩;go_wp2_with fail;exact⟨⟨i+1,v,rfl,rfl,by omega,hv,Aa (Y.out.trans f0)⟩,by simp only[intOf];omega⟩
    ·have hv:=Aa (j.out false (by rw[decide_eq_false h0];rfl));clear j;go_upto_region 5 with fail;rw[<-a.out,<-J.out];go_wp2_with fail;exact⟨⟨i+1,false,rfl,rfl,by omega,hv,Y⟩,by simp only[intOf];omega⟩
  ·obtain rfl:i=m:=by omega
   have O:=hb.out;rw[List.take_of_length_le (by rw[<-hm.out];exact Nat.le_refl _)]at O;rw[<-O]at hZ;cases b with
   | true =>
    obtain rfl:Z=0:=hZ.out;clear O hb;go_wp2_with fail;go_ret;exact⟨rfl,G.out⟩
   | false =>
    obtain rfl:Z=80:=hZ.out;clear O hb;go_wp2_with fail;go_ret;exact⟨rfl,G.out⟩
end
section
theorem Bp {n:Int}:∀ {l:List Int} {lo:Int} (k:Nat),risB n lo l=true->risB n lo (l.take k)=true
 | [],lo,k,h=>by rw[List.take_nil];exact h
 | x::t,lo,0,h=>rfl
 | x::t,lo,k+1,h=>by
  unfold risB at h;rw[Bool.and_eq_true,Bool.and_eq_true]at h;rw[List.take_succ_cons,risB,h.1.1,h.1.2,Bp k h.2];rfl
theorem FK {n:Int}:∀ {l:List Po} {lo:Int} (k:Nat),risB n lo (l.map (·.1))=true->risB n (lastPo lo (l.take k)) ((l.drop k).map (·.1))=true
 | [],lo,k,h=>by rw[List.drop_nil,List.take_nil];exact h
 | x::t,lo,0,h=>h
 | x::t,lo,k+1,h=>by
  rw[List.map_cons,risB,Bool.and_eq_true,Bool.and_eq_true]at h;exact FK k h.2
theorem Cw {n:Int}:∀ {l:List Po} {lo:Int},risB n lo (l.map (·.1))=true->lo<n->lo<=lastPo lo l/\lastPo lo l<n
 | [],lo,_,h=>⟨Int.le_refl _,h⟩
 | x::t,lo,h,_=>by
  rw[List.map_cons,risB,Bool.and_eq_true,Bool.and_eq_true]at h;have h1:=of_decide_eq_true h.1.1;have h2:=of_decide_eq_true h.1.2;have:=Cw h.2 h2;exact⟨by show lo<=lastPo x.1 t;omega,this.2⟩
theorem TN:∀(bs:List (List Po)) (lo:Int),(∀k:Nat,lastPo lo ((bs.take k).flatMap id)<9223372036854775808/\(blockPo lo ((bs.take k).flatMap id)).length<9223372036854775808)->(headPo lo bs).length<=20*bs.length
 | [],lo,_=>by simp[headPo]
 | b::bs,lo,h=>by
  have h1:=h 1;rw[List.take_succ_cons,List.take_zero,List.flatMap_cons,List.flatMap_nil,List.append_nil]at h1;have a:=Ag (n:=(lastPo lo b).toNat) (by have:=h1.1;simp only[id]at this;omega);have j:=Ag (n:=(blockPo lo b).length) (by have:=h1.2;simp only[id]at this;omega);have ih:=TN bs (lastPo lo b) fun k=>by
   have:=h (k+1);rw[List.take_succ_cons,List.flatMap_cons,CD,Be,List.length_append]at this;exact⟨this.1,by simp only[id]at this ⊢;omega⟩
  show (vb _++vb _++headPo _ bs).length<=_;rw[List.length_append,List.length_append,List.length_cons];omega
theorem FR:∀(l:List Int) (lo:Int),l.length<=(stepsL lo l).length
 | [],lo=>by simp
 | x::t,lo=>by
  show _<=(vb _++stepsL x t).length;have:=FR t x;have:=Qi (x - lo - 1).toNat;rw[List.length_append,List.length_cons];omega
structure PoRound (P:List Po) (r:Nat) (bP:List Po) (lst:Int):Prop where
  part:bP=(P.drop (r*32)).take 32
  lo : -1<=lst
  hi:lst<65536
  ris:risB 65536 lst (bP.map (·.1))=true
  pos:∀p∈bP,okPo p=true
  hi2 : -1<=lastPo lst bP/\lastPo lst bP<65536
  ne:0<=lastPo lst bP
  head:headPo (-1) ((chunkL 32 P).take (r+1))=headPo (-1) ((chunkL 32 P).take r)++(vb (lastPo lst bP).toNat++vb (blockPo lst bP).length)
  body:blockPo (-1) (P.take ((r+1)*32))=blockPo (-1) (P.take (r*32))++blockPo lst bP
  last:lastPo (-1) (P.take (r*32))=lst
  last2:lastPo (-1) (P.take ((r+1)*32))=lastPo lst bP
  len:(blockPo (-1) (P.take (r*32))).length+(blockPo lst bP).length<=(blockPo (-1) P).length
  hlen:(headPo (-1) ((chunkL 32 P).take r)).length<=20*r
theorem DO (P:List Po) (k:Nat):(blockPo (-1) (P.take k)).length<=(blockPo (-1) P).length:=by
 conv=>rhs;rw[<-List.take_append_drop k P,Be,List.length_append]
 omega
theorem E8 {P:List Po} (h:okPs P=true) (j:(blockPo (-1) P).length<=50000000) (r:Nat):(headPo (-1) ((chunkL 32 P).take r)).length<=20*r:=by
 rw[Ed,Bool.and_eq_true]at h;refine Nat.le_trans (TN _ _ fun k=>?_) (Nat.mul_le_mul_left _ (List.length_take_le _ _));rw[List.take_take,BF (by omega)];have h1:=(Cw (l:=P.take (min k r*32)) (lo:= -1) (n:=65536) (by rw[List.map_take];exact Bp _ h.1) (by omega)).2;have h2:=DO P (min k r*32);omega
theorem Hb {P:List Po} (j:okPs P=true) (O:(blockPo (-1) P).length<=50000000) {r:Nat} (G:r*32<P.length):PoRound P r ((P.drop (r*32)).take 32) (lastPo (-1) (P.take (r*32))):=by
 have H:=j;rw[Ed,Bool.and_eq_true]at j;obtain⟨h1,h2⟩:=j;have a:=Cw (l:=P.take (r*32)) (lo:= -1) (n:=65536) (by rw[List.map_take];exact Bp _ h1) (by omega);have U:=FK (r*32) h1;have h:risB 65536 (lastPo (-1) (P.take (r*32))) (((P.drop (r*32)).take 32).map (·.1))=true:=by rw[List.map_take];exact Bp _ U
 have Y:=Cw h (by omega);have b:P.take ((r+1)*32)=P.take (r*32)++(P.drop (r*32)).take 32:=by rw[Nat.succ_mul,List.take_add]
 have J:0<=lastPo (lastPo (-1) (P.take (r*32))) ((P.drop (r*32)).take 32):=by
  cases hd:(P.drop (r*32)).take 32 with
  | nil =>
   have:=congrArg List.length hd;rw[List.length_take,List.length_drop,List.length_nil]at this;omega
  | cons x t =>
   rw[hd,List.map_cons]at h;rw[risB,Bool.and_eq_true,Bool.and_eq_true]at h;have I:=of_decide_eq_true h.1.1;have T:=of_decide_eq_true h.1.2;have h5:=Cw h.2 T;show 0<=lastPo x.1 t;omega
 refine⟨rfl,a.1,a.2,h,fun p Z=>List.all_eq_true.1 h2 p (List.mem_of_mem_drop (List.mem_of_mem_take Z)),⟨by omega,Y.2⟩,J,?_,?_,rfl,?_,?_,E8 H O r⟩
 ·rw[List.take_add_one,BQ (by omega) r P G,Ew,BF (by omega)];show _++(vb _++vb _++headPo _ [])=_;rw[show ∀lo,headPo lo [] = [] from fun _=>rfl,List.append_nil]
 ·rw[b,Be]
 ·rw[b,CD]
 ·have:=DO P ((r+1)*32);rw[b,Be,List.length_append]at this;exact this
theorem Iu (P:List Po) (r:Nat) (h:P.length<=r*32):encPs P=vb P.length++headPo (-1) ((chunkL 32 P).take r)++blockPo (-1) (P.take (r*32)):=by
 have:=Cb (by omega) r P h;rw[List.take_of_length_le this,List.take_of_length_le h];rfl
end
section
open Go.RowKit
def txL (s:List UInt8):List UInt8:=vb s.length++s
def getT (most:Nat) (l:List UInt8):Except Nat (List UInt8×List UInt8):=match getV 0 l with
 | .error k=> .error k
 | .ok (n,r)=>if most<n then .error 2 else if r.length<n then .error 6 else .ok (r.take n,r.drop n)
theorem GQ {most:Nat} (h:s.length<=most) (h2:s.length<18446744073709551616) (r:List UInt8):getT most (txL s++r) = .ok (s,r):=by
 unfold getT txL;rw[List.append_assoc,BD h2];simp only;rw[if_neg (by omega),if_neg (by rw[List.length_append];omega),List.take_left' rfl,List.drop_left' rfl]
theorem Gu {most:Nat} (h:getT most l = .ok (s,r)):s.length<=most/\r.length+s.length<l.length/\∃p,l=p++r:=by
 unfold getT at h;split at h
 ·cases h
 ·rename_i n r0 j;obtain⟨_,_,p,rfl,b⟩:=Ck l 0 n r0 j;have a:1<=p.length:=List.length_pos_iff.2 b;split at h
  ·cases h
  ·split at h
   ·cases h
   ·injection h with h;injection h with h1 h2;refine⟨by rw[<-h1,List.length_take];omega,by rw[<-h1,<-h2,List.length_take,List.length_drop,List.length_append];omega,p++r0.take n,?_⟩;rw[<-h2,List.append_assoc,List.take_append_drop]
def putF (f:Fd):List UInt8:=txL f.1++txL f.2
def putFs (fs:List Fd):List UInt8:=fs.flatMap putF
def putE (e:Ev):List UInt8:=vb (zig e.at_)++vb e.fs.length++putFs e.fs
def sizeF (f:Fd):Nat:=f.1.length+f.2.length
def sizeFs (fs:List Fd):Nat:=(fs.map sizeF).sum
def getFs:Nat->List UInt8->Option (List Fd×List UInt8)
 | 0,l=>some ([],l)
 | k+1,l=>match getT 32 l with
  | .error _=>none
  | .ok (nm,r)=>match getT 4096 r with
   | .error _=>none
   | .ok (tx,r2)=>match getFs k r2 with
    | none=>none
    | some (fs,r3)=>some ((nm,tx)::fs,r3)
def getE (l:List UInt8):Option (Ev×List UInt8):=match getV 0 l with
 | .error _=>none
 | .ok (u,r)=>match getV 0 r with
  | .error _=>none
  | .ok (n,r2)=>if 16<n then none else match getFs n r2 with
   | none=>none
   | some (fs,r3)=>if checkE fs=0 then some (⟨unzig u,fs⟩,r3) else none
theorem IA:∀(fs:List Fd) (r:List UInt8),(∀f∈fs,f.1.length<=32/\f.2.length<=4096)->getFs fs.length (putFs fs++r)=some (fs,r)
 | [],r,_=>rfl
 | f::fs,r,h=>by
  have j:=h f (by simp);show getFs (fs.length+1) _=_;unfold getFs;rw[show putFs (f::fs)++r=txL f.1++(txL f.2++(putFs fs++r))by unfold putFs;rw[List.flatMap_cons];unfold putF;simp,GQ j.1 (by omega)];simp only;rw[GQ j.2 (by omega)];simp only;rw[IA fs r fun x b=>h x (by simp[b])]
theorem Il:∀ {fs:List Fd},checkF fs=0->∀f∈fs,f.1.length<=32/\f.2.length<=4096
 | [],_=>nofun
 | f::fs,h=>by
  unfold checkF at h;split at h
  ·cases h
  ·rename_i hn;split at h
   ·cases h
   ·intro g j;rcases List.mem_cons.1 j with rfl | j
    ·refine⟨?_,by omega⟩;unfold nameL at hn;simp at hn;omega
    ·exact Il h g j
theorem AM {fs:List Fd} (h:checkE fs=0):fs.length<=16/\∀f∈fs,f.1.length<=32/\f.2.length<=4096:=by
 unfold checkE at h;split at h
 ·cases h
 ·exact⟨by omega,Il h⟩
theorem Pm {e:Ev} (b:I64ok' e.at_) (h:checkE e.fs=0) (r:List UInt8):getE (putE e++r)=some (e,r):=by
 obtain⟨a,j⟩:=AM h;unfold getE putE;rw[List.append_assoc,List.append_assoc,BD (CM b.1 b.2)];simp only;rw[BD (by omega)];simp only;rw[if_neg (by omega),IA _ _ j];simp only;rw[if_pos h,OR]
theorem Co (h:n<18446744073709551616):(vb n).length<=10:=Ag h
theorem Dy (h:s.length<18446744073709551616):(txL s).length<=10+s.length:=by
 unfold txL;rw[List.length_append];have:=Co h;omega
theorem IR:∀ {fs:List Fd},(∀f∈fs,f.1.length<=32/\f.2.length<=4096)->(putFs fs).length<=20*fs.length+sizeFs fs
 | [],_=>by simp[putFs,sizeFs]
 | f::fs,h=>by
  have h1:=IR (fs:=fs) fun x a=>h x (by simp[a]);have Y:=h f (by simp);have h2:=Dy (s:=f.1) (by omega);have H:=Dy (s:=f.2) (by omega);have j:(putFs (f::fs)).length=(txL f.1).length+(txL f.2).length+(putFs fs).length:=by unfold putFs;rw[List.flatMap_cons,List.length_append];unfold putF;rw[List.length_append]
  have b:sizeFs (f::fs)=f.1.length+f.2.length+sizeFs fs:=by unfold sizeFs;rw[List.map_cons,List.sum_cons];rfl
  rw[j,b,List.length_cons];omega
end
section
abbrev Dc:=Int×Ev
def okD (p:Dc):Bool:=decide (checkE p.2.fs=0)
def okDs (l:List Dc):Bool:=decide (l.length<=65536)&&(risB 1099511627777 0 (l.map (·.1))&&l.all okD)
def oneD (last:Int) (p:Dc):List UInt8:=vb (p.1 - last - 1).toNat++putE p.2
def blockD:Int->List Dc->List UInt8
 | _,[]=> []
 | last,p::t=>oneD last p++blockD p.1 t
def lastD:Int->List Dc->Int
 | last,[]=>last
 | _,p::t=>lastD p.1 t
def headD:Int->List (List Dc)->List UInt8
 | _,[]=> []
 | last,b::bs=>vb (lastD last b).toNat++vb (blockD last b).length++headD (lastD last b) bs
def encDs (l:List Dc):List UInt8:=vb l.length++headD 0 (chunkL 16 l)++blockD 0 l
theorem Bj:∀(a b:List Dc) (last:Int),blockD last (a++b)=blockD last a++blockD (lastD last a) b
 | [],b,last=>rfl
 | p::t,b,last=>by
  show oneD last p++blockD p.1 (t++b)=_;rw[Bj t b];show _=(oneD last p++blockD p.1 t)++blockD (lastD p.1 t) b;rw[List.append_assoc]
theorem C4:∀(a b:List Dc) (last:Int),lastD last (a++b)=lastD (lastD last a) b
 | [],b,last=>rfl
 | p::t,b,last=>C4 t b p.1
theorem FD:∀(a b:List (List Dc)) (last:Int),headD last (a++b)=headD last a++headD (lastD last (a.flatMap id)) b
 | [],b,last=>rfl
 | p::t,b,last=>by
  show vb (lastD last p).toNat++vb (blockD last p).length++headD (lastD last p) (t++b)=_;rw[FD t b,List.flatMap_cons];show _=(vb (lastD last p).toNat++vb (blockD last p).length++headD (lastD last p) t)++headD (lastD last (p++t.flatMap id)) b;rw[C4,List.append_assoc _ _ (headD _ b)]
theorem IY {n:Int}:∀ {l:List Dc} {lo:Int} (k:Nat),risB n lo (l.map (·.1))=true->risB n (lastD lo (l.take k)) ((l.drop k).map (·.1))=true
 | [],lo,k,h=>by rw[List.drop_nil,List.take_nil];exact h
 | x::t,lo,0,h=>h
 | x::t,lo,k+1,h=>by
  rw[List.map_cons,risB,Bool.and_eq_true,Bool.and_eq_true]at h;exact IY k h.2
theorem Uy {n:Int}:∀ {l:List Dc} {lo:Int},risB n lo (l.map (·.1))=true->lo<n->lo<=lastD lo l/\lastD lo l<n
 | [],lo,_,h=>⟨Int.le_refl _,h⟩
 | x::t,lo,h,_=>by
  rw[List.map_cons,risB,Bool.and_eq_true,Bool.and_eq_true]at h;have h1:=of_decide_eq_true h.1.1;have h2:=of_decide_eq_true h.1.2;have:=Uy h.2 h2;exact⟨by show lo<=lastD x.1 t;omega,this.2⟩
theorem ID:∀(bs:List (List Dc)) (lo:Int),(∀k:Nat,lastD lo ((bs.take k).flatMap id)<9223372036854775808/\(blockD lo ((bs.take k).flatMap id)).length<9223372036854775808)->(headD lo bs).length<=20*bs.length
 | [],lo,_=>by simp[headD]
 | b::bs,lo,h=>by
  have h1:=h 1;rw[List.take_succ_cons,List.take_zero,List.flatMap_cons,List.flatMap_nil,List.append_nil]at h1;have a:=Ag (n:=(lastD lo b).toNat) (by have:=h1.1;simp only[id]at this;omega);have j:=Ag (n:=(blockD lo b).length) (by have:=h1.2;simp only[id]at this;omega);have ih:=ID bs (lastD lo b) fun k=>by
   have:=h (k+1);rw[List.take_succ_cons,List.flatMap_cons,C4,Bj,List.length_append]at this;exact⟨this.1,by simp only[id]at this ⊢;omega⟩
  show (vb _++vb _++headD _ bs).length<=_;rw[List.length_append,List.length_append,List.length_cons];omega
structure SdRound (P:List Dc) (r:Nat) (bP:List Dc) (lst:Int):Prop where
  part:bP=(P.drop (r*16)).take 16
  lo:0<=lst
  hi:lst<1099511627777
  ris:risB 1099511627777 lst (bP.map (·.1))=true
  pos:∀p∈bP,okD p=true
  hi2:0<=lastD lst bP/\lastD lst bP<1099511627777
  ne:0<=lastD lst bP
  head:headD 0 ((chunkL 16 P).take (r+1))=headD 0 ((chunkL 16 P).take r)++(vb (lastD lst bP).toNat++vb (blockD lst bP).length)
  body:blockD 0 (P.take ((r+1)*16))=blockD 0 (P.take (r*16))++blockD lst bP
  last:lastD 0 (P.take (r*16))=lst
  last2:lastD 0 (P.take ((r+1)*16))=lastD lst bP
  len:(blockD 0 (P.take (r*16))).length+(blockD lst bP).length<=(blockD 0 P).length
  hlen:(headD 0 ((chunkL 16 P).take r)).length<=20*r
theorem CV (P:List Dc) (k:Nat):(blockD 0 (P.take k)).length<=(blockD 0 P).length:=by
 conv=>rhs;rw[<-List.take_append_drop k P,Bj,List.length_append]
 omega
theorem Gy {P:List Dc} (h:okDs P=true) (j:(blockD 0 P).length<=50000000) (r:Nat):(headD 0 ((chunkL 16 P).take r)).length<=20*r:=by
 unfold okDs at h;rw[Bool.and_eq_true,Bool.and_eq_true]at h;replace h:=h.2;refine Nat.le_trans (ID _ _ fun k=>?_) (Nat.mul_le_mul_left _ (List.length_take_le _ _));rw[List.take_take,BF (by omega)];have h1:=(Uy (l:=P.take (min k r*16)) (lo:=0) (n:=1099511627777) (by rw[List.map_take];exact Bp _ h.1) (by omega)).2;have h2:=CV P (min k r*16);omega
theorem Ho {P:List Dc} (j:okDs P=true) (O:(blockD 0 P).length<=50000000) {r:Nat} (G:r*16<P.length):SdRound P r ((P.drop (r*16)).take 16) (lastD 0 (P.take (r*16))):=by
 have H:=j;unfold okDs at j;rw[Bool.and_eq_true,Bool.and_eq_true]at j;replace j:=j.2;obtain⟨h1,h2⟩:=j;have a:=Uy (l:=P.take (r*16)) (lo:=0) (n:=1099511627777) (by rw[List.map_take];exact Bp _ h1) (by omega);have U:=IY (r*16) h1;have h:risB 1099511627777 (lastD 0 (P.take (r*16))) (((P.drop (r*16)).take 16).map (·.1))=true:=by rw[List.map_take];exact Bp _ U
 have Y:=Uy h (by omega);have b:P.take ((r+1)*16)=P.take (r*16)++(P.drop (r*16)).take 16:=by rw[Nat.succ_mul,List.take_add]
 have J:0<=lastD (lastD 0 (P.take (r*16))) ((P.drop (r*16)).take 16):=by
  cases hd:(P.drop (r*16)).take 16 with
  | nil =>
   have:=congrArg List.length hd;rw[List.length_take,List.length_drop,List.length_nil]at this;omega
  | cons x t =>
   rw[hd,List.map_cons]at h;rw[risB,Bool.and_eq_true,Bool.and_eq_true]at h;have I:=of_decide_eq_true h.1.1;have T:=of_decide_eq_true h.1.2;have h5:=Uy h.2 T;show 0<=lastD x.1 t;omega
 refine⟨rfl,a.1,a.2,h,fun p Z=>List.all_eq_true.1 h2 p (List.mem_of_mem_drop (List.mem_of_mem_take Z)),⟨by omega,Y.2⟩,J,?_,?_,rfl,?_,?_,Gy H O r⟩
 ·rw[List.take_add_one,BQ (by omega) r P G,FD,BF (by omega)];show _++(vb _++vb _++headD _ [])=_;rw[show ∀lo,headD lo [] = [] from fun _=>rfl,List.append_nil]
 ·rw[b,Bj]
 ·rw[b,C4]
 ·have:=CV P ((r+1)*16);rw[b,Bj,List.length_append]at this;exact this
theorem Ir (P:List Dc) (r:Nat) (h:P.length<=r*16):encDs P=vb P.length++headD 0 ((chunkL 16 P).take r)++blockD 0 (P.take (r*16)):=by
 have:=Cb (by omega) r P h;rw[List.take_of_length_le this,List.take_of_length_le h];rfl
end
section
structure En where
  t:List UInt8
  off:Nat
  len:Nat
  n:Nat
def cpl:List UInt8->List UInt8->Nat
 | x::a,y::b=>if x=y then cpl a b+1 else 0
 | _,_=>0
theorem DC:∀(a b:List UInt8),cpl a b<=a.length/\cpl a b<=b.length
 | [],b=>by unfold cpl;simp
 | x::a,[]=>by unfold cpl;simp
 | x::a,y::b=>by
  unfold cpl;have:=DC a b;split
  ·simp only[List.length_cons];omega
  ·simp
theorem JX:∀(a b:List UInt8),a.take (cpl a b)=b.take (cpl a b)
 | [],b=>by unfold cpl;simp
 | x::a,[]=>by unfold cpl;simp
 | x::a,y::b=>by
  unfold cpl;split
  ·rename_i h;rw[List.take_succ_cons,List.take_succ_cons,JX a b,h]
  ·simp
theorem GD:∀(i:Nat) (a b:List UInt8),a.take i=b.take i->i<=a.length->i<=b.length->cpl a b=i+cpl (a.drop i) (b.drop i)
 | 0,a,b,_,_,_=>by simp
 | i+1,[],b,_,h,_=>by simp at h
 | i+1,x::a,[],_,_,h=>by simp at h
 | i+1,x::a,y::b,h,h1,h2=>by
  rw[List.take_succ_cons,List.take_succ_cons]at h;injection h with h3 h4;rw[cpl,if_pos h3,GD i a b h4 (by simpa using h1) (by simpa using h2),List.drop_succ_cons,List.drop_succ_cons];omega
def okEn (e:En):Prop:=e.t.length<=65/\e.off<=67108864/\e.len<=67108864/\e.n<=67108864
structure OkEs (l:List En):Prop where
  few:l.length<=262144
  each:∀e∈l,okEn e/\e.t ≠ []
  up:l.Pairwise fun a b=>a.t<b.t
def enB (last:List UInt8) (e:En):List UInt8:=vb (cpl last e.t)++txL (e.t.drop (cpl last e.t))++(vb e.off++vb e.len++vb e.n)
def blockE:List UInt8->List En->List UInt8
 | _,[]=> []
 | last,e::t=>enB last e++blockE e.t t
def partsE:List (List En)->List UInt8
 | []=> []
 | c::cs=>vb (blockE [] c).length++blockE [] c++partsE cs
def encEs (l:List En):List UInt8:=vb l.length++partsE (chunkL 16 l)
theorem G7:∀(a b:List (List En)),partsE (a++b)=partsE a++partsE b
 | [],b=>rfl
 | c::cs,b=>by
  show vb _++blockE [] c++partsE (cs++b)=_;rw[G7 cs b,<-List.append_assoc];rfl
theorem MS {last:List UInt8} {e:En} (h:okEn e):(enB last e).length<=200:=by
 obtain⟨h1,h2,j,b⟩:=h;have a:=DC last e.t;have v1:=Ag (n:=cpl last e.t) (by omega);have v2:=Ag (n:=e.off) (by omega);have v3:=Ag (n:=e.len) (by omega);have v4:=Ag (n:=e.n) (by omega);have v5:=Dy (s:=e.t.drop (cpl last e.t)) (by rw[List.length_drop];omega);have v6:(e.t.drop (cpl last e.t)).length<=e.t.length:=by rw[List.length_drop];omega
 unfold enB;simp only[List.length_append];omega
theorem Di:∀ {l:List En} {last:List UInt8},(∀e∈l,okEn e)->(blockE last l).length<=200*l.length
 | [],_,_=>by simp[blockE]
 | e::t,last,h=>by
  have h1:=MS (last:=last) (h e (List.mem_cons_self ..));have h2:=Di (l:=t) (last:=e.t) fun x j=>h x (List.mem_cons_of_mem _ j);show (enB last e++blockE e.t t).length<=_;rw[List.length_append,List.length_cons];omega
theorem EE:∀ {cs:List (List En)},(∀c∈cs,(∀e∈c,okEn e)/\c.length<=16)->(partsE cs).length<=3300*cs.length
 | [],_=>by simp[partsE]
 | c::cs,h=>by
  obtain⟨h1,h2⟩:=h c (List.mem_cons_self ..);have b:=Di (last:= []) h1;have a:=EE (cs:=cs) fun x j=>h x (List.mem_cons_of_mem _ j);have H:=Ag (n:=(blockE [] c).length) (by omega);show (vb _++blockE [] c++partsE cs).length<=_;rw[List.length_append,List.length_append,List.length_cons];omega
theorem F8 {l:List En} (h:∀e∈l,okEn e) (a:l.length<=262144) (r:Nat):(partsE ((chunkL 16 l).take r)).length<=60000000:=by
 have h1:=EE (cs:=(chunkL 16 l).take r) fun c j=>⟨fun e b=>h e (GB (by omega) (List.mem_of_mem_take j) e b),(Fz (by omega) (List.mem_of_mem_take j)).2⟩
 have h2:((chunkL 16 l).take r).length<=(chunkL 16 l).length:=List.length_take_le' ..;rw[AO (by omega)]at h2;omega
theorem It (l:List En) (r:Nat) (h:l.length<=r*16):encEs l=vb l.length++partsE ((chunkL 16 l).take r):=by
 have:=Cb (by omega) r l h;rw[List.take_of_length_le this];rfl
theorem F7 {l:List En} {r:Nat} (h:r*16<l.length):partsE ((chunkL 16 l).take (r+1))=partsE ((chunkL 16 l).take r)++(vb (blockE [] ((l.drop (r*16)).take 16)).length++blockE [] ((l.drop (r*16)).take 16)):=by
 rw[List.take_add_one,BQ (by omega) r l h,G7];show _++(vb _++blockE [] _++partsE [])=_;rw[show partsE [] = [] from rfl,List.append_nil]
end
section
def fnvS (h:Nat) (c:UInt8):Nat:=(h ^^^ c.toNat)*1099511628211%18446744073709551616
def fnv (s:List UInt8):Nat:=s.foldl fnvS 14695981039346656037
theorem Kb (s:List UInt8) (c:UInt8):fnv (s ++ [c])=fnvS (fnv s) c:=by unfold fnv;rw[List.foldl_append,List.foldl_cons,List.foldl_nil]
theorem Jk (h:Nat) (c:UInt8):fnvS h c<18446744073709551616:=by unfold fnvS;exact Nat.mod_lt _ (by omega)
def fpl (s:List UInt8) (m i:Nat):Nat:=(fnv s%4294967296+i*(fnv s / 4294967296 ||| 1))%m
def hasB (f:List UInt8) (k:Nat):Bool:=decide ((f.getD (k / 8) 0).toNat / 2^(k%8)%2=1)
def setB (f:List UInt8) (k:Nat):List UInt8:=f.set (k / 8) (UInt8.ofNat ((f.getD (k / 8) 0).toNat ||| 2^(k%8)))
def addB (f:List UInt8) (s:List UInt8):List UInt8:=setB (setB (setB (setB f (fpl s (8*f.length) 0)) (fpl s (8*f.length) 1)) (fpl s (8*f.length) 2)) (fpl s (8*f.length) 3)
def filL (n:Nat):Nat:=(min (max (10*n) 64) 1048576+7) / 8
def ofB (ts:List (List UInt8)):List UInt8:=ts.foldl addB (List.replicate (filL (min ts.length 262144)) 0)
theorem Ce (f:List UInt8) (k:Nat):(setB f k).length=f.length:=List.length_set ..
theorem EL (f:List UInt8) (s:List UInt8):(addB f s).length=f.length:=by unfold addB;rw[Ce,Ce,Ce,Ce]
theorem EU (n:Nat):8<=filL n/\filL n<=131072:=by unfold filL;omega
theorem QW (ts:List (List UInt8)):(ofB ts).length=filL (min ts.length 262144):=by
 have key:∀(l:List (List UInt8)) (f:List UInt8),(l.foldl addB f).length=f.length:=by
  intro l
  induction l with
  | nil=>exact fun f=>rfl
  | cons c l ih=>exact fun f=>by rw[List.foldl_cons,ih,EL]
 unfold ofB;rw[key,List.length_replicate]
theorem Rg (h:x<256) (hk:k<8):x ||| 2^k<256:=by
 have:2^k<2^8:=Nat.pow_lt_pow_right (by omega) hk;exact Nat.or_lt_two_pow (n:=8) h this
theorem FC (s:List UInt8) (i:Nat) (h:0<m):fpl s m i<m:=Nat.mod_lt _ h
end
section
open Go.RowKit Go.Maps
theorem Cr (A:Option Addr) (n c:Nat) (l:List UInt8) (w:World) (hn:n=l.length) (U:Bs w A l) (hz:A=none->c=0) (Z:n<=1073741824) :
 Calls prog 55 #[.slice A n c] w fun e w'=>∃A1 c1,e = .returned (.slice A1 n c1)/\Buf w' w.heap.size 5 A1 n c1 (l.map B8)/\Ext w w':=by
 cases A with
 | none =>
  have O:l = []:=by
   rcases U with h | ⟨_,_,h,_⟩
   ·simpa using h
   ·cases h
  subst O;obtain rfl:c=0:=hz rfl;obtain rfl:n=0:=hn;have I:=RK w
  go_in
  go_wp2_with fail;go_ret;exact⟨none,0,rfl,Buf.nil _ _ _,Ext.refl _⟩
 | some a =>
  have I:=RM a n c w;have G:=IN w 5;have j:Ext w (w.alloc (.cells #[] 5)):=(Ext.refl w).alloc _;have hb:=U.ext j;have b:(l.map B8).length=n*1:=by rw[List.length_map,hn];omega
  have J:w.heap.size<=(w.alloc (.cells #[] 5)).heap.size:=j.size;replace b:=Aa b;replace hn:=Aa hn
  go_in
  go_wp2_with (at_builtin;refine AV (m:=n) Aw G hb (.tmp 5) (.tmp 6) rfl rfl rfl rfl rfl b.out (Ai _) (by omega) J (fun A1 c1 w3 Y H T=>?_));go_ret;refine⟨A1,c1,rfl,?_,j.grown H (fun k hk=>by cases hk;exact Nat.le_refl _)⟩;have:=Buf.of_own Y;rw[Nat.zero_add]at this;exact this
end
section
open Go.RowKit
theorem K8 (h:vb x=pre++vb m) (j:128<=m):vb x=(pre ++ [UInt8.ofNat (m%128+128)])++vb (m / 128):=by
 rw[h,Je (by omega),List.append_assoc];rfl
theorem M4 (k a:Nat) (h:a<2^k):(2^k - 1) ^^^ a=2^k - 1 - a:=by
 apply Nat.eq_of_testBit_eq;intro i;rw[Nat.testBit_xor,Nat.testBit_two_pow_sub_one,show 2^k - 1 - a=2^k - (a+1)by omega,Nat.testBit_two_pow_sub_succ h];by_cases hi:i<k
 ·simp[hi]
 ·have:a.testBit i=false:=Nat.testBit_lt_two_pow (Nat.lt_of_lt_of_le h (Nat.pow_le_pow_right (by omega) (by omega)));simp[hi,this]
theorem Lg (a:Nat) (h:a<18446744073709551616):bits .xor .u64 IntKind.u64.max (a:Int)=((18446744073709551615 - a:Nat):Int):=by
 rw[show IntKind.u64.max=((18446744073709551615:Nat):Int)from rfl,u64_xor_nat _ _ (by omega) h];exact congrArg _ (M4 64 a h)
theorem Dh (a:Nat) (h:a<4294967296):bits .xor .u32 IntKind.u32.max (a:Int)=((4294967295 - a:Nat):Int):=by
 rw[show IntKind.u32.max=((4294967295:Nat):Int)from rfl,u32_xor_nat _ _ (by omega) h];exact congrArg _ (M4 32 a h)
theorem Qo (x:Int) (h:x<0) (h2 : -9223372036854775808<=x):IntKind.u64.wrap (IntKind.u64.wrap x*2)=((18446744073709551615 - (2*(-1 - x).toNat+1):Nat):Int):=by
 have e:∀y:Int,IntKind.u64.wrap y=y%18446744073709551616:=fun y=>by simp[IntKind.wrap,IntKind.bits,IntKind.signed]
 rw[e,e];omega
theorem QY (m:Nat):bits .or .u8 ((m:Int)%256) 128=((m%128+128:Nat):Int):=by
 have h:∀k:Fin 256,k.val ||| 128=k.val%128+128:=by decide +kernel
 have hk:=h ⟨m%256,by omega⟩;simp only at hk;rw[show (m:Int)%256=((m%256:Nat):Int)by omega,show (128:Int)=((128:Nat):Int)from rfl,u8_or_nat _ _ (by omega) (by omega),hk];congr 1;omega
theorem JB (l:List UInt8) (hk:k<256):(l ++ [UInt8.ofNat k]).map B8=l.map B8 ++ [.int .u8 (k:Int)]:=by
 rw[List.map_append,List.map_singleton];unfold B8;rw[UInt8.toNat_ofNat',Nat.mod_eq_of_lt hk]
theorem Cm (A:Option Addr) (n c x:Nat) (l:List UInt8) (w:World) (hn:n=l.length) (H:Bs w A l) (G:A=none->c=0) (h0:n<=1000000000) (Z:x<18446744073709551616) :
 Calls prog 79 #[.slice A n c,.int .u64 x] w fun e w'=>NewB w (l++vb x) e w':=by
 have a:=Cr A n c l w hn H G (by omega);have I:=Ag Z;replace a:=Aa a;replace hn:=Aa hn;clear H G
 go_in
 go_wp2_with fail;refine a.out.mono ?_;rintro e w1 ⟨A1,c1,rfl,O,U⟩;go_wp2_with fail
 go_loopw [1,5] (fun s1 s5 wr=>∃(m:Nat) (pre:List UInt8) (A2:Option Addr) (c2:Nat),s1 = .int .u64 m/\s5 = .slice A2 (n+pre.length) c2/\m<18446744073709551616/\pre.length<=10/\Hid (vb x=pre++vb m)/\Hid (Buf wr w.heap.size 5 A2 (n+pre.length) c2 ((l++pre).map B8))/\Hid (Ext w wr)) (fun s1 _ _=>(intOf s1).toNat)
 case atStart=>exact⟨x,[],A1,c1,rfl,rfl,Z,by simp,rfl,by rw[List.append_nil];exact Aa O,Aa U⟩
 case round =>
  obtain⟨m,pre,A2,c2,rfl,rfl,hm,hp,T,hb,J⟩:=hrel;have Y:=J.out.size;by_cases h:128<=m
  ·have q0:=QY m;go_wp2_with (at_builtin;refine Au Aw hb.out (.tmp 10) (.tmp 14) rfl rfl rfl rfl (Az rfl) (by simp;omega) Y (fun A3 c3 w3 b j=>?_));go_roundw
   case rel=>exact⟨m / 128,pre ++ [UInt8.ofNat (m%128+128)],A3,c3,by go_num,by rw[List.length_append];rfl,by omega,(by
    have h1:=congrArg List.length (K8 T.out h);have h2:=Qi (m / 128);rw[List.length_append,List.length_append,List.length_singleton]at h1;rw[List.length_append,List.length_singleton];omega),Aa (K8 T.out h),Aa (by rw[<-List.append_assoc,JB _ (by omega),List.length_append];exact b),Aa (j w J.out (Nat.le_refl _))⟩
   case measure=>simp[intOf];omega
  ·go_wp2_with (at_builtin;refine Au Aw hb.out (.tmp 18) (.tmp 21) rfl rfl rfl rfl (Az rfl) (by simp;omega) Y (fun A3 c3 w3 b j=>?_));go_ret;have H:l++vb x=(l++pre) ++ [UInt8.ofNat m]:=by rw[T.out,Gn (by omega),List.append_assoc]
   have hlen:(l++vb x).length=n+pre.length+1:=by rw[H,hn.out];simp;omega
   exact⟨A3,c3,by rw[hlen];rfl,by rw[hlen,H,JB _ (by omega)];exact b,j w J.out (Nat.le_refl _)⟩
theorem EF (A:Option Addr) (n c:Nat) (x:Int) (l:List UInt8) (w:World) (hn:n=l.length) (I:Bs w A l) (hz:A=none->c=0) (O:n<=1000000000) (T : -9223372036854775808<=x) (J:x<=9223372036854775807) :
 Calls prog 88 #[.slice A n c,.int .i64 x] w fun e w'=>NewB w (l++vb (zig x)) e w':=by
 have Y:=Cm A n c (zig x) l w hn I hz O (CM T J);have h:zig x=if 0<=x then 2*x.toNat else 2*(-1 - x).toNat+1:=rfl;obtain⟨Z,G⟩:=Ab (zig x);rw[<-G]at Y h ⊢;clear G hn I hz;replace Y:=Aa Y;by_cases U:0<=x
 ·rw[if_pos U]at h;replace h:=Aa h
  go_in
  go_wp2_with fail;rw[show (x*2:Int)=(Z:Int)by have:=h.out;omega];refine Y.out.mono ?_;rintro e w1 ⟨A1,c1,rfl,H,a⟩;go_wp2_with fail;go_ret;exact⟨A1,c1,Cy (by rw[List.length_append]),H,a⟩
 ·rw[if_neg U]at h;have b:=CM T J;unfold zig at b;rw[if_neg U]at b;have j:=Lg (18446744073709551615 - (2*(-1 - x).toNat+1)) (by omega);rw[show 18446744073709551615 - (18446744073709551615 - (2*(-1 - x).toNat+1))=2*(-1 - x).toNat+1 by omega,<-Qo x (by omega) T,<-h]at j;clear b;replace h:=Aa h;replace j:=Aa j
  go_in
  go_wp2_with fail;rw[j.out];refine Y.out.mono ?_;rintro e w1 ⟨A1,c1,rfl,H,a⟩;go_wp2_with fail;go_ret;exact⟨A1,c1,Cy (by rw[List.length_append]),H,a⟩
theorem De (xs:List Int) (h:∀x∈xs,-9223372036854775808<=x/\x<=9223372036854775807):∀i,(vall (xs.take i)).length<=10*i:=by
 induction xs with
 | nil=>intro i;simp[vall]
 | cons x xs ih =>
  intro i;cases i with
  | zero=>simp[vall]
  | succ i =>
   have h1:=ih (fun y j=>h y (List.mem_cons_of_mem _ j)) i;have h2:=h x (List.mem_cons_self ..);have b:=Ag (CM h2.1 h2.2);unfold vall at h1 ⊢;rw[List.take_succ_cons,List.flatMap_cons,List.length_append];omega
theorem Ma (A B:Option Addr) (n c k c2:Nat) (xs:List Int) (l:List UInt8) (w:World) (hn:n=l.length) (hl:Bs w A l) (hz:A=none->c=0) (hk:k=xs.length) (j0:Cells w B (xs.map (Value.int .i64))) (x0:n+10*k<=1000000000) (G:∀x∈xs,-9223372036854775808<=x/\x<=9223372036854775807) :
 Calls prog 51 #[.slice A n c,.slice B k c2] w fun e w'=>NewB w (l++vall xs) e w':=by
 have Y:=Cr A n c l w hn hl hz (by omega);have hlen:∀i,(vall (xs.take i)).length<=10*i:=De xs G;replace Y:=Aa Y;replace hn:=Aa hn;replace hk:=Aa hk;replace G:=Aa G;replace hlen:=Aa hlen;clear hl hz
 go_in
 go_wp2_with fail;refine Y.out.mono ?_;rintro e w1 ⟨A1,c1,rfl,q0,I⟩;go_wp2_with fail
 go_loopw [5,12] (fun s5 s12 wr=>∃(i:Nat) (A2:Option Addr) (m2 c2:Nat),s12 = .int .i64 i/\i<=k/\s5 = .slice A2 m2 c2/\Hid (m2=(l++vall (xs.take i)).length)/\Hid (Buf wr w.heap.size 5 A2 m2 c2 ((l++vall (xs.take i)).map B8))/\Hid (Ext w wr)) (fun _ s12 _=>k - (intOf s12).toNat)
 case atStart=>exact⟨0,A1,n,c1,rfl,by omega,rfl,Aa (by rw[hn.out];simp[vall]),Aa (by simpa [vall]using q0),Aa I⟩
 case round =>
  obtain⟨i,A2,m2,c3,rfl,hi,rfl,j,hb,Z⟩:=hrel;by_cases k0:i<k
  ·have h:i<xs.length:=by rw[<-hk.out];exact k0
   obtain⟨g,o,rfl,hc⟩:=j0.at_ (by rw[List.length_map];omega);have J:=G.out xs[i] (List.getElem_mem h);have H:=Z.out.cell (hc i (.int .i64 xs[i]) (by rw[List.getElem?_map,List.getElem?_eq_getElem h];rfl));have U:=hlen.out i;have b:=EF A2 m2 c3 xs[i] (l++vall (xs.take i)) wr j.out hb.out.cells hb.out.none_cap (by rw[j.out,List.length_append,<-hn.out];omega) J.1 J.2;have O:(l++vall (xs.take i))++vb (zig xs[i])=l++vall (xs.take (i+1)):=by
    rw[List.append_assoc,List.take_succ_eq_append_getElem h];unfold vall;rw[List.flatMap_append];simp
   rw[O]at b;obtain⟨X,hX⟩:=Ab (xs[i]);rw[<-hX]at H b J;replace b:=Aa b;clear hX O hc U;go_wp2_with fail;refine b.out.mono ?_;rintro e w3 ⟨A3,c4,rfl,p0,h0⟩;go_wp2_with fail;go_roundw
   case rel=>exact⟨i+1,A3,_,c4,by go_num,by omega,rfl,Aa (by rw[List.length_append]),Aa (by rw[<-List.length_append];exact p0.lower Z.out.size),Aa (Z.out.trans h0)⟩
   case measure=>simp[intOf];omega
  ·have a:i=k:=by omega
   have T:xs.take i=xs:=List.take_of_length_le (by rw[a,hk.out];exact Nat.le_refl _);rw[T]at hb j;clear T a;go_wp2_with fail;go_ret;exact⟨A2,c3,by rw[j.out];rfl,by rw[<-j.out];exact hb.out,Z.out⟩
theorem EO (w:World) (us:List Value) (t:TypeId) (h:us.length<=9223372036854775807):Buf (w.alloc (.cells us.toArray t)) w.heap.size t (some ⟨w.heap.size,0,none⟩) us.length us.length us :=
 ⟨rfl,Nat.le_refl _,.inr ⟨w.heap.size,us.toArray,rfl,Nat.le_refl _,heap_alloc_new w _,by simp,by simp⟩⟩
structure In8 (w:World) (A:Option Addr) (n c:Nat) (l:List UInt8):Prop where
  len:n=l.length
  bytes:Bs w A l
  cap:n<=c
  nil_:A=none->c=0
  at_:∀a,A=some a->a.spot=Option.none/\a.block<w.heap.size
theorem In8.ext (h:In8 w A n c l) (j:Ext w w1):In8 w1 A n c l :=
 ⟨h.len,h.bytes.ext j,h.cap,h.nil_,fun a b=>⟨(h.at_ a b).1,Nat.lt_of_lt_of_le (h.at_ a b).2 j.size⟩⟩
theorem Buf.in8 {base:Nat} (h:Buf w base e A n c (l.map B8)):In8 w A n c l:=by
 refine⟨by have:=h.1;simpa using this.symm,h.cells,h.2.1,h.none_cap,fun a j=>⟨?_,h.lt a j⟩⟩;rcases h.2.2 with ⟨b,_⟩ | ⟨g,cur,H,_⟩
 ·rw[b]at j;cases j
 ·rw[H]at j;cases j;rfl
def comb (i acc:Nat):Except Nat (Nat×List UInt8)->Except Nat (Nat×List UInt8)
 | .ok (n,r)=> .ok (acc+128^i*n,r)
 | .error e=> .error e
theorem Nr (x:Except Nat (Nat×List UInt8)):comb 0 0 x=x:=by
 unfold comb;split <;> simp
def Got (w0 w:World) (res:Except Nat (Nat×List UInt8)) (e:Ending) (w':World):Prop:=Ext w w'/\match res with
 | .ok (v,r)=>∃A c,e = .returned (.tuple #[.int .u64 v,.slice A r.length c,.int .i64 0])/\In8 w0 A r.length c r
 | .error k=>e = .returned (.tuple #[.int .u64 0,.slice none 0 0,.int .i64 k])
theorem FN (h:k<=c) (H:∀a,A=some a->a.spot=none) (W:World) :
 (Instr.sliceAt 24 (.slice A n c) none (some (.int .i64 k)) none).run prog W = .ok (.slice A k c) W:=by
 have ht:=underlying24;have j:prog.elem 24=5:=by unfold Program.elem;rw[ht]
 have hs:∀W:World,(sizeOf 5).run prog W = .ok 1 W:=fun W=>by kernel_rfl
 rw[run_sliceAt_slice W _ _ _ _ _ (by rw[ht,j]),run_slice_h W _ A n c (by rw[ht,j]) .i64 k (by omega) (by omega),j,hs];simp only[Result.andThen_ok];congr 1;unfold sliced;have:(if c=0 then A else A.map fun x=>x.add (0*1))=A:=by
  cases A with
  | none=>simp
  | some a =>
   obtain⟨b,o,sp⟩:=a;obtain rfl:sp=none:=H _ rfl;simp[Addr.add_lit]
 rw[this];simp
theorem In8.from_ (h:In8 w A n c l) (Z:fr<=n) (T:z=(fr:Int)) :
 ∃A' c',(∀W:World,(Instr.sliceAt 24 (.slice A n c) (some (.int .i64 z)) none none).run prog W = .ok (.slice A' (n - fr) c') W)/\In8 w A' (n - fr) c' (l.drop fr):=by
 subst T;have ht:=underlying24;have J:prog.elem 24=5:=by unfold Program.elem;rw[ht]
 have hs:∀W:World,(sizeOf 5).run prog W = .ok 1 W:=fun W=>by kernel_rfl
 have H:∀W:World,(Instr.sliceAt 24 (.slice A n c) (some (.int .i64 fr)) none none).run prog W = .ok (sliced A fr n c 1) W:=by
  intro W;rw[run_sliceAt_slice W _ _ _ _ _ (by rw[ht,J]),run_slice_l W _ A n c (by rw[ht,J]) .i64 fr (by omega) (by omega),J,hs];simp only[Result.andThen_ok];congr 1
 have O:=h.cap;refine⟨_,_,H,by rw[List.length_drop,<-h.len],?_,by omega,?_,?_⟩
 ·rcases h.bytes with hb | ⟨g,o,rfl,hb⟩
  ·left;have:l = []:=by simpa using hb
   rw[this];simp
  ·by_cases Y:c=fr
   ·left;have:=h.len;rw[List.drop_of_length_le (by omega)];rfl
   ·refine .inr ⟨g,o+fr,by rw[if_neg Y];simp[Addr.add_lit],fun i v U=>?_⟩;rw[Nat.add_assoc];refine hb (fr+i) v ?_;rw[List.getElem?_map]at U ⊢;rw[List.getElem?_drop]at U;exact U
 ·intro hn;cases A with
  | none=>have:=h.nil_ rfl;omega
  | some a=>split at hn <;> cases hn
 ·intro a j;cases A with
  | none=>split at j <;> cases j
  | some b =>
   obtain⟨h1,h2⟩:=h.at_ b rfl;obtain⟨b,o,sp⟩:=b;obtain rfl:sp=Option.none:=h1;split at j
   ·cases j;exact⟨rfl,h2⟩
   ·cases j;show (Addr.add ⟨b,o,none⟩ (fr*1)).spot=none/\(Addr.add ⟨b,o,none⟩ (fr*1)).block<w.heap.size;rw[Addr.add_lit];exact⟨rfl,h2⟩
theorem Pq {x:UInt8} (h:l[i]? = some x) (b:i<10) (acc:Nat):comb i acc (getV i (l.drop i))=if (i=9/\1<x.toNat)\/(0<i/\x.toNat=0) then .error 20 else
 if x.toNat<128 then .ok (acc+128^i*x.toNat,l.drop (i+1)) else comb (i+1) (acc+128^i*(x.toNat - 128)) (getV (i+1) (l.drop (i+1))):=by
 have hi:=(List.getElem?_eq_some_iff.1 h).1;have h2:=(List.getElem?_eq_some_iff.1 h).2;rw[List.drop_eq_getElem_cons hi,h2]
 conv=>lhs;unfold getV
 rw[if_neg (by omega)];by_cases hb:(i=9/\1<x.toNat)\/(0<i/\x.toNat=0)
 ·rw[if_pos hb,if_pos hb];rfl
 ·rw[if_neg hb,if_neg hb];by_cases j:x.toNat<128
  ·rw[if_pos j,if_pos j];rfl
  ·rw[if_neg j,if_neg j];unfold comb;cases getV (i+1) (l.drop (i+1))with
   | error e=>rfl
   | ok p =>
    obtain⟨n,r⟩:=p;simp only;rw[Nat.mul_add,Nat.pow_succ,Nat.add_assoc,Nat.mul_assoc]
theorem Pp (h:l.length<=i\/10<=i) (acc:Nat):comb i acc (getV i (l.drop i)) = .error 6:=by
 rcases h with h | h
 ·rw[List.drop_of_length_le h];rfl
 ·cases l.drop i with
  | nil=>rfl
  | cons x r=>unfold getV;rw[if_pos h];rfl
theorem QX {i acc y:Nat} (hi:i<=9) (j:acc<128^i) (U:y<128) (H:i=9->y<=1):bits .or .u64 (acc:Int) (IntKind.u64.wrap ((y:Int)*2^(7*i)))=((acc+128^i*y:Nat):Int):=by
 have e:∀y:Int,IntKind.u64.wrap y=y%18446744073709551616:=fun y=>by simp[IntKind.wrap,IntKind.bits,IntKind.signed]
 have J:(128:Nat)^i=2^(7*i):=by rw[show (128:Nat)=2^7 from rfl,<-Nat.pow_mul]
 rw[J]at j ⊢;have a:y*2^(7*i)<18446744073709551616:=by
  rcases Nat.lt_or_ge i 9 with h | h
  ·have h1:2^(7*i)<=2^56:=Nat.pow_le_pow_right (by omega) (by omega);have h2:y*2^(7*i)<=127*2^56:=Nat.mul_le_mul (by omega) h1;omega
  ·obtain rfl:i=9:=by omega
   have:=H rfl;have h2:y*2^(7*9)<=1*2^63:=Nat.mul_le_mul this (Nat.le_refl _);omega
 have b:acc<18446744073709551616:=Nat.lt_of_lt_of_le j (by
  have:2^(7*i)<=2^63:=Nat.pow_le_pow_right (by omega) (by omega);omega)
 have Y:IntKind.u64.wrap ((y:Int)*2^(7*i))=((y*2^(7*i):Nat):Int):=by
  rw[e];have:(y:Int)*2^(7*i)=((y*2^(7*i):Nat):Int):=by simp
  rw[this];omega
 rw[Y,u64_or_nat _ _ b a];have:=Nat.shiftLeft_add_eq_or_of_lt j y;rw[Nat.shiftLeft_eq]at this;rw[Nat.or_comm,<-this,Nat.add_comm,Nat.mul_comm y]
theorem OV {i acc y:Nat} (j:acc<128^i) (b:y<128):acc+128^i*y<128^(i+1):=by
 have h:=Nat.mul_le_mul_left (128^i) (show y+1<=128 by omega);rw[Nat.mul_add,Nat.mul_one]at h;rw[Nat.pow_succ];omega
theorem LK {res:Except Nat (Nat×List UInt8)} {v:Nat} {E:Int} (j:res = .ok (v,r)) (h:Ext w w') (hi:In8 w0 A m c r) (b:E=(v:Int)):Got w0 w res (.returned (.tuple #[.int .u64 E,.slice A m c,.int .i64 0])) w':=by
 subst j b;have:=hi.len;subst this;exact⟨h,A,c,rfl,hi⟩
theorem Gv {res:Except Nat (Nat×List UInt8)} (j:res = .error k) (h:Ext w w'):Got w0 w res (.returned (.tuple #[.int .u64 0,.slice none 0 0,.int .i64 k])) w':=by
 subst j;exact⟨h,rfl⟩
theorem Qr (h:x<256):bits .and .u8 (x:Int) 127=((x%128:Nat):Int):=by
 have j:∀k:Fin 256,k.val &&& 127=k.val%128:=by decide +kernel
 have hk:=j ⟨x,h⟩;simp only at hk;rw[show (127:Int)=((127:Nat):Int)from rfl,u8_and_nat _ _ (by omega) (by omega),hk]
theorem Cl (A:Option Addr) (n c:Nat) (l:List UInt8) (w0 w:World) (h:In8 w0 A n c l) (hw:Ext w0 w) (d1:n<=1000000000) :
 Calls prog 94 #[.slice A n c] w fun e w'=>Got w0 w (getV 0 l) e w':=by
 obtain⟨k,hk⟩:∃k:Nat,(k:Int)=min (n:Int) 10:=⟨min n 10,by omega⟩
 have q1:=h.cap;have k1:=fun(W:World)=>AQ (P:=prog) #[3,3] 3 hk W;have m1:=fun(W:World)=>FN (n:=n) (c:=c) (k:=k) (A:=A) (by omega) (fun a ha=>(h.at_ a ha).1) W;have y1:k<=10:=by omega
 have a1:k<=n:=by omega
 have g0:n<=k\/10<=k:=by omega
 replace hk:=Aa hk;replace g0:=Aa g0;replace h:=Aa h
 go_in
 go_wp2_with fail;go_step3;go_wp2_with fail;go_step3;go_wp2_with fail
 go_loopw [2,4,13] (fun s2 s4 s13 wr=>∃(i acc:Nat),s13 = .int .i64 i/\s2 = .int .u64 acc/\s4 = .int .i64 6/\i<=k/\acc<128^i/\Hid (getV 0 l=comb i acc (getV i (l.drop i)))/\Hid (Ext w wr)) (fun _ _ s13 _=>k - (intOf s13).toNat)
 case atStart=>exact⟨0,0,rfl,rfl,rfl,by omega,by simp,Aa (by rw[Nr];rfl),Aa (Ext.refl w)⟩
 case round =>
  obtain⟨i,acc,rfl,rfl,rfl,hi,U,hg,I⟩:=hrel;by_cases x1:i<k
  ·have x0:i<l.length:=by rw[<-h.out.len];omega
   obtain⟨g,o,rfl,hc⟩:=h.out.bytes.at_ (by omega);have k0:=(hw.trans I.out).cell (hc i x0);have b:=Pq (List.getElem?_eq_getElem x0) (by omega) acc;rw[<-hg.out]at b;obtain⟨x,hx⟩:=Ab (l[i].toNat);have m0:x<256:=by rw[hx];exact l[i].toNat_lt
   rw[<-hx]at k0 b;replace hx:=Aa hx;replace b:=Aa b;have v0:=Qr m0;obtain⟨y,hy⟩:=Ab (x%128);rw[<-hy]at v0;replace hy:=Aa hy;obtain⟨A',c',b0,y0⟩:=h.out.from_ (fr:=i+1) (by omega) (z:=(i:Int)+1) (by omega);have H:=fun h9:i=9->y<=1=>QX (i:=i) (acc:=acc) (y:=y) (by omega) U (by have:=hy.out;omega) h9;replace H:=Aa H;have O:=Aa y0;clear hc hg y0;have q0:=fun(h1:¬((i=9/\1<x)\/(0<i/\x=0))) (h2:128<=x)=>b.out.trans ((if_neg h1).trans (if_neg (by omega)));have Z:=fun(h1:¬((i=9/\1<x)\/(0<i/\x=0))) (h2:x<128)=>b.out.trans ((if_neg h1).trans (if_pos h2));have j:=fun(h1:(i=9/\1<x)\/(0<i/\x=0))=>b.out.trans (if_pos h1);have c0:y<128:=by have:=hy.out;omega
   have J:x<128->y=x:=fun h=>by have:=hy.out;omega
   have Y:128<=x->y=x - 128:=fun h=>by have:=hy.out;omega
   have hz:((x:Int)==0)=true->x=0:=fun h=>by simp at h;omega
   have p0:((x:Int)==0)=false->x≠0:=fun h=>by simp at h;omega
   replace q0:=Aa q0;replace Z:=Aa Z;replace j:=Aa j;replace J:=Aa J;replace Y:=Aa Y;replace hz:=Aa hz;replace p0:=Aa p0;by_cases h9:i=9
   ·subst h9;have G:y<=1->bits .or .u64 (acc:Int) (IntKind.u64.wrap ((y:Int)*9223372036854775808))=((acc+128^9*y:Nat):Int):=fun n0=>by
     have e:(2:Int)^(7*9)=9223372036854775808:=by simp
     have:=H.out fun _=>n0;rw[e]at this;exact this
    replace G:=Aa G;obtain⟨A9,c9,l0,T⟩:=h.out.from_ (fr:=10) (by omega) (z:=10) rfl;replace T:=Aa T;clear b0 O;go_wp2_with fail
    ·go_ret3;exact Gv (j.out (.inl ⟨by trivial,by omega⟩)) I.out
    ·go_ret3;exact Gv (j.out (.inr ⟨by omega,hz.out (by assumption)⟩)) I.out
    ·refine AE (fun K hK=>?_);go_wp2_with fail;refine⟨by kernel_rfl,?_⟩;go_wp2_with fail;go_ret3;have f1:x<=1:=by omega
     exact LK (Z.out (by have:=p0.out (by assumption);omega) (by omega)) I.out.drew T.out (by rw[G.out (by have:=J.out (by omega);omega),J.out (by omega)])
   ·go_wp2_with fail
    ·rw[Exit.noGoto_ret];go_ret3;exact Gv (j.out (.inr ⟨by omega,hz.out (by assumption)⟩)) I.out
    ·refine AE (fun K hK=>?_);go_wp2_with fail;refine⟨by kernel_rfl,?_⟩;go_wp2_with fail;rw[Exit.noGoto_ret];go_ret3;exact LK (Z.out (by have:=p0.out (by assumption);omega) (by omega)) I.out.drew O.out (by rw[H.out (by omega),J.out (by omega)])
    ·go_roundw
     case rel=>exact⟨i+1,acc+128^i*y,by go_num,by rw[H.out (by omega)],rfl,by omega,OV U c0,Aa (by rw[q0.out (by omega) (by omega),Y.out (by omega)]),I⟩
     case measure=>simp[intOf];omega
    ·refine AE (fun K hK=>?_);go_wp2_with fail;refine⟨by kernel_rfl,?_⟩;go_wp2_with fail;rw[Exit.noGoto_ret];go_ret3;exact LK (Z.out (by omega) (by omega)) I.out.drew O.out (by rw[H.out (by omega),J.out (by omega)])
    ·go_roundw
     case rel=>exact⟨i+1,acc+128^i*y,by go_num,by rw[H.out (by omega)],rfl,by omega,OV U c0,Aa (by rw[q0.out (by omega) (by omega),Y.out (by omega)]),I⟩
     case measure=>simp[intOf];omega
  ·have j0:i=k:=by omega
   have h0:=Pp (l:=l) (i:=i) (by rw[<-h.out.len,j0];exact g0.out) acc;rw[<-hg.out]at h0;replace h0:=Aa h0;replace j0:=Aa j0;go_wp2_with fail;rw[Exit.noGoto_ret];go_ret3;exact Gv h0.out I.out
theorem Oz (kk:IntKind) (h:k<=c) (H:∀a,A=some a->a.spot=none) (W:World) :
 (Instr.sliceAt 24 (.slice A n c) none (some (.int kk k)) none).run prog W = .ok (.slice A k c) W:=by
 have ht:=underlying24;have j:prog.elem 24=5:=by unfold Program.elem;rw[ht]
 have hs:∀W:World,(sizeOf 5).run prog W = .ok 1 W:=fun W=>by kernel_rfl
 rw[run_sliceAt_slice W _ _ _ _ _ (by rw[ht,j]),run_slice_h W _ A n c (by rw[ht,j]) kk k (by omega) (by omega),j,hs];simp only[Result.andThen_ok];congr 1;unfold sliced;have:(if c=0 then A else A.map fun x=>x.add (0*1))=A:=by
  cases A with
  | none=>simp
  | some a =>
   obtain⟨b,o,sp⟩:=a;obtain rfl:sp=none:=H _ rfl;simp[Addr.add_lit]
 rw[this];simp
theorem In8.fromk (kk:IntKind) (h:In8 w A n c l) (Z:fr<=n) (T:z=(fr:Int)) :
 ∃A' c',(∀W:World,(Instr.sliceAt 24 (.slice A n c) (some (.int kk z)) none none).run prog W = .ok (.slice A' (n - fr) c') W)/\In8 w A' (n - fr) c' (l.drop fr):=by
 subst T;have ht:=underlying24;have J:prog.elem 24=5:=by unfold Program.elem;rw[ht]
 have hs:∀W:World,(sizeOf 5).run prog W = .ok 1 W:=fun W=>by kernel_rfl
 have H:∀W:World,(Instr.sliceAt 24 (.slice A n c) (some (.int kk fr)) none none).run prog W = .ok (sliced A fr n c 1) W:=by
  intro W;rw[run_sliceAt_slice W _ _ _ _ _ (by rw[ht,J]),run_slice_l W _ A n c (by rw[ht,J]) kk fr (by omega) (by omega),J,hs];simp only[Result.andThen_ok];congr 1
 have O:=h.cap;refine⟨_,_,H,by rw[List.length_drop,<-h.len],?_,by omega,?_,?_⟩
 ·rcases h.bytes with hb | ⟨g,o,rfl,hb⟩
  ·left;have:l = []:=by simpa using hb
   rw[this];simp
  ·by_cases Y:c=fr
   ·left;have:=h.len;rw[List.drop_of_length_le (by omega)];rfl
   ·refine .inr ⟨g,o+fr,by rw[if_neg Y];simp[Addr.add_lit],fun i v U=>?_⟩;rw[Nat.add_assoc];refine hb (fr+i) v ?_;rw[List.getElem?_map]at U ⊢;rw[List.getElem?_drop]at U;exact U
 ·intro hn;cases A with
  | none=>have:=h.nil_ rfl;omega
  | some a=>split at hn <;> cases hn
 ·intro a j;cases A with
  | none=>split at j <;> cases j
  | some b =>
   obtain⟨h1,h2⟩:=h.at_ b rfl;obtain⟨b,o,sp⟩:=b;obtain rfl:sp=Option.none:=h1;split at j
   ·cases j;exact⟨rfl,h2⟩
   ·cases j;show (Addr.add ⟨b,o,none⟩ (fr*1)).spot=none/\(Addr.add ⟨b,o,none⟩ (fr*1)).block<w.heap.size;rw[Addr.add_lit];exact⟨rfl,h2⟩
theorem In8.headk (kk:IntKind) (h:In8 w A n c l) (hk:k<=n) (H:z=(k:Int)) :
 (∀W:World,(Instr.sliceAt 24 (.slice A n c) none (some (.int kk z)) none).run prog W = .ok (.slice A k c) W)/\In8 w A k c (l.take k):=by
 subst H;refine⟨fun W=>Oz kk (by have:=h.cap;omega) (fun a b=>(h.at_ a b).1) W,by rw[List.length_take,<-h.len];omega,?_,by have:=h.cap;omega,h.nil_,h.at_⟩;rcases h.bytes with hb | ⟨g,o,rfl,hb⟩
 ·left;have:l = []:=by simpa using hb
  rw[this];simp
 ·refine .inr ⟨g,o,rfl,fun i v j=>hb i v ?_⟩;rw[List.getElem?_map]at j ⊢;rw[List.getElem?_take]at j;split at j
  ·exact j
  ·cases j
theorem In8.subk (kk k2:IntKind) (h:In8 w A n c l) (G:fr+k<=n) (O:z0=(fr:Int)) (Z:z=(fr:Int)+(k:Int)) :
 ∃A' c',(∀W:World,(Instr.sliceAt 24 (.slice A n c) (some (.int kk z0)) (some (.int k2 z)) none).run prog W = .ok (.slice A' k c') W)/\In8 w A' k c' ((l.drop fr).take k):=by
 subst O;subst Z;have ht:=underlying24;have U:prog.elem 24=5:=by unfold Program.elem;rw[ht]
 have hs:∀W:World,(sizeOf 5).run prog W = .ok 1 W:=fun W=>by kernel_rfl
 have T:=h.cap;have j:∀W:World,(Instr.sliceAt 24 (.slice A n c) (some (.int kk fr)) (some (.int k2 ((fr:Int)+(k:Int)))) none).run prog W = .ok (sliced A fr (fr+k) c 1) W:=by
  intro W;rw[run_sliceAt_slice W _ _ _ _ _ (by rw[ht,U]),run_slice_lh W _ A n c (by rw[ht,U]) kk k2 fr ((fr:Int)+k) (by omega) (by omega) (by omega),U,hs];simp only[Result.andThen_ok];congr 1
 unfold sliced at j;rw[Nat.add_sub_cancel_left]at j;refine⟨_,_,j,by rw[List.length_take,List.length_drop,<-h.len];omega,?_,by omega,?_,?_⟩
 ·rcases h.bytes with hb | ⟨g,o,rfl,hb⟩
  ·left;have:l = []:=by simpa using hb
   rw[this];simp
  ·by_cases J:c=fr
   ·left;have:k=0:=by omega
    subst this;simp
   ·refine .inr ⟨g,o+fr,by rw[if_neg J];simp[Addr.add_lit],fun i v H=>?_⟩;rw[Nat.add_assoc];refine hb (fr+i) v ?_;rw[List.getElem?_map]at H ⊢;rw[List.getElem?_take]at H;split at H
    ·rw[List.getElem?_drop]at H;exact H
    ·cases H
 ·intro hn;cases A with
  | none=>have:=h.nil_ rfl;omega
  | some a=>split at hn <;> cases hn
 ·intro a Y;cases A with
  | none=>split at Y <;> cases Y
  | some b =>
   obtain⟨h1,h2⟩:=h.at_ b rfl;obtain⟨b,o,sp⟩:=b;obtain rfl:sp=Option.none:=h1;split at Y
   ·cases Y;exact⟨rfl,h2⟩
   ·cases Y;show (Addr.add ⟨b,o,none⟩ (fr*1)).spot=none/\(Addr.add ⟨b,o,none⟩ (fr*1)).block<w.heap.size;rw[Addr.add_lit];exact⟨rfl,h2⟩
end
section
def cstep (y:Nat):Nat:=if y%2=1 then (y / 2) ^^^ 3988292384 else y / 2
def c8 (y:Nat):Nat:=cstep (cstep (cstep (cstep (cstep (cstep (cstep (cstep y)))))))
def con (x:Nat) (c:UInt8):Nat:=c8 (x ^^^ c.toNat)
def cnot (x:Nat):Nat:=4294967295 - x
def cnext (s:Nat) (l:List UInt8):Nat:=cnot (l.foldl con (cnot s))
theorem To (a b:Nat):(a ^^^ b) / 2=(a / 2) ^^^ (b / 2):=by
 have:=Nat.shiftRight_xor_distrib (a:=a) (b:=b) (i:=1);simpa [Nat.shiftRight_eq_div_pow]using this
theorem QV (a b:Nat):(a ^^^ b)%2=(a%2) ^^^ (b%2):=by
 have:=Nat.xor_mod_two_pow (a:=a) (b:=b) (n:=1);simpa using this
theorem Nv (a b:Nat):cstep (a ^^^ b)=cstep a ^^^ cstep b:=by
 unfold cstep;rw[To,QV];rcases Nat.mod_two_eq_zero_or_one a with h | h <;> rcases Nat.mod_two_eq_zero_or_one b with hb | hb <;> rw[h,hb]
 ·rfl
 ·show (a / 2 ^^^ b / 2) ^^^ 3988292384=(a / 2) ^^^ (b / 2 ^^^ 3988292384);rw[Nat.xor_assoc]
 ·show (a / 2 ^^^ b / 2) ^^^ 3988292384=(a / 2 ^^^ 3988292384) ^^^ (b / 2);rw[Nat.xor_assoc,Nat.xor_assoc,Nat.xor_comm (b / 2)]
 ·show (a / 2 ^^^ b / 2)=(a / 2 ^^^ 3988292384) ^^^ (b / 2 ^^^ 3988292384);rw[Nat.xor_assoc,<-Nat.xor_assoc 3988292384,Nat.xor_comm 3988292384 (b / 2),Nat.xor_assoc (b / 2),Nat.xor_self,Nat.xor_zero]
theorem Rv (a b:Nat):c8 (a ^^^ b)=c8 a ^^^ c8 b:=by
 unfold c8;simp only[Nv]
theorem Nu (z:Nat):cstep (z*2)=z:=by
 unfold cstep;rw[if_neg (by omega)];omega
theorem QD (z:Nat):c8 (z*256)=z:=by
 unfold c8;rw[show z*256=z*2*2*2*2*2*2*2*2 by omega];simp only[Nu]
theorem OD (y:Nat):y=(y%256) ^^^ (y / 256*256):=by
 have h:y / 256*256 ||| y%256=y / 256*256+y%256:=by
  have:=Nat.shiftLeft_add_eq_or_of_lt (b:=y%256) (i:=8) (Nat.mod_lt _ (by decide)) (y / 256);rw[Nat.shiftLeft_eq]at this;exact this.symm
 apply Nat.eq_of_testBit_eq;intro i;rw[Nat.testBit_xor];have h1:(y%256).testBit i=(decide (i<8)&&y.testBit i):=Nat.testBit_mod_two_pow y 8 i;have h2:(y / 256*256).testBit i=(decide (8<=i)&&y.testBit i):=by
  have e:y / 256*256=(y >>> 8) <<< 8:=by rw[Nat.shiftRight_eq_div_pow,Nat.shiftLeft_eq]
  rw[e,Nat.testBit_shiftLeft,Nat.testBit_shiftRight];by_cases j:8<=i
  ·rw[show 8+(i - 8)=i by omega]
  ·simp[j]
 rw[h1,h2];by_cases j:i<8
 ·simp[j,show ¬ 8<=i by omega]
 ·simp[j,show 8<=i by omega]
theorem Nt (x:Nat) (c:UInt8):con x c=c8 ((x ^^^ c.toNat)%256) ^^^ (x / 256):=by
 unfold con;have j:c.toNat / 256=0:=by have:=c.toNat_lt;omega
 have h:=Nat.shiftRight_xor_distrib (a:=x) (b:=c.toNat) (i:=8);rw[Nat.shiftRight_eq_div_pow,Nat.shiftRight_eq_div_pow,Nat.shiftRight_eq_div_pow]at h;have h2:(x ^^^ c.toNat) / 256=x / 256:=by
  have:(2:Nat)^8=256:=rfl;rw[this,j,Nat.xor_zero]at h;exact h
 conv=>lhs;rw[OD (x ^^^ c.toNat)]
 rw[Rv,QD,h2]
theorem BB {y:Nat} (h:y<4294967296):cstep y<4294967296:=by
 unfold cstep;split
 ·exact Nat.xor_lt_two_pow (n:=32) (by omega) (by omega)
 ·omega
theorem Re {y:Nat} (h:y<4294967296):c8 y<4294967296:=by
 unfold c8;exact BB (BB (BB (BB (BB (BB (BB (BB h)))))))
theorem Lq (c:UInt8) (h:x<4294967296):con x c<4294967296:=by
 unfold con;have:=c.toNat_lt;exact Re (Nat.xor_lt_two_pow (n:=32) (by omega) (by omega))
theorem MX:∀(l:List UInt8) {x:Nat},x<4294967296->l.foldl con x<4294967296
 | [],_,h=>h
 | c::l,_,h=>MX l (Lq c h)
theorem EP (s:Nat) (l:List UInt8):cnext s l<4294967296:=by
 unfold cnext cnot;omega
end
section
open Go.RowKit
def citer:Nat->Nat->Nat
 | 0,y=>y
 | k+1,y=>citer k (cstep y)
theorem O5 (y:Nat):c8 y=citer 8 y:=rfl
theorem GC {z v j:Nat} (h:z=citer (8 - j) v) (b:j<8):z=citer (8 - (j+1)) (cstep v):=by
 rw[h,show 8 - j=(8 - (j+1))+1 by omega];rfl
theorem Im {z v j:Nat} (h:z=citer (8 - j) v) (b:8<=j):z=v:=by
 rw[h,show 8 - j=0 by omega];rfl
theorem Ip {v:Nat} (h:v%2=1):cstep v=(v / 2) ^^^ 3988292384:=by unfold cstep;rw[if_pos h]
theorem GE {v:Nat} (h:v%2=0):cstep v=v / 2:=by unfold cstep;rw[if_neg (by omega)]
theorem Lc {d:Nat} (h:d<4294967296):bits .xor .u32 (d:Int) 3988292384=((d ^^^ 3988292384:Nat):Int):=by
 rw[show (3988292384:Int)=((3988292384:Nat):Int)from rfl,u32_xor_nat _ _ h (by omega)]
def tabA (i:Nat):Array Value:=((List.range 256).map fun k=>if k<i then Value.int .u32 (c8 k:Nat) else .int .u32 0).toArray
theorem Fr (hk:k<256):(tabA i)[k]? = some (if k<i then Value.int .u32 (c8 k:Nat) else .int .u32 0):=by
 unfold tabA;simp[hk]
theorem Qd (hi:i<256):(tabA i).setIfInBounds i (.int .u32 (c8 i:Nat))=tabA (i+1):=by
 apply Array.ext_getElem?;intro k;rw[Array.getElem?_setIfInBounds];by_cases hk:k<256
 ·rw[Fr hk,Fr hk];have hs:i<(tabA i).size:=by unfold tabA;simp;omega
  by_cases h:i=k
  ·subst h;rw[if_pos rfl,if_pos hs,if_pos (by omega)]
  ·rw[if_neg h];by_cases h1:k<i
   ·rw[if_pos h1,if_pos (by omega)]
   ·rw[if_neg h1,if_neg (by omega)]
 ·have h1:(tabA i)[k]? = none:=by unfold tabA;simp;omega
  have h2:(tabA (i+1))[k]? = none:=by unfold tabA;simp;omega
  rw[h1,h2,if_neg (by omega)]
theorem OM:Tryz.zeroCells301=tabA 0:=by kernel_rfl
theorem Ts {v:Nat} (h:v<4294967296):bits .and .u32 (v:Int) 1=((v%2:Nat):Int):=by
 rw[show (1:Int)=((1:Nat):Int)from rfl,u32_and_nat _ _ h (by omega),Nat.and_one_is_mod]
theorem ON (w:World):Calls prog 215 #[] w fun e w'=>e = .returned (.pointer (some ⟨w.heap.size,0,none⟩))/\Row w' w.heap.size 301 (tabA 256)/\Ext w w':=by
 have hz:Row (w.alloc (.cells Tryz.zeroCells301 301)) w.heap.size 301 (tabA 0):=by rw[OM];exact Row.new w _ _
 have Y:Ext w (w.alloc (.cells Tryz.zeroCells301 301)):=(Ext.refl w).alloc _;replace hz:=Aa hz;replace Y:=Aa Y
 go_in
 go_wp2_with fail
 go_loopw [2,3,4,5] (fun _ _ _ s5 wr=>∃(i:Nat),s5 = .int .i64 i/\i<=256/\Hid (Row wr w.heap.size 301 (tabA i))/\Hid (Ext w wr)) (fun _ _ _ s5 _=>256 - (intOf s5).toNat)
 case atStart=>exact⟨0,rfl,by omega,hz,Y⟩
 case round =>
  obtain⟨i,rfl,hi,G,hE⟩:=hrel;by_cases O:i<256
  ·obtain⟨z,h⟩:=Ab (c8 i);have I:=Aa h;rw[O5]at h;replace h:=Aa h;obtain⟨wo,rfl⟩:=Ab (wr:World);go_wp2_with fail
   go_loop [3,4,10] (fun s3 _ s10=>∃(j v:Nat),s10 = .int .i64 j/\j<=8/\s3 = .int .u32 v/\v<4294967296/\Hid (z=citer (8 - j) v)) (fun _ _ s10=>8 - (intOf s10).toNat)
   case atStart=>exact⟨0,i,rfl,by omega,by go_num,by omega,h⟩
   case round =>
    obtain⟨j,v,rfl,hj,rfl,hv,b⟩:=hrel;by_cases p0:j<8
    ·have hn:=GC b.out p0;have a:=BB hv;have U:=Ts hv;obtain⟨q,Z⟩:=Ab (v%2);obtain⟨d,hd⟩:=Ab (v / 2);have v0:(v:Int) / 2=(d:Int):=by omega
     have H:d<4294967296:=by omega
     have k0:=Lc H;rw[<-Z]at U;rcases (show q=0\/q=1 by omega)with rfl | rfl
     ·rw[GE Z.symm,<-hd]at hn;replace hn:=Aa hn;clear Z hd b a;go_wp2_with fail
      go_round
      case rel=>exact⟨j+1,d,by go_num,by omega,rfl,H,hn⟩
      case measure=>simp[intOf];omega
     ·rw[Ip Z.symm,<-hd]at hn a;obtain⟨y,hy⟩:=Ab (d ^^^ 3988292384);rw[<-hy]at hn a k0;replace hn:=Aa hn;clear Z hd b hy;go_wp2_with fail
      go_round
      case rel=>exact⟨j+1,y,by go_num,by omega,rfl,a,hn⟩
      case measure=>simp[intOf];omega
    ·have hn:=Im b.out (by omega);have J:=G.out.cell i (Fr O);have x0:=G.out.free i;have y0:=G.out.lt;rw[if_neg (by omega)]at J;have hp:=G.out.put i (.int .u32 (v:Nat));rw[<-hn,I.out,Qd O]at hp;have T:=Aa (I.out.symm.trans hn);replace hp:=Aa hp;have q0:=Aa (hE.out.setCell (p:=⟨w.heap.size,i,none⟩) (Nat.le_refl _) (.int .u32 ((c8 i:Nat):Int)));clear b hn;go_wp2_with fail;go_roundw
     case rel=>exact⟨i+1,by go_num,by omega,by rw[<-T.out];exact hp,by rw[<-T.out];exact q0⟩
     case measure=>simp[intOf];omega
  ·obtain rfl:i=256:=by omega
   go_wp2_with fail;go_ret;exact⟨rfl,G.out,hE.out⟩
theorem Ns (v:Nat) (c:UInt8):con v c=c8 ((v%256) ^^^ c.toNat) ^^^ (v / 256):=by
 rw[Nt];congr 2;have h:=Nat.xor_mod_two_pow (a:=v) (b:=c.toNat) (n:=8);have j:=c.toNat_lt;rw[show (2:Nat)^8=256 from rfl,Nat.mod_eq_of_lt (a:=c.toNat) (by omega)]at h;exact h
theorem PG (A:Option Addr) (s n c:Nat) (l:List UInt8) (w0 w:World) (hb:In8 w0 A n c l) (hw:Ext w0 w) (hs:s<4294967296) (e0:n<=1000000000) :
 Calls prog 181 #[.int .u32 s,.slice A n c] w fun e w'=>e = .returned (.int .u32 (cnext s l:Nat))/\Ext w w':=by
 have I:=Aa (ON w);have H:=Dh s hs;have O:cnot s<4294967296:=by unfold cnot;omega
 rw[show 4294967295 - s=cnot s from rfl]at H;obtain⟨y,hy⟩:=Ab (cnot s);rw[<-hy]at H O;have hr:cnext s l=4294967295 - l.foldl con y:=by unfold cnext;rw[<-hy];rfl
 replace hr:=Aa hr;clear hy;replace hb:=Aa hb
 go_in
 go_wp2_with fail;refine I.out.mono ?_;rintro e w1 ⟨rfl,j,b⟩;replace j:=Aa j;replace b:=Aa b;go_wp2_with fail
 go_loop [6,8,14] (fun s6 _ s14=>∃(i v:Nat),s14 = .int .i64 i/\i<=n/\s6 = .int .u32 v/\v<4294967296/\Hid (l.foldl con y=(l.drop i).foldl con v)) (fun _ _ s14=>n - (intOf s14).toNat)
 case atStart=>exact⟨0,y,rfl,by omega,rfl,O,rfl⟩
 case round =>
  obtain⟨i,v,rfl,hi,rfl,hv,hf⟩:=hrel;by_cases d0:i<n
  ·have T:i<l.length:=by rw[<-hb.out.len];omega
   obtain⟨g,o,rfl,hc⟩:=hb.out.bytes.at_ (by omega);have Y:=(hw.trans b.out).cell (hc i T);have hn:l.foldl con y=(l.drop (i+1)).foldl con (con v l[i]):=by rw[hf.out,List.drop_eq_getElem_cons T];rfl
   have a:=Lq l[i] hv;have h:=Ns v l[i];obtain⟨x,hx⟩:=Ab (l[i].toNat);have q0:x<256:=by rw[hx];exact l[i].toNat_lt
   rw[<-hx]at Y h;obtain⟨z,hz⟩:=Ab (con v l[i]);rw[<-hz]at hn a h;obtain⟨m,hm⟩:=Ab (v%256);have f0:(v:Int)%256=(m:Int):=by omega
   have Z:m<256:=by omega
   have g0:=u8_xor_nat m x Z q0;rw[<-hm]at h;have U:m ^^^ x<256:=Nat.xor_lt_two_pow (n:=8) Z q0;obtain⟨k,hk⟩:=Ab (m ^^^ x);rw[<-hk]at h g0 U;have h0:=j.out.cell k (Fr U);rw[if_pos U]at h0;obtain⟨t,ht⟩:=Ab (c8 k);have G:t<4294967296:=by rw[ht];exact Re (by omega)
   rw[<-ht]at h0 h;obtain⟨d,hd⟩:=Ab (v / 256);have c0:(v:Int) / 256=(d:Int):=by omega
   have m0:=u32_xor_nat t d G (by omega);rw[<-hd]at h;rw[<-h]at m0;replace hn:=Aa hn;clear hc hf hx hz hm hk ht hd h;go_wp2_with fail
   go_round
   case rel=>exact⟨i+1,z,by go_num,by omega,rfl,a,hn⟩
   case measure=>simp[intOf];omega
  ·have J:l.foldl con y=v:=by rw[hf.out,List.drop_of_length_le (by rw[<-hb.out.len];omega)];rfl
   have i0:=Dh v hv;replace J:=Aa J;clear hf;go_wp2_with fail;go_ret;exact⟨Fb (by rw[hr.out,J.out]),b.out⟩
def csum (s:Nat) (ls:List (List UInt8)):Nat:=ls.foldl cnext s
theorem Ng (B:Option Addr) (k c2:Nat) (ps:List (Option Addr×Nat×List UInt8)) (w:World) (hk:k=ps.length) (hB:Cells w B (ps.map fun p=> .slice p.1 p.2.2.length p.2.1)) (Y:∀p∈ps,In8 w p.1 p.2.2.length p.2.1 p.2.2) (J:∀p∈ps,p.2.2.length<=1000000000) (p0:k<=1000000) :
 Calls prog 139 #[.slice B k c2] w fun e w'=>e = .returned (.int .u32 (csum 0 (ps.map fun p=>p.2.2):Nat))/\Ext w w':=by
 replace hk:=Aa hk;replace Y:=Aa Y;replace J:=Aa J
 go_in
 go_wp2_with fail
 go_loopw [3,5,8] (fun s3 _ s8 wr=>∃(i v:Nat),s8 = .int .i64 i/\i<=k/\s3 = .int .u32 v/\v<4294967296/\Hid (csum 0 (ps.map fun p=>p.2.2)=csum v ((ps.drop i).map fun p=>p.2.2))/\Hid (Ext w wr)) (fun _ _ s8 _=>k - (intOf s8).toNat)
 case atStart=>exact⟨0,0,rfl,by omega,rfl,by omega,Aa rfl,Aa (Ext.refl w)⟩
 case round =>
  obtain⟨i,v,rfl,hi,rfl,hv,O,U⟩:=hrel;by_cases q0:i<k
  ·have j:i<ps.length:=by rw[<-hk.out];omega
   obtain⟨g,o,rfl,Z⟩:=hB.at_ (by rw[List.length_map];omega);have b:=U.out.cell (Z i _ (by rw[List.getElem?_map,List.getElem?_eq_getElem j];rfl));have hn:csum 0 (ps.map fun p=>p.2.2)=csum (cnext v ps[i].2.2) ((ps.drop (i+1)).map fun p=>p.2.2):=by rw[O.out,List.drop_eq_getElem_cons j];rfl
   have h:=PG ps[i].1 v ps[i].2.2.length ps[i].2.1 ps[i].2.2 w wr (Y.out _ (List.getElem_mem j)) U.out hv (J.out _ (List.getElem_mem j));have a:=EP v ps[i].2.2;obtain⟨p,G⟩:=Ab (ps[i]);rw[<-G]at b hn h a;obtain⟨z,I⟩:=Ab (cnext v p.2.2);rw[<-I]at hn h a;replace hn:=Aa hn;replace h:=Aa h;clear G Z O I;go_wp2_with fail;refine h.out.mono ?_;rintro e w1 ⟨rfl,T⟩;go_wp2_with fail;go_roundw
   case rel=>exact⟨i+1,z,by go_num,by omega,rfl,a,hn,Aa (U.out.trans T)⟩
   case measure=>simp[intOf];omega
  ·have H:csum 0 (ps.map fun p=>p.2.2)=v:=by rw[O.out,List.drop_of_length_le (by rw[<-hk.out];omega)];rfl
   replace H:=Aa H;clear O;go_wp2_with fail;go_ret;exact⟨by rw[H.out];rfl,U.out⟩
theorem Pr (n:Nat) (w:World) (hn:n<=1000000000):Calls prog 182 #[.slice none 0 0,.int .i64 n] w fun e w'=>∃A c,e = .returned (.slice A 0 c)/\Buf w' w.heap.size 5 A 0 c []/\Ext w w':=by
 have k0:¬ (n:Int)<0:=by omega
 rcases Nat.eq_zero_or_pos n with rfl | H
 ·go_in
  go_wp2_with fail;go_ret;exact⟨none,0,rfl,Buf.nil _ _ _,Ext.refl w⟩
 ·have T:(0:Int)<n:=by omega
  obtain⟨i,z,hi,I,h3,Z,G⟩:=Aw.hi;have b:=fun W ty=>Lib.run_append_nil_zeros (P:=prog) W 24 3 ty 5 i z .i64 .i64 underlying24 underlying3 hi I n H (by omega) (by omega) (by rw[Z];omega);have U:=grownCap_ge w n 0 5;obtain⟨cur,j⟩:=Ab (Builtin.zeroCells z.cells n++Builtin.zeroCells z.cells (grownCap w n 0 5 - n));have J:cur.size=grownCap w n 0 5:=by rw[j,Array.size_append,size_zeroCells,size_zeroCells,G];omega
  have p0:=fun W=>FN (n:=0) (c:=0) (k:=0) (A:=none) (Nat.le_refl _) nofun W;have O:=fun W=>FN (n:=n) (c:=grownCap w n 0 5) (k:=0) (A:=some ⟨w.heap.size,0,none⟩) (by omega) (fun a ha=>by cases ha;rfl) W;obtain⟨C,Y⟩:=Ab (grownCap w n 0 5);rw[<-Y]at U O;have h:=fun ty=>b w ty;rw[<-j,<-Y]at h;rw[<-Y]at J;replace h:=Aa h;clear b Y j G Z h3 I hi
  go_in
  go_wp2_with (at_builtin;refine Lib.wpList_append_run _ rfl (.tmp 20) (.tmp 21) 24 3 rfl (.slice none 0 0) (.int .i64 n) rfl rfl _ _ (h.out _) ?_);go_ret;refine⟨some ⟨w.heap.size,0,none⟩,C,rfl,⟨rfl,Nat.zero_le _,.inr ⟨w.heap.size,cur,rfl,Nat.le_refl _,heap_alloc_new w _,by omega,by simp⟩⟩,?_⟩;exact((Ext.refl w).alloc _).drew
def catL (ps:List (Option Addr×Nat×List UInt8)):List UInt8:=ps.flatMap fun p=>p.2.2
theorem Ij {ps:List (Option Addr×Nat×List UInt8)} (h:i<ps.length):catL (ps.take (i+1))=catL (ps.take i)++ps[i].2.2:=by
 unfold catL;rw[List.take_succ_eq_append_getElem h,List.flatMap_append];simp
theorem HT (ps:List (Option Addr×Nat×List UInt8)) (i:Nat):(catL (ps.take i)).length<=(catL ps).length:=by
 have h:catL ps=catL (ps.take i)++catL (ps.drop i):=by
  unfold catL;rw[<-List.flatMap_append,List.take_append_drop]
 rw[h,List.length_append];omega
theorem Lr (B:Option Addr) (k c2:Nat) (ps:List (Option Addr×Nat×List UInt8)) (w:World) (hk:k=ps.length) (hB:Cells w B (ps.map fun p=> .slice p.1 p.2.2.length p.2.1)) (h0:∀p∈ps,In8 w p.1 p.2.2.length p.2.1 p.2.2) (o0:(catL ps).length<=1000000000) (j1:k<=1000000) :
 Calls prog 140 #[.slice B k c2] w fun e w'=>NewB w (catL ps) e w':=by
 have b:=HT ps;obtain⟨T,hT⟩:=Ab ((catL ps).length);rw[<-hT]at o0 b;replace hk:=Aa hk;replace h0:=Aa h0;replace b:=Aa b;replace hT:=Aa hT
 go_in
 go_wp2_with fail
 go_loopw [3,5,11] (fun s3 _ s11 wr=>∃(i v:Nat),s11 = .int .i64 (i:Int)/\i<=k/\s3 = .int .i64 (v:Int)/\v<=T/\Hid (v=(catL (ps.take i)).length)/\wr=w) (fun _ _ s11 _=>k - (intOf s11).toNat)
 case atStart=>exact⟨0,0,rfl,by omega,rfl,by omega,Aa (by simp[catL]),rfl⟩
 case round =>
  obtain⟨i,v,rfl,hi,rfl,hv,c0,rfl⟩:=hrel;by_cases q1:i<k
  ·have U:i<ps.length:=by rw[<-hk.out];omega
   obtain⟨g,o,rfl,hc⟩:=hB.at_ (by rw[List.length_map];omega);have H:=hc i _ (by rw[List.getElem?_map,List.getElem?_eq_getElem U];rfl);have a:=Ij U;have g0:=b.out (i+1);obtain⟨p,hp⟩:=Ab (ps[i]);rw[<-hp]at H a;have J:v+p.2.2.length=(catL (ps.take (i+1))).length:=by rw[a,List.length_append,c0.out]
   have m0:v+p.2.2.length<=T:=by omega
   have x1:¬ ((v:Int)+(p.2.2.length:Int))<0:=by omega
   have n0:(0:Int)<=i:=by omega
   have hi1:(i:Int)<k:=by omega
   replace J:=Aa J;clear hp hc a g0;go_wp2_with fail;go_roundw
   case rel=>exact⟨i+1,v+p.2.2.length,by go_num,by omega,by go_num,m0,J,trivial⟩
   case measure=>simp[intOf];omega
  ·have O:ps.take i=ps:=List.take_of_length_le (by rw[<-hk.out];omega);have l0:=Aa (Pr v wr (by omega));rw[O]at c0;go_wp2_with fail;refine l0.out.mono ?_;rintro e w1 ⟨A1,c1,rfl,I,v0⟩;replace I:=Aa I;obtain⟨wo,p0⟩:=Ab wr;rw[<-p0]at v0 hB h0 I;have Y:∀e w',NewB wo (catL ps) e w'->NewB wr (catL ps) e w':=fun e w' h=>by rw[<-p0];exact h
   replace Y:=Aa Y;replace p0:=Aa p0;go_wp2_with fail
   go_loopw [6,8,27] (fun s6 _ s27 wz=>∃(i n4 c4:Nat) (A4:Option Addr),s27 = .int .i64 (i:Int)/\i<=k/\s6 = .slice A4 n4 c4/\n4<=T/\Hid (n4=(catL (ps.take i)).length)/\Hid (Buf wz wo.heap.size 5 A4 n4 c4 ((catL (ps.take i)).map B8))/\Hid (Ext wo wz)) (fun _ _ s27 _=>k - (intOf s27).toNat)
   case atStart=>exact⟨0,0,c1,A1,rfl,by omega,rfl,by omega,Aa (by simp[catL]),Aa (by simpa [catL]using I.out),Aa v0⟩
   case round =>
    obtain⟨j,n4,c4,A4,rfl,hj,rfl,m1,q0,j0,hE⟩:=hrel;by_cases k1:j<k
    ·have U:j<ps.length:=by rw[<-hk.out];omega
     obtain⟨g,o,rfl,hc⟩:=hB.at_ (by rw[List.length_map];omega);have H:=hE.out.cell (hc j _ (by rw[List.getElem?_map,List.getElem?_eq_getElem U];rfl));have a:=Ij U;have g0:=b.out (j+1);have k0:=(h0.out _ (List.getElem_mem U)).ext hE.out;obtain⟨p,hp⟩:=Ab (ps[j]);rw[<-hp]at H a k0;have J:n4+p.2.2.length=(catL (ps.take (j+1))).length:=by rw[a,List.length_append,q0.out]
     have m0:n4+p.2.2.length<=T:=by omega
     have G:(catL (ps.take (j+1))).map B8=(catL (ps.take j)).map B8++p.2.2.map B8:=by rw[a,List.map_append]
     have n0:(0:Int)<=j:=by omega
     have hi1:(j:Int)<k:=by omega
     have b0:wo.heap.size<=(‹World›).heap.size:=hE.out.size;replace J:=Aa J;replace G:=Aa G;clear hp hc a g0;go_wp2_with (at_builtin;refine Al Aw j0.out k0.bytes (.tmp 31) (.tmp 32) rfl rfl rfl rfl rfl (by rw[List.length_map]) (fun u hu=>by obtain⟨x,_,rfl⟩:=List.mem_map.1 hu;rfl) (by omega) b0 (fun A5 c5 w5 i0 r0 e0 _=>?_));refine⟨⟨j+1,n4+p.2.2.length,c5,A5,by go_num,by omega,rfl,m0,J,Aa (by rw[G.out];exact i0),Aa (e0 _ hE.out (Nat.le_refl _))⟩,?_⟩;simp[intOf];omega
    ·have O:ps.take j=ps:=List.take_of_length_le (by rw[<-hk.out];omega);rw[O]at q0 j0;have Z:∀wz,Ext wo wz->Buf wz wo.heap.size 5 A4 n4 c4 ((catL ps).map B8)->NewB wo (catL ps) (.returned (.slice A4 n4 c4)) wz:=fun wz h1 h2=>⟨A4,c4,by rw[<-q0.out],by rw[<-q0.out];exact h2,h1⟩
     replace Z:=Aa Z;go_wp2_with fail;go_ret;exact Y.out _ _ (Z.out _ hE.out j0.out)
def be4 (s:Nat):List UInt8:= [UInt8.ofNat (s / 16777216%256),UInt8.ofNat (s / 65536%256),UInt8.ofNat (s / 256%256),UInt8.ofNat (s%256)]
def be (l:List UInt8):Nat:=l.foldl (fun s x=>s*256+x.toNat) 0
theorem Rr {s:Nat} (h:s<4294967296):be (be4 s)=s:=by
 have h1:∀k,(UInt8.ofNat (k%256)).toNat=k%256:=fun k=>by rw[UInt8.toNat_ofNat'];omega
 unfold be be4;simp only[List.foldl_cons,List.foldl_nil,h1];omega
theorem Nq (h:x<4294967296):cnot (cnot x)=x:=by unfold cnot;omega
theorem Io (a b:List UInt8):cnext (cnext 0 a) b=cnext 0 (a++b):=by
 unfold cnext;rw[Nq (MX a (by unfold cnot;omega)),List.foldl_append]
def frameL (p:List UInt8):List UInt8:=vb p.length++be4 (cnext 0 (vb p.length++p))++p
def getF (l:List UInt8):Except Nat (List UInt8×List UInt8):=match getV 0 l with
 | .error k=>if k=6 then .error 41 else .error 40
 | .ok (n,r)=>if 16777216<n then .error 40 else if r.length<4+n then .error 41 else
  if cnext 0 (l.take (l.length - r.length)++(r.drop 4).take n)=be (r.take 4) then .ok ((r.drop 4).take n,r.drop (4+n)) else .error 40
theorem Pn (h:p.length<=16777216) (r:List UInt8):getF (frameL p++r) = .ok (p,r):=by
 have H:∀s,(be4 s).length=4:=fun _=>rfl;unfold getF frameL;rw[List.append_assoc,List.append_assoc,BD (by omega)];simp only;rw[if_neg (by omega),if_neg (by rw[List.length_append,List.length_append,H];omega)];obtain⟨B,b⟩:=Ab (be4 (cnext 0 (vb p.length++p)));have j:B.length=4:=by rw[b];rfl
 have a:be B=cnext 0 (vb p.length++p):=by rw[b];exact Rr (EP _ _)
 rw[<-b];have e1:(vb p.length++(B++(p++r))).length - (B++(p++r)).length=(vb p.length).length:=by rw[List.length_append];omega
 have e2:(B++(p++r)).drop 4=p++r:=List.drop_left' j;have e3:(B++(p++r)).take 4=B:=List.take_left' j;have e4:(B++(p++r)).drop (4+p.length)=r:=by rw[<-List.drop_drop,e2];exact List.drop_left' rfl
 rw[e1,e2,e3,e4,List.take_left' rfl,List.take_left' rfl,a,if_pos rfl]
theorem Eu:∀(l:List UInt8) (i n:Nat) (r r':List UInt8),getV i l = .ok (n,r)->∃p,l=p++r/\getV i (p++r') = .ok (n,r')
 | [],i,n,r,r',h=>by unfold getV at h;cases h
 | x::l,i,n,r,r',h=>by
  unfold getV at h;split at h
  ·cases h
  ·rename_i h1;split at h
   ·cases h
   ·rename_i h2;split at h
    ·rename_i j;injection h with h;injection h with e1 e2;refine⟨[x],by rw[<-e2];rfl,?_⟩;show getV i (x::r')=_;unfold getV;rw[if_neg h1,if_neg h2,if_pos j,e1]
    ·rename_i j;split at h
     ·rename_i m r1 b;injection h with h;injection h with e1 e2;obtain⟨p,a,H⟩:=Eu l (i+1) m r1 r' b;refine⟨x::p,by rw[a,<-e2];rfl,?_⟩;show getV i (x::(p++r'))=_;unfold getV;rw[if_neg h1,if_neg h2,if_neg j,H];simp only;rw[e1]
     ·cases h
theorem LH (h:getF l = .ok (p,r)) (r':List UInt8):∃f,l=f++r/\f ≠ []/\getF (f++r') = .ok (p,r'):=by
 unfold getF at h;split at h
 ·split at h <;> cases h
 ·rename_i n r0 U;split at h
  ·cases h
  ·rename_i h1;split at h
   ·cases h
   ·rename_i h2;split at h
    ·rename_i J;injection h with h;injection h with e1 e2;obtain⟨v,a,O⟩:=Eu l 0 n r0 (r0.take (4+n)++r') U;have Y:v ≠ []:=by
      obtain⟨_,_,q,b,H⟩:=Ck l 0 n r0 U;rw[a]at b;rw[List.append_cancel_right b];exact H
     refine⟨v++r0.take (4+n),by rw[a,<-e2,List.append_assoc,List.take_append_drop],by simp[Y],?_⟩;unfold getF;rw[List.append_assoc,O];simp only;have j:(r0.take (4+n)).length=4+n:=by rw[List.length_take];omega
     rw[if_neg h1,if_neg (by rw[List.length_append,j];omega)];have e3:(v++(r0.take (4+n)++r')).length - (r0.take (4+n)++r').length=v.length:=by rw[List.length_append];omega
     have e4:l.length - r0.length=v.length:=by rw[a,List.length_append];omega
     have e5:((r0.take (4+n)++r').drop 4).take n=(r0.drop 4).take n:=by
      rw[List.drop_append_of_le_length (by omega),List.take_append_of_le_length (by rw[List.length_drop];omega),List.drop_take,List.take_take];congr 1;omega
     have e6:(r0.take (4+n)++r').take 4=r0.take 4:=by
      rw[List.take_append_of_le_length (by omega),List.take_take];congr 1;omega
     have e7:(r0.take (4+n)++r').drop (4+n)=r':=List.drop_left' j;rw[e4,a,List.take_left' rfl]at J;rw[e3,List.take_left' rfl,e5,e6,e7,if_pos J,e1]
    ·cases h
theorem C1 (h:getF l = .ok (p,r)):r.length<l.length/\p.length<=16777216/\p.length<=l.length:=by
 obtain⟨f,a,j,_⟩:=LH h [];have b:=List.length_pos_iff.2 j;refine⟨by rw[a,List.length_append];omega,?_⟩;unfold getF at h;split at h
 ·split at h <;> cases h
 ·rename_i n r0 H;obtain⟨_,_,q,Y,_⟩:=Ck l 0 n r0 H;split at h
  ·cases h
  ·split at h
   ·cases h
   ·split at h
    ·injection h with h;injection h with e1 e2;rw[<-e1,List.length_take,List.length_drop,Y,List.length_append];omega
    ·cases h
theorem NQ (h:getF l = .error k):k=40\/k=41:=by
 unfold getF at h;split at h
 ·split at h <;> (injection h with h;omega)
 ·split at h
  ·injection h with h;omega
  ·split at h
   ·injection h with h;omega
   ·split at h
    ·cases h
    ·injection h with h;omega
theorem JH (k:Nat):B8 (UInt8.ofNat (k%256)) = .int .u8 ((k%256:Nat):Int):=by
 unfold B8;rw[UInt8.toNat_ofNat'];congr 2;omega
theorem OZ {s:Nat} (h:s<4294967296) : [.int .u8 ((s:Int) / 16777216),.int .u8 ((s:Int) / 65536%256),.int .u8 ((s:Int) / 256%256),.int .u8 ((s:Int)%256)]=(be4 s).map B8:=by
 unfold be4;rw[List.map_cons,List.map_cons,List.map_cons,List.map_cons,List.map_nil,JH,JH,JH,JH];congr 2
 ·omega
theorem Dg (h:m<18446744073709551616):IntKind.u64.wrap (m:Int)=(m:Int):=by
 simp[IntKind.wrap,IntKind.bits,IntKind.signed];omega
def PutP (w:World) (l:List UInt8) (e:Ending) (w':World):Prop:=∃A c,e = .returned (.tuple #[.slice A l.length c,.int .i64 0])/\Buf w' w.heap.size 5 A l.length c (l.map B8)/\Ext w w'
theorem Ph (A:Option Addr) (n c:Nat) (l:List UInt8) (B:Option Addr) (m d:Nat) (p:List UInt8) (w:World) (hl:In8 w A n c l) (hp:In8 w B m d p) (hn:n<=900000000) (hm:m<=16777216) :
 Calls prog 87 #[.slice A n c,.slice B m d] w fun e w'=>PutP w (l++frameL p) e w':=by
 have e0:=Aa (Cm none 0 0 m [] w rfl (.inl rfl) (fun _=>rfl) (by omega) (by omega));have j:=hp.len;have U:=hl.len;have r0:=Ag (n:=m) (by omega);have m1:=Dg (m:=m) (by omega);have j1:¬ (16777216:Int)<m:=by omega
 obtain⟨V,hV⟩:=Ab (vb m);rw[List.nil_append,<-hV]at e0;rw[<-hV]at r0;have m0:l++frameL p=l++(V++(be4 (cnext 0 (V++p))++p)):=by unfold frameL;rw[<-j,<-hV,List.append_assoc]
 have d0:=EP 0 (V++p);have g0:csum 0 [V,p]=cnext 0 (V++p):=Io V p;obtain⟨s,hs⟩:=Ab (cnext 0 (V++p));rw[<-hs]at m0 d0 g0;rw[m0];obtain⟨R,hR⟩:=Ab (l++(V++(be4 s++p)));rw[<-hR];replace hR:=Aa hR;have k0:=OZ d0;replace j:=Aa j;replace U:=Aa U;replace hV:=Aa hV;clear hs m0
 go_in
 go_wp2_with fail;refine e0.out.mono ?_;rintro e w1 ⟨A1,c1,rfl,c0,v0⟩;have a:=c0.in8;obtain⟨w2,O⟩:=Ab (w1.alloc (.cells #[.slice A1 V.length c1,.slice B m d] 24));have G:Ext w1 w2:=by rw[O];exact(Ext.refl w1).alloc _
 have f0:Row w2 w1.heap.size 24 #[.slice A1 V.length c1,.slice B m d]:=by rw[O];exact Row.new w1 _ _
 have h0:=Ng (some ⟨w1.heap.size,0,none⟩) 2 2 [(A1,c1,V),(B,d,p)] w2 rfl (.inr ⟨w1.heap.size,0,rfl,fun i v hv=>by
  rw[Nat.zero_add];exact f0.cell i (by rw[j.out];simpa using hv)⟩) (fun q Z=>by
  rcases List.mem_cons.1 Z with rfl | Z
  ·exact a.ext G
  ·rw[List.mem_singleton.1 Z];have:=(hp.ext v0).ext G;rw[j.out]at this;exact this) (fun q Z=>by
  rcases List.mem_cons.1 Z with rfl | Z
  ·simp only;omega
  ·rw[List.mem_singleton.1 Z];simp only;have:=j.out;omega) (by omega)
 rw[show ([(A1,c1,V),(B,d,p)].map fun p:Option Addr×Nat×List UInt8=>p.2.2) = [V,p] from rfl,g0]at h0;replace h0:=Aa h0;replace O:=Aa O;replace k0:=Aa k0;replace a:=Aa a;clear c0 g0 f0;go_wp2_with fail;rw[<-O.out];refine h0.out.mono ?_;rintro e w3 ⟨rfl,x0⟩;go_wp2_with fail;obtain⟨g,hg⟩:=Ab w3.heap.size;obtain⟨w4,T⟩:=Ab (w3.alloc (.cells #[.int .u8 ((s:Int) / 16777216),.int .u8 ((s:Int) / 65536%256),.int .u8 ((s:Int) / 256%256),.int .u8 ((s:Int)%256)] 5));have I:Ext w3 w4:=by rw[T];exact(Ext.refl w3).alloc _
 have hb:Buf w4 g 5 (some ⟨g,0,none⟩) 4 4 ((be4 s).map B8):=by
  have h:=EO w3 [.int .u8 ((s:Int) / 16777216),.int .u8 ((s:Int) / 65536%256),.int .u8 ((s:Int) / 256%256),.int .u8 ((s:Int)%256)] 5 (by simp);rw[T,hg,<-k0.out];exact h
 have l0:w4.heap.size=g+1:=by rw[T,hg];simp
 obtain⟨w5,q0⟩:=Ab (w4.alloc (.cells #[.slice A n c,.slice A1 V.length c1,.slice (some ⟨g,0,none⟩) 4 4,.slice B m d] 24));have H:Ext w4 w5:=by rw[q0];exact(Ext.refl w4).alloc _
 have i0:Row w5 (g+1) 24 #[.slice A n c,.slice A1 V.length c1,.slice (some ⟨g,0,none⟩) 4 4,.slice B m d]:=by rw[q0,<-l0];exact Row.new w4 _ _
 have Y:=((v0.trans G).trans x0)
 have J:=Lr (some ⟨g+1,0,none⟩) 4 4 [(A,c,l),(A1,c1,V),(some ⟨g,0,none⟩,4,be4 s),(B,d,p)] w5 rfl (.inr ⟨g+1,0,rfl,fun i v hv=>by
  rw[Nat.zero_add];refine i0.cell i ?_;have e4:(be4 s).length=4:=rfl;rw[j.out,U.out];simpa [e4]using hv⟩) (fun q Z=>by
  have e4:(be4 s).length=4:=rfl;simp only[List.mem_cons,List.not_mem_nil,or_false]at Z;rcases Z with rfl | rfl | rfl | rfl
  ·have:=(hl.ext Y).ext (I.trans H);rw[U.out]at this;exact this
  ·exact a.out.ext ((G.trans x0).trans (I.trans H))
  ·exact hb.in8.ext H
  ·have:=(hp.ext Y).ext (I.trans H);rw[j.out]at this;exact this) (by
  have e4:(be4 s).length=4:=rfl;unfold catL;simp only[List.flatMap_cons,List.flatMap_nil,List.length_append,List.length_nil,e4];have:=j.out;have:=U.out;omega) (by omega)
 have p0:catL [(A,c,l),(A1,c1,V),(some ⟨g,0,none⟩,4,be4 s),(B,d,p)]=l++(V++(be4 s++p)):=by unfold catL;simp
 rw[p0]at J;rw[<-hR.out]at J;have b:=Y.trans (I.trans H);rw[q0,T,hg]at J b;replace b:=Aa b;refine J.mono ?_;rintro e w6 ⟨A6,c6,rfl,j0,y0⟩;replace j0:=Aa (j0.lower b.out.size);have t0:=Aa (b.out.trans y0);clear y0 J p0 T q0 l0 hg i0 hb;go_wp2_with fail;go_ret2;exact⟨A6,c6,rfl,j0.out,t0.out⟩
theorem RU:Elem prog 43 3 1 8:=⟨underlying43,⟨_,_,rfl,rfl,rfl,rfl,rfl⟩,by omega,by omega⟩
theorem BK:∀(l:List UInt8) (i k:Nat),getV i l = .error k->0<k
 | [],i,k,h=>by unfold getV at h;cases h;omega
 | x::l,i,k,h=>by
  unfold getV at h;split at h
  ·cases h;omega
  ·split at h
   ·cases h;omega
   ·split at h
    ·cases h
    ·split at h
     ·cases h
     ·rename_i e j;cases h;exact BK l (i+1) k j
def GotI (w0 w:World) (res:Except Nat (Nat×List UInt8)) (e:Ending) (w':World):Prop:=Ext w w'/\match res with
 | .ok (v,r)=>∃A c,e = .returned (.tuple #[.int .i64 (unzig v),.slice A r.length c,.int .i64 0])/\In8 w0 A r.length c r
 | .error k=>e = .returned (.tuple #[.int .i64 0,.slice none 0 0,.int .i64 k])
theorem LJ (A:Option Addr) (n c:Nat) (l:List UInt8) (w0 w:World) (h:In8 w0 A n c l) (hw:Ext w0 w) (O:n<=1000000000) :
 Calls prog 146 #[.slice A n c] w fun e w'=>GotI w0 w (getV 0 l) e w':=by
 have a:=Cl A n c l w0 w h hw O;cases Y:getV 0 l with
 | error k =>
  rw[Y]at a;have hk:=BK l 0 k Y;have h0:((k:Int) != 0)=true:=by simp;omega
  replace a:=Aa a;clear h Y hk
  go_in
  go_wp2_with fail;refine a.out.mono ?_;rintro e w1 ⟨b,rfl⟩;go_wp2_with fail;go_ret3;exact⟨b,rfl⟩
 | ok p =>
  obtain⟨v,r⟩:=p;have hv:=Ct Y;rw[Y]at a;replace a:=Aa a;have U:bits .and .u64 (v:Int) 1=((v%2:Nat):Int):=by
   rw[show (1:Int)=((1:Nat):Int)from rfl,u64_and_nat _ _ hv (by omega),Nat.and_one_is_mod]
  obtain⟨q,T⟩:=Ab (v%2);obtain⟨d,hd⟩:=Ab (v / 2);have Z:=i64_not d (by omega);have I:(v:Int) / 2=(d:Int):=by omega
  rw[<-T]at U;have J:unzig v=if q=0 then (d:Int) else -1 - (d:Int):=by unfold unzig;rw[<-T,<-hd]
  have q0:q<=1:=by omega
  have G:d<9223372036854775808:=by omega
  replace J:=Aa J;clear T hd h Y;rcases (show q=0\/q=1 by omega)with rfl | rfl
  ·have j:unzig v=d:=J.out;replace j:=Aa j;clear J
   go_in
   go_wp2_with fail;refine a.out.mono ?_;rintro e w1 ⟨b,A1,c1,rfl,H⟩;go_wp2_with fail;go_ret3;exact⟨b,A1,c1,by rw[j.out];rfl,H⟩
  ·have j:unzig v = -1 - (d:Int):=J.out;replace j:=Aa j;clear J
   go_in
   go_wp2_with fail;refine a.out.mono ?_;rintro e w1 ⟨b,A1,c1,rfl,H⟩;go_wp2_with fail;go_ret3;exact⟨b,A1,c1,by rw[j.out];rfl,H⟩
theorem Gl (l:List UInt8):Lib.strCells ⟨l.toArray⟩=l.map B8:=rfl
theorem KN (w:World) (ty:TypeId) {base:Nat} (hb:Buf w base 5 A n c xs) (s:List UInt8) (b0:n+s.length<=4294967296) (H:base<=w.heap.size) :
 ∃A1 c1 w',(Builtin.append_ #[24,9] ty #[.slice A n c,.string ⟨s.toArray⟩]).run prog w = .ok (.slice A1 (n+s.length) c1) w'/\Buf w' base 5 A1 (n+s.length) c1 (xs++s.map B8)/\w.grownBy w' (Value.slice A n c).ownBlock /\
  (A1=A\/A1=some ⟨w.heap.size,0,none⟩):=by
 obtain⟨i,z,hi,hz,h3,h4,h5⟩:=Aw.hi;have G:i.zero=some (.int .u8 0):=by
  obtain⟨j,I,g0⟩:∃j,prog.info? 5=some j/\j.zero=some (.int .u8 0):=⟨_,rfl,rfl⟩
  rw[hi]at I;injection I with I;rw[I];exact g0
 have ht:=underlying24;have hu:=underlying9;have a:(⟨s.toArray⟩:ByteArray).size=s.length:=ByteArray.size_mk_toArray s;obtain⟨hx,y0,hA⟩:=hb;rcases hA with ⟨rfl,rfl⟩ | ⟨g,cur,rfl,k0,hg,hs,Z⟩
 ·obtain rfl:n=0:=by omega
  obtain rfl:xs = []:=List.eq_nil_of_length_eq_zero hx;by_cases T:s = []
  ·subst T;refine⟨none,0,w,?_,⟨rfl,Nat.le_refl _,.inl ⟨rfl,rfl⟩⟩,World.grownBy.refl w _,.inl rfl⟩;have hf:=Lib.run_firstCells_string (P:=prog) (w:=w) 1 ⟨#[]⟩;rw[show (ByteArray.mk #[]).size=0 from rfl]at hf;have e0:(ByteArray.mk #[]).size=0:=rfl;simp[Builtin.append_,run_underlying ht,run_underlying hu,sizeOf,typeInfo,hi,h3,Builtin.lenOf,e0,hf]
  ·have hl:0<s.length:=List.length_pos_iff.2 T;have J:=run_append_nil_string (P:=prog) w 24 9 ty 5 i (.int .u8 0) ht hu hi G ⟨s.toArray⟩ (by omega) (by omega) (by rw[h4,a];omega);have U:=grownCap_ge w s.length 0 5;rw[a]at J;refine⟨_,_,_,by rw[J,Nat.zero_add],⟨by simp,by rw[Nat.zero_add];exact U,.inr ⟨w.heap.size,_,rfl,H,heap_alloc_new w.drew _,?_,?_⟩⟩,?_,.inr rfl⟩
   ·simp only[Array.size_append,size_zeroCells];simp[Value.cells];omega
   ·simp only[Array.toList_append];rw[Nat.zero_add,List.take_append_of_le_length (by simp),List.take_of_length_le (by simp)];simp;exact fun b _=>rfl
   ·exact(Ext.refl w |>.drew.alloc _) |> fun h=>⟨Below.os h,Below.tape h,Below.output h,Below.size h,fun k hk _=>Below.block h k hk⟩
 ·by_cases Y:n+s.length<=c
  ·have J:=Lib.run_append_room_string (P:=prog) (w:=w) 24 9 ty 5 i ht hu hi h3 g n c cur hg ⟨s.toArray⟩ (by rw[a];exact Y) (by rw[a];omega);rw[a,Gl]at J;refine⟨some ⟨g,0,none⟩,c,_,J,⟨by rw[List.length_append,List.length_map];omega,Y,.inr ⟨g,_,rfl,k0,setRow_heap w g cur _ 5 (0,0) hg,?_,?_⟩⟩,EW w g _,.inl rfl⟩
   ·simp;omega
   ·simp only;rw[Z];rw[List.take_append_of_le_length (by rw[List.length_append,List.length_map];omega),List.take_of_length_le (by rw[List.length_append,List.length_map];omega)]
  ·have U:=grownCap_ge w (n+s.length) c 5;have x0:=nextslicecap_le (need:=n+s.length) (old:=c) (by omega);have O:∀(j:Nat) (v:Value),xs[j]? = some v->w.cell? (Addr.add ⟨g,0,none⟩ j)=some v:=by
    intro j v hv;rw[Addr.add_lit,Nat.zero_add,cell_of_row w g j cur 5 (0,0) hg];rw[<-Z,List.getElem?_take]at hv;split at hv
    ·simpa using hv
    ·cases hv
   have J:=Lib.run_append_grow_string (P:=prog) (w:=w) 24 9 ty 5 i (.int .u8 0) ht hu hi G ⟨g,0,none⟩ n c xs (by rw[h3];omega) O ⟨s.toArray⟩ (by rw[a];omega) (by rw[a];omega) (by rw[a,h4];omega);rw[a,Gl]at J;refine⟨some ⟨w.heap.size,0,none⟩,grownCap w (n+s.length) c 5,_,J,⟨by rw[List.length_append,List.length_map];omega,U,.inr ⟨w.heap.size,_,rfl,H,heap_alloc_new w.drew _,?_,?_⟩⟩,?_,.inr rfl⟩
   ·simp only[Array.size_append,List.size_toArray,size_zeroCells,List.length_map];simp[Value.cells];omega
   ·simp only[Array.toList_append];rw[List.take_append_of_le_length (by simp;omega),List.take_of_length_le (by simp;omega)]
   ·exact(Ext.refl w |>.drew.alloc _) |> fun h=>⟨Below.os h,Below.tape h,Below.output h,Below.size h,fun k hk _=>Below.block h k hk⟩
theorem D0 {rest:List Oper} {a:Act} {base:Nat} (hb:Buf w base 5 A n c xs) (x y:Operand)
 (G:o.op = .call { callee:= .builtin .append,args:=#[x,y],argTypes:=#[24,9] }) (J:o.guard=none) (I:a.eval x = .slice A n c) (hy:a.eval y = .string ⟨s.toArray⟩) (U:n+s.length<=4294967296) (j:base<=w.heap.size)
 (h:∀A1 c1 w',Buf w' base 5 A1 (n+s.length) c1 (xs++s.map B8)->w.grownBy w' (Value.slice A n c).ownBlock->(∀w0,Ext w0 w->w0.heap.size<=base->Ext w0 w')->wpList prog ops Q rest (a.put o.dst (.slice A1 (n+s.length) c1)) w'):wpList prog ops Q (o::rest) a w :=
 wpList_plain J fun K Z=>by
  obtain⟨A1,c1,w',H,h2,O,_⟩:=KN w o.type hb s U j;unfold Oper.wp execOp;simp only[G,resolve,invoke,builtin,Sem.run_bind,Sem.run_pure,Result.andThen_ok,List.map_toArray,List.map_cons,List.map_nil,I,hy,H];refine Z _ _ (h A1 c1 w' h2 O (fun w0 T hw=>T.grown O fun k hk=>?_));have Y:=hb.base_le;cases A with
  | none=>simp[Value.ownBlock]at hk
  | some b =>
   have:=Y b rfl;simp[Value.ownBlock]at hk;omega
theorem Eg (ts:Array TypeId) (ty:TypeId) {x y m:Int} (h:m=max x y) (W:World):(Builtin.max_ ts ty #[.int .i64 x,.int .i64 y]).run P W = .ok (.int .i64 m) W:=by
 simp only[Builtin.max_,List.foldlM,Builtin.max2,Sem.run_bind,Sem.run_pure,Result.andThen_ok];subst h;congr 2;split <;> omega
def GotT (w0 w:World) (res:Except Nat (List UInt8×List UInt8)) (e:Ending) (w':World):Prop:=Ext w w'/\match res with
 | .ok (s,r)=>∃A c,e = .returned (.tuple #[.string ⟨s.toArray⟩,.slice A r.length c,.int .i64 0])/\In8 w0 A r.length c r
 | .error k=>e = .returned (.tuple #[.string ⟨#[]⟩,.slice none 0 0,.int .i64 k])
theorem DR (A:Option Addr) (n c:Nat) (l s:List UInt8) (w:World) (hn:n=l.length) (T:Bs w A l) (G:A=none->c=0) (U:n<=1000000000) (hs:s.length<=1000000000) :
 Calls prog 138 #[.slice A n c,.string ⟨s.toArray⟩] w fun e w'=>NewB w (l++txL s) e w':=by
 have Z:=Aa (Cm A n c s.length l w hn T G U (by omega));have b:=Co (n:=s.length) (by omega);have j:l++txL s=(l++vb s.length)++s:=by unfold txL;simp
 rw[j];obtain⟨L,H⟩:=Ab (l++vb s.length);have I:L.length<=1000000010:=by rw[H,List.length_append];omega
 rw[<-H]at Z ⊢;clear H j T G hn b
 go_in
 go_wp2_with fail;refine Z.out.mono ?_;rintro e w1 ⟨A1,c1,rfl,Y,h⟩;have O:=h.size;go_wp2_with (at_builtin;refine D0 Y (.tmp 9) (.tmp 10) rfl rfl rfl rfl (by omega) O (fun A2 c2 w2 J h0 a=>?_));go_ret;exact⟨A2,c2,Cy (by rw[List.length_append]),by rw[List.length_append,List.map_append];exact J,a _ h (Nat.le_refl _)⟩
theorem DG (A:Option Addr) (n c most:Nat) (l:List UInt8) (w0 w:World) (h:In8 w0 A n c l) (hw:Ext w0 w) (T:n<=1000000000) (hm:most<=1000000000) :
 Calls prog 147 #[.slice A n c,.int .i64 most] w fun e w'=>GotT w0 w (getT most l) e w':=by
 have b:=Cl A n c l w0 w h hw T;have I:=Eg (P:=prog) #[3,3] 3 (x:=0) (y:=(most:Int)) (m:=(most:Int)) (by omega);unfold getT;cases a:getV 0 l with
 | error k =>
  rw[a]at b;have hk:=BK l 0 k a;have j0:((k:Int) != 0)=true:=by simp;omega
  replace b:=Aa b;clear h a hk
  go_in
  go_wp2_with fail;refine b.out.mono ?_;rintro e w1 ⟨j,rfl⟩;go_wp2_with fail;go_ret3;exact⟨j,rfl⟩
 | ok p =>
  obtain⟨v,r⟩:=p;have hv:=Ct a;have m0:r.length<=1000000000:=by
   obtain⟨_,_,q,hq,_⟩:=Ck l 0 v r a;have:=h.len;rw[hq,List.length_append]at this;omega
  rw[a]at b;replace b:=Aa b;simp only;by_cases h1:most<v
  ·rw[if_pos h1];have J:(most:Int)<v:=by omega
   clear h a
   go_in
   go_wp2_with fail;refine b.out.mono ?_;rintro e w1 ⟨j,A1,c1,rfl,hi1⟩;go_wp2_with fail;go_ret3;exact⟨j,rfl⟩
  ·rw[if_neg h1];have J:¬ (most:Int)<v:=by omega
   by_cases h2:r.length<v
   ·rw[if_pos h2];have U:(r.length:Int)<v:=by omega
    clear h a
    go_in
    go_wp2_with fail;refine b.out.mono ?_;rintro e w1 ⟨j,A1,c1,rfl,hi1⟩;go_wp2_with fail;go_ret3;exact⟨j,rfl⟩
   ·rw[if_neg h2];have U:¬ (r.length:Int)<v:=by omega
    clear h a
    go_in
    go_wp2_with fail;refine b.out.mono ?_;rintro e w1 ⟨j,A1,c1,rfl,hi1⟩;obtain⟨k0,H⟩:=hi1.headk .u64 (k:=v) (by omega) (z:=(v:Int)) rfl;obtain⟨A2,c2,G,Y⟩:=hi1.fromk .u64 (fr:=v) (by omega) (z:=(v:Int)) rfl;have Z:∀W,Ext w0 W->(convert 24 9 (.slice A1 v c1)).run prog W = .ok (.string ⟨(r.take v).toArray⟩) W:=fun W hW=>CT (H.bytes.ext hW) v c1 H.len;have h0:=Z _ (hw.trans j).drew;have hlen:(r.drop v).length=r.length - v:=List.length_drop;obtain⟨R,O⟩:=Ab (r.length - v);rw[<-O]at G Y hlen;replace hlen:=Aa hlen;replace O:=Aa O;clear H;go_wp2_with fail;refine AE (fun K hK=>?_);go_wp2_with fail;refine⟨by kernel_rfl,?_⟩;go_wp2_with fail;go_ret3;exact⟨j.drew,A2,c2,by rw[hlen.out];rfl,by rw[hlen.out];exact Y⟩
theorem Ei {α:Type} {xs:List α} {x:α} (h:xs[i]? = some x):xs.take (i+1)=xs.take i ++ [x]:=by
 obtain⟨hi,rfl⟩:=List.getElem?_eq_some_iff.1 h;exact List.take_succ_eq_append_getElem hi
theorem I7:∀ {fs:List Fd},(∀f∈fs,f.1.length<=32/\f.2.length<=4096)->sizeFs fs<=5000*fs.length
 | [],_=>by simp[sizeFs]
 | f::fs,h=>by
  have h1:=I7 (fs:=fs) fun x b=>h x (by simp[b]);have a:=h f (by simp);have j:sizeFs (f::fs)=f.1.length+f.2.length+sizeFs fs:=by unfold sizeFs;rw[List.map_cons,List.sum_cons];rfl
  rw[j,List.length_cons];omega
end
end Go.Proofs.YtfifdilapbeiiaaGreat
