/- Texts of one proof, joined. -/
import Derived.Test.YtpnlihgcboepeaaGreatPN02
import Derived.Lib.AppendZeros
import Derived.Laws.DeepNot64
import Derived.Lib.AppendStr
import Derived.Laws.StructEq
import Derived.Deep.RegionHeld3
set_option linter.unusedSimpArgs false
set_option linter.unusedVariables false
set_option maxRecDepth 100000
set_option maxHeartbeats 16000000
namespace Go.Proofs.YtpnlihgcboepeaaGreat
open _root_.Go.Proofs.Tryz
variable {a:Act} {ops:Array Oper} {Q:Exit → Act → World → Prop} {z z0:Int} {l p pre r s:List UInt8} {xs:List Value} {base c fr i k m n x:Nat} {o:Oper} {A:Option Addr} {P:Program} {e:TypeId} {w w' w0 w1:World}
section
theorem Bp {n:Int}:∀ {l:List Int} {lo:Int} (k:Nat),risB n lo l=true->risB n lo (l.take k)=true
 | [],lo,k,h=>by rw[List.take_nil];exact h
 | x::t,lo,0,h=>rfl
 | x::t,lo,k+1,h=>by
  unfold risB at h;rw[Bool.and_eq_true,Bool.and_eq_true]at h;rw[List.take_succ_cons,risB,h.1.1,h.1.2,Bp k h.2];rfl
theorem FK {n:Int}:∀ {l:List Po} {lo:Int} (k:Nat),risB n lo (l.map (·.1))=true->risB n (lastPo lo (l.take k)) ((l.drop k).map (·.1))=true
 | [],lo,k,h=>by rw[List.drop_nil,List.take_nil];exact h
 | x::t,lo,0,h=>h
 | x::t,lo,k+1,h=>by
  rw[List.map_cons,risB,Bool.and_eq_true,Bool.and_eq_true]at h;exact FK k h.2
theorem Cw {n:Int}:∀ {l:List Po} {lo:Int},risB n lo (l.map (·.1))=true->lo<n->lo<=lastPo lo l/\lastPo lo l<n
 | [],lo,_,h=>⟨Int.le_refl _,h⟩
 | x::t,lo,h,_=>by
  rw[List.map_cons,risB,Bool.and_eq_true,Bool.and_eq_true]at h;have h1:=of_decide_eq_true h.1.1;have h2:=of_decide_eq_true h.1.2;have:=Cw h.2 h2;exact⟨by show lo<=lastPo x.1 t;omega,this.2⟩
theorem TN:∀(bs:List (List Po)) (lo:Int),(∀k:Nat,lastPo lo ((bs.take k).flatMap id)<9223372036854775808/\(blockPo lo ((bs.take k).flatMap id)).length<9223372036854775808)->(headPo lo bs).length<=20*bs.length
 | [],lo,_=>by simp[headPo]
 | b::bs,lo,h=>by
  have h1:=h 1;rw[List.take_succ_cons,List.take_zero,List.flatMap_cons,List.flatMap_nil,List.append_nil]at h1;have H:=Ag (n:=(lastPo lo b).toNat) (by have:=h1.1;simp only[id]at this;omega);have d:=Ag (n:=(blockPo lo b).length) (by have:=h1.2;simp only[id]at this;omega);have ih:=TN bs (lastPo lo b) fun k=>by
   have:=h (k+1);rw[List.take_succ_cons,List.flatMap_cons,CD,Be,List.length_append]at this;exact⟨this.1,by simp only[id]at this ⊢;omega⟩
  show (vb _++vb _++headPo _ bs).length<=_;rw[List.length_append,List.length_append,List.length_cons];omega
theorem FR:∀(l:List Int) (lo:Int),l.length<=(stepsL lo l).length
 | [],lo=>by simp
 | x::t,lo=>by
  show _<=(vb _++stepsL x t).length;have:=FR t x;have:=Qi (x - lo - 1).toNat;rw[List.length_append,List.length_cons];omega
structure PoRound (P:List Po) (r:Nat) (bP:List Po) (lst:Int):Prop where
  part:bP=(P.drop (r*32)).take 32
  lo : -1<=lst
  hi:lst<65536
  ris:risB 65536 lst (bP.map (·.1))=true
  pos:∀p∈bP,okPo p=true
  hi2 : -1<=lastPo lst bP/\lastPo lst bP<65536
  ne:0<=lastPo lst bP
  head:headPo (-1) ((chunkL 32 P).take (r+1))=headPo (-1) ((chunkL 32 P).take r)++(vb (lastPo lst bP).toNat++vb (blockPo lst bP).length)
  body:blockPo (-1) (P.take ((r+1)*32))=blockPo (-1) (P.take (r*32))++blockPo lst bP
  last:lastPo (-1) (P.take (r*32))=lst
  last2:lastPo (-1) (P.take ((r+1)*32))=lastPo lst bP
  len:(blockPo (-1) (P.take (r*32))).length+(blockPo lst bP).length<=(blockPo (-1) P).length
  hlen:(headPo (-1) ((chunkL 32 P).take r)).length<=20*r
theorem DO (P:List Po) (k:Nat):(blockPo (-1) (P.take k)).length<=(blockPo (-1) P).length:=by
 conv=>rhs;rw[<-List.take_append_drop k P,Be,List.length_append]
 omega
theorem E8 {P:List Po} (h:okPs P=true) (d:(blockPo (-1) P).length<=50000000) (r:Nat):(headPo (-1) ((chunkL 32 P).take r)).length<=20*r:=by
 rw[Ed,Bool.and_eq_true]at h;refine Nat.le_trans (TN _ _ fun k=>?_) (Nat.mul_le_mul_left _ (List.length_take_le _ _));rw[List.take_take,BF (by omega)];have h1:=(Cw (l:=P.take (min k r*32)) (lo:= -1) (n:=65536) (by rw[List.map_take];exact Bp _ h.1) (by omega)).2;have h2:=DO P (min k r*32);omega
theorem Hb {P:List Po} (d:okPs P=true) (G:(blockPo (-1) P).length<=50000000) {r:Nat} (hr:r*32<P.length):PoRound P r ((P.drop (r*32)).take 32) (lastPo (-1) (P.take (r*32))):=by
 have J:=d;rw[Ed,Bool.and_eq_true]at d;obtain⟨h1,h2⟩:=d;have Y:=Cw (l:=P.take (r*32)) (lo:= -1) (n:=65536) (by rw[List.map_take];exact Bp _ h1) (by omega);have Z:=FK (r*32) h1;have h:risB 65536 (lastPo (-1) (P.take (r*32))) (((P.drop (r*32)).take 32).map (·.1))=true:=by rw[List.map_take];exact Bp _ Z
 have U:=Cw h (by omega);have H:P.take ((r+1)*32)=P.take (r*32)++(P.drop (r*32)).take 32:=by rw[Nat.succ_mul,List.take_add]
 have O:0<=lastPo (lastPo (-1) (P.take (r*32))) ((P.drop (r*32)).take 32):=by
  cases hd:(P.drop (r*32)).take 32 with
  | nil =>
   have:=congrArg List.length hd;rw[List.length_take,List.length_drop,List.length_nil]at this;omega
  | cons x t =>
   rw[hd,List.map_cons]at h;rw[risB,Bool.and_eq_true,Bool.and_eq_true]at h;have h3:=of_decide_eq_true h.1.1;have I:=of_decide_eq_true h.1.2;have h5:=Cw h.2 I;show 0<=lastPo x.1 t;omega
 refine⟨rfl,Y.1,Y.2,h,fun p hp=>List.all_eq_true.1 h2 p (List.mem_of_mem_drop (List.mem_of_mem_take hp)),⟨by omega,U.2⟩,O,?_,?_,rfl,?_,?_,E8 J G r⟩
 ·rw[List.take_add_one,BQ (by omega) r P hr,Ew,BF (by omega)];show _++(vb _++vb _++headPo _ [])=_;rw[show ∀lo,headPo lo [] = [] from fun _=>rfl,List.append_nil]
 ·rw[H,Be]
 ·rw[H,CD]
 ·have:=DO P ((r+1)*32);rw[H,Be,List.length_append]at this;exact this
theorem Iu (P:List Po) (r:Nat) (h:P.length<=r*32):encPs P=vb P.length++headPo (-1) ((chunkL 32 P).take r)++blockPo (-1) (P.take (r*32)):=by
 have:=Cb (by omega) r P h;rw[List.take_of_length_le this,List.take_of_length_le h];rfl
end
section
open Go.RowKit
def txL (s:List UInt8):List UInt8:=vb s.length++s
def getT (most:Nat) (l:List UInt8):Except Nat (List UInt8×List UInt8):=match getV 0 l with
 | .error k=> .error k
 | .ok (n,r)=>if most<n then .error 2 else if r.length<n then .error 6 else .ok (r.take n,r.drop n)
theorem GQ {most:Nat} (h:s.length<=most) (h2:s.length<18446744073709551616) (r:List UInt8):getT most (txL s++r) = .ok (s,r):=by
 unfold getT txL;rw[List.append_assoc,BD h2];simp only;rw[if_neg (by omega),if_neg (by rw[List.length_append];omega),List.take_left' rfl,List.drop_left' rfl]
theorem Gu {most:Nat} (h:getT most l = .ok (s,r)):s.length<=most/\r.length+s.length<l.length/\∃p,l=p++r:=by
 unfold getT at h;split at h
 ·cases h
 ·rename_i n r0 d;obtain⟨_,_,p,rfl,H⟩:=Ck l 0 n r0 d;have Y:1<=p.length:=List.length_pos_iff.2 H;split at h
  ·cases h
  ·split at h
   ·cases h
   ·injection h with h;injection h with h1 h2;refine⟨by rw[<-h1,List.length_take];omega,by rw[<-h1,<-h2,List.length_take,List.length_drop,List.length_append];omega,p++r0.take n,?_⟩;rw[<-h2,List.append_assoc,List.take_append_drop]
def putF (f:Fd):List UInt8:=txL f.1++txL f.2
def putFs (fs:List Fd):List UInt8:=fs.flatMap putF
def putE (e:Ev):List UInt8:=vb (zig e.at_)++vb e.fs.length++putFs e.fs
def sizeF (f:Fd):Nat:=f.1.length+f.2.length
def sizeFs (fs:List Fd):Nat:=(fs.map sizeF).sum
def getFs:Nat->List UInt8->Option (List Fd×List UInt8)
 | 0,l=>some ([],l)
 | k+1,l=>match getT 32 l with
  | .error _=>none
  | .ok (nm,r)=>match getT 4096 r with
   | .error _=>none
   | .ok (tx,r2)=>match getFs k r2 with
    | none=>none
    | some (fs,r3)=>some ((nm,tx)::fs,r3)
def getE (l:List UInt8):Option (Ev×List UInt8):=match getV 0 l with
 | .error _=>none
 | .ok (u,r)=>match getV 0 r with
  | .error _=>none
  | .ok (n,r2)=>if 16<n then none else match getFs n r2 with
   | none=>none
   | some (fs,r3)=>if checkE fs=0 then some (⟨unzig u,fs⟩,r3) else none
theorem IA:∀(fs:List Fd) (r:List UInt8),(∀f∈fs,f.1.length<=32/\f.2.length<=4096)->getFs fs.length (putFs fs++r)=some (fs,r)
 | [],r,_=>rfl
 | f::fs,r,h=>by
  have d:=h f (by simp);show getFs (fs.length+1) _=_;unfold getFs;rw[show putFs (f::fs)++r=txL f.1++(txL f.2++(putFs fs++r))by unfold putFs;rw[List.flatMap_cons];unfold putF;simp,GQ d.1 (by omega)];simp only;rw[GQ d.2 (by omega)];simp only;rw[IA fs r fun x H=>h x (by simp[H])]
theorem Il:∀ {fs:List Fd},checkF fs=0->∀f∈fs,f.1.length<=32/\f.2.length<=4096
 | [],_=>nofun
 | f::fs,h=>by
  unfold checkF at h;split at h
  ·cases h
  ·rename_i H;split at h
   ·cases h
   ·intro g d;rcases List.mem_cons.1 d with rfl | d
    ·refine⟨?_,by omega⟩;unfold nameL at H;simp at H;omega
    ·exact Il h g d
theorem AM {fs:List Fd} (h:checkE fs=0):fs.length<=16/\∀f∈fs,f.1.length<=32/\f.2.length<=4096:=by
 unfold checkE at h;split at h
 ·cases h
 ·exact⟨by omega,Il h⟩
theorem Pm {e:Ev} (H:I64ok' e.at_) (h:checkE e.fs=0) (r:List UInt8):getE (putE e++r)=some (e,r):=by
 obtain⟨Y,d⟩:=AM h;unfold getE putE;rw[List.append_assoc,List.append_assoc,BD (CM H.1 H.2)];simp only;rw[BD (by omega)];simp only;rw[if_neg (by omega),IA _ _ d];simp only;rw[if_pos h,OR]
theorem Co (h:n<18446744073709551616):(vb n).length<=10:=Ag h
theorem Dy (h:s.length<18446744073709551616):(txL s).length<=10+s.length:=by
 unfold txL;rw[List.length_append];have:=Co h;omega
theorem IR:∀ {fs:List Fd},(∀f∈fs,f.1.length<=32/\f.2.length<=4096)->(putFs fs).length<=20*fs.length+sizeFs fs
 | [],_=>by simp[putFs,sizeFs]
 | f::fs,h=>by
  have h1:=IR (fs:=fs) fun x Y=>h x (by simp[Y]);have U:=h f (by simp);have h2:=Dy (s:=f.1) (by omega);have J:=Dy (s:=f.2) (by omega);have d:(putFs (f::fs)).length=(txL f.1).length+(txL f.2).length+(putFs fs).length:=by unfold putFs;rw[List.flatMap_cons,List.length_append];unfold putF;rw[List.length_append]
  have H:sizeFs (f::fs)=f.1.length+f.2.length+sizeFs fs:=by unfold sizeFs;rw[List.map_cons,List.sum_cons];rfl
  rw[d,H,List.length_cons];omega
end
section
abbrev Dc:=Int×Ev
def okD (p:Dc):Bool:=decide (checkE p.2.fs=0)
def okDs (l:List Dc):Bool:=decide (l.length<=65536)&&(risB 1099511627777 0 (l.map (·.1))&&l.all okD)
def oneD (last:Int) (p:Dc):List UInt8:=vb (p.1 - last - 1).toNat++putE p.2
def blockD:Int->List Dc->List UInt8
 | _,[]=> []
 | last,p::t=>oneD last p++blockD p.1 t
def lastD:Int->List Dc->Int
 | last,[]=>last
 | _,p::t=>lastD p.1 t
def headD:Int->List (List Dc)->List UInt8
 | _,[]=> []
 | last,b::bs=>vb (lastD last b).toNat++vb (blockD last b).length++headD (lastD last b) bs
def encDs (l:List Dc):List UInt8:=vb l.length++headD 0 (chunkL 16 l)++blockD 0 l
theorem Bj:∀(a b:List Dc) (last:Int),blockD last (a++b)=blockD last a++blockD (lastD last a) b
 | [],b,last=>rfl
 | p::t,b,last=>by
  show oneD last p++blockD p.1 (t++b)=_;rw[Bj t b];show _=(oneD last p++blockD p.1 t)++blockD (lastD p.1 t) b;rw[List.append_assoc]
theorem C4:∀(a b:List Dc) (last:Int),lastD last (a++b)=lastD (lastD last a) b
 | [],b,last=>rfl
 | p::t,b,last=>C4 t b p.1
theorem FD:∀(a b:List (List Dc)) (last:Int),headD last (a++b)=headD last a++headD (lastD last (a.flatMap id)) b
 | [],b,last=>rfl
 | p::t,b,last=>by
  show vb (lastD last p).toNat++vb (blockD last p).length++headD (lastD last p) (t++b)=_;rw[FD t b,List.flatMap_cons];show _=(vb (lastD last p).toNat++vb (blockD last p).length++headD (lastD last p) t)++headD (lastD last (p++t.flatMap id)) b;rw[C4,List.append_assoc _ _ (headD _ b)]
theorem IY {n:Int}:∀ {l:List Dc} {lo:Int} (k:Nat),risB n lo (l.map (·.1))=true->risB n (lastD lo (l.take k)) ((l.drop k).map (·.1))=true
 | [],lo,k,h=>by rw[List.drop_nil,List.take_nil];exact h
 | x::t,lo,0,h=>h
 | x::t,lo,k+1,h=>by
  rw[List.map_cons,risB,Bool.and_eq_true,Bool.and_eq_true]at h;exact IY k h.2
theorem Uy {n:Int}:∀ {l:List Dc} {lo:Int},risB n lo (l.map (·.1))=true->lo<n->lo<=lastD lo l/\lastD lo l<n
 | [],lo,_,h=>⟨Int.le_refl _,h⟩
 | x::t,lo,h,_=>by
  rw[List.map_cons,risB,Bool.and_eq_true,Bool.and_eq_true]at h;have h1:=of_decide_eq_true h.1.1;have h2:=of_decide_eq_true h.1.2;have:=Uy h.2 h2;exact⟨by show lo<=lastD x.1 t;omega,this.2⟩
theorem ID:∀(bs:List (List Dc)) (lo:Int),(∀k:Nat,lastD lo ((bs.take k).flatMap id)<9223372036854775808/\(blockD lo ((bs.take k).flatMap id)).length<9223372036854775808)->(headD lo bs).length<=20*bs.length
 | [],lo,_=>by simp[headD]
 | b::bs,lo,h=>by
  have h1:=h 1;rw[List.take_succ_cons,List.take_zero,List.flatMap_cons,List.flatMap_nil,List.append_nil]at h1;have H:=Ag (n:=(lastD lo b).toNat) (by have:=h1.1;simp only[id]at this;omega);have d:=Ag (n:=(blockD lo b).length) (by have:=h1.2;simp only[id]at this;omega);have ih:=ID bs (lastD lo b) fun k=>by
   have:=h (k+1);rw[List.take_succ_cons,List.flatMap_cons,C4,Bj,List.length_append]at this;exact⟨this.1,by simp only[id]at this ⊢;omega⟩
  show (vb _++vb _++headD _ bs).length<=_;rw[List.length_append,List.length_append,List.length_cons];omega
structure SdRound (P:List Dc) (r:Nat) (bP:List Dc) (lst:Int):Prop where
  part:bP=(P.drop (r*16)).take 16
  lo:0<=lst
  hi:lst<1099511627777
  ris:risB 1099511627777 lst (bP.map (·.1))=true
  pos:∀p∈bP,okD p=true
  hi2:0<=lastD lst bP/\lastD lst bP<1099511627777
  ne:0<=lastD lst bP
  head:headD 0 ((chunkL 16 P).take (r+1))=headD 0 ((chunkL 16 P).take r)++(vb (lastD lst bP).toNat++vb (blockD lst bP).length)
  body:blockD 0 (P.take ((r+1)*16))=blockD 0 (P.take (r*16))++blockD lst bP
  last:lastD 0 (P.take (r*16))=lst
  last2:lastD 0 (P.take ((r+1)*16))=lastD lst bP
  len:(blockD 0 (P.take (r*16))).length+(blockD lst bP).length<=(blockD 0 P).length
  hlen:(headD 0 ((chunkL 16 P).take r)).length<=20*r
theorem CV (P:List Dc) (k:Nat):(blockD 0 (P.take k)).length<=(blockD 0 P).length:=by
 conv=>rhs;rw[<-List.take_append_drop k P,Bj,List.length_append]
 omega
theorem Gy {P:List Dc} (h:okDs P=true) (d:(blockD 0 P).length<=50000000) (r:Nat):(headD 0 ((chunkL 16 P).take r)).length<=20*r:=by
 unfold okDs at h;rw[Bool.and_eq_true,Bool.and_eq_true]at h;replace h:=h.2;refine Nat.le_trans (ID _ _ fun k=>?_) (Nat.mul_le_mul_left _ (List.length_take_le _ _));rw[List.take_take,BF (by omega)];have h1:=(Uy (l:=P.take (min k r*16)) (lo:=0) (n:=1099511627777) (by rw[List.map_take];exact Bp _ h.1) (by omega)).2;have h2:=CV P (min k r*16);omega
theorem Ho {P:List Dc} (d:okDs P=true) (G:(blockD 0 P).length<=50000000) {r:Nat} (hr:r*16<P.length):SdRound P r ((P.drop (r*16)).take 16) (lastD 0 (P.take (r*16))):=by
 have J:=d;unfold okDs at d;rw[Bool.and_eq_true,Bool.and_eq_true]at d;replace d:=d.2;obtain⟨h1,h2⟩:=d;have Y:=Uy (l:=P.take (r*16)) (lo:=0) (n:=1099511627777) (by rw[List.map_take];exact Bp _ h1) (by omega);have Z:=IY (r*16) h1;have h:risB 1099511627777 (lastD 0 (P.take (r*16))) (((P.drop (r*16)).take 16).map (·.1))=true:=by rw[List.map_take];exact Bp _ Z
 have U:=Uy h (by omega);have H:P.take ((r+1)*16)=P.take (r*16)++(P.drop (r*16)).take 16:=by rw[Nat.succ_mul,List.take_add]
 have O:0<=lastD (lastD 0 (P.take (r*16))) ((P.drop (r*16)).take 16):=by
  cases hd:(P.drop (r*16)).take 16 with
  | nil =>
   have:=congrArg List.length hd;rw[List.length_take,List.length_drop,List.length_nil]at this;omega
  | cons x t =>
   rw[hd,List.map_cons]at h;rw[risB,Bool.and_eq_true,Bool.and_eq_true]at h;have h3:=of_decide_eq_true h.1.1;have I:=of_decide_eq_true h.1.2;have h5:=Uy h.2 I;show 0<=lastD x.1 t;omega
 refine⟨rfl,Y.1,Y.2,h,fun p hp=>List.all_eq_true.1 h2 p (List.mem_of_mem_drop (List.mem_of_mem_take hp)),⟨by omega,U.2⟩,O,?_,?_,rfl,?_,?_,Gy J G r⟩
 ·rw[List.take_add_one,BQ (by omega) r P hr,FD,BF (by omega)];show _++(vb _++vb _++headD _ [])=_;rw[show ∀lo,headD lo [] = [] from fun _=>rfl,List.append_nil]
 ·rw[H,Bj]
 ·rw[H,C4]
 ·have:=CV P ((r+1)*16);rw[H,Bj,List.length_append]at this;exact this
theorem Ir (P:List Dc) (r:Nat) (h:P.length<=r*16):encDs P=vb P.length++headD 0 ((chunkL 16 P).take r)++blockD 0 (P.take (r*16)):=by
 have:=Cb (by omega) r P h;rw[List.take_of_length_le this,List.take_of_length_le h];rfl
end
section
structure En where
  t:List UInt8
  off:Nat
  len:Nat
  n:Nat
def cpl:List UInt8->List UInt8->Nat
 | x::a,y::b=>if x=y then cpl a b+1 else 0
 | _,_=>0
theorem DC:∀(a b:List UInt8),cpl a b<=a.length/\cpl a b<=b.length
 | [],b=>by unfold cpl;simp
 | x::a,[]=>by unfold cpl;simp
 | x::a,y::b=>by
  unfold cpl;have:=DC a b;split
  ·simp only[List.length_cons];omega
  ·simp
theorem JX:∀(a b:List UInt8),a.take (cpl a b)=b.take (cpl a b)
 | [],b=>by unfold cpl;simp
 | x::a,[]=>by unfold cpl;simp
 | x::a,y::b=>by
  unfold cpl;split
  ·rename_i h;rw[List.take_succ_cons,List.take_succ_cons,JX a b,h]
  ·simp
theorem GD:∀(i:Nat) (a b:List UInt8),a.take i=b.take i->i<=a.length->i<=b.length->cpl a b=i+cpl (a.drop i) (b.drop i)
 | 0,a,b,_,_,_=>by simp
 | i+1,[],b,_,h,_=>by simp at h
 | i+1,x::a,[],_,_,h=>by simp at h
 | i+1,x::a,y::b,h,h1,h2=>by
  rw[List.take_succ_cons,List.take_succ_cons]at h;injection h with h3 h4;rw[cpl,if_pos h3,GD i a b h4 (by simpa using h1) (by simpa using h2),List.drop_succ_cons,List.drop_succ_cons];omega
def okEn (e:En):Prop:=e.t.length<=65/\e.off<=67108864/\e.len<=67108864/\e.n<=67108864
structure OkEs (l:List En):Prop where
  few:l.length<=262144
  each:∀e∈l,okEn e/\e.t ≠ []
  up:l.Pairwise fun a b=>a.t<b.t
def enB (last:List UInt8) (e:En):List UInt8:=vb (cpl last e.t)++txL (e.t.drop (cpl last e.t))++(vb e.off++vb e.len++vb e.n)
def blockE:List UInt8->List En->List UInt8
 | _,[]=> []
 | last,e::t=>enB last e++blockE e.t t
def partsE:List (List En)->List UInt8
 | []=> []
 | c::cs=>vb (blockE [] c).length++blockE [] c++partsE cs
def encEs (l:List En):List UInt8:=vb l.length++partsE (chunkL 16 l)
theorem G7:∀(a b:List (List En)),partsE (a++b)=partsE a++partsE b
 | [],b=>rfl
 | c::cs,b=>by
  show vb _++blockE [] c++partsE (cs++b)=_;rw[G7 cs b,<-List.append_assoc];rfl
theorem MS {last:List UInt8} {e:En} (h:okEn e):(enB last e).length<=200:=by
 obtain⟨h1,h2,d,H⟩:=h;have Y:=DC last e.t;have v1:=Ag (n:=cpl last e.t) (by omega);have v2:=Ag (n:=e.off) (by omega);have v3:=Ag (n:=e.len) (by omega);have v4:=Ag (n:=e.n) (by omega);have v5:=Dy (s:=e.t.drop (cpl last e.t)) (by rw[List.length_drop];omega);have v6:(e.t.drop (cpl last e.t)).length<=e.t.length:=by rw[List.length_drop];omega
 unfold enB;simp only[List.length_append];omega
theorem Di:∀ {l:List En} {last:List UInt8},(∀e∈l,okEn e)->(blockE last l).length<=200*l.length
 | [],_,_=>by simp[blockE]
 | e::t,last,h=>by
  have h1:=MS (last:=last) (h e (List.mem_cons_self ..));have h2:=Di (l:=t) (last:=e.t) fun x d=>h x (List.mem_cons_of_mem _ d);show (enB last e++blockE e.t t).length<=_;rw[List.length_append,List.length_cons];omega
theorem EE:∀ {cs:List (List En)},(∀c∈cs,(∀e∈c,okEn e)/\c.length<=16)->(partsE cs).length<=3300*cs.length
 | [],_=>by simp[partsE]
 | c::cs,h=>by
  obtain⟨h1,h2⟩:=h c (List.mem_cons_self ..);have H:=Di (last:= []) h1;have Y:=EE (cs:=cs) fun x d=>h x (List.mem_cons_of_mem _ d);have J:=Ag (n:=(blockE [] c).length) (by omega);show (vb _++blockE [] c++partsE cs).length<=_;rw[List.length_append,List.length_append,List.length_cons];omega
theorem F8 {l:List En} (h:∀e∈l,okEn e) (Y:l.length<=262144) (r:Nat):(partsE ((chunkL 16 l).take r)).length<=60000000:=by
 have h1:=EE (cs:=(chunkL 16 l).take r) fun c d=>⟨fun e H=>h e (GB (by omega) (List.mem_of_mem_take d) e H),(Fz (by omega) (List.mem_of_mem_take d)).2⟩
 have h2:((chunkL 16 l).take r).length<=(chunkL 16 l).length:=List.length_take_le' ..;rw[AO (by omega)]at h2;omega
theorem It (l:List En) (r:Nat) (h:l.length<=r*16):encEs l=vb l.length++partsE ((chunkL 16 l).take r):=by
 have:=Cb (by omega) r l h;rw[List.take_of_length_le this];rfl
theorem F7 {l:List En} {r:Nat} (h:r*16<l.length):partsE ((chunkL 16 l).take (r+1))=partsE ((chunkL 16 l).take r)++(vb (blockE [] ((l.drop (r*16)).take 16)).length++blockE [] ((l.drop (r*16)).take 16)):=by
 rw[List.take_add_one,BQ (by omega) r l h,G7];show _++(vb _++blockE [] _++partsE [])=_;rw[show partsE [] = [] from rfl,List.append_nil]
end
section
def fnvS (h:Nat) (c:UInt8):Nat:=(h ^^^ c.toNat)*1099511628211%18446744073709551616
def fnv (s:List UInt8):Nat:=s.foldl fnvS 14695981039346656037
theorem Kb (s:List UInt8) (c:UInt8):fnv (s ++ [c])=fnvS (fnv s) c:=by unfold fnv;rw[List.foldl_append,List.foldl_cons,List.foldl_nil]
theorem Jk (h:Nat) (c:UInt8):fnvS h c<18446744073709551616:=by unfold fnvS;exact Nat.mod_lt _ (by omega)
def fpl (s:List UInt8) (m i:Nat):Nat:=(fnv s%4294967296+i*(fnv s / 4294967296 ||| 1))%m
def hasB (f:List UInt8) (k:Nat):Bool:=decide ((f.getD (k / 8) 0).toNat / 2^(k%8)%2=1)
def setB (f:List UInt8) (k:Nat):List UInt8:=f.set (k / 8) (UInt8.ofNat ((f.getD (k / 8) 0).toNat ||| 2^(k%8)))
def addB (f:List UInt8) (s:List UInt8):List UInt8:=setB (setB (setB (setB f (fpl s (8*f.length) 0)) (fpl s (8*f.length) 1)) (fpl s (8*f.length) 2)) (fpl s (8*f.length) 3)
def filL (n:Nat):Nat:=(min (max (10*n) 64) 1048576+7) / 8
def ofB (ts:List (List UInt8)):List UInt8:=ts.foldl addB (List.replicate (filL (min ts.length 262144)) 0)
theorem Ce (f:List UInt8) (k:Nat):(setB f k).length=f.length:=List.length_set ..
theorem EL (f:List UInt8) (s:List UInt8):(addB f s).length=f.length:=by unfold addB;rw[Ce,Ce,Ce,Ce]
theorem EU (n:Nat):8<=filL n/\filL n<=131072:=by unfold filL;omega
theorem QW (ts:List (List UInt8)):(ofB ts).length=filL (min ts.length 262144):=by
 have key:∀(l:List (List UInt8)) (f:List UInt8),(l.foldl addB f).length=f.length:=by
  intro l
  induction l with
  | nil=>exact fun f=>rfl
  | cons c l ih=>exact fun f=>by rw[List.foldl_cons,ih,EL]
 unfold ofB;rw[key,List.length_replicate]
theorem Rg (h:x<256) (hk:k<8):x ||| 2^k<256:=by
 have:2^k<2^8:=Nat.pow_lt_pow_right (by omega) hk;exact Nat.or_lt_two_pow (n:=8) h this
theorem FC (s:List UInt8) (i:Nat) (h:0<m):fpl s m i<m:=Nat.mod_lt _ h
end
section
open Go.RowKit Go.Maps
theorem Cr (A:Option Addr) (n c:Nat) (l:List UInt8) (w:World) (Y:n=l.length) (Z:Bs w A l) (hz:A=none->c=0) (q0:n<=1073741824) :
 Calls prog 75 #[.slice A n c] w fun e w'=>∃A1 c1,e = .returned (.slice A1 n c1)/\Buf w' w.heap.size 5 A1 n c1 (l.map B8)/\Ext w w':=by
 cases A with
 | none =>
  have G:l = []:=by
   rcases Z with h | ⟨_,_,h,_⟩
   ·simpa using h
   ·cases h
  subst G;obtain rfl:c=0:=hz rfl;obtain rfl:n=0:=Y;have hq:=RK w
  go_in
  go_wp2_with fail;go_ret;exact⟨none,0,rfl,Buf.nil _ _ _,Ext.refl _⟩
 | some a =>
  have hq:=RM a n c w;have ho:=IN w 5;have d:Ext w (w.alloc (.cells #[] 5)):=(Ext.refl w).alloc _;have hb:=Z.ext d;have H:(l.map B8).length=n*1:=by rw[List.length_map,Y];omega
  have O:w.heap.size<=(w.alloc (.cells #[] 5)).heap.size:=d.size;replace H:=Aa H;replace Y:=Aa Y
  go_in
  go_wp2_with (at_builtin;refine AV (m:=n) Aw ho hb (.tmp 5) (.tmp 6) rfl rfl rfl rfl rfl H.out (Ai _) (by omega) O (fun A1 c1 w3 U J I=>?_));go_ret;refine⟨A1,c1,rfl,?_,d.grown J (fun k hk=>by cases hk;exact Nat.le_refl _)⟩;have:=Buf.of_own U;rw[Nat.zero_add]at this;exact this
end
section
open Go.RowKit
theorem K8 (h:vb x=pre++vb m) (d:128<=m):vb x=(pre ++ [UInt8.ofNat (m%128+128)])++vb (m / 128):=by
 rw[h,Je (by omega),List.append_assoc];rfl
theorem M4 (k a:Nat) (h:a<2^k):(2^k - 1) ^^^ a=2^k - 1 - a:=by
 apply Nat.eq_of_testBit_eq;intro i;rw[Nat.testBit_xor,Nat.testBit_two_pow_sub_one,show 2^k - 1 - a=2^k - (a+1)by omega,Nat.testBit_two_pow_sub_succ h];by_cases hi:i<k
 ·simp[hi]
 ·have:a.testBit i=false:=Nat.testBit_lt_two_pow (Nat.lt_of_lt_of_le h (Nat.pow_le_pow_right (by omega) (by omega)));simp[hi,this]
theorem Lg (a:Nat) (h:a<18446744073709551616):bits .xor .u64 IntKind.u64.max (a:Int)=((18446744073709551615 - a:Nat):Int):=by
 rw[show IntKind.u64.max=((18446744073709551615:Nat):Int)from rfl,u64_xor_nat _ _ (by omega) h];exact congrArg _ (M4 64 a h)
theorem Dh (a:Nat) (h:a<4294967296):bits .xor .u32 IntKind.u32.max (a:Int)=((4294967295 - a:Nat):Int):=by
 rw[show IntKind.u32.max=((4294967295:Nat):Int)from rfl,u32_xor_nat _ _ (by omega) h];exact congrArg _ (M4 32 a h)
theorem Qo (x:Int) (h:x<0) (h2 : -9223372036854775808<=x):IntKind.u64.wrap (IntKind.u64.wrap x*2)=((18446744073709551615 - (2*(-1 - x).toNat+1):Nat):Int):=by
 have e:∀y:Int,IntKind.u64.wrap y=y%18446744073709551616:=fun y=>by simp[IntKind.wrap,IntKind.bits,IntKind.signed]
 rw[e,e];omega
theorem QY (m:Nat):bits .or .u8 ((m:Int)%256) 128=((m%128+128:Nat):Int):=by
 have h:∀k:Fin 256,k.val ||| 128=k.val%128+128:=by decide +kernel
 have hk:=h ⟨m%256,by omega⟩;simp only at hk;rw[show (m:Int)%256=((m%256:Nat):Int)by omega,show (128:Int)=((128:Nat):Int)from rfl,u8_or_nat _ _ (by omega) (by omega),hk];congr 1;omega
theorem JB (l:List UInt8) (hk:k<256):(l ++ [UInt8.ofNat k]).map B8=l.map B8 ++ [.int .u8 (k:Int)]:=by
 rw[List.map_append,List.map_singleton];unfold B8;rw[UInt8.toNat_ofNat',Nat.mod_eq_of_lt hk]
theorem Cm (A:Option Addr) (n c x:Nat) (l:List UInt8) (w:World) (O:n=l.length) (J:Bs w A l) (hz:A=none->c=0) (j0:n<=1000000000) (hx:x<18446744073709551616) :
 Calls prog 157 #[.slice A n c,.int .u64 x] w fun e w'=>NewB w (l++vb x) e w':=by
 have Y:=Cr A n c l w O J hz (by omega);have k0:=Ag hx;replace Y:=Aa Y;replace O:=Aa O;clear J hz
 go_in
 go_wp2_with fail;refine Y.out.mono ?_;rintro e w1 ⟨A1,c1,rfl,I,G⟩;go_wp2_with fail
 go_loopw [1,5] (fun s1 s5 wr=>∃(m:Nat) (pre:List UInt8) (A2:Option Addr) (c2:Nat),s1 = .int .u64 m/\s5 = .slice A2 (n+pre.length) c2/\m<18446744073709551616/\pre.length<=10/\Hid (vb x=pre++vb m)/\Hid (Buf wr w.heap.size 5 A2 (n+pre.length) c2 ((l++pre).map B8))/\Hid (Ext w wr)) (fun s1 _ _=>(intOf s1).toNat)
 case atStart=>exact⟨x,[],A1,c1,rfl,rfl,hx,by simp,rfl,by rw[List.append_nil];exact Aa I,Aa G⟩
 case round =>
  obtain⟨m,pre,A2,c2,rfl,rfl,hm,hp,hv,hb,Z⟩:=hrel;have U:=Z.out.size;by_cases h:128<=m
  ·have g0:=QY m;go_wp2_with (at_builtin;refine Au Aw hb.out (.tmp 10) (.tmp 14) rfl rfl rfl rfl (Az rfl) (by simp;omega) U (fun A3 c3 w3 H d=>?_));go_roundw
   case rel=>exact⟨m / 128,pre ++ [UInt8.ofNat (m%128+128)],A3,c3,by go_num,by rw[List.length_append];rfl,by omega,(by
    have h1:=congrArg List.length (K8 hv.out h);have h2:=Qi (m / 128);rw[List.length_append,List.length_append,List.length_singleton]at h1;rw[List.length_append,List.length_singleton];omega),Aa (K8 hv.out h),Aa (by rw[<-List.append_assoc,JB _ (by omega),List.length_append];exact H),Aa (d w Z.out (Nat.le_refl _))⟩
   case measure=>simp[intOf];omega
  ·go_wp2_with (at_builtin;refine Au Aw hb.out (.tmp 18) (.tmp 21) rfl rfl rfl rfl (Az rfl) (by simp;omega) U (fun A3 c3 w3 H d=>?_));go_ret;have J:l++vb x=(l++pre) ++ [UInt8.ofNat m]:=by rw[hv.out,Gn (by omega),List.append_assoc]
   have hlen:(l++vb x).length=n+pre.length+1:=by rw[J,O.out];simp;omega
   exact⟨A3,c3,by rw[hlen];rfl,by rw[hlen,J,JB _ (by omega)];exact H,d w Z.out (Nat.le_refl _)⟩
theorem EF (A:Option Addr) (n c:Nat) (x:Int) (l:List UInt8) (w:World) (hn:n=l.length) (hl:Bs w A l) (hz:A=none->c=0) (I:n<=1000000000) (hx : -9223372036854775808<=x) (O:x<=9223372036854775807) :
 Calls prog 164 #[.slice A n c,.int .i64 x] w fun e w'=>NewB w (l++vb (zig x)) e w':=by
 have U:=Cm A n c (zig x) l w hn hl hz I (CM hx O);have h:zig x=if 0<=x then 2*x.toNat else 2*(-1 - x).toNat+1:=rfl;obtain⟨Z,hZ⟩:=Ab (zig x);rw[<-hZ]at U h ⊢;clear hZ hn hl hz;replace U:=Aa U;by_cases G:0<=x
 ·rw[if_pos G]at h;replace h:=Aa h
  go_in
  go_wp2_with fail;rw[show (x*2:Int)=(Z:Int)by have:=h.out;omega];refine U.out.mono ?_;rintro e w1 ⟨A1,c1,rfl,J,Y⟩;go_wp2_with fail;go_ret;exact⟨A1,c1,Cy (by rw[List.length_append]),J,Y⟩
 ·rw[if_neg G]at h;have H:=CM hx O;unfold zig at H;rw[if_neg G]at H;have d:=Lg (18446744073709551615 - (2*(-1 - x).toNat+1)) (by omega);rw[show 18446744073709551615 - (18446744073709551615 - (2*(-1 - x).toNat+1))=2*(-1 - x).toNat+1 by omega,<-Qo x (by omega) hx,<-h]at d;clear H;replace h:=Aa h;replace d:=Aa d
  go_in
  go_wp2_with fail;rw[d.out];refine U.out.mono ?_;rintro e w1 ⟨A1,c1,rfl,J,Y⟩;go_wp2_with fail;go_ret;exact⟨A1,c1,Cy (by rw[List.length_append]),J,Y⟩
theorem De (xs:List Int) (h:∀x∈xs,-9223372036854775808<=x/\x<=9223372036854775807):∀i,(vall (xs.take i)).length<=10*i:=by
 induction xs with
 | nil=>intro i;simp[vall]
 | cons x xs ih =>
  intro i;cases i with
  | zero=>simp[vall]
  | succ i =>
   have h1:=ih (fun y d=>h y (List.mem_cons_of_mem _ d)) i;have h2:=h x (List.mem_cons_self ..);have H:=Ag (CM h2.1 h2.2);unfold vall at h1 ⊢;rw[List.take_succ_cons,List.flatMap_cons,List.length_append];omega
theorem Ma (A B:Option Addr) (n c k c2:Nat) (xs:List Int) (l:List UInt8) (w:World) (G:n=l.length) (hl:Bs w A l) (hz:A=none->c=0) (hk:k=xs.length) (v0:Cells w B (xs.map (Value.int .i64))) (d0:n+10*k<=1000000000) (hx:∀x∈xs,-9223372036854775808<=x/\x<=9223372036854775807) :
 Calls prog 111 #[.slice A n c,.slice B k c2] w fun e w'=>NewB w (l++vall xs) e w':=by
 have U:=Cr A n c l w G hl hz (by omega);have hlen:∀i,(vall (xs.take i)).length<=10*i:=De xs hx;replace U:=Aa U;replace G:=Aa G;replace hk:=Aa hk;replace hx:=Aa hx;replace hlen:=Aa hlen;clear hl hz
 go_in
 go_wp2_with fail;refine U.out.mono ?_;rintro e w1 ⟨A1,c1,rfl,g0,k0⟩;go_wp2_with fail
 go_loopw [5,12] (fun s5 s12 wr=>∃(i:Nat) (A2:Option Addr) (m2 c2:Nat),s12 = .int .i64 i/\i<=k/\s5 = .slice A2 m2 c2/\Hid (m2=(l++vall (xs.take i)).length)/\Hid (Buf wr w.heap.size 5 A2 m2 c2 ((l++vall (xs.take i)).map B8))/\Hid (Ext w wr)) (fun _ s12 _=>k - (intOf s12).toNat)
 case atStart=>exact⟨0,A1,n,c1,rfl,by omega,rfl,Aa (by rw[G.out];simp[vall]),Aa (by simpa [vall]using g0),Aa k0⟩
 case round =>
  obtain⟨i,A2,m2,c3,rfl,hi,rfl,d,hb,hE⟩:=hrel;by_cases t0:i<k
  ·have h:i<xs.length:=by rw[<-hk.out];exact t0
   obtain⟨g,o,rfl,hc⟩:=v0.at_ (by rw[List.length_map];omega);have O:=hx.out xs[i] (List.getElem_mem h);have J:=hE.out.cell (hc i (.int .i64 xs[i]) (by rw[List.getElem?_map,List.getElem?_eq_getElem h];rfl));have Z:=hlen.out i;have H:=EF A2 m2 c3 xs[i] (l++vall (xs.take i)) wr d.out hb.out.cells hb.out.none_cap (by rw[d.out,List.length_append,<-G.out];omega) O.1 O.2;have I:(l++vall (xs.take i))++vb (zig xs[i])=l++vall (xs.take (i+1)):=by
    rw[List.append_assoc,List.take_succ_eq_append_getElem h];unfold vall;rw[List.flatMap_append];simp
   rw[I]at H;obtain⟨X,hX⟩:=Ab (xs[i]);rw[<-hX]at J H O;replace H:=Aa H;clear hX I hc Z;go_wp2_with fail;refine H.out.mono ?_;rintro e w3 ⟨A3,c4,rfl,m0,j0⟩;go_wp2_with fail;go_roundw
   case rel=>exact⟨i+1,A3,_,c4,by go_num,by omega,rfl,Aa (by rw[List.length_append]),Aa (by rw[<-List.length_append];exact m0.lower hE.out.size),Aa (hE.out.trans j0)⟩
   case measure=>simp[intOf];omega
  ·have Y:i=k:=by omega
   have h0:xs.take i=xs:=List.take_of_length_le (by rw[Y,hk.out];exact Nat.le_refl _);rw[h0]at hb d;clear h0 Y;go_wp2_with fail;go_ret;exact⟨A2,c3,by rw[d.out];rfl,by rw[<-d.out];exact hb.out,hE.out⟩
theorem EO (w:World) (us:List Value) (t:TypeId) (h:us.length<=9223372036854775807):Buf (w.alloc (.cells us.toArray t)) w.heap.size t (some ⟨w.heap.size,0,none⟩) us.length us.length us :=
 ⟨rfl,Nat.le_refl _,.inr ⟨w.heap.size,us.toArray,rfl,Nat.le_refl _,heap_alloc_new w _,by simp,by simp⟩⟩
structure In8 (w:World) (A:Option Addr) (n c:Nat) (l:List UInt8):Prop where
  len:n=l.length
  bytes:Bs w A l
  cap:n<=c
  nil_:A=none->c=0
  at_:∀a,A=some a->a.spot=Option.none/\a.block<w.heap.size
theorem In8.ext (h:In8 w A n c l) (d:Ext w w1):In8 w1 A n c l :=
 ⟨h.len,h.bytes.ext d,h.cap,h.nil_,fun a H=>⟨(h.at_ a H).1,Nat.lt_of_lt_of_le (h.at_ a H).2 d.size⟩⟩
theorem Buf.in8 (h:Buf w base e A n c (l.map B8)):In8 w A n c l:=by
 refine⟨by have:=h.1;simpa using this.symm,h.cells,h.2.1,h.none_cap,fun a d=>⟨?_,h.lt a d⟩⟩;rcases h.2.2 with ⟨H,_⟩ | ⟨g,cur,Y,_⟩
 ·rw[H]at d;cases d
 ·rw[Y]at d;cases d;rfl
def comb (i acc:Nat):Except Nat (Nat×List UInt8)->Except Nat (Nat×List UInt8)
 | .ok (n,r)=> .ok (acc+128^i*n,r)
 | .error e=> .error e
theorem Nr (x:Except Nat (Nat×List UInt8)):comb 0 0 x=x:=by
 unfold comb;split <;> simp
def Got (w0 w:World) (res:Except Nat (Nat×List UInt8)) (e:Ending) (w':World):Prop:=Ext w w'/\match res with
 | .ok (v,r)=>∃A c,e = .returned (.tuple #[.int .u64 v,.slice A r.length c,.int .i64 0])/\In8 w0 A r.length c r
 | .error k=>e = .returned (.tuple #[.int .u64 0,.slice none 0 0,.int .i64 k])
theorem FN (h:k<=c) (H:∀a,A=some a->a.spot=none) (W:World) :
 (Instr.sliceAt 25 (.slice A n c) none (some (.int .i64 k)) none).run prog W = .ok (.slice A k c) W:=by
 have ht:=underlying25;have d:prog.elem 25=5:=by unfold Program.elem;rw[ht]
 have hs:∀W:World,(sizeOf 5).run prog W = .ok 1 W:=fun W=>by kernel_rfl
 rw[run_sliceAt_slice W _ _ _ _ _ (by rw[ht,d]),run_slice_h W _ A n c (by rw[ht,d]) .i64 k (by omega) (by omega),d,hs];simp only[Result.andThen_ok];congr 1;unfold sliced;have:(if c=0 then A else A.map fun x=>x.add (0*1))=A:=by
  cases A with
  | none=>simp
  | some a =>
   obtain⟨b,o,sp⟩:=a;obtain rfl:sp=none:=H _ rfl;simp[Addr.add_lit]
 rw[this];simp
theorem In8.from_ (h:In8 w A n c l) (I:fr<=n) (G:z=(fr:Int)) :
 ∃A' c',(∀W:World,(Instr.sliceAt 25 (.slice A n c) (some (.int .i64 z)) none none).run prog W = .ok (.slice A' (n - fr) c') W)/\In8 w A' (n - fr) c' (l.drop fr):=by
 subst G;have ht:=underlying25;have J:prog.elem 25=5:=by unfold Program.elem;rw[ht]
 have hs:∀W:World,(sizeOf 5).run prog W = .ok 1 W:=fun W=>by kernel_rfl
 have H:∀W:World,(Instr.sliceAt 25 (.slice A n c) (some (.int .i64 fr)) none none).run prog W = .ok (sliced A fr n c 1) W:=by
  intro W;rw[run_sliceAt_slice W _ _ _ _ _ (by rw[ht,J]),run_slice_l W _ A n c (by rw[ht,J]) .i64 fr (by omega) (by omega),J,hs];simp only[Result.andThen_ok];congr 1
 have O:=h.cap;refine⟨_,_,H,by rw[List.length_drop,<-h.len],?_,by omega,?_,?_⟩
 ·rcases h.bytes with hb | ⟨g,o,rfl,hb⟩
  ·left;have:l = []:=by simpa using hb
   rw[this];simp
  ·by_cases Y:c=fr
   ·left;have:=h.len;rw[List.drop_of_length_le (by omega)];rfl
   ·refine .inr ⟨g,o+fr,by rw[if_neg Y];simp[Addr.add_lit],fun i v U=>?_⟩;rw[Nat.add_assoc];refine hb (fr+i) v ?_;rw[List.getElem?_map]at U ⊢;rw[List.getElem?_drop]at U;exact U
 ·intro Z;cases A with
  | none=>have:=h.nil_ rfl;omega
  | some a=>split at Z <;> cases Z
 ·intro a d;cases A with
  | none=>split at d <;> cases d
  | some b =>
   obtain⟨h1,h2⟩:=h.at_ b rfl;obtain⟨b,o,sp⟩:=b;obtain rfl:sp=Option.none:=h1;split at d
   ·cases d;exact⟨rfl,h2⟩
   ·cases d;show (Addr.add ⟨b,o,none⟩ (fr*1)).spot=none/\(Addr.add ⟨b,o,none⟩ (fr*1)).block<w.heap.size;rw[Addr.add_lit];exact⟨rfl,h2⟩
theorem Pq {x:UInt8} (h:l[i]? = some x) (H:i<10) (acc:Nat):comb i acc (getV i (l.drop i))=if (i=9/\1<x.toNat)\/(0<i/\x.toNat=0) then .error 20 else
 if x.toNat<128 then .ok (acc+128^i*x.toNat,l.drop (i+1)) else comb (i+1) (acc+128^i*(x.toNat - 128)) (getV (i+1) (l.drop (i+1))):=by
 have hi:=(List.getElem?_eq_some_iff.1 h).1;have h2:=(List.getElem?_eq_some_iff.1 h).2;rw[List.drop_eq_getElem_cons hi,h2]
 conv=>lhs;unfold getV
 rw[if_neg (by omega)];by_cases hb:(i=9/\1<x.toNat)\/(0<i/\x.toNat=0)
 ·rw[if_pos hb,if_pos hb];rfl
 ·rw[if_neg hb,if_neg hb];by_cases d:x.toNat<128
  ·rw[if_pos d,if_pos d];rfl
  ·rw[if_neg d,if_neg d];unfold comb;cases getV (i+1) (l.drop (i+1))with
   | error e=>rfl
   | ok p =>
    obtain⟨n,r⟩:=p;simp only;rw[Nat.mul_add,Nat.pow_succ,Nat.add_assoc,Nat.mul_assoc]
theorem Pp (h:l.length<=i\/10<=i) (acc:Nat):comb i acc (getV i (l.drop i)) = .error 6:=by
 rcases h with h | h
 ·rw[List.drop_of_length_le h];rfl
 ·cases l.drop i with
  | nil=>rfl
  | cons x r=>unfold getV;rw[if_pos h];rfl
theorem QX {i acc y:Nat} (hi:i<=9) (d:acc<128^i) (Z:y<128) (J:i=9->y<=1):bits .or .u64 (acc:Int) (IntKind.u64.wrap ((y:Int)*2^(7*i)))=((acc+128^i*y:Nat):Int):=by
 have e:∀y:Int,IntKind.u64.wrap y=y%18446744073709551616:=fun y=>by simp[IntKind.wrap,IntKind.bits,IntKind.signed]
 have O:(128:Nat)^i=2^(7*i):=by rw[show (128:Nat)=2^7 from rfl,<-Nat.pow_mul]
 rw[O]at d ⊢;have Y:y*2^(7*i)<18446744073709551616:=by
  rcases Nat.lt_or_ge i 9 with h | h
  ·have h1:2^(7*i)<=2^56:=Nat.pow_le_pow_right (by omega) (by omega);have h2:y*2^(7*i)<=127*2^56:=Nat.mul_le_mul (by omega) h1;omega
  ·obtain rfl:i=9:=by omega
   have:=J rfl;have h2:y*2^(7*9)<=1*2^63:=Nat.mul_le_mul this (Nat.le_refl _);omega
 have H:acc<18446744073709551616:=Nat.lt_of_lt_of_le d (by
  have:2^(7*i)<=2^63:=Nat.pow_le_pow_right (by omega) (by omega);omega)
 have U:IntKind.u64.wrap ((y:Int)*2^(7*i))=((y*2^(7*i):Nat):Int):=by
  rw[e];have:(y:Int)*2^(7*i)=((y*2^(7*i):Nat):Int):=by simp
  rw[this];omega
 rw[U,u64_or_nat _ _ H Y];have:=Nat.shiftLeft_add_eq_or_of_lt d y;rw[Nat.shiftLeft_eq]at this;rw[Nat.or_comm,<-this,Nat.add_comm,Nat.mul_comm y]
theorem OV {i acc y:Nat} (d:acc<128^i) (H:y<128):acc+128^i*y<128^(i+1):=by
 have h:=Nat.mul_le_mul_left (128^i) (show y+1<=128 by omega);rw[Nat.mul_add,Nat.mul_one]at h;rw[Nat.pow_succ];omega
theorem LK {res:Except Nat (Nat×List UInt8)} {v:Nat} {E:Int} (d:res = .ok (v,r)) (h:Ext w w') (hi:In8 w0 A m c r) (H:E=(v:Int)):Got w0 w res (.returned (.tuple #[.int .u64 E,.slice A m c,.int .i64 0])) w':=by
 subst d H;have:=hi.len;subst this;exact⟨h,A,c,rfl,hi⟩
theorem Gv {res:Except Nat (Nat×List UInt8)} (d:res = .error k) (h:Ext w w'):Got w0 w res (.returned (.tuple #[.int .u64 0,.slice none 0 0,.int .i64 k])) w':=by
 subst d;exact⟨h,rfl⟩
theorem Qr (h:x<256):bits .and .u8 (x:Int) 127=((x%128:Nat):Int):=by
 have d:∀k:Fin 256,k.val &&& 127=k.val%128:=by decide +kernel
 have hk:=d ⟨x,h⟩;simp only at hk;rw[show (127:Int)=((127:Nat):Int)from rfl,u8_and_nat _ _ (by omega) (by omega),hk]
theorem Cl (A:Option Addr) (n c:Nat) (l:List UInt8) (w0 w:World) (h:In8 w0 A n c l) (hw:Ext w0 w) (f1:n<=1000000000) :
 Calls prog 126 #[.slice A n c] w fun e w'=>Got w0 w (getV 0 l) e w':=by
 obtain⟨k,hk⟩:∃k:Nat,(k:Int)=min (n:Int) 10:=⟨min n 10,by omega⟩
 have j1:=h.cap;have m1:=fun(W:World)=>AQ (P:=prog) #[3,3] 3 hk W;have y1:=fun(W:World)=>FN (n:=n) (c:=c) (k:=k) (A:=A) (by omega) (fun a ha=>(h.at_ a ha).1) W;have d1:k<=10:=by omega
 have e1:k<=n:=by omega
 have t0:n<=k\/10<=k:=by omega
 replace hk:=Aa hk;replace t0:=Aa t0;replace h:=Aa h
 go_in
 go_wp2_with fail;go_step3;go_wp2_with fail;go_step3;go_wp2_with fail
 go_loopw [2,4,13] (fun s2 s4 s13 wr=>∃(i acc:Nat),s13 = .int .i64 i/\s2 = .int .u64 acc/\s4 = .int .i64 6/\i<=k/\acc<128^i/\Hid (getV 0 l=comb i acc (getV i (l.drop i)))/\Hid (Ext w wr)) (fun _ _ s13 _=>k - (intOf s13).toNat)
 case atStart=>exact⟨0,0,rfl,rfl,rfl,by omega,by simp,Aa (by rw[Nr];rfl),Aa (Ext.refl w)⟩
 case round =>
  obtain⟨i,acc,rfl,rfl,rfl,hi,O,hg,hE⟩:=hrel;by_cases a1:i<k
  ·have b0:i<l.length:=by rw[<-h.out.len];omega
   obtain⟨g,o,rfl,hc⟩:=h.out.bytes.at_ (by omega);have g0:=(hw.trans hE.out).cell (hc i b0);have H:=Pq (List.getElem?_eq_getElem b0) (by omega) acc;rw[<-hg.out]at H;obtain⟨x,hx⟩:=Ab (l[i].toNat);have v0:x<256:=by rw[hx];exact l[i].toNat_lt
   rw[<-hx]at g0 H;replace hx:=Aa hx;replace H:=Aa H;have y0:=Qr v0;obtain⟨y,hy⟩:=Ab (x%128);rw[<-hy]at y0;replace hy:=Aa hy;obtain⟨A',c',d0,c0⟩:=h.out.from_ (fr:=i+1) (by omega) (z:=(i:Int)+1) (by omega);have Y:=fun h9:i=9->y<=1=>QX (i:=i) (acc:=acc) (y:=y) (by omega) O (by have:=hy.out;omega) h9;replace Y:=Aa Y;have Z:=Aa c0;clear hc hg c0;have k0:=fun(h1:¬((i=9/\1<x)\/(0<i/\x=0))) (h2:128<=x)=>H.out.trans ((if_neg h1).trans (if_neg (by omega)));have I:=fun(h1:¬((i=9/\1<x)\/(0<i/\x=0))) (h2:x<128)=>H.out.trans ((if_neg h1).trans (if_pos h2));have d:=fun(h1:(i=9/\1<x)\/(0<i/\x=0))=>H.out.trans (if_pos h1);have e0:y<128:=by have:=hy.out;omega
   have U:x<128->y=x:=fun h=>by have:=hy.out;omega
   have J:128<=x->y=x - 128:=fun h=>by have:=hy.out;omega
   have hz:((x:Int)==0)=true->x=0:=fun h=>by simp at h;omega
   have j0:((x:Int)==0)=false->x≠0:=fun h=>by simp at h;omega
   replace k0:=Aa k0;replace I:=Aa I;replace d:=Aa d;replace U:=Aa U;replace J:=Aa J;replace hz:=Aa hz;replace j0:=Aa j0;by_cases h9:i=9
   ·subst h9;have h0:y<=1->bits .or .u64 (acc:Int) (IntKind.u64.wrap ((y:Int)*9223372036854775808))=((acc+128^9*y:Nat):Int):=fun r0=>by
     have e:(2:Int)^(7*9)=9223372036854775808:=by simp
     have:=Y.out fun _=>r0;rw[e]at this;exact this
    replace h0:=Aa h0;obtain⟨A9,c9,o0,G⟩:=h.out.from_ (fr:=10) (by omega) (z:=10) rfl;replace G:=Aa G;clear d0 Z;go_wp2_with fail
    ·go_ret3;exact Gv (d.out (.inl ⟨by trivial,by omega⟩)) hE.out
    ·go_ret3;exact Gv (d.out (.inr ⟨by omega,hz.out (by assumption)⟩)) hE.out
    ·refine AE (fun K hK=>?_);go_wp2_with fail;refine⟨by kernel_rfl,?_⟩;go_wp2_with fail;go_ret3;have l1:x<=1:=by omega
     exact LK (I.out (by have:=j0.out (by assumption);omega) (by omega)) hE.out.drew G.out (by rw[h0.out (by have:=U.out (by omega);omega),U.out (by omega)])
   ·go_wp2_with fail
    ·rw[Exit.noGoto_ret];go_ret3;exact Gv (d.out (.inr ⟨by omega,hz.out (by assumption)⟩)) hE.out
    ·refine AE (fun K hK=>?_);go_wp2_with fail;refine⟨by kernel_rfl,?_⟩;go_wp2_with fail;rw[Exit.noGoto_ret];go_ret3;exact LK (I.out (by have:=j0.out (by assumption);omega) (by omega)) hE.out.drew Z.out (by rw[Y.out (by omega),U.out (by omega)])
    ·go_roundw
     case rel=>exact⟨i+1,acc+128^i*y,by go_num,by rw[Y.out (by omega)],rfl,by omega,OV O e0,Aa (by rw[k0.out (by omega) (by omega),J.out (by omega)]),hE⟩
     case measure=>simp[intOf];omega
    ·refine AE (fun K hK=>?_);go_wp2_with fail;refine⟨by kernel_rfl,?_⟩;go_wp2_with fail;rw[Exit.noGoto_ret];go_ret3;exact LK (I.out (by omega) (by omega)) hE.out.drew Z.out (by rw[Y.out (by omega),U.out (by omega)])
    ·go_roundw
     case rel=>exact⟨i+1,acc+128^i*y,by go_num,by rw[Y.out (by omega)],rfl,by omega,OV O e0,Aa (by rw[k0.out (by omega) (by omega),J.out (by omega)]),hE⟩
     case measure=>simp[intOf];omega
  ·have m0:i=k:=by omega
   have p0:=Pp (l:=l) (i:=i) (by rw[<-h.out.len,m0];exact t0.out) acc;rw[<-hg.out]at p0;replace p0:=Aa p0;replace m0:=Aa m0;go_wp2_with fail;rw[Exit.noGoto_ret];go_ret3;exact Gv p0.out hE.out
theorem Oz (kk:IntKind) (h:k<=c) (H:∀a,A=some a->a.spot=none) (W:World) :
 (Instr.sliceAt 25 (.slice A n c) none (some (.int kk k)) none).run prog W = .ok (.slice A k c) W:=by
 have ht:=underlying25;have d:prog.elem 25=5:=by unfold Program.elem;rw[ht]
 have hs:∀W:World,(sizeOf 5).run prog W = .ok 1 W:=fun W=>by kernel_rfl
 rw[run_sliceAt_slice W _ _ _ _ _ (by rw[ht,d]),run_slice_h W _ A n c (by rw[ht,d]) kk k (by omega) (by omega),d,hs];simp only[Result.andThen_ok];congr 1;unfold sliced;have:(if c=0 then A else A.map fun x=>x.add (0*1))=A:=by
  cases A with
  | none=>simp
  | some a =>
   obtain⟨b,o,sp⟩:=a;obtain rfl:sp=none:=H _ rfl;simp[Addr.add_lit]
 rw[this];simp
theorem In8.fromk (kk:IntKind) (h:In8 w A n c l) (I:fr<=n) (G:z=(fr:Int)) :
 ∃A' c',(∀W:World,(Instr.sliceAt 25 (.slice A n c) (some (.int kk z)) none none).run prog W = .ok (.slice A' (n - fr) c') W)/\In8 w A' (n - fr) c' (l.drop fr):=by
 subst G;have ht:=underlying25;have J:prog.elem 25=5:=by unfold Program.elem;rw[ht]
 have hs:∀W:World,(sizeOf 5).run prog W = .ok 1 W:=fun W=>by kernel_rfl
 have H:∀W:World,(Instr.sliceAt 25 (.slice A n c) (some (.int kk fr)) none none).run prog W = .ok (sliced A fr n c 1) W:=by
  intro W;rw[run_sliceAt_slice W _ _ _ _ _ (by rw[ht,J]),run_slice_l W _ A n c (by rw[ht,J]) kk fr (by omega) (by omega),J,hs];simp only[Result.andThen_ok];congr 1
 have O:=h.cap;refine⟨_,_,H,by rw[List.length_drop,<-h.len],?_,by omega,?_,?_⟩
 ·rcases h.bytes with hb | ⟨g,o,rfl,hb⟩
  ·left;have:l = []:=by simpa using hb
   rw[this];simp
  ·by_cases Y:c=fr
   ·left;have:=h.len;rw[List.drop_of_length_le (by omega)];rfl
   ·refine .inr ⟨g,o+fr,by rw[if_neg Y];simp[Addr.add_lit],fun i v U=>?_⟩;rw[Nat.add_assoc];refine hb (fr+i) v ?_;rw[List.getElem?_map]at U ⊢;rw[List.getElem?_drop]at U;exact U
 ·intro Z;cases A with
  | none=>have:=h.nil_ rfl;omega
  | some a=>split at Z <;> cases Z
 ·intro a d;cases A with
  | none=>split at d <;> cases d
  | some b =>
   obtain⟨h1,h2⟩:=h.at_ b rfl;obtain⟨b,o,sp⟩:=b;obtain rfl:sp=Option.none:=h1;split at d
   ·cases d;exact⟨rfl,h2⟩
   ·cases d;show (Addr.add ⟨b,o,none⟩ (fr*1)).spot=none/\(Addr.add ⟨b,o,none⟩ (fr*1)).block<w.heap.size;rw[Addr.add_lit];exact⟨rfl,h2⟩
theorem In8.headk (kk:IntKind) (h:In8 w A n c l) (hk:k<=n) (Y:z=(k:Int)) :
 (∀W:World,(Instr.sliceAt 25 (.slice A n c) none (some (.int kk z)) none).run prog W = .ok (.slice A k c) W)/\In8 w A k c (l.take k):=by
 subst Y;refine⟨fun W=>Oz kk (by have:=h.cap;omega) (fun a H=>(h.at_ a H).1) W,by rw[List.length_take,<-h.len];omega,?_,by have:=h.cap;omega,h.nil_,h.at_⟩;rcases h.bytes with hb | ⟨g,o,rfl,hb⟩
 ·left;have:l = []:=by simpa using hb
  rw[this];simp
 ·refine .inr ⟨g,o,rfl,fun i v d=>hb i v ?_⟩;rw[List.getElem?_map]at d ⊢;rw[List.getElem?_take]at d;split at d
  ·exact d
  ·cases d
theorem In8.subk (kk k2:IntKind) (h:In8 w A n c l) (hf:fr+k<=n) (O:z0=(fr:Int)) (I:z=(fr:Int)+(k:Int)) :
 ∃A' c',(∀W:World,(Instr.sliceAt 25 (.slice A n c) (some (.int kk z0)) (some (.int k2 z)) none).run prog W = .ok (.slice A' k c') W)/\In8 w A' k c' ((l.drop fr).take k):=by
 subst O;subst I;have ht:=underlying25;have U:prog.elem 25=5:=by unfold Program.elem;rw[ht]
 have hs:∀W:World,(sizeOf 5).run prog W = .ok 1 W:=fun W=>by kernel_rfl
 have Z:=h.cap;have d:∀W:World,(Instr.sliceAt 25 (.slice A n c) (some (.int kk fr)) (some (.int k2 ((fr:Int)+(k:Int)))) none).run prog W = .ok (sliced A fr (fr+k) c 1) W:=by
  intro W;rw[run_sliceAt_slice W _ _ _ _ _ (by rw[ht,U]),run_slice_lh W _ A n c (by rw[ht,U]) kk k2 fr ((fr:Int)+k) (by omega) (by omega) (by omega),U,hs];simp only[Result.andThen_ok];congr 1
 unfold sliced at d;rw[Nat.add_sub_cancel_left]at d;refine⟨_,_,d,by rw[List.length_take,List.length_drop,<-h.len];omega,?_,by omega,?_,?_⟩
 ·rcases h.bytes with hb | ⟨g,o,rfl,hb⟩
  ·left;have:l = []:=by simpa using hb
   rw[this];simp
  ·by_cases J:c=fr
   ·left;have:k=0:=by omega
    subst this;simp
   ·refine .inr ⟨g,o+fr,by rw[if_neg J];simp[Addr.add_lit],fun i v H=>?_⟩;rw[Nat.add_assoc];refine hb (fr+i) v ?_;rw[List.getElem?_map]at H ⊢;rw[List.getElem?_take]at H;split at H
    ·rw[List.getElem?_drop]at H;exact H
    ·cases H
 ·intro G;cases A with
  | none=>have:=h.nil_ rfl;omega
  | some a=>split at G <;> cases G
 ·intro a Y;cases A with
  | none=>split at Y <;> cases Y
  | some b =>
   obtain⟨h1,h2⟩:=h.at_ b rfl;obtain⟨b,o,sp⟩:=b;obtain rfl:sp=Option.none:=h1;split at Y
   ·cases Y;exact⟨rfl,h2⟩
   ·cases Y;show (Addr.add ⟨b,o,none⟩ (fr*1)).spot=none/\(Addr.add ⟨b,o,none⟩ (fr*1)).block<w.heap.size;rw[Addr.add_lit];exact⟨rfl,h2⟩
end
section
def cstep (y:Nat):Nat:=if y%2=1 then (y / 2) ^^^ 3988292384 else y / 2
def c8 (y:Nat):Nat:=cstep (cstep (cstep (cstep (cstep (cstep (cstep (cstep y)))))))
def con (x:Nat) (c:UInt8):Nat:=c8 (x ^^^ c.toNat)
def cnot (x:Nat):Nat:=4294967295 - x
def cnext (s:Nat) (l:List UInt8):Nat:=cnot (l.foldl con (cnot s))
theorem To (a b:Nat):(a ^^^ b) / 2=(a / 2) ^^^ (b / 2):=by
 have:=Nat.shiftRight_xor_distrib (a:=a) (b:=b) (i:=1);simpa [Nat.shiftRight_eq_div_pow]using this
theorem QV (a b:Nat):(a ^^^ b)%2=(a%2) ^^^ (b%2):=by
 have:=Nat.xor_mod_two_pow (a:=a) (b:=b) (n:=1);simpa using this
theorem Nv (a b:Nat):cstep (a ^^^ b)=cstep a ^^^ cstep b:=by
 unfold cstep;rw[To,QV];rcases Nat.mod_two_eq_zero_or_one a with h | h <;> rcases Nat.mod_two_eq_zero_or_one b with hb | hb <;> rw[h,hb]
 ·rfl
 ·show (a / 2 ^^^ b / 2) ^^^ 3988292384=(a / 2) ^^^ (b / 2 ^^^ 3988292384);rw[Nat.xor_assoc]
 ·show (a / 2 ^^^ b / 2) ^^^ 3988292384=(a / 2 ^^^ 3988292384) ^^^ (b / 2);rw[Nat.xor_assoc,Nat.xor_assoc,Nat.xor_comm (b / 2)]
 ·show (a / 2 ^^^ b / 2)=(a / 2 ^^^ 3988292384) ^^^ (b / 2 ^^^ 3988292384);rw[Nat.xor_assoc,<-Nat.xor_assoc 3988292384,Nat.xor_comm 3988292384 (b / 2),Nat.xor_assoc (b / 2),Nat.xor_self,Nat.xor_zero]
theorem Rv (a b:Nat):c8 (a ^^^ b)=c8 a ^^^ c8 b:=by
 unfold c8;simp only[Nv]
theorem Nu (z:Nat):cstep (z*2)=z:=by
 unfold cstep;rw[if_neg (by omega)];omega
theorem QD (z:Nat):c8 (z*256)=z:=by
 unfold c8;rw[show z*256=z*2*2*2*2*2*2*2*2 by omega];simp only[Nu]
theorem OD (y:Nat):y=(y%256) ^^^ (y / 256*256):=by
 have h:y / 256*256 ||| y%256=y / 256*256+y%256:=by
  have:=Nat.shiftLeft_add_eq_or_of_lt (b:=y%256) (i:=8) (Nat.mod_lt _ (by decide)) (y / 256);rw[Nat.shiftLeft_eq]at this;exact this.symm
 apply Nat.eq_of_testBit_eq;intro i;rw[Nat.testBit_xor];have h1:(y%256).testBit i=(decide (i<8)&&y.testBit i):=Nat.testBit_mod_two_pow y 8 i;have h2:(y / 256*256).testBit i=(decide (8<=i)&&y.testBit i):=by
  have e:y / 256*256=(y >>> 8) <<< 8:=by rw[Nat.shiftRight_eq_div_pow,Nat.shiftLeft_eq]
  rw[e,Nat.testBit_shiftLeft,Nat.testBit_shiftRight];by_cases d:8<=i
  ·rw[show 8+(i - 8)=i by omega]
  ·simp[d]
 rw[h1,h2];by_cases d:i<8
 ·simp[d,show ¬ 8<=i by omega]
 ·simp[d,show 8<=i by omega]
theorem Nt (x:Nat) (c:UInt8):con x c=c8 ((x ^^^ c.toNat)%256) ^^^ (x / 256):=by
 unfold con;have d:c.toNat / 256=0:=by have:=c.toNat_lt;omega
 have h:=Nat.shiftRight_xor_distrib (a:=x) (b:=c.toNat) (i:=8);rw[Nat.shiftRight_eq_div_pow,Nat.shiftRight_eq_div_pow,Nat.shiftRight_eq_div_pow]at h;have h2:(x ^^^ c.toNat) / 256=x / 256:=by
  have:(2:Nat)^8=256:=rfl;rw[this,d,Nat.xor_zero]at h;exact h
 conv=>lhs;rw[OD (x ^^^ c.toNat)]
 rw[Rv,QD,h2]
theorem BB {y:Nat} (h:y<4294967296):cstep y<4294967296:=by
 unfold cstep;split
 ·exact Nat.xor_lt_two_pow (n:=32) (by omega) (by omega)
 ·omega
theorem Re {y:Nat} (h:y<4294967296):c8 y<4294967296:=by
 unfold c8;exact BB (BB (BB (BB (BB (BB (BB (BB h)))))))
theorem Lq (c:UInt8) (h:x<4294967296):con x c<4294967296:=by
 unfold con;have:=c.toNat_lt;exact Re (Nat.xor_lt_two_pow (n:=32) (by omega) (by omega))
theorem MX:∀(l:List UInt8) {x:Nat},x<4294967296->l.foldl con x<4294967296
 | [],_,h=>h
 | c::l,_,h=>MX l (Lq c h)
theorem EP (s:Nat) (l:List UInt8):cnext s l<4294967296:=by
 unfold cnext cnot;omega
end
section
open Go.RowKit
def citer:Nat->Nat->Nat
 | 0,y=>y
 | k+1,y=>citer k (cstep y)
theorem O5 (y:Nat):c8 y=citer 8 y:=rfl
theorem GC {z v j:Nat} (h:z=citer (8 - j) v) (d:j<8):z=citer (8 - (j+1)) (cstep v):=by
 rw[h,show 8 - j=(8 - (j+1))+1 by omega];rfl
theorem Im {z v j:Nat} (h:z=citer (8 - j) v) (d:8<=j):z=v:=by
 rw[h,show 8 - j=0 by omega];rfl
theorem Ip {v:Nat} (h:v%2=1):cstep v=(v / 2) ^^^ 3988292384:=by unfold cstep;rw[if_pos h]
theorem GE {v:Nat} (h:v%2=0):cstep v=v / 2:=by unfold cstep;rw[if_neg (by omega)]
theorem Lc {d:Nat} (h:d<4294967296):bits .xor .u32 (d:Int) 3988292384=((d ^^^ 3988292384:Nat):Int):=by
 rw[show (3988292384:Int)=((3988292384:Nat):Int)from rfl,u32_xor_nat _ _ h (by omega)]
def tabA (i:Nat):Array Value:=((List.range 256).map fun k=>if k<i then Value.int .u32 (c8 k:Nat) else .int .u32 0).toArray
theorem Fr (hk:k<256):(tabA i)[k]? = some (if k<i then Value.int .u32 (c8 k:Nat) else .int .u32 0):=by
 unfold tabA;simp[hk]
theorem Qd (hi:i<256):(tabA i).setIfInBounds i (.int .u32 (c8 i:Nat))=tabA (i+1):=by
 apply Array.ext_getElem?;intro k;rw[Array.getElem?_setIfInBounds];by_cases hk:k<256
 ·rw[Fr hk,Fr hk];have hs:i<(tabA i).size:=by unfold tabA;simp;omega
  by_cases h:i=k
  ·subst h;rw[if_pos rfl,if_pos hs,if_pos (by omega)]
  ·rw[if_neg h];by_cases h1:k<i
   ·rw[if_pos h1,if_pos (by omega)]
   ·rw[if_neg h1,if_neg (by omega)]
 ·have h1:(tabA i)[k]? = none:=by unfold tabA;simp;omega
  have h2:(tabA (i+1))[k]? = none:=by unfold tabA;simp;omega
  rw[h1,h2,if_neg (by omega)]
theorem OM:Tryz.zeroCells389=tabA 0:=by kernel_rfl
theorem Ts {v:Nat} (h:v<4294967296):bits .and .u32 (v:Int) 1=((v%2:Nat):Int):=by
 rw[show (1:Int)=((1:Nat):Int)from rfl,u32_and_nat _ _ h (by omega),Nat.and_one_is_mod]
theorem ON (w:World):Calls prog 300 #[] w fun e w'=>e = .returned (.pointer (some ⟨w.heap.size,0,none⟩))/\Row w' w.heap.size 389 (tabA 256)/\Ext w w':=by
 have hz:Row (w.alloc (.cells Tryz.zeroCells389 389)) w.heap.size 389 (tabA 0):=by rw[OM];exact Row.new w _ _
 have O:Ext w (w.alloc (.cells Tryz.zeroCells389 389)):=(Ext.refl w).alloc _;replace hz:=Aa hz;replace O:=Aa O
 go_in
 go_wp2_with fail
 go_loopw [2,3,4,5] (fun _ _ _ s5 wr=>∃(i:Nat),s5 = .int .i64 i/\i<=256/\Hid (Row wr w.heap.size 389 (tabA i))/\Hid (Ext w wr)) (fun _ _ _ s5 _=>256 - (intOf s5).toNat)
 case atStart=>exact⟨0,rfl,by omega,hz,O⟩
 case round =>
  obtain⟨i,rfl,hi,hr,hE⟩:=hrel;by_cases I:i<256
  ·obtain⟨z,H⟩:=Ab (c8 i);have k0:=Aa H;rw[O5]at H;replace H:=Aa H;obtain⟨wo,rfl⟩:=Ab (wr:World);go_wp2_with fail
   go_loop [3,4,10] (fun s3 _ s10=>∃(j v:Nat),s10 = .int .i64 j/\j<=8/\s3 = .int .u32 v/\v<4294967296/\Hid (z=citer (8 - j) v)) (fun _ _ s10=>8 - (intOf s10).toNat)
   case atStart=>exact⟨0,i,rfl,by omega,by go_num,by omega,H⟩
   case round =>
    obtain⟨j,v,rfl,hj,rfl,hv,Y⟩:=hrel;by_cases m0:j<8
    ·have h:=GC Y.out m0;have J:=BB hv;have G:=Ts hv;obtain⟨q,hq⟩:=Ab (v%2);obtain⟨d,hd⟩:=Ab (v / 2);have c0:(v:Int) / 2=(d:Int):=by omega
     have U:d<4294967296:=by omega
     have t0:=Lc U;rw[<-hq]at G;rcases (show q=0\/q=1 by omega)with rfl | rfl
     ·rw[GE hq.symm,<-hd]at h;replace h:=Aa h;clear hq hd Y J;go_wp2_with fail
      go_round
      case rel=>exact⟨j+1,d,by go_num,by omega,rfl,U,h⟩
      case measure=>simp[intOf];omega
     ·rw[Ip hq.symm,<-hd]at h J;obtain⟨y,hy⟩:=Ab (d ^^^ 3988292384);rw[<-hy]at h J t0;replace h:=Aa h;clear hq hd Y hy;go_wp2_with fail
      go_round
      case rel=>exact⟨j+1,y,by go_num,by omega,rfl,J,h⟩
      case measure=>simp[intOf];omega
    ·have h:=Im Y.out (by omega);have Z:=hr.out.cell i (Fr I);have d0:=hr.out.free i;have e0:=hr.out.lt;rw[if_neg (by omega)]at Z;have hp:=hr.out.put i (.int .u32 (v:Nat));rw[<-h,k0.out,Qd I]at hp;have h0:=Aa (k0.out.symm.trans h);replace hp:=Aa hp;have g0:=Aa (hE.out.setCell (p:=⟨w.heap.size,i,none⟩) (Nat.le_refl _) (.int .u32 ((c8 i:Nat):Int)));clear Y h;go_wp2_with fail;go_roundw
     case rel=>exact⟨i+1,by go_num,by omega,by rw[<-h0.out];exact hp,by rw[<-h0.out];exact g0⟩
     case measure=>simp[intOf];omega
  ·obtain rfl:i=256:=by omega
   go_wp2_with fail;go_ret;exact⟨rfl,hr.out,hE.out⟩
theorem Ns (v:Nat) (c:UInt8):con v c=c8 ((v%256) ^^^ c.toNat) ^^^ (v / 256):=by
 rw[Nt];congr 2;have h:=Nat.xor_mod_two_pow (a:=v) (b:=c.toNat) (n:=8);have d:=c.toNat_lt;rw[show (2:Nat)^8=256 from rfl,Nat.mod_eq_of_lt (a:=c.toNat) (by omega)]at h;exact h
theorem PG (A:Option Addr) (s n c:Nat) (l:List UInt8) (w0 w:World) (hb:In8 w0 A n c l) (hw:Ext w0 w) (hs:s<4294967296) (o0:n<=1000000000) :
 Calls prog 261 #[.int .u32 s,.slice A n c] w fun e w'=>e = .returned (.int .u32 (cnext s l:Nat))/\Ext w w':=by
 have k0:=Aa (ON w);have U:=Dh s hs;have I:cnot s<4294967296:=by unfold cnot;omega
 rw[show 4294967295 - s=cnot s from rfl]at U;obtain⟨y,hy⟩:=Ab (cnot s);rw[<-hy]at U I;have hr:cnext s l=4294967295 - l.foldl con y:=by unfold cnext;rw[<-hy];rfl
 replace hr:=Aa hr;clear hy;replace hb:=Aa hb
 go_in
 go_wp2_with fail;refine k0.out.mono ?_;rintro e w1 ⟨rfl,H,Y⟩;replace H:=Aa H;replace Y:=Aa Y;go_wp2_with fail
 go_loop [6,8,14] (fun s6 _ s14=>∃(i v:Nat),s14 = .int .i64 i/\i<=n/\s6 = .int .u32 v/\v<4294967296/\Hid (l.foldl con y=(l.drop i).foldl con v)) (fun _ _ s14=>n - (intOf s14).toNat)
 case atStart=>exact⟨0,y,rfl,by omega,rfl,I,rfl⟩
 case round =>
  obtain⟨i,v,rfl,hi,rfl,hv,hf⟩:=hrel;by_cases n0:i<n
  ·have h0:i<l.length:=by rw[<-hb.out.len];omega
   obtain⟨g,o,rfl,hc⟩:=hb.out.bytes.at_ (by omega);have O:=(hw.trans Y.out).cell (hc i h0);have hn:l.foldl con y=(l.drop (i+1)).foldl con (con v l[i]):=by rw[hf.out,List.drop_eq_getElem_cons h0];rfl
   have J:=Lq l[i] hv;have h:=Ns v l[i];obtain⟨x,hx⟩:=Ab (l[i].toNat);have g0:x<256:=by rw[hx];exact l[i].toNat_lt
   rw[<-hx]at O h;obtain⟨z,hz⟩:=Ab (con v l[i]);rw[<-hz]at hn J h;obtain⟨m,hm⟩:=Ab (v%256);have r0:(v:Int)%256=(m:Int):=by omega
   have q0:m<256:=by omega
   have y0:=u8_xor_nat m x q0 g0;rw[<-hm]at h;have G:m ^^^ x<256:=Nat.xor_lt_two_pow (n:=8) q0 g0;obtain⟨k,hk⟩:=Ab (m ^^^ x);rw[<-hk]at h y0 G;have j0:=H.out.cell k (Fr G);rw[if_pos G]at j0;obtain⟨t,ht⟩:=Ab (c8 k);have p0:t<4294967296:=by rw[ht];exact Re (by omega)
   rw[<-ht]at j0 h;obtain⟨d,hd⟩:=Ab (v / 256);have l0:(v:Int) / 256=(d:Int):=by omega
   have b0:=u32_xor_nat t d p0 (by omega);rw[<-hd]at h;rw[<-h]at b0;replace hn:=Aa hn;clear hc hf hx hz hm hk ht hd h;go_wp2_with fail
   go_round
   case rel=>exact⟨i+1,z,by go_num,by omega,rfl,J,hn⟩
   case measure=>simp[intOf];omega
  ·have Z:l.foldl con y=v:=by rw[hf.out,List.drop_of_length_le (by rw[<-hb.out.len];omega)];rfl
   have h1:=Dh v hv;replace Z:=Aa Z;clear hf;go_wp2_with fail;go_ret;exact⟨Fb (by rw[hr.out,Z.out]),Y.out⟩
def csum (s:Nat) (ls:List (List UInt8)):Nat:=ls.foldl cnext s
theorem Ng (B:Option Addr) (k c2:Nat) (ps:List (Option Addr×Nat×List UInt8)) (w:World) (hk:k=ps.length) (hB:Cells w B (ps.map fun p=> .slice p.1 p.2.2.length p.2.1)) (U:∀p∈ps,In8 w p.1 p.2.2.length p.2.1 p.2.2) (O:∀p∈ps,p.2.2.length<=1000000000) (m0:k<=1000000) :
 Calls prog 222 #[.slice B k c2] w fun e w'=>e = .returned (.int .u32 (csum 0 (ps.map fun p=>p.2.2):Nat))/\Ext w w':=by
 replace hk:=Aa hk;replace U:=Aa U;replace O:=Aa O
 go_in
 go_wp2_with fail
 go_loopw [3,5,8] (fun s3 _ s8 wr=>∃(i v:Nat),s8 = .int .i64 i/\i<=k/\s3 = .int .u32 v/\v<4294967296/\Hid (csum 0 (ps.map fun p=>p.2.2)=csum v ((ps.drop i).map fun p=>p.2.2))/\Hid (Ext w wr)) (fun _ _ s8 _=>k - (intOf s8).toNat)
 case atStart=>exact⟨0,0,rfl,by omega,rfl,by omega,Aa rfl,Aa (Ext.refl w)⟩
 case round =>
  obtain⟨i,v,rfl,hi,rfl,hv,I,G⟩:=hrel;by_cases g0:i<k
  ·have d:i<ps.length:=by rw[<-hk.out];omega
   obtain⟨g,o,rfl,hc⟩:=hB.at_ (by rw[List.length_map];omega);have H:=G.out.cell (hc i _ (by rw[List.getElem?_map,List.getElem?_eq_getElem d];rfl));have Z:csum 0 (ps.map fun p=>p.2.2)=csum (cnext v ps[i].2.2) ((ps.drop (i+1)).map fun p=>p.2.2):=by rw[I.out,List.drop_eq_getElem_cons d];rfl
   have h:=PG ps[i].1 v ps[i].2.2.length ps[i].2.1 ps[i].2.2 w wr (U.out _ (List.getElem_mem d)) G.out hv (O.out _ (List.getElem_mem d));have Y:=EP v ps[i].2.2;obtain⟨p,hp⟩:=Ab (ps[i]);rw[<-hp]at H Z h Y;obtain⟨z,hz⟩:=Ab (cnext v p.2.2);rw[<-hz]at Z h Y;replace Z:=Aa Z;replace h:=Aa h;clear hp hc I hz;go_wp2_with fail;refine h.out.mono ?_;rintro e w1 ⟨rfl,h0⟩;go_wp2_with fail;go_roundw
   case rel=>exact⟨i+1,z,by go_num,by omega,rfl,Y,Z,Aa (G.out.trans h0)⟩
   case measure=>simp[intOf];omega
  ·have J:csum 0 (ps.map fun p=>p.2.2)=v:=by rw[I.out,List.drop_of_length_le (by rw[<-hk.out];omega)];rfl
   replace J:=Aa J;clear I;go_wp2_with fail;go_ret;exact⟨by rw[J.out];rfl,G.out⟩
theorem Pr (n:Nat) (w:World) (hn:n<=1000000000):Calls prog 262 #[.slice none 0 0,.int .i64 n] w fun e w'=>∃A c,e = .returned (.slice A 0 c)/\Buf w' w.heap.size 5 A 0 c []/\Ext w w':=by
 have g0:¬ (n:Int)<0:=by omega
 rcases Nat.eq_zero_or_pos n with rfl | Y
 ·go_in
  go_wp2_with fail;go_ret;exact⟨none,0,rfl,Buf.nil _ _ _,Ext.refl w⟩
 ·have G:(0:Int)<n:=by omega
  obtain⟨i,z,hi,hz,h3,I,h5⟩:=Aw.hi;have H:=fun W ty=>Lib.run_append_nil_zeros (P:=prog) W 25 3 ty 5 i z .i64 .i64 underlying25 underlying3 hi hz n Y (by omega) (by omega) (by rw[I];omega);have O:=grownCap_ge w n 0 5;obtain⟨cur,d⟩:=Ab (Builtin.zeroCells z.cells n++Builtin.zeroCells z.cells (grownCap w n 0 5 - n));have U:cur.size=grownCap w n 0 5:=by rw[d,Array.size_append,size_zeroCells,size_zeroCells,h5];omega
  have j0:=fun W=>FN (n:=0) (c:=0) (k:=0) (A:=none) (Nat.le_refl _) nofun W;have Z:=fun W=>FN (n:=n) (c:=grownCap w n 0 5) (k:=0) (A:=some ⟨w.heap.size,0,none⟩) (by omega) (fun a ha=>by cases ha;rfl) W;obtain⟨C,J⟩:=Ab (grownCap w n 0 5);rw[<-J]at O Z;have h:=fun ty=>H w ty;rw[<-d,<-J]at h;rw[<-J]at U;replace h:=Aa h;clear H J d h5 I h3 hz hi
  go_in
  go_wp2_with (at_builtin;refine Lib.wpList_append_run _ rfl (.tmp 20) (.tmp 21) 25 3 rfl (.slice none 0 0) (.int .i64 n) rfl rfl _ _ (h.out _) ?_);go_ret;refine⟨some ⟨w.heap.size,0,none⟩,C,rfl,⟨rfl,Nat.zero_le _,.inr ⟨w.heap.size,cur,rfl,Nat.le_refl _,heap_alloc_new w _,by omega,by simp⟩⟩,?_⟩;exact((Ext.refl w).alloc _).drew
def catL (ps:List (Option Addr×Nat×List UInt8)):List UInt8:=ps.flatMap fun p=>p.2.2
theorem Ij {ps:List (Option Addr×Nat×List UInt8)} (h:i<ps.length):catL (ps.take (i+1))=catL (ps.take i)++ps[i].2.2:=by
 unfold catL;rw[List.take_succ_eq_append_getElem h,List.flatMap_append];simp
theorem HT (ps:List (Option Addr×Nat×List UInt8)) (i:Nat):(catL (ps.take i)).length<=(catL ps).length:=by
 have h:catL ps=catL (ps.take i)++catL (ps.drop i):=by
  unfold catL;rw[<-List.flatMap_append,List.take_append_drop]
 rw[h,List.length_append];omega
theorem Lr (B:Option Addr) (k c2:Nat) (ps:List (Option Addr×Nat×List UInt8)) (w:World) (hk:k=ps.length) (hB:Cells w B (ps.map fun p=> .slice p.1 p.2.2.length p.2.1)) (q0:∀p∈ps,In8 w p.1 p.2.2.length p.2.1 p.2.2) (q1:(catL ps).length<=1000000000) (x1:k<=1000000) :
 Calls prog 223 #[.slice B k c2] w fun e w'=>NewB w (catL ps) e w':=by
 have d:=HT ps;obtain⟨T,hT⟩:=Ab ((catL ps).length);rw[<-hT]at q1 d;replace hk:=Aa hk;replace q0:=Aa q0;replace d:=Aa d;replace hT:=Aa hT
 go_in
 go_wp2_with fail
 go_loopw [3,5,11] (fun s3 _ s11 wr=>∃(i v:Nat),s11 = .int .i64 (i:Int)/\i<=k/\s3 = .int .i64 (v:Int)/\v<=T/\Hid (v=(catL (ps.take i)).length)/\wr=w) (fun _ _ s11 _=>k - (intOf s11).toNat)
 case atStart=>exact⟨0,0,rfl,by omega,rfl,by omega,Aa (by simp[catL]),rfl⟩
 case round =>
  obtain⟨i,v,rfl,hi,rfl,hv,d0,rfl⟩:=hrel;by_cases j1:i<k
  ·have O:i<ps.length:=by rw[<-hk.out];omega
   obtain⟨g,o,rfl,hc⟩:=hB.at_ (by rw[List.length_map];omega);have Y:=hc i _ (by rw[List.getElem?_map,List.getElem?_eq_getElem O];rfl);have H:=Ij O;have m0:=d.out (i+1);obtain⟨p,hp⟩:=Ab (ps[i]);rw[<-hp]at Y H;have U:v+p.2.2.length=(catL (ps.take (i+1))).length:=by rw[H,List.length_append,d0.out]
   have t0:v+p.2.2.length<=T:=by omega
   have a1:¬ ((v:Int)+(p.2.2.length:Int))<0:=by omega
   have o0:(0:Int)<=i:=by omega
   have r0:(i:Int)<k:=by omega
   replace U:=Aa U;clear hp hc H m0;go_wp2_with fail;go_roundw
   case rel=>exact⟨i+1,v+p.2.2.length,by go_num,by omega,by go_num,t0,U,trivial⟩
   case measure=>simp[intOf];omega
  ·have Z:ps.take i=ps:=List.take_of_length_le (by rw[<-hk.out];omega);have n0:=Aa (Pr v wr (by omega));rw[Z]at d0;go_wp2_with fail;refine n0.out.mono ?_;rintro e w1 ⟨A1,c1,rfl,h0,x0⟩;replace h0:=Aa h0;obtain⟨wo,k0⟩:=Ab wr;rw[<-k0]at x0 hB q0 h0;have J:∀e w',NewB wo (catL ps) e w'->NewB wr (catL ps) e w':=fun e w' h=>by rw[<-k0];exact h
   replace J:=Aa J;replace k0:=Aa k0;go_wp2_with fail
   go_loopw [6,8,27] (fun s6 _ s27 wz=>∃(i n4 c4:Nat) (A4:Option Addr),s27 = .int .i64 (i:Int)/\i<=k/\s6 = .slice A4 n4 c4/\n4<=T/\Hid (n4=(catL (ps.take i)).length)/\Hid (Buf wz wo.heap.size 5 A4 n4 c4 ((catL (ps.take i)).map B8))/\Hid (Ext wo wz)) (fun _ _ s27 _=>k - (intOf s27).toNat)
   case atStart=>exact⟨0,0,c1,A1,rfl,by omega,rfl,by omega,Aa (by simp[catL]),Aa (by simpa [catL]using h0.out),Aa x0⟩
   case round =>
    obtain⟨j,n4,c4,A4,rfl,hj,rfl,y1,p0,g0,hE⟩:=hrel;by_cases m1:j<k
    ·have O:j<ps.length:=by rw[<-hk.out];omega
     obtain⟨g,o,rfl,hc⟩:=hB.at_ (by rw[List.length_map];omega);have Y:=hE.out.cell (hc j _ (by rw[List.getElem?_map,List.getElem?_eq_getElem O];rfl));have H:=Ij O;have m0:=d.out (j+1);have j0:=(q0.out _ (List.getElem_mem O)).ext hE.out;obtain⟨p,hp⟩:=Ab (ps[j]);rw[<-hp]at Y H j0;have U:n4+p.2.2.length=(catL (ps.take (j+1))).length:=by rw[H,List.length_append,p0.out]
     have t0:n4+p.2.2.length<=T:=by omega
     have I:(catL (ps.take (j+1))).map B8=(catL (ps.take j)).map B8++p.2.2.map B8:=by rw[H,List.map_append]
     have o0:(0:Int)<=j:=by omega
     have r0:(j:Int)<k:=by omega
     have c0:wo.heap.size<=(‹World›).heap.size:=hE.out.size;replace U:=Aa U;replace I:=Aa I;clear hp hc H m0;go_wp2_with (at_builtin;refine Al Aw g0.out j0.bytes (.tmp 31) (.tmp 32) rfl rfl rfl rfl rfl (by rw[List.length_map]) (fun u hu=>by obtain⟨x,_,rfl⟩:=List.mem_map.1 hu;rfl) (by omega) c0 (fun A5 c5 w5 l0 p1 f0 _=>?_));refine⟨⟨j+1,n4+p.2.2.length,c5,A5,by go_num,by omega,rfl,t0,U,Aa (by rw[I.out];exact l0),Aa (f0 _ hE.out (Nat.le_refl _))⟩,?_⟩;simp[intOf];omega
    ·have Z:ps.take j=ps:=List.take_of_length_le (by rw[<-hk.out];omega);rw[Z]at p0 g0;have G:∀wz,Ext wo wz->Buf wz wo.heap.size 5 A4 n4 c4 ((catL ps).map B8)->NewB wo (catL ps) (.returned (.slice A4 n4 c4)) wz:=fun wz h1 h2=>⟨A4,c4,by rw[<-p0.out],by rw[<-p0.out];exact h2,h1⟩
     replace G:=Aa G;go_wp2_with fail;go_ret;exact J.out _ _ (G.out _ hE.out g0.out)
def be4 (s:Nat):List UInt8:= [UInt8.ofNat (s / 16777216%256),UInt8.ofNat (s / 65536%256),UInt8.ofNat (s / 256%256),UInt8.ofNat (s%256)]
def be (l:List UInt8):Nat:=l.foldl (fun s x=>s*256+x.toNat) 0
theorem Rr {s:Nat} (h:s<4294967296):be (be4 s)=s:=by
 have h1:∀k,(UInt8.ofNat (k%256)).toNat=k%256:=fun k=>by rw[UInt8.toNat_ofNat'];omega
 unfold be be4;simp only[List.foldl_cons,List.foldl_nil,h1];omega
theorem Nq (h:x<4294967296):cnot (cnot x)=x:=by unfold cnot;omega
theorem Io (a b:List UInt8):cnext (cnext 0 a) b=cnext 0 (a++b):=by
 unfold cnext;rw[Nq (MX a (by unfold cnot;omega)),List.foldl_append]
def frameL (p:List UInt8):List UInt8:=vb p.length++be4 (cnext 0 (vb p.length++p))++p
def getF (l:List UInt8):Except Nat (List UInt8×List UInt8):=match getV 0 l with
 | .error k=>if k=6 then .error 41 else .error 40
 | .ok (n,r)=>if 16777216<n then .error 40 else if r.length<4+n then .error 41 else
  if cnext 0 (l.take (l.length - r.length)++(r.drop 4).take n)=be (r.take 4) then .ok ((r.drop 4).take n,r.drop (4+n)) else .error 40
theorem Pn (h:p.length<=16777216) (r:List UInt8):getF (frameL p++r) = .ok (p,r):=by
 have J:∀s,(be4 s).length=4:=fun _=>rfl;unfold getF frameL;rw[List.append_assoc,List.append_assoc,BD (by omega)];simp only;rw[if_neg (by omega),if_neg (by rw[List.length_append,List.length_append,J];omega)];obtain⟨B,H⟩:=Ab (be4 (cnext 0 (vb p.length++p)));have d:B.length=4:=by rw[H];rfl
 have Y:be B=cnext 0 (vb p.length++p):=by rw[H];exact Rr (EP _ _)
 rw[<-H];have e1:(vb p.length++(B++(p++r))).length - (B++(p++r)).length=(vb p.length).length:=by rw[List.length_append];omega
 have e2:(B++(p++r)).drop 4=p++r:=List.drop_left' d;have e3:(B++(p++r)).take 4=B:=List.take_left' d;have e4:(B++(p++r)).drop (4+p.length)=r:=by rw[<-List.drop_drop,e2];exact List.drop_left' rfl
 rw[e1,e2,e3,e4,List.take_left' rfl,List.take_left' rfl,Y,if_pos rfl]
theorem Eu:∀(l:List UInt8) (i n:Nat) (r r':List UInt8),getV i l = .ok (n,r)->∃p,l=p++r/\getV i (p++r') = .ok (n,r')
 | [],i,n,r,r',h=>by unfold getV at h;cases h
 | x::l,i,n,r,r',h=>by
  unfold getV at h;split at h
  ·cases h
  ·rename_i h1;split at h
   ·cases h
   ·rename_i h2;split at h
    ·rename_i d;injection h with h;injection h with e1 e2;refine⟨[x],by rw[<-e2];rfl,?_⟩;show getV i (x::r')=_;unfold getV;rw[if_neg h1,if_neg h2,if_pos d,e1]
    ·rename_i d;split at h
     ·rename_i m r1 H;injection h with h;injection h with e1 e2;obtain⟨p,Y,J⟩:=Eu l (i+1) m r1 r' H;refine⟨x::p,by rw[Y,<-e2];rfl,?_⟩;show getV i (x::(p++r'))=_;unfold getV;rw[if_neg h1,if_neg h2,if_neg d,J];simp only;rw[e1]
     ·cases h
theorem LH (h:getF l = .ok (p,r)) (r':List UInt8):∃f,l=f++r/\f ≠ []/\getF (f++r') = .ok (p,r'):=by
 unfold getF at h;split at h
 ·split at h <;> cases h
 ·rename_i n r0 Z;split at h
  ·cases h
  ·rename_i h1;split at h
   ·cases h
   ·rename_i h2;split at h
    ·rename_i O;injection h with h;injection h with e1 e2;obtain⟨v,Y,G⟩:=Eu l 0 n r0 (r0.take (4+n)++r') Z;have U:v ≠ []:=by
      obtain⟨_,_,q,H,J⟩:=Ck l 0 n r0 Z;rw[Y]at H;rw[List.append_cancel_right H];exact J
     refine⟨v++r0.take (4+n),by rw[Y,<-e2,List.append_assoc,List.take_append_drop],by simp[U],?_⟩;unfold getF;rw[List.append_assoc,G];simp only;have d:(r0.take (4+n)).length=4+n:=by rw[List.length_take];omega
     rw[if_neg h1,if_neg (by rw[List.length_append,d];omega)];have e3:(v++(r0.take (4+n)++r')).length - (r0.take (4+n)++r').length=v.length:=by rw[List.length_append];omega
     have e4:l.length - r0.length=v.length:=by rw[Y,List.length_append];omega
     have e5:((r0.take (4+n)++r').drop 4).take n=(r0.drop 4).take n:=by
      rw[List.drop_append_of_le_length (by omega),List.take_append_of_le_length (by rw[List.length_drop];omega),List.drop_take,List.take_take];congr 1;omega
     have e6:(r0.take (4+n)++r').take 4=r0.take 4:=by
      rw[List.take_append_of_le_length (by omega),List.take_take];congr 1;omega
     have e7:(r0.take (4+n)++r').drop (4+n)=r':=List.drop_left' d;rw[e4,Y,List.take_left' rfl]at O;rw[e3,List.take_left' rfl,e5,e6,e7,if_pos O,e1]
    ·cases h
theorem C1 (h:getF l = .ok (p,r)):r.length<l.length/\p.length<=16777216/\p.length<=l.length:=by
 obtain⟨f,Y,d,_⟩:=LH h [];have H:=List.length_pos_iff.2 d;refine⟨by rw[Y,List.length_append];omega,?_⟩;unfold getF at h;split at h
 ·split at h <;> cases h
 ·rename_i n r0 J;obtain⟨_,_,q,U,_⟩:=Ck l 0 n r0 J;split at h
  ·cases h
  ·split at h
   ·cases h
   ·split at h
    ·injection h with h;injection h with e1 e2;rw[<-e1,List.length_take,List.length_drop,U,List.length_append];omega
    ·cases h
theorem NQ (h:getF l = .error k):k=40\/k=41:=by
 unfold getF at h;split at h
 ·split at h <;> (injection h with h;omega)
 ·split at h
  ·injection h with h;omega
  ·split at h
   ·injection h with h;omega
   ·split at h
    ·cases h
    ·injection h with h;omega
theorem JH (k:Nat):B8 (UInt8.ofNat (k%256)) = .int .u8 ((k%256:Nat):Int):=by
 unfold B8;rw[UInt8.toNat_ofNat'];congr 2;omega
theorem OZ {s:Nat} (h:s<4294967296) : [.int .u8 ((s:Int) / 16777216),.int .u8 ((s:Int) / 65536%256),.int .u8 ((s:Int) / 256%256),.int .u8 ((s:Int)%256)]=(be4 s).map B8:=by
 unfold be4;rw[List.map_cons,List.map_cons,List.map_cons,List.map_cons,List.map_nil,JH,JH,JH,JH];congr 2
 ·omega
theorem Dg (h:m<18446744073709551616):IntKind.u64.wrap (m:Int)=(m:Int):=by
 simp[IntKind.wrap,IntKind.bits,IntKind.signed];omega
def PutP (w:World) (l:List UInt8) (e:Ending) (w':World):Prop:=∃A c,e = .returned (.tuple #[.slice A l.length c,.int .i64 0])/\Buf w' w.heap.size 5 A l.length c (l.map B8)/\Ext w w'
theorem Ph (A:Option Addr) (n c:Nat) (l:List UInt8) (B:Option Addr) (m d:Nat) (p:List UInt8) (w:World) (hl:In8 w A n c l) (hp:In8 w B m d p) (hn:n<=900000000) (hm:m<=16777216) :
 Calls prog 163 #[.slice A n c,.slice B m d] w fun e w'=>PutP w (l++frameL p) e w':=by
 have n0:=Aa (Cm none 0 0 m [] w rfl (.inl rfl) (fun _=>rfl) (by omega) (by omega));have H:=hp.len;have G:=hl.len;have j1:=Ag (n:=m) (by omega);have d1:=Dg (m:=m) (by omega);have a1:¬ (16777216:Int)<m:=by omega
 obtain⟨V,hV⟩:=Ab (vb m);rw[List.nil_append,<-hV]at n0;rw[<-hV]at j1;have y0:l++frameL p=l++(V++(be4 (cnext 0 (V++p))++p)):=by unfold frameL;rw[<-H,<-hV,List.append_assoc]
 have l0:=EP 0 (V++p);have x0:csum 0 [V,p]=cnext 0 (V++p):=Io V p;obtain⟨s,hs⟩:=Ab (cnext 0 (V++p));rw[<-hs]at y0 l0 x0;rw[y0];obtain⟨R,hR⟩:=Ab (l++(V++(be4 s++p)));rw[<-hR];replace hR:=Aa hR;have t0:=OZ l0;replace H:=Aa H;replace G:=Aa G;replace hV:=Aa hV;clear hs y0
 go_in
 go_wp2_with fail;refine n0.out.mono ?_;rintro e w1 ⟨A1,c1,rfl,i0,c0⟩;have J:=i0.in8;obtain⟨w2,I⟩:=Ab (w1.alloc (.cells #[.slice A1 V.length c1,.slice B m d] 25));have p0:Ext w1 w2:=by rw[I];exact(Ext.refl w1).alloc _
 have o0:Row w2 w1.heap.size 25 #[.slice A1 V.length c1,.slice B m d]:=by rw[I];exact Row.new w1 _ _
 have j0:=Ng (some ⟨w1.heap.size,0,none⟩) 2 2 [(A1,c1,V),(B,d,p)] w2 rfl (.inr ⟨w1.heap.size,0,rfl,fun i v hv=>by
  rw[Nat.zero_add];exact o0.cell i (by rw[H.out];simpa using hv)⟩) (fun q hq=>by
  rcases List.mem_cons.1 hq with rfl | hq
  ·exact J.ext p0
  ·rw[List.mem_singleton.1 hq];have:=(hp.ext c0).ext p0;rw[H.out]at this;exact this) (fun q hq=>by
  rcases List.mem_cons.1 hq with rfl | hq
  ·simp only;omega
  ·rw[List.mem_singleton.1 hq];simp only;have:=H.out;omega) (by omega)
 rw[show ([(A1,c1,V),(B,d,p)].map fun p:Option Addr×Nat×List UInt8=>p.2.2) = [V,p] from rfl,x0]at j0;replace j0:=Aa j0;replace I:=Aa I;replace t0:=Aa t0;replace J:=Aa J;clear i0 x0 o0;go_wp2_with fail;rw[<-I.out];refine j0.out.mono ?_;rintro e w3 ⟨rfl,d0⟩;go_wp2_with fail;obtain⟨g,hg⟩:=Ab w3.heap.size;obtain⟨w4,h0⟩:=Ab (w3.alloc (.cells #[.int .u8 ((s:Int) / 16777216),.int .u8 ((s:Int) / 65536%256),.int .u8 ((s:Int) / 256%256),.int .u8 ((s:Int)%256)] 5));have k0:Ext w3 w4:=by rw[h0];exact(Ext.refl w3).alloc _
 have hb:Buf w4 g 5 (some ⟨g,0,none⟩) 4 4 ((be4 s).map B8):=by
  have h:=EO w3 [.int .u8 ((s:Int) / 16777216),.int .u8 ((s:Int) / 65536%256),.int .u8 ((s:Int) / 256%256),.int .u8 ((s:Int)%256)] 5 (by simp);rw[h0,hg,<-t0.out];exact h
 have h1:w4.heap.size=g+1:=by rw[h0,hg];simp
 obtain⟨w5,g0⟩:=Ab (w4.alloc (.cells #[.slice A n c,.slice A1 V.length c1,.slice (some ⟨g,0,none⟩) 4 4,.slice B m d] 25));have U:Ext w4 w5:=by rw[g0];exact(Ext.refl w4).alloc _
 have r0:Row w5 (g+1) 25 #[.slice A n c,.slice A1 V.length c1,.slice (some ⟨g,0,none⟩) 4 4,.slice B m d]:=by rw[g0,<-h1];exact Row.new w4 _ _
 have O:=((c0.trans p0).trans d0)
 have Z:=Lr (some ⟨g+1,0,none⟩) 4 4 [(A,c,l),(A1,c1,V),(some ⟨g,0,none⟩,4,be4 s),(B,d,p)] w5 rfl (.inr ⟨g+1,0,rfl,fun i v hv=>by
  rw[Nat.zero_add];refine r0.cell i ?_;have e4:(be4 s).length=4:=rfl;rw[H.out,G.out];simpa [e4]using hv⟩) (fun q hq=>by
  have e4:(be4 s).length=4:=rfl;simp only[List.mem_cons,List.not_mem_nil,or_false]at hq;rcases hq with rfl | rfl | rfl | rfl
  ·have:=(hl.ext O).ext (k0.trans U);rw[G.out]at this;exact this
  ·exact J.out.ext ((p0.trans d0).trans (k0.trans U))
  ·exact hb.in8.ext U
  ·have:=(hp.ext O).ext (k0.trans U);rw[H.out]at this;exact this) (by
  have e4:(be4 s).length=4:=rfl;unfold catL;simp only[List.flatMap_cons,List.flatMap_nil,List.length_append,List.length_nil,e4];have:=H.out;have:=G.out;omega) (by omega)
 have m0:catL [(A,c,l),(A1,c1,V),(some ⟨g,0,none⟩,4,be4 s),(B,d,p)]=l++(V++(be4 s++p)):=by unfold catL;simp
 rw[m0]at Z;rw[<-hR.out]at Z;have Y:=O.trans (k0.trans U);rw[g0,h0,hg]at Z Y;replace Y:=Aa Y;refine Z.mono ?_;rintro e w6 ⟨A6,c6,rfl,v0,e0⟩;replace v0:=Aa (v0.lower Y.out.size);have b0:=Aa (Y.out.trans e0);clear e0 Z m0 h0 g0 h1 hg r0 hb;go_wp2_with fail;go_ret2;exact⟨A6,c6,rfl,v0.out,b0.out⟩
theorem BK:∀(l:List UInt8) (i k:Nat),getV i l = .error k->0<k
 | [],i,k,h=>by unfold getV at h;cases h;omega
 | x::l,i,k,h=>by
  unfold getV at h;split at h
  ·cases h;omega
  ·split at h
   ·cases h;omega
   ·split at h
    ·cases h
    ·split at h
     ·cases h
     ·rename_i e d;cases h;exact BK l (i+1) k d
def GotI (w0 w:World) (res:Except Nat (Nat×List UInt8)) (e:Ending) (w':World):Prop:=Ext w w'/\match res with
 | .ok (v,r)=>∃A c,e = .returned (.tuple #[.int .i64 (unzig v),.slice A r.length c,.int .i64 0])/\In8 w0 A r.length c r
 | .error k=>e = .returned (.tuple #[.int .i64 0,.slice none 0 0,.int .i64 k])
theorem LJ (A:Option Addr) (n c:Nat) (l:List UInt8) (w0 w:World) (h:In8 w0 A n c l) (hw:Ext w0 w) (I:n<=1000000000) :
 Calls prog 178 #[.slice A n c] w fun e w'=>GotI w0 w (getV 0 l) e w':=by
 have J:=Cl A n c l w0 w h hw I;cases O:getV 0 l with
 | error k =>
  rw[O]at J;have hk:=BK l 0 k O;have j0:((k:Int) != 0)=true:=by simp;omega
  replace J:=Aa J;clear h O hk
  go_in
  go_wp2_with fail;refine J.out.mono ?_;rintro e w1 ⟨Y,rfl⟩;go_wp2_with fail;go_ret3;exact⟨Y,rfl⟩
 | ok p =>
  obtain⟨v,r⟩:=p;have hv:=Ct O;rw[O]at J;replace J:=Aa J;have G:bits .and .u64 (v:Int) 1=((v%2:Nat):Int):=by
   rw[show (1:Int)=((1:Nat):Int)from rfl,u64_and_nat _ _ hv (by omega),Nat.and_one_is_mod]
  obtain⟨q,hq⟩:=Ab (v%2);obtain⟨d,hd⟩:=Ab (v / 2);have q0:=i64_not d (by omega);have k0:(v:Int) / 2=(d:Int):=by omega
  rw[<-hq]at G;have Z:unzig v=if q=0 then (d:Int) else -1 - (d:Int):=by unfold unzig;rw[<-hq,<-hd]
  have g0:q<=1:=by omega
  have p0:d<9223372036854775808:=by omega
  replace Z:=Aa Z;clear hq hd h O;rcases (show q=0\/q=1 by omega)with rfl | rfl
  ·have H:unzig v=d:=Z.out;replace H:=Aa H;clear Z
   go_in
   go_wp2_with fail;refine J.out.mono ?_;rintro e w1 ⟨Y,A1,c1,rfl,U⟩;go_wp2_with fail;go_ret3;exact⟨Y,A1,c1,by rw[H.out];rfl,U⟩
  ·have H:unzig v = -1 - (d:Int):=Z.out;replace H:=Aa H;clear Z
   go_in
   go_wp2_with fail;refine J.out.mono ?_;rintro e w1 ⟨Y,A1,c1,rfl,U⟩;go_wp2_with fail;go_ret3;exact⟨Y,A1,c1,by rw[H.out];rfl,U⟩
theorem Gl (l:List UInt8):Lib.strCells ⟨l.toArray⟩=l.map B8:=rfl
theorem KN (w:World) (ty:TypeId) (hb:Buf w base 5 A n c xs) (s:List UInt8) (c0:n+s.length<=4294967296) (H:base<=w.heap.size) :
 ∃A1 c1 w',(Builtin.append_ #[25,9] ty #[.slice A n c,.string ⟨s.toArray⟩]).run prog w = .ok (.slice A1 (n+s.length) c1) w'/\Buf w' base 5 A1 (n+s.length) c1 (xs++s.map B8)/\w.grownBy w' (Value.slice A n c).ownBlock /\
  (A1=A\/A1=some ⟨w.heap.size,0,none⟩):=by
 obtain⟨i,z,hi,hz,h3,h4,h5⟩:=Aw.hi;have I:i.zero=some (.int .u8 0):=by
  obtain⟨j,hj,m0⟩:∃j,prog.info? 5=some j/\j.zero=some (.int .u8 0):=⟨_,rfl,rfl⟩
  rw[hi]at hj;injection hj with hj;rw[hj];exact m0
 have ht:=underlying25;have hu:=underlying9;have d:(⟨s.toArray⟩:ByteArray).size=s.length:=ByteArray.size_mk_toArray s;obtain⟨hx,b0,hA⟩:=hb;rcases hA with ⟨rfl,rfl⟩ | ⟨g,cur,rfl,j0,hg,hs,G⟩
 ·obtain rfl:n=0:=by omega
  obtain rfl:xs = []:=List.eq_nil_of_length_eq_zero hx;by_cases Z:s = []
  ·subst Z;refine⟨none,0,w,?_,⟨rfl,Nat.le_refl _,.inl ⟨rfl,rfl⟩⟩,World.grownBy.refl w _,.inl rfl⟩;have hf:=Lib.run_firstCells_string (P:=prog) (w:=w) 1 ⟨#[]⟩;rw[show (ByteArray.mk #[]).size=0 from rfl]at hf;have e0:(ByteArray.mk #[]).size=0:=rfl;simp[Builtin.append_,run_underlying ht,run_underlying hu,sizeOf,typeInfo,hi,h3,Builtin.lenOf,e0,hf]
  ·have hl:0<s.length:=List.length_pos_iff.2 Z;have J:=run_append_nil_string (P:=prog) w 25 9 ty 5 i (.int .u8 0) ht hu hi I ⟨s.toArray⟩ (by omega) (by omega) (by rw[h4,d];omega);have U:=grownCap_ge w s.length 0 5;rw[d]at J;refine⟨_,_,_,by rw[J,Nat.zero_add],⟨by simp,by rw[Nat.zero_add];exact U,.inr ⟨w.heap.size,_,rfl,H,heap_alloc_new w.drew _,?_,?_⟩⟩,?_,.inr rfl⟩
   ·simp only[Array.size_append,size_zeroCells];simp[Value.cells];omega
   ·simp only[Array.toList_append];rw[Nat.zero_add,List.take_append_of_le_length (by simp),List.take_of_length_le (by simp)];simp;exact fun b _=>rfl
   ·exact(Ext.refl w |>.drew.alloc _) |> fun h=>⟨Below.os h,Below.tape h,Below.output h,Below.size h,fun k hk _=>Below.block h k hk⟩
 ·by_cases Y:n+s.length<=c
  ·have J:=Lib.run_append_room_string (P:=prog) (w:=w) 25 9 ty 5 i ht hu hi h3 g n c cur hg ⟨s.toArray⟩ (by rw[d];exact Y) (by rw[d];omega);rw[d,Gl]at J;refine⟨some ⟨g,0,none⟩,c,_,J,⟨by rw[List.length_append,List.length_map];omega,Y,.inr ⟨g,_,rfl,j0,setRow_heap w g cur _ 5 (0,0) hg,?_,?_⟩⟩,EW w g _,.inl rfl⟩
   ·simp;omega
   ·simp only;rw[G];rw[List.take_append_of_le_length (by rw[List.length_append,List.length_map];omega),List.take_of_length_le (by rw[List.length_append,List.length_map];omega)]
  ·have U:=grownCap_ge w (n+s.length) c 5;have y0:=nextslicecap_le (need:=n+s.length) (old:=c) (by omega);have O:∀(j:Nat) (v:Value),xs[j]? = some v->w.cell? (Addr.add ⟨g,0,none⟩ j)=some v:=by
    intro j v hv;rw[Addr.add_lit,Nat.zero_add,cell_of_row w g j cur 5 (0,0) hg];rw[<-G,List.getElem?_take]at hv;split at hv
    ·simpa using hv
    ·cases hv
   have J:=Lib.run_append_grow_string (P:=prog) (w:=w) 25 9 ty 5 i (.int .u8 0) ht hu hi I ⟨g,0,none⟩ n c xs (by rw[h3];omega) O ⟨s.toArray⟩ (by rw[d];omega) (by rw[d];omega) (by rw[d,h4];omega);rw[d,Gl]at J;refine⟨some ⟨w.heap.size,0,none⟩,grownCap w (n+s.length) c 5,_,J,⟨by rw[List.length_append,List.length_map];omega,U,.inr ⟨w.heap.size,_,rfl,H,heap_alloc_new w.drew _,?_,?_⟩⟩,?_,.inr rfl⟩
   ·simp only[Array.size_append,List.size_toArray,size_zeroCells,List.length_map];simp[Value.cells];omega
   ·simp only[Array.toList_append];rw[List.take_append_of_le_length (by simp;omega),List.take_of_length_le (by simp;omega)]
   ·exact(Ext.refl w |>.drew.alloc _) |> fun h=>⟨Below.os h,Below.tape h,Below.output h,Below.size h,fun k hk _=>Below.block h k hk⟩
theorem D0 {rest:List Oper} (hb:Buf w base 5 A n c xs) (x y:Operand)
 (I:o.op = .call { callee:= .builtin .append,args:=#[x,y],argTypes:=#[25,9] }) (J:o.guard=none) (hx:a.eval x = .slice A n c) (hy:a.eval y = .string ⟨s.toArray⟩) (U:n+s.length<=4294967296) (d:base<=w.heap.size)
 (h:∀A1 c1 w',Buf w' base 5 A1 (n+s.length) c1 (xs++s.map B8)->w.grownBy w' (Value.slice A n c).ownBlock->(∀w0,Ext w0 w->w0.heap.size<=base->Ext w0 w')->wpList prog ops Q rest (a.put o.dst (.slice A1 (n+s.length) c1)) w'):wpList prog ops Q (o::rest) a w :=
 wpList_plain J fun K G=>by
  obtain⟨A1,c1,w',H,h2,O,_⟩:=KN w o.type hb s U d;unfold Oper.wp execOp;simp only[I,resolve,invoke,builtin,Sem.run_bind,Sem.run_pure,Result.andThen_ok,List.map_toArray,List.map_cons,List.map_nil,hx,hy,H];refine G _ _ (h A1 c1 w' h2 O (fun w0 Z hw=>Z.grown O fun k hk=>?_));have Y:=hb.base_le;cases A with
  | none=>simp[Value.ownBlock]at hk
  | some b =>
   have:=Y b rfl;simp[Value.ownBlock]at hk;omega
theorem Eg (ts:Array TypeId) (ty:TypeId) {x y m:Int} (h:m=max x y) (W:World):(Builtin.max_ ts ty #[.int .i64 x,.int .i64 y]).run P W = .ok (.int .i64 m) W:=by
 simp only[Builtin.max_,List.foldlM,Builtin.max2,Sem.run_bind,Sem.run_pure,Result.andThen_ok];subst h;congr 2;split <;> omega
def GotT (w0 w:World) (res:Except Nat (List UInt8×List UInt8)) (e:Ending) (w':World):Prop:=Ext w w'/\match res with
 | .ok (s,r)=>∃A c,e = .returned (.tuple #[.string ⟨s.toArray⟩,.slice A r.length c,.int .i64 0])/\In8 w0 A r.length c r
 | .error k=>e = .returned (.tuple #[.string ⟨#[]⟩,.slice none 0 0,.int .i64 k])
theorem DR (A:Option Addr) (n c:Nat) (l s:List UInt8) (w:World) (hn:n=l.length) (I:Bs w A l) (hz:A=none->c=0) (Z:n<=1000000000) (hs:s.length<=1000000000) :
 Calls prog 183 #[.slice A n c,.string ⟨s.toArray⟩] w fun e w'=>NewB w (l++txL s) e w':=by
 have hp:=Aa (Cm A n c s.length l w hn I hz Z (by omega));have H:=Co (n:=s.length) (by omega);have d:l++txL s=(l++vb s.length)++s:=by unfold txL;simp
 rw[d];obtain⟨L,J⟩:=Ab (l++vb s.length);have k0:L.length<=1000000010:=by rw[J,List.length_append];omega
 rw[<-J]at hp ⊢;clear J d I hz hn H
 go_in
 go_wp2_with fail;refine hp.out.mono ?_;rintro e w1 ⟨A1,c1,rfl,U,h⟩;have G:=h.size;go_wp2_with (at_builtin;refine D0 U (.tmp 9) (.tmp 10) rfl rfl rfl rfl (by omega) G (fun A2 c2 w2 O j0 Y=>?_));go_ret;exact⟨A2,c2,Cy (by rw[List.length_append]),by rw[List.length_append,List.map_append];exact O,Y _ h (Nat.le_refl _)⟩
theorem DG (A:Option Addr) (n c most:Nat) (l:List UInt8) (w0 w:World) (h:In8 w0 A n c l) (hw:Ext w0 w) (h0:n<=1000000000) (hm:most<=1000000000) :
 Calls prog 179 #[.slice A n c,.int .i64 most] w fun e w'=>GotT w0 w (getT most l) e w':=by
 have H:=Cl A n c l w0 w h hw h0;have k0:=Eg (P:=prog) #[3,3] 3 (x:=0) (y:=(most:Int)) (m:=(most:Int)) (by omega);unfold getT;cases J:getV 0 l with
 | error k =>
  rw[J]at H;have hk:=BK l 0 k J;have v0:((k:Int) != 0)=true:=by simp;omega
  replace H:=Aa H;clear h J hk
  go_in
  go_wp2_with fail;refine H.out.mono ?_;rintro e w1 ⟨d,rfl⟩;go_wp2_with fail;go_ret3;exact⟨d,rfl⟩
 | ok p =>
  obtain⟨v,r⟩:=p;have hv:=Ct J;have y0:r.length<=1000000000:=by
   obtain⟨_,_,q,hq,_⟩:=Ck l 0 v r J;have:=h.len;rw[hq,List.length_append]at this;omega
  rw[J]at H;replace H:=Aa H;simp only;by_cases h1:most<v
  ·rw[if_pos h1];have Z:(most:Int)<v:=by omega
   clear h J
   go_in
   go_wp2_with fail;refine H.out.mono ?_;rintro e w1 ⟨d,A1,c1,rfl,Y⟩;go_wp2_with fail;go_ret3;exact⟨d,rfl⟩
  ·rw[if_neg h1];have Z:¬ (most:Int)<v:=by omega
   by_cases h2:r.length<v
   ·rw[if_pos h2];have G:(r.length:Int)<v:=by omega
    clear h J
    go_in
    go_wp2_with fail;refine H.out.mono ?_;rintro e w1 ⟨d,A1,c1,rfl,Y⟩;go_wp2_with fail;go_ret3;exact⟨d,rfl⟩
   ·rw[if_neg h2];have G:¬ (r.length:Int)<v:=by omega
    clear h J
    go_in
    go_wp2_with fail;refine H.out.mono ?_;rintro e w1 ⟨d,A1,c1,rfl,Y⟩;obtain⟨t0,U⟩:=Y.headk .u64 (k:=v) (by omega) (z:=(v:Int)) rfl;obtain⟨A2,c2,p0,O⟩:=Y.fromk .u64 (fr:=v) (by omega) (z:=(v:Int)) rfl;have q0:∀W,Ext w0 W->(convert 25 9 (.slice A1 v c1)).run prog W = .ok (.string ⟨(r.take v).toArray⟩) W:=fun W hW=>CT (U.bytes.ext hW) v c1 U.len;have j0:=q0 _ (hw.trans d).drew;have hlen:(r.drop v).length=r.length - v:=List.length_drop;obtain⟨R,I⟩:=Ab (r.length - v);rw[<-I]at p0 O hlen;replace hlen:=Aa hlen;replace I:=Aa I;clear U;go_wp2_with fail;refine AE (fun K hK=>?_);go_wp2_with fail;refine⟨by kernel_rfl,?_⟩;go_wp2_with fail;go_ret3;exact⟨d.drew,A2,c2,by rw[hlen.out];rfl,by rw[hlen.out];exact O⟩
theorem Ei {α:Type} {xs:List α} {x:α} (h:xs[i]? = some x):xs.take (i+1)=xs.take i ++ [x]:=by
 obtain⟨hi,rfl⟩:=List.getElem?_eq_some_iff.1 h;exact List.take_succ_eq_append_getElem hi
theorem I7:∀ {fs:List Fd},(∀f∈fs,f.1.length<=32/\f.2.length<=4096)->sizeFs fs<=5000*fs.length
 | [],_=>by simp[sizeFs]
 | f::fs,h=>by
  have h1:=I7 (fs:=fs) fun x H=>h x (by simp[H]);have Y:=h f (by simp);have d:sizeFs (f::fs)=f.1.length+f.2.length+sizeFs fs:=by unfold sizeFs;rw[List.map_cons,List.sum_cons];rfl
  rw[d,List.length_cons];omega
end
end Go.Proofs.YtpnlihgcboepeaaGreat
