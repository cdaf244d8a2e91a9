/- Texts of one proof, joined. -/
import Derived.Test.YtfifdilapbeiiaaGreatPP02
import Derived.Laws.DeepNot64
import Derived.Lib.AppendStr
import Derived.Laws.StructEq
import Derived.Deep.RegionHeld3
set_option linter.unusedSimpArgs false
set_option linter.unusedVariables false
set_option maxRecDepth 100000
set_option maxHeartbeats 16000000
namespace Go.Proofs.YtfifdilapbeiiaaGreat
open _root_.Go.Proofs.Tryz
variable {ops:Array Oper} {cs:Array Value} {Q:Exit → Act → World → Prop} {z z0 z1 z2:Int} {Hd' l r s:List UInt8} {xs ys:List Value} {B B1 acc b1 b2 c c2 c3 fr g i k m n n3 p1 p2 q x y:Nat} {S:Nat → Prop} {o:Oper} {A A2 A3:Option Addr} {P:Program} {e e2 t t1 t2:TypeId} {V v:Value} {W W' W1 W6 w w' w0 w1:World}
section
open Go.RowKit
structure In8 (w:World) (A:Option Addr) (n c:Nat) (l:List UInt8):Prop where
  len:n=l.length
  bytes:Bs w A l
  cap:n<=c
  nil_:A=none->c=0
  at_:∀a,A=some a->a.spot=Option.none/\a.block<w.heap.size
theorem In8.ext (h:In8 w A n c l) (j:Ext w w1):In8 w1 A n c l :=
 ⟨h.len,h.bytes.ext j,h.cap,h.nil_,fun a b=>⟨(h.at_ a b).1,Nat.lt_of_lt_of_le (h.at_ a b).2 j.size⟩⟩
theorem Buf.in8 {base:Nat} (h:Buf w base e A n c (l.map B8)):In8 w A n c l:=by
 refine⟨by have:=h.1;simpa using this.symm,h.cells,h.2.1,h.none_cap,fun a j=>⟨?_,h.lt a j⟩⟩;rcases h.2.2 with ⟨b,_⟩ | ⟨g,cur,H,_⟩
 ·rw[b]at j;cases j
 ·rw[H]at j;cases j;rfl
def comb (i acc:Nat):Except Nat (Nat×List UInt8)->Except Nat (Nat×List UInt8)
 | .ok (n,r)=> .ok (acc+128^i*n,r)
 | .error e=> .error e
theorem Nr (x:Except Nat (Nat×List UInt8)):comb 0 0 x=x:=by
 unfold comb;split <;> simp
def Got (w0 w:World) (res:Except Nat (Nat×List UInt8)) (e:Ending) (w':World):Prop:=Ext w w'/\match res with
 | .ok (v,r)=>∃A c,e = .returned (.tuple #[.int .u64 v,.slice A r.length c,.int .i64 0])/\In8 w0 A r.length c r
 | .error k=>e = .returned (.tuple #[.int .u64 0,.slice none 0 0,.int .i64 k])
theorem FN (h:k<=c) (H:∀a,A=some a->a.spot=none) (W:World) :
 (Instr.sliceAt 24 (.slice A n c) none (some (.int .i64 k)) none).run prog W = .ok (.slice A k c) W:=by
 have ht:=underlying24;have j:prog.elem 24=5:=by unfold Program.elem;rw[ht]
 have hs:∀W:World,(sizeOf 5).run prog W = .ok 1 W:=fun W=>by kernel_rfl
 rw[run_sliceAt_slice W _ _ _ _ _ (by rw[ht,j]),run_slice_h W _ A n c (by rw[ht,j]) .i64 k (by omega) (by omega),j,hs];simp only[Result.andThen_ok];congr 1;unfold sliced;have:(if c=0 then A else A.map fun x=>x.add (0*1))=A:=by
  cases A with
  | none=>simp
  | some a =>
   obtain⟨b,o,sp⟩:=a;obtain rfl:sp=none:=H _ rfl;simp[Addr.add_lit]
 rw[this];simp
theorem In8.from_ (h:In8 w A n c l) (Z:fr<=n) (T:z=(fr:Int)) :
 ∃A' c',(∀W:World,(Instr.sliceAt 24 (.slice A n c) (some (.int .i64 z)) none none).run prog W = .ok (.slice A' (n - fr) c') W)/\In8 w A' (n - fr) c' (l.drop fr):=by
 subst T;have ht:=underlying24;have J:prog.elem 24=5:=by unfold Program.elem;rw[ht]
 have hs:∀W:World,(sizeOf 5).run prog W = .ok 1 W:=fun W=>by kernel_rfl
 have H:∀W:World,(Instr.sliceAt 24 (.slice A n c) (some (.int .i64 fr)) none none).run prog W = .ok (sliced A fr n c 1) W:=by
  intro W;rw[run_sliceAt_slice W _ _ _ _ _ (by rw[ht,J]),run_slice_l W _ A n c (by rw[ht,J]) .i64 fr (by omega) (by omega),J,hs];simp only[Result.andThen_ok];congr 1
 have O:=h.cap;refine⟨_,_,H,by rw[List.length_drop,<-h.len],?_,by omega,?_,?_⟩
 ·rcases h.bytes with hb | ⟨g,o,rfl,hb⟩
  ·left;have:l = []:=by simpa using hb
   rw[this];simp
  ·by_cases Y:c=fr
   ·left;have:=h.len;rw[List.drop_of_length_le (by omega)];rfl
   ·refine .inr ⟨g,o+fr,by rw[if_neg Y];simp[Addr.add_lit],fun i v U=>?_⟩;rw[Nat.add_assoc];refine hb (fr+i) v ?_;rw[List.getElem?_map]at U ⊢;rw[List.getElem?_drop]at U;exact U
 ·intro hn;cases A with
  | none=>have:=h.nil_ rfl;omega
  | some a=>split at hn <;> cases hn
 ·intro a j;cases A with
  | none=>split at j <;> cases j
  | some b =>
   obtain⟨h1,h2⟩:=h.at_ b rfl;obtain⟨b,o,sp⟩:=b;obtain rfl:sp=Option.none:=h1;split at j
   ·cases j;exact⟨rfl,h2⟩
   ·cases j;show (Addr.add ⟨b,o,none⟩ (fr*1)).spot=none/\(Addr.add ⟨b,o,none⟩ (fr*1)).block<w.heap.size;rw[Addr.add_lit];exact⟨rfl,h2⟩
theorem Pq {x:UInt8} (h:l[i]? = some x) (b:i<10) (acc:Nat):comb i acc (getV i (l.drop i))=if (i=9/\1<x.toNat)\/(0<i/\x.toNat=0) then .error 20 else
 if x.toNat<128 then .ok (acc+128^i*x.toNat,l.drop (i+1)) else comb (i+1) (acc+128^i*(x.toNat - 128)) (getV (i+1) (l.drop (i+1))):=by
 have hi:=(List.getElem?_eq_some_iff.1 h).1;have h2:=(List.getElem?_eq_some_iff.1 h).2;rw[List.drop_eq_getElem_cons hi,h2]
 conv=>lhs;unfold getV
 rw[if_neg (by omega)];by_cases hb:(i=9/\1<x.toNat)\/(0<i/\x.toNat=0)
 ·rw[if_pos hb,if_pos hb];rfl
 ·rw[if_neg hb,if_neg hb];by_cases j:x.toNat<128
  ·rw[if_pos j,if_pos j];rfl
  ·rw[if_neg j,if_neg j];unfold comb;cases getV (i+1) (l.drop (i+1))with
   | error e=>rfl
   | ok p =>
    obtain⟨n,r⟩:=p;simp only;rw[Nat.mul_add,Nat.pow_succ,Nat.add_assoc,Nat.mul_assoc]
theorem Pp (h:l.length<=i\/10<=i) (acc:Nat):comb i acc (getV i (l.drop i)) = .error 6:=by
 rcases h with h | h
 ·rw[List.drop_of_length_le h];rfl
 ·cases l.drop i with
  | nil=>rfl
  | cons x r=>unfold getV;rw[if_pos h];rfl
theorem QX (hi:i<=9) (j:acc<128^i) (U:y<128) (H:i=9->y<=1):bits .or .u64 (acc:Int) (IntKind.u64.wrap ((y:Int)*2^(7*i)))=((acc+128^i*y:Nat):Int):=by
 have e:∀y:Int,IntKind.u64.wrap y=y%18446744073709551616:=fun y=>by simp[IntKind.wrap,IntKind.bits,IntKind.signed]
 have J:(128:Nat)^i=2^(7*i):=by rw[show (128:Nat)=2^7 from rfl,<-Nat.pow_mul]
 rw[J]at j ⊢;have a:y*2^(7*i)<18446744073709551616:=by
  rcases Nat.lt_or_ge i 9 with h | h
  ·have h1:2^(7*i)<=2^56:=Nat.pow_le_pow_right (by omega) (by omega);have h2:y*2^(7*i)<=127*2^56:=Nat.mul_le_mul (by omega) h1;omega
  ·obtain rfl:i=9:=by omega
   have:=H rfl;have h2:y*2^(7*9)<=1*2^63:=Nat.mul_le_mul this (Nat.le_refl _);omega
 have b:acc<18446744073709551616:=Nat.lt_of_lt_of_le j (by
  have:2^(7*i)<=2^63:=Nat.pow_le_pow_right (by omega) (by omega);omega)
 have Y:IntKind.u64.wrap ((y:Int)*2^(7*i))=((y*2^(7*i):Nat):Int):=by
  rw[e];have:(y:Int)*2^(7*i)=((y*2^(7*i):Nat):Int):=by simp
  rw[this];omega
 rw[Y,u64_or_nat _ _ b a];have:=Nat.shiftLeft_add_eq_or_of_lt j y;rw[Nat.shiftLeft_eq]at this;rw[Nat.or_comm,<-this,Nat.add_comm,Nat.mul_comm y]
theorem OV (j:acc<128^i) (b:y<128):acc+128^i*y<128^(i+1):=by
 have h:=Nat.mul_le_mul_left (128^i) (show y+1<=128 by omega);rw[Nat.mul_add,Nat.mul_one]at h;rw[Nat.pow_succ];omega
theorem LK {res:Except Nat (Nat×List UInt8)} {v:Nat} {E:Int} (j:res = .ok (v,r)) (h:Ext w w') (hi:In8 w0 A m c r) (b:E=(v:Int)):Got w0 w res (.returned (.tuple #[.int .u64 E,.slice A m c,.int .i64 0])) w':=by
 subst j b;have:=hi.len;subst this;exact⟨h,A,c,rfl,hi⟩
theorem Gv {res:Except Nat (Nat×List UInt8)} (j:res = .error k) (h:Ext w w'):Got w0 w res (.returned (.tuple #[.int .u64 0,.slice none 0 0,.int .i64 k])) w':=by
 subst j;exact⟨h,rfl⟩
theorem Qr (h:x<256):bits .and .u8 (x:Int) 127=((x%128:Nat):Int):=by
 have j:∀k:Fin 256,k.val &&& 127=k.val%128:=by decide +kernel
 have hk:=j ⟨x,h⟩;simp only at hk;rw[show (127:Int)=((127:Nat):Int)from rfl,u8_and_nat _ _ (by omega) (by omega),hk]
theorem Cl (A:Option Addr) (n c:Nat) (l:List UInt8) (w0 w:World) (h:In8 w0 A n c l) (hw:Ext w0 w) (f1:n<=1000000000) :
 Calls prog 94 #[.slice A n c] w fun e w'=>Got w0 w (getV 0 l) e w':=by
 obtain⟨k,hk⟩:∃k:Nat,(k:Int)=min (n:Int) 10:=⟨min n 10,by omega⟩
 have k1:=h.cap;have j1:=fun(W:World)=>AQ (P:=prog) #[3,3] 3 hk W;have x1:=fun(W:World)=>FN (n:=n) (c:=c) (k:=k) (A:=A) (by omega) (fun a ha=>(h.at_ a ha).1) W;have a1:k<=10:=by omega
 have d1:k<=n:=by omega
 have g0:n<=k\/10<=k:=by omega
 replace hk:=Aa hk;replace g0:=Aa g0;replace h:=Aa h
 go_in
 go_wp2_with fail;go_step3;go_wp2_with fail;go_step3;go_wp2_with fail
 go_loopw [2,4,13] (fun s2 s4 s13 wr=>∃(i acc:Nat),s13 = .int .i64 i/\s2 = .int .u64 acc/\s4 = .int .i64 6/\i<=k/\acc<128^i/\Hid (getV 0 l=comb i acc (getV i (l.drop i)))/\Hid (Ext w wr)) (fun _ _ s13 _=>k - (intOf s13).toNat)
 case atStart=>exact⟨0,0,rfl,rfl,rfl,by omega,by simp,Aa (by rw[Nr];rfl),Aa (Ext.refl w)⟩
 case round =>
  obtain⟨i,acc,rfl,rfl,rfl,hi,U,hg,I⟩:=hrel;by_cases y1:i<k
  ·have x0:i<l.length:=by rw[<-h.out.len];omega
   obtain⟨g,o,rfl,hc⟩:=h.out.bytes.at_ (by omega);have k0:=(hw.trans I.out).cell (hc i x0);have b:=Pq (List.getElem?_eq_getElem x0) (by omega) acc;rw[<-hg.out]at b;obtain⟨x,hx⟩:=Ab (l[i].toNat);have m0:x<256:=by rw[hx];exact l[i].toNat_lt
   rw[<-hx]at k0 b;replace hx:=Aa hx;replace b:=Aa b;have v0:=Qr m0;obtain⟨y,hy⟩:=Ab (x%128);rw[<-hy]at v0;replace hy:=Aa hy;obtain⟨A',c',c0,y0⟩:=h.out.from_ (fr:=i+1) (by omega) (z:=(i:Int)+1) (by omega);have H:=fun h9:i=9->y<=1=>QX (i:=i) (acc:=acc) (y:=y) (by omega) U (by have:=hy.out;omega) h9;replace H:=Aa H;have O:=Aa y0;clear hc hg y0;have q0:=fun(h1:¬((i=9/\1<x)\/(0<i/\x=0))) (h2:128<=x)=>b.out.trans ((if_neg h1).trans (if_neg (by omega)));have Z:=fun(h1:¬((i=9/\1<x)\/(0<i/\x=0))) (h2:x<128)=>b.out.trans ((if_neg h1).trans (if_pos h2));have j:=fun(h1:(i=9/\1<x)\/(0<i/\x=0))=>b.out.trans (if_pos h1);have d0:y<128:=by have:=hy.out;omega
   have J:x<128->y=x:=fun h=>by have:=hy.out;omega
   have Y:128<=x->y=x - 128:=fun h=>by have:=hy.out;omega
   have hz:((x:Int)==0)=true->x=0:=fun h=>by simp at h;omega
   have p0:((x:Int)==0)=false->x≠0:=fun h=>by simp at h;omega
   replace q0:=Aa q0;replace Z:=Aa Z;replace j:=Aa j;replace J:=Aa J;replace Y:=Aa Y;replace hz:=Aa hz;replace p0:=Aa p0;by_cases h9:i=9
   ·subst h9;have G:y<=1->bits .or .u64 (acc:Int) (IntKind.u64.wrap ((y:Int)*9223372036854775808))=((acc+128^9*y:Nat):Int):=fun o0=>by
     have e:(2:Int)^(7*9)=9223372036854775808:=by simp
     have:=H.out fun _=>o0;rw[e]at this;exact this
    replace G:=Aa G;obtain⟨A9,c9,n0,T⟩:=h.out.from_ (fr:=10) (by omega) (z:=10) rfl;replace T:=Aa T;clear c0 O;go_wp2_with fail
    ·go_ret3;exact Gv (j.out (.inl ⟨by trivial,by omega⟩)) I.out
    ·go_ret3;exact Gv (j.out (.inr ⟨by omega,hz.out (by assumption)⟩)) I.out
    ·refine AE (fun K hK=>?_);go_wp2_with fail;refine⟨by kernel_rfl,?_⟩;go_wp2_with fail;go_ret3;have o1:x<=1:=by omega
     exact LK (Z.out (by have:=p0.out (by assumption);omega) (by omega)) I.out.drew T.out (by rw[G.out (by have:=J.out (by omega);omega),J.out (by omega)])
   ·go_wp2_with fail
    ·rw[Exit.noGoto_ret];go_ret3;exact Gv (j.out (.inr ⟨by omega,hz.out (by assumption)⟩)) I.out
    ·refine AE (fun K hK=>?_);go_wp2_with fail;refine⟨by kernel_rfl,?_⟩;go_wp2_with fail;rw[Exit.noGoto_ret];go_ret3;exact LK (Z.out (by have:=p0.out (by assumption);omega) (by omega)) I.out.drew O.out (by rw[H.out (by omega),J.out (by omega)])
    ·go_roundw
     case rel=>exact⟨i+1,acc+128^i*y,by go_num,by rw[H.out (by omega)],rfl,by omega,OV U d0,Aa (by rw[q0.out (by omega) (by omega),Y.out (by omega)]),I⟩
     case measure=>simp[intOf];omega
    ·refine AE (fun K hK=>?_);go_wp2_with fail;refine⟨by kernel_rfl,?_⟩;go_wp2_with fail;rw[Exit.noGoto_ret];go_ret3;exact LK (Z.out (by omega) (by omega)) I.out.drew O.out (by rw[H.out (by omega),J.out (by omega)])
    ·go_roundw
     case rel=>exact⟨i+1,acc+128^i*y,by go_num,by rw[H.out (by omega)],rfl,by omega,OV U d0,Aa (by rw[q0.out (by omega) (by omega),Y.out (by omega)]),I⟩
     case measure=>simp[intOf];omega
  ·have j0:i=k:=by omega
   have h0:=Pp (l:=l) (i:=i) (by rw[<-h.out.len,j0];exact g0.out) acc;rw[<-hg.out]at h0;replace h0:=Aa h0;replace j0:=Aa j0;go_wp2_with fail;rw[Exit.noGoto_ret];go_ret3;exact Gv h0.out I.out
theorem ST (hi:i<=9) (a:acc<128^i) (Y:y<128) (b:i=9->y<=1):IntKind.u64.wrap ((acc:Int)+IntKind.u64.wrap ((y:Int)*2^(7*i)))=((acc+128^i*y:Nat):Int):=by
 have e:∀y:Int,IntKind.u64.wrap y=y%18446744073709551616:=fun y=>by simp[IntKind.wrap,IntKind.bits,IntKind.signed]
 have j:acc+128^i*y<18446744073709551616:=by
  rcases Nat.lt_or_ge i 9 with h | h
  ·have h1:=OV a Y;have h2:128^(i+1)<=128^9:=Nat.pow_le_pow_right (by omega) (by omega);omega
  ·obtain rfl:i=9:=by omega
   have:=b rfl;omega
 have H:(128:Nat)^i=2^(7*i):=by rw[show (128:Nat)=2^7 from rfl,<-Nat.pow_mul]
 rw[H]at j ⊢;have:(y:Int)*2^(7*i)=((2^(7*i)*y:Nat):Int):=by simp[Int.mul_comm]
 rw[e,e,this];omega
theorem Bq (A:Option Addr) (n c:Nat) (l:List UInt8) (w0 w:World) (h:In8 w0 A n c l) (hw:Ext w0 w) (y1:n<=1000000000) :
 Calls prog 161 #[.slice A n c] w fun e w'=>Got w0 w (getV 0 l) e w':=by
 have q1:=h.cap;replace h:=Aa h
 go_in
 go_wp2_with fail
 go_loopw [5,6] (fun s5 s6 wr=>∃(i acc:Nat),s6 = .int .i64 i/\s5 = .int .u64 acc/\i<=n/\i<=10/\acc<128^i/\Hid (getV 0 l=comb i acc (getV i (l.drop i)))/\Hid (Ext w wr)) (fun _ s6 _=>n - (intOf s6).toNat)
 case atStart=>exact⟨0,0,rfl,rfl,by omega,by omega,by simp,Aa (by rw[Nr];rfl),Aa (Ext.refl w)⟩
 case round =>
  obtain⟨i,acc,rfl,rfl,hi,k1,Y,hg,Z⟩:=hrel;by_cases m0:i<n/\i<10
  ·obtain⟨m0,x1⟩:=m0;have t0:i<l.length:=by rw[<-h.out.len];omega
   obtain⟨g,o,rfl,hc⟩:=h.out.bytes.at_ (by omega);have k0:=(hw.trans Z.out).cell (hc i t0);have b:=Pq (List.getElem?_eq_getElem t0) (by omega) acc;rw[<-hg.out]at b;obtain⟨x,hx⟩:=Ab (l[i].toNat);have l0:x<256:=by rw[hx];exact l[i].toNat_lt
   rw[<-hx]at k0 b;replace hx:=Aa hx;replace b:=Aa b;obtain⟨y,hy⟩:=Ab (x%128);have j1:(x:Int)%128=(y:Int):=by omega
   have j0:y<128:=by omega
   replace hy:=Aa hy;obtain⟨A',c',x0,v0⟩:=h.out.from_ (fr:=i+1) (by omega) (z:=(i:Int)+1) (by omega);have J:=Aa v0;clear hc hg v0;have a:=fun h9:i=9->y<=1=>ST (i:=i) (acc:=acc) (y:=y) (by omega) Y j0 h9;replace a:=Aa a;have I:=fun(h1:¬((i=9/\1<x)\/(0<i/\x=0))) (h2:128<=x)=>b.out.trans ((if_neg h1).trans (if_neg (by omega)));have O:=fun(h1:¬((i=9/\1<x)\/(0<i/\x=0))) (h2:x<128)=>b.out.trans ((if_neg h1).trans (if_pos h2));have j:=fun(h1:(i=9/\1<x)\/(0<i/\x=0))=>b.out.trans (if_pos h1);have T:x<128->y=x:=fun h=>by have:=hy.out;omega
   have H:128<=x->y=x - 128:=fun h=>by have:=hy.out;omega
   have hz:((x:Int)==0)=true->x=0:=fun h=>by simp at h;omega
   have q0:((x:Int)==0)=false->x≠0:=fun h=>by simp at h;omega
   replace I:=Aa I;replace O:=Aa O;replace j:=Aa j;replace T:=Aa T;replace H:=Aa H;replace hz:=Aa hz;replace q0:=Aa q0;by_cases h9:i=9
   ·subst h9;have p0:y<=1->IntKind.u64.wrap ((acc:Int)+IntKind.u64.wrap ((y:Int)*9223372036854775808))=((acc+128^9*y:Nat):Int):=fun n0=>by
     have e:(2:Int)^(7*9)=9223372036854775808:=by simp
     have:=a.out fun _=>n0;rw[e]at this;exact this
    replace p0:=Aa p0;obtain⟨A9,c9,i0,U⟩:=h.out.from_ (fr:=10) (by omega) (z:=10) rfl;replace U:=Aa U;clear x0 J;go_wp2_with fail
    ·go_ret3;have h0:(1<(x:Int)\/((x:Int)==0)=true):=by assumption
     exact Gv (j.out (by rcases h0 with h0 | h0;exact .inl ⟨by trivial,by omega⟩;exact .inr ⟨by omega,hz.out h0⟩)) Z.out
    ·refine AE (fun K hK=>?_);go_wp2_with fail;refine⟨by kernel_rfl,?_⟩;go_wp2_with fail;go_ret3;have d1:x<=1:=by omega
     have h0:((x:Int)<=1/\((x:Int)==0)=false):=by assumption
     have m1:=q0.out h0.2;exact LK (O.out (by omega) (by omega)) Z.out.drew U.out (by have h5:=T.out (by omega);have h6:(128:Nat)^9=9223372036854775808:=rfl;omega)
    ·go_ret3;exact Gv (j.out (.inl ⟨by trivial,by omega⟩)) Z.out
   ·go_wp2_with fail
    ·go_ret3;exact Gv (j.out (.inr ⟨by omega,hz.out (by assumption)⟩)) Z.out
    ·refine AE (fun K hK=>?_);go_wp2_with fail;refine⟨by kernel_rfl,?_⟩;go_wp2_with fail;go_ret3;exact LK (O.out (by have:=q0.out (by assumption);omega) (by omega)) Z.out.drew J.out (by rw[a.out (by omega),T.out (by omega)])
    ·go_roundw
     case rel=>exact⟨i+1,acc+128^i*y,by go_num,by rw[a.out (by omega)],by omega,by omega,OV Y j0,Aa (by rw[I.out (by omega) (by omega),H.out (by omega)]),Z⟩
     case measure=>simp[intOf];omega
    ·refine AE (fun K hK=>?_);go_wp2_with fail;refine⟨by kernel_rfl,?_⟩;go_wp2_with fail;go_ret3;exact LK (O.out (by omega) (by omega)) Z.out.drew J.out (by rw[a.out (by omega),T.out (by omega)])
    ·go_roundw
     case rel=>exact⟨i+1,acc+128^i*y,by go_num,by rw[a.out (by omega)],by omega,by omega,OV Y j0,Aa (by rw[I.out (by omega) (by omega),H.out (by omega)]),Z⟩
     case measure=>simp[intOf];omega
  ·have G:=Pp (l:=l) (i:=i) (by rw[<-h.out.len];omega) acc;rw[<-hg.out]at G;replace G:=Aa G;clear hg;go_wp2_with fail
   all_goals go_ret3
   all_goals exact Gv G.out Z.out
theorem RU:Elem prog 43 3 1 8:=⟨underlying43,⟨_,_,rfl,rfl,rfl,rfl,rfl⟩,by omega,by omega⟩
theorem BK:∀(l:List UInt8) (i k:Nat),getV i l = .error k->0<k
 | [],i,k,h=>by unfold getV at h;cases h;omega
 | x::l,i,k,h=>by
  unfold getV at h;split at h
  ·cases h;omega
  ·split at h
   ·cases h;omega
   ·split at h
    ·cases h
    ·split at h
     ·cases h
     ·rename_i e j;cases h;exact BK l (i+1) k j
def GotI (w0 w:World) (res:Except Nat (Nat×List UInt8)) (e:Ending) (w':World):Prop:=Ext w w'/\match res with
 | .ok (v,r)=>∃A c,e = .returned (.tuple #[.int .i64 (unzig v),.slice A r.length c,.int .i64 0])/\In8 w0 A r.length c r
 | .error k=>e = .returned (.tuple #[.int .i64 0,.slice none 0 0,.int .i64 k])
theorem LJ (A:Option Addr) (n c:Nat) (l:List UInt8) (w0 w:World) (h:In8 w0 A n c l) (hw:Ext w0 w) (O:n<=1000000000) :
 Calls prog 146 #[.slice A n c] w fun e w'=>GotI w0 w (getV 0 l) e w':=by
 have a:=Cl A n c l w0 w h hw O;cases Y:getV 0 l with
 | error k =>
  rw[Y]at a;have hk:=BK l 0 k Y;have h0:((k:Int) != 0)=true:=by simp;omega
  replace a:=Aa a;clear h Y hk
  go_in
  go_wp2_with fail;refine a.out.mono ?_;rintro e w1 ⟨b,rfl⟩;go_wp2_with fail;go_ret3;exact⟨b,rfl⟩
 | ok p =>
  obtain⟨v,r⟩:=p;have hv:=Ct Y;rw[Y]at a;replace a:=Aa a;have U:bits .and .u64 (v:Int) 1=((v%2:Nat):Int):=by
   rw[show (1:Int)=((1:Nat):Int)from rfl,u64_and_nat _ _ hv (by omega),Nat.and_one_is_mod]
  obtain⟨q,T⟩:=Ab (v%2);obtain⟨d,hd⟩:=Ab (v / 2);have Z:=i64_not d (by omega);have I:(v:Int) / 2=(d:Int):=by omega
  rw[<-T]at U;have J:unzig v=if q=0 then (d:Int) else -1 - (d:Int):=by unfold unzig;rw[<-T,<-hd]
  have q0:q<=1:=by omega
  have G:d<9223372036854775808:=by omega
  replace J:=Aa J;clear T hd h Y;rcases (show q=0\/q=1 by omega)with rfl | rfl
  ·have j:unzig v=d:=J.out;replace j:=Aa j;clear J
   go_in
   go_wp2_with fail;refine a.out.mono ?_;rintro e w1 ⟨b,A1,c1,rfl,H⟩;go_wp2_with fail;go_ret3;exact⟨b,A1,c1,by rw[j.out];rfl,H⟩
  ·have j:unzig v = -1 - (d:Int):=J.out;replace j:=Aa j;clear J
   go_in
   go_wp2_with fail;refine a.out.mono ?_;rintro e w1 ⟨b,A1,c1,rfl,H⟩;go_wp2_with fail;go_ret3;exact⟨b,A1,c1,by rw[j.out];rfl,H⟩
theorem SU (v:Nat) (w:World) (h:v<18446744073709551616):Calls prog 218 #[.int .u64 v] w fun e w'=>e = .returned (.int .i64 (unzig v))/\w'=w:=by
 go_in
 go_wp2_with fail
 all_goals go_ret
 all_goals exact⟨Fb (by unfold unzig;simp only[beq_iff_eq,beq_eq_false_iff_ne,ne_eq]at *;split <;> omega),rfl⟩
theorem SH (A:Option Addr) (n c:Nat) (l:List UInt8) (w0 w:World) (h:In8 w0 A n c l) (O:Ext w0 w) (Y:n<=1000000000) :
 Calls prog 188 #[.slice A n c] w fun e w'=>GotI w0 w (getV 0 l) e w':=by
 have j:=Bq A n c l w0 w h O Y;cases a:getV 0 l with
 | error k =>
  rw[a]at j;have hk:=BK l 0 k a;have J:((k:Int) != 0)=true:=by simp;omega
  replace j:=Aa j;clear h a hk
  go_in
  go_wp2_with fail;refine j.out.mono ?_;rintro e w1 ⟨b,rfl⟩;go_wp2_with fail;go_ret3;exact⟨b,rfl⟩
 | ok p =>
  obtain⟨v,r⟩:=p;have U:=Ct a;rw[a]at j;replace j:=Aa j;have hb:=Aa (fun w=>SU v w U);clear h a
  go_in
  go_wp2_with fail;refine j.out.mono ?_;rintro e w1 ⟨b,A1,c1,rfl,H⟩;go_wp2_with fail;refine(hb.out _).mono ?_;rintro e w2 ⟨rfl,rfl⟩;go_wp2_with fail;go_ret3;exact⟨b,A1,c1,rfl,H⟩
theorem Gl (l:List UInt8):Lib.strCells ⟨l.toArray⟩=l.map B8:=rfl
theorem KN (w:World) (ty:TypeId) {base:Nat} (hb:Buf w base 5 A n c xs) (s:List UInt8) (c0:n+s.length<=4294967296) (H:base<=w.heap.size) :
 ∃A1 c1 w',(Builtin.append_ #[24,9] ty #[.slice A n c,.string ⟨s.toArray⟩]).run prog w = .ok (.slice A1 (n+s.length) c1) w'/\Buf w' base 5 A1 (n+s.length) c1 (xs++s.map B8)/\w.grownBy w' (Value.slice A n c).ownBlock /\
  (A1=A\/A1=some ⟨w.heap.size,0,none⟩):=by
 obtain⟨i,z,hi,hz,h3,h4,h5⟩:=Aw.hi;have G:i.zero=some (.int .u8 0):=by
  obtain⟨j,I,g0⟩:∃j,prog.info? 5=some j/\j.zero=some (.int .u8 0):=⟨_,rfl,rfl⟩
  rw[hi]at I;injection I with I;rw[I];exact g0
 have ht:=underlying24;have hu:=underlying9;have a:(⟨s.toArray⟩:ByteArray).size=s.length:=ByteArray.size_mk_toArray s;obtain⟨hx,y0,hA⟩:=hb;rcases hA with ⟨rfl,rfl⟩ | ⟨g,cur,rfl,k0,hg,hs,Z⟩
 ·obtain rfl:n=0:=by omega
  obtain rfl:xs = []:=List.eq_nil_of_length_eq_zero hx;by_cases T:s = []
  ·subst T;refine⟨none,0,w,?_,⟨rfl,Nat.le_refl _,.inl ⟨rfl,rfl⟩⟩,World.grownBy.refl w _,.inl rfl⟩;have hf:=Lib.run_firstCells_string (P:=prog) (w:=w) 1 ⟨#[]⟩;rw[show (ByteArray.mk #[]).size=0 from rfl]at hf;have e0:(ByteArray.mk #[]).size=0:=rfl;simp[Builtin.append_,run_underlying ht,run_underlying hu,sizeOf,typeInfo,hi,h3,Builtin.lenOf,e0,hf]
  ·have hl:0<s.length:=List.length_pos_iff.2 T;have J:=run_append_nil_string (P:=prog) w 24 9 ty 5 i (.int .u8 0) ht hu hi G ⟨s.toArray⟩ (by omega) (by omega) (by rw[h4,a];omega);have U:=grownCap_ge w s.length 0 5;rw[a]at J;refine⟨_,_,_,by rw[J,Nat.zero_add],⟨by simp,by rw[Nat.zero_add];exact U,.inr ⟨w.heap.size,_,rfl,H,heap_alloc_new w.drew _,?_,?_⟩⟩,?_,.inr rfl⟩
   ·simp only[Array.size_append,size_zeroCells];simp[Value.cells];omega
   ·simp only[Array.toList_append];rw[Nat.zero_add,List.take_append_of_le_length (by simp),List.take_of_length_le (by simp)];simp;exact fun b _=>rfl
   ·exact(Ext.refl w |>.drew.alloc _) |> fun h=>⟨Below.os h,Below.tape h,Below.output h,Below.size h,fun k hk _=>Below.block h k hk⟩
 ·by_cases Y:n+s.length<=c
  ·have J:=Lib.run_append_room_string (P:=prog) (w:=w) 24 9 ty 5 i ht hu hi h3 g n c cur hg ⟨s.toArray⟩ (by rw[a];exact Y) (by rw[a];omega);rw[a,Gl]at J;refine⟨some ⟨g,0,none⟩,c,_,J,⟨by rw[List.length_append,List.length_map];omega,Y,.inr ⟨g,_,rfl,k0,setRow_heap w g cur _ 5 (0,0) hg,?_,?_⟩⟩,EW w g _,.inl rfl⟩
   ·simp;omega
   ·simp only;rw[Z];rw[List.take_append_of_le_length (by rw[List.length_append,List.length_map];omega),List.take_of_length_le (by rw[List.length_append,List.length_map];omega)]
  ·have U:=grownCap_ge w (n+s.length) c 5;have x0:=nextslicecap_le (need:=n+s.length) (old:=c) (by omega);have O:∀(j:Nat) (v:Value),xs[j]? = some v->w.cell? (Addr.add ⟨g,0,none⟩ j)=some v:=by
    intro j v hv;rw[Addr.add_lit,Nat.zero_add,cell_of_row w g j cur 5 (0,0) hg];rw[<-Z,List.getElem?_take]at hv;split at hv
    ·simpa using hv
    ·cases hv
   have J:=Lib.run_append_grow_string (P:=prog) (w:=w) 24 9 ty 5 i (.int .u8 0) ht hu hi G ⟨g,0,none⟩ n c xs (by rw[h3];omega) O ⟨s.toArray⟩ (by rw[a];omega) (by rw[a];omega) (by rw[a,h4];omega);rw[a,Gl]at J;refine⟨some ⟨w.heap.size,0,none⟩,grownCap w (n+s.length) c 5,_,J,⟨by rw[List.length_append,List.length_map];omega,U,.inr ⟨w.heap.size,_,rfl,H,heap_alloc_new w.drew _,?_,?_⟩⟩,?_,.inr rfl⟩
   ·simp only[Array.size_append,List.size_toArray,size_zeroCells,List.length_map];simp[Value.cells];omega
   ·simp only[Array.toList_append];rw[List.take_append_of_le_length (by simp;omega),List.take_of_length_le (by simp;omega)]
   ·exact(Ext.refl w |>.drew.alloc _) |> fun h=>⟨Below.os h,Below.tape h,Below.output h,Below.size h,fun k hk _=>Below.block h k hk⟩
theorem D0 {rest:List Oper} {a:Act} {base:Nat} (hb:Buf w base 5 A n c xs) (x y:Operand)
 (G:o.op = .call { callee:= .builtin .append,args:=#[x,y],argTypes:=#[24,9] }) (J:o.guard=none) (I:a.eval x = .slice A n c) (hy:a.eval y = .string ⟨s.toArray⟩) (U:n+s.length<=4294967296) (j:base<=w.heap.size)
 (h:∀A1 c1 w',Buf w' base 5 A1 (n+s.length) c1 (xs++s.map B8)->w.grownBy w' (Value.slice A n c).ownBlock->(∀w0,Ext w0 w->w0.heap.size<=base->Ext w0 w')->wpList prog ops Q rest (a.put o.dst (.slice A1 (n+s.length) c1)) w'):wpList prog ops Q (o::rest) a w :=
 wpList_plain J fun K Z=>by
  obtain⟨A1,c1,w',H,h2,O,_⟩:=KN w o.type hb s U j;unfold Oper.wp execOp;simp only[G,resolve,invoke,builtin,Sem.run_bind,Sem.run_pure,Result.andThen_ok,List.map_toArray,List.map_cons,List.map_nil,I,hy,H];refine Z _ _ (h A1 c1 w' h2 O (fun w0 T hw=>T.grown O fun k hk=>?_));have Y:=hb.base_le;cases A with
  | none=>simp[Value.ownBlock]at hk
  | some b =>
   have:=Y b rfl;simp[Value.ownBlock]at hk;omega
theorem Oz (kk:IntKind) (h:k<=c) (H:∀a,A=some a->a.spot=none) (W:World) :
 (Instr.sliceAt 24 (.slice A n c) none (some (.int kk k)) none).run prog W = .ok (.slice A k c) W:=by
 have ht:=underlying24;have j:prog.elem 24=5:=by unfold Program.elem;rw[ht]
 have hs:∀W:World,(sizeOf 5).run prog W = .ok 1 W:=fun W=>by kernel_rfl
 rw[run_sliceAt_slice W _ _ _ _ _ (by rw[ht,j]),run_slice_h W _ A n c (by rw[ht,j]) kk k (by omega) (by omega),j,hs];simp only[Result.andThen_ok];congr 1;unfold sliced;have:(if c=0 then A else A.map fun x=>x.add (0*1))=A:=by
  cases A with
  | none=>simp
  | some a =>
   obtain⟨b,o,sp⟩:=a;obtain rfl:sp=none:=H _ rfl;simp[Addr.add_lit]
 rw[this];simp
theorem In8.fromk (kk:IntKind) (h:In8 w A n c l) (Z:fr<=n) (T:z=(fr:Int)) :
 ∃A' c',(∀W:World,(Instr.sliceAt 24 (.slice A n c) (some (.int kk z)) none none).run prog W = .ok (.slice A' (n - fr) c') W)/\In8 w A' (n - fr) c' (l.drop fr):=by
 subst T;have ht:=underlying24;have J:prog.elem 24=5:=by unfold Program.elem;rw[ht]
 have hs:∀W:World,(sizeOf 5).run prog W = .ok 1 W:=fun W=>by kernel_rfl
 have H:∀W:World,(Instr.sliceAt 24 (.slice A n c) (some (.int kk fr)) none none).run prog W = .ok (sliced A fr n c 1) W:=by
  intro W;rw[run_sliceAt_slice W _ _ _ _ _ (by rw[ht,J]),run_slice_l W _ A n c (by rw[ht,J]) kk fr (by omega) (by omega),J,hs];simp only[Result.andThen_ok];congr 1
 have O:=h.cap;refine⟨_,_,H,by rw[List.length_drop,<-h.len],?_,by omega,?_,?_⟩
 ·rcases h.bytes with hb | ⟨g,o,rfl,hb⟩
  ·left;have:l = []:=by simpa using hb
   rw[this];simp
  ·by_cases Y:c=fr
   ·left;have:=h.len;rw[List.drop_of_length_le (by omega)];rfl
   ·refine .inr ⟨g,o+fr,by rw[if_neg Y];simp[Addr.add_lit],fun i v U=>?_⟩;rw[Nat.add_assoc];refine hb (fr+i) v ?_;rw[List.getElem?_map]at U ⊢;rw[List.getElem?_drop]at U;exact U
 ·intro hn;cases A with
  | none=>have:=h.nil_ rfl;omega
  | some a=>split at hn <;> cases hn
 ·intro a j;cases A with
  | none=>split at j <;> cases j
  | some b =>
   obtain⟨h1,h2⟩:=h.at_ b rfl;obtain⟨b,o,sp⟩:=b;obtain rfl:sp=Option.none:=h1;split at j
   ·cases j;exact⟨rfl,h2⟩
   ·cases j;show (Addr.add ⟨b,o,none⟩ (fr*1)).spot=none/\(Addr.add ⟨b,o,none⟩ (fr*1)).block<w.heap.size;rw[Addr.add_lit];exact⟨rfl,h2⟩
theorem In8.headk (kk:IntKind) (h:In8 w A n c l) (hk:k<=n) (H:z=(k:Int)) :
 (∀W:World,(Instr.sliceAt 24 (.slice A n c) none (some (.int kk z)) none).run prog W = .ok (.slice A k c) W)/\In8 w A k c (l.take k):=by
 subst H;refine⟨fun W=>Oz kk (by have:=h.cap;omega) (fun a b=>(h.at_ a b).1) W,by rw[List.length_take,<-h.len];omega,?_,by have:=h.cap;omega,h.nil_,h.at_⟩;rcases h.bytes with hb | ⟨g,o,rfl,hb⟩
 ·left;have:l = []:=by simpa using hb
  rw[this];simp
 ·refine .inr ⟨g,o,rfl,fun i v j=>hb i v ?_⟩;rw[List.getElem?_map]at j ⊢;rw[List.getElem?_take]at j;split at j
  ·exact j
  ·cases j
theorem In8.subk (kk k2:IntKind) (h:In8 w A n c l) (G:fr+k<=n) (O:z0=(fr:Int)) (Z:z=(fr:Int)+(k:Int)) :
 ∃A' c',(∀W:World,(Instr.sliceAt 24 (.slice A n c) (some (.int kk z0)) (some (.int k2 z)) none).run prog W = .ok (.slice A' k c') W)/\In8 w A' k c' ((l.drop fr).take k):=by
 subst O;subst Z;have ht:=underlying24;have U:prog.elem 24=5:=by unfold Program.elem;rw[ht]
 have hs:∀W:World,(sizeOf 5).run prog W = .ok 1 W:=fun W=>by kernel_rfl
 have T:=h.cap;have j:∀W:World,(Instr.sliceAt 24 (.slice A n c) (some (.int kk fr)) (some (.int k2 ((fr:Int)+(k:Int)))) none).run prog W = .ok (sliced A fr (fr+k) c 1) W:=by
  intro W;rw[run_sliceAt_slice W _ _ _ _ _ (by rw[ht,U]),run_slice_lh W _ A n c (by rw[ht,U]) kk k2 fr ((fr:Int)+k) (by omega) (by omega) (by omega),U,hs];simp only[Result.andThen_ok];congr 1
 unfold sliced at j;rw[Nat.add_sub_cancel_left]at j;refine⟨_,_,j,by rw[List.length_take,List.length_drop,<-h.len];omega,?_,by omega,?_,?_⟩
 ·rcases h.bytes with hb | ⟨g,o,rfl,hb⟩
  ·left;have:l = []:=by simpa using hb
   rw[this];simp
  ·by_cases J:c=fr
   ·left;have:k=0:=by omega
    subst this;simp
   ·refine .inr ⟨g,o+fr,by rw[if_neg J];simp[Addr.add_lit],fun i v H=>?_⟩;rw[Nat.add_assoc];refine hb (fr+i) v ?_;rw[List.getElem?_map]at H ⊢;rw[List.getElem?_take]at H;split at H
    ·rw[List.getElem?_drop]at H;exact H
    ·cases H
 ·intro hn;cases A with
  | none=>have:=h.nil_ rfl;omega
  | some a=>split at hn <;> cases hn
 ·intro a Y;cases A with
  | none=>split at Y <;> cases Y
  | some b =>
   obtain⟨h1,h2⟩:=h.at_ b rfl;obtain⟨b,o,sp⟩:=b;obtain rfl:sp=Option.none:=h1;split at Y
   ·cases Y;exact⟨rfl,h2⟩
   ·cases Y;show (Addr.add ⟨b,o,none⟩ (fr*1)).spot=none/\(Addr.add ⟨b,o,none⟩ (fr*1)).block<w.heap.size;rw[Addr.add_lit];exact⟨rfl,h2⟩
theorem Eg (ts:Array TypeId) (ty:TypeId) {x y m:Int} (h:m=max x y) (W:World):(Builtin.max_ ts ty #[.int .i64 x,.int .i64 y]).run P W = .ok (.int .i64 m) W:=by
 simp only[Builtin.max_,List.foldlM,Builtin.max2,Sem.run_bind,Sem.run_pure,Result.andThen_ok];subst h;congr 2;split <;> omega
def GotT (w0 w:World) (res:Except Nat (List UInt8×List UInt8)) (e:Ending) (w':World):Prop:=Ext w w'/\match res with
 | .ok (s,r)=>∃A c,e = .returned (.tuple #[.string ⟨s.toArray⟩,.slice A r.length c,.int .i64 0])/\In8 w0 A r.length c r
 | .error k=>e = .returned (.tuple #[.string ⟨#[]⟩,.slice none 0 0,.int .i64 k])
theorem DR (A:Option Addr) (n c:Nat) (l s:List UInt8) (w:World) (hn:n=l.length) (T:Bs w A l) (G:A=none->c=0) (U:n<=1000000000) (hs:s.length<=1000000000) :
 Calls prog 138 #[.slice A n c,.string ⟨s.toArray⟩] w fun e w'=>NewB w (l++txL s) e w':=by
 have Z:=Aa (Cm A n c s.length l w hn T G U (by omega));have b:=Co (n:=s.length) (by omega);have j:l++txL s=(l++vb s.length)++s:=by unfold txL;simp
 rw[j];obtain⟨L,H⟩:=Ab (l++vb s.length);have I:L.length<=1000000010:=by rw[H,List.length_append];omega
 rw[<-H]at Z ⊢;clear H j T G hn b
 go_in
 go_wp2_with fail;refine Z.out.mono ?_;rintro e w1 ⟨A1,c1,rfl,Y,h⟩;have O:=h.size;go_wp2_with (at_builtin;refine D0 Y (.tmp 9) (.tmp 10) rfl rfl rfl rfl (by omega) O (fun A2 c2 w2 J h0 a=>?_));go_ret;exact⟨A2,c2,Cy (by rw[List.length_append]),by rw[List.length_append,List.map_append];exact J,a _ h (Nat.le_refl _)⟩
theorem DG (A:Option Addr) (n c most:Nat) (l:List UInt8) (w0 w:World) (h:In8 w0 A n c l) (hw:Ext w0 w) (T:n<=1000000000) (hm:most<=1000000000) :
 Calls prog 147 #[.slice A n c,.int .i64 most] w fun e w'=>GotT w0 w (getT most l) e w':=by
 have b:=Cl A n c l w0 w h hw T;have I:=Eg (P:=prog) #[3,3] 3 (x:=0) (y:=(most:Int)) (m:=(most:Int)) (by omega);unfold getT;cases a:getV 0 l with
 | error k =>
  rw[a]at b;have hk:=BK l 0 k a;have j0:((k:Int) != 0)=true:=by simp;omega
  replace b:=Aa b;clear h a hk
  go_in
  go_wp2_with fail;refine b.out.mono ?_;rintro e w1 ⟨j,rfl⟩;go_wp2_with fail;go_ret3;exact⟨j,rfl⟩
 | ok p =>
  obtain⟨v,r⟩:=p;have hv:=Ct a;have m0:r.length<=1000000000:=by
   obtain⟨_,_,q,hq,_⟩:=Ck l 0 v r a;have:=h.len;rw[hq,List.length_append]at this;omega
  rw[a]at b;replace b:=Aa b;simp only;by_cases h1:most<v
  ·rw[if_pos h1];have J:(most:Int)<v:=by omega
   clear h a
   go_in
   go_wp2_with fail;refine b.out.mono ?_;rintro e w1 ⟨j,A1,c1,rfl,hi1⟩;go_wp2_with fail;go_ret3;exact⟨j,rfl⟩
  ·rw[if_neg h1];have J:¬ (most:Int)<v:=by omega
   by_cases h2:r.length<v
   ·rw[if_pos h2];have U:(r.length:Int)<v:=by omega
    clear h a
    go_in
    go_wp2_with fail;refine b.out.mono ?_;rintro e w1 ⟨j,A1,c1,rfl,hi1⟩;go_wp2_with fail;go_ret3;exact⟨j,rfl⟩
   ·rw[if_neg h2];have U:¬ (r.length:Int)<v:=by omega
    clear h a
    go_in
    go_wp2_with fail;refine b.out.mono ?_;rintro e w1 ⟨j,A1,c1,rfl,hi1⟩;obtain⟨k0,H⟩:=hi1.headk .u64 (k:=v) (by omega) (z:=(v:Int)) rfl;obtain⟨A2,c2,G,Y⟩:=hi1.fromk .u64 (fr:=v) (by omega) (z:=(v:Int)) rfl;have Z:∀W,Ext w0 W->(convert 24 9 (.slice A1 v c1)).run prog W = .ok (.string ⟨(r.take v).toArray⟩) W:=fun W hW=>CT (H.bytes.ext hW) v c1 H.len;have h0:=Z _ (hw.trans j).drew;have hlen:(r.drop v).length=r.length - v:=List.length_drop;obtain⟨R,O⟩:=Ab (r.length - v);rw[<-O]at G Y hlen;replace hlen:=Aa hlen;replace O:=Aa O;clear H;go_wp2_with fail;refine AE (fun K hK=>?_);go_wp2_with fail;refine⟨by kernel_rfl,?_⟩;go_wp2_with fail;go_ret3;exact⟨j.drew,A2,c2,by rw[hlen.out];rfl,by rw[hlen.out];exact Y⟩
theorem LR (A:Option Addr) (n c most:Nat) (l:List UInt8) (w0 w:World) (h:In8 w0 A n c l) (hw:Ext w0 w) (T:n<=1000000000) (hm:most<=1000000000) :
 Calls prog 189 #[.slice A n c,.int .i64 most] w fun e w'=>GotT w0 w (getT most l) e w':=by
 have b:=Bq A n c l w0 w h hw T;have I:=Eg (P:=prog) #[3,3] 3 (x:=0) (y:=(most:Int)) (m:=(most:Int)) (by omega);unfold getT;cases a:getV 0 l with
 | error k =>
  rw[a]at b;have hk:=BK l 0 k a;have j0:((k:Int) != 0)=true:=by simp;omega
  replace b:=Aa b;clear h a hk
  go_in
  go_wp2_with fail;refine b.out.mono ?_;rintro e w1 ⟨j,rfl⟩;go_wp2_with fail;go_ret3;exact⟨j,rfl⟩
 | ok p =>
  obtain⟨v,r⟩:=p;have hv:=Ct a;have m0:r.length<=1000000000:=by
   obtain⟨_,_,q,hq,_⟩:=Ck l 0 v r a;have:=h.len;rw[hq,List.length_append]at this;omega
  rw[a]at b;replace b:=Aa b;simp only;by_cases h1:most<v
  ·rw[if_pos h1];have J:(most:Int)<v:=by omega
   clear h a
   go_in
   go_wp2_with fail;refine b.out.mono ?_;rintro e w1 ⟨j,A1,c1,rfl,hi1⟩;go_wp2_with fail;go_ret3;exact⟨j,rfl⟩
  ·rw[if_neg h1];have J:¬ (most:Int)<v:=by omega
   by_cases h2:r.length<v
   ·rw[if_pos h2];have U:(r.length:Int)<v:=by omega
    clear h a
    go_in
    go_wp2_with fail;refine b.out.mono ?_;rintro e w1 ⟨j,A1,c1,rfl,hi1⟩;go_wp2_with fail;go_ret3;exact⟨j,rfl⟩
   ·rw[if_neg h2];have U:¬ (r.length:Int)<v:=by omega
    clear h a
    go_in
    go_wp2_with fail;refine b.out.mono ?_;rintro e w1 ⟨j,A1,c1,rfl,hi1⟩;obtain⟨k0,H⟩:=hi1.headk .u64 (k:=v) (by omega) (z:=(v:Int)) rfl;obtain⟨A2,c2,G,Y⟩:=hi1.fromk .u64 (fr:=v) (by omega) (z:=(v:Int)) rfl;have Z:∀W,Ext w0 W->(convert 24 9 (.slice A1 v c1)).run prog W = .ok (.string ⟨(r.take v).toArray⟩) W:=fun W hW=>CT (H.bytes.ext hW) v c1 H.len;have h0:=Z _ (hw.trans j).drew;have hlen:(r.drop v).length=r.length - v:=List.length_drop;obtain⟨R,O⟩:=Ab (r.length - v);rw[<-O]at G Y hlen;replace hlen:=Aa hlen;replace O:=Aa O;clear H;go_wp2_with fail;refine AE (fun K hK=>?_);go_wp2_with fail;refine⟨by kernel_rfl,?_⟩;go_wp2_with fail;go_ret3;exact⟨j.drew,A2,c2,by rw[hlen.out];rfl,by rw[hlen.out];exact Y⟩
theorem Gd (e:Ev) (A:Option Addr) (c:Nat) (w:World) (h:e.Ok w A):Calls prog 122 #[e.val A c] w fun en w'=>en = .returned (.int .i64 (checkE e.fs:Int))/\Ext w w':=by
 obtain⟨at_,fs⟩:=e;obtain⟨hc,hm,hl⟩:=h;unfold Ev.val;simp only at hc hm hl ⊢;obtain⟨n,hn⟩:=Ab fs.length;obtain⟨z,O⟩:=Ab (checkE fs);have b:16<n->z=3:=fun h=>by rw[O];unfold checkE;rw[if_pos (by omega)]
 have J:n<=16->z=checkF (fs.drop 0):=fun h=>by rw[O];unfold checkE;rw[if_neg (by omega)];rfl
 have U:=fun s W (hs:s.length<=9223372036854775807)=>KH s W hs;rw[<-O,<-hn];rw[<-hn]at hm;have H:Ext w (w.alloc (.cells #[.int .i64 at_,.slice A n c] 69)):=(Ext.refl w).alloc _;have Y:Row (w.alloc (.cells #[.int .i64 at_,.slice A n c] 69)) w.heap.size 69 #[.int .i64 at_,.slice A n c]:=Row.new w _ _;replace hn:=Aa hn;replace hl:=Aa hl;replace U:=Aa U;replace J:=Aa J;clear O;by_cases g0:16<n
 ·have Z:=b g0;subst Z;clear b Y
  go_in
  go_wp2_with fail;go_ret;exact⟨rfl,H⟩
 ·clear b;have T:=J.out (by omega);replace T:=Aa T
  go_in
  go_wp2_with fail;obtain⟨W0,I⟩:=Ab (w.alloc (.cells #[.int .i64 at_,.slice A n c] 69));rw[<-I]at H Y ⊢;clear I
  go_loopw [3] (fun s3 wr=>∃i:Nat,s3 = .int .i64 i/\i<=n/\Hid (z=checkF (fs.drop i))/\Hid (Ext W0 wr)) (fun s3 _=>n - (intOf s3).toNat)
  case atStart=>exact⟨0,rfl,by omega,T,Aa (Ext.refl _)⟩
  case round =>
   obtain⟨i,rfl,hi,O,G⟩:=hrel;have y1:=(Y.ext G.out).cell 1 rfl;by_cases t0:i<n
   ·have m0:i<fs.length:=by rw[<-hn.out];exact t0
    obtain⟨f,hf⟩:∃f,fs[i]? = some f:=⟨_,List.getElem?_eq_getElem m0⟩
    obtain⟨g,o,rfl,k0,k1⟩:=Bg (hc.ext (H.trans G.out)) hf;obtain⟨h0,v0⟩:=hl.out f (List.mem_of_getElem? hf);have j:=O.out;rw[FW hf]at j;unfold strV at k0 k1;obtain⟨nm,tx⟩:=f;simp only at k0 k1 h0 v0 j;have a:=fun W=>U.out nm W h0;obtain⟨q,hq⟩:=Ab (nameL nm);rw[<-hq]at a j;have d0:(0:Int)<=i:=by omega
    have hi1:(i:Int)<n:=by omega
    replace a:=Aa a;replace j:=Aa j;clear hf hq;go_wp2_with fail;refine(a.out _).mono ?_;rintro e w3 ⟨rfl,rfl⟩;cases q with
    | false =>
     obtain rfl:z=100:=by rw[j.out];rfl
     go_wp2_with fail;go_ret;exact⟨rfl,H.trans G.out⟩
    | true =>
     by_cases q0:4096<tx.length
     ·obtain rfl:z=2:=by rw[j.out,if_neg (by simp),if_pos q0]
      go_wp2_with fail;go_ret;exact⟨rfl,H.trans G.out⟩
     ·have Z:=Aa (show z=checkF (fs.drop (i+1))by rw[j.out,if_neg (by simp),if_neg q0]);go_wp2_with fail;go_roundw
      case rel=>exact⟨i+1,by go_num,by omega,Z,G⟩
      case measure=>simp[intOf];omega
   ·obtain rfl:z=0:=by
     have h:=O.out;rw[List.drop_of_length_le (by rw[<-hn.out];omega)]at h;exact h
    go_wp2_with fail;go_ret;exact⟨rfl,H.trans G.out⟩
theorem Ei {α:Type} {xs:List α} {x:α} (h:xs[i]? = some x):xs.take (i+1)=xs.take i ++ [x]:=by
 obtain⟨hi,rfl⟩:=List.getElem?_eq_some_iff.1 h;exact List.take_succ_eq_append_getElem hi
theorem I7:∀ {fs:List Fd},(∀f∈fs,f.1.length<=32/\f.2.length<=4096)->sizeFs fs<=5000*fs.length
 | [],_=>by simp[sizeFs]
 | f::fs,h=>by
  have h1:=I7 (fs:=fs) fun x b=>h x (by simp[b]);have a:=h f (by simp);have j:sizeFs (f::fs)=f.1.length+f.2.length+sizeFs fs:=by unfold sizeFs;rw[List.map_cons,List.sum_cons];rfl
  rw[j,List.length_cons];omega
def Own8 (w:World) (base:Nat) (A:Option Addr) (n c:Nat) (l:List UInt8):Prop:=n=l.length/\Buf w base 5 A n c (l.map B8)
theorem Own8.nil_ {base:Nat} (h:Own8 w base A n c l):A=none->c=0:=fun a=>by
 obtain⟨_,_,_,j⟩:=h;rcases j with ⟨_,j⟩ | ⟨g,cur,b,_⟩
 ·exact j
 ·rw[a]at b;cases b
theorem NewB.own {e:Ending} (h:NewB w l e w') (hb:w0.heap.size<=w.heap.size):∃A c,e = .returned (.slice A l.length c)/\Own8 w' w0.heap.size A l.length c l/\Ext w w':=by
 obtain⟨A,c,a,j,b⟩:=h;exact⟨A,c,a,⟨rfl,j.lower hb⟩,b⟩
theorem AH (h:m<18446744073709551616):IntKind.u64.wrap (m:Int)=(m:Int):=by
 simp[IntKind.wrap,IntKind.bits,IntKind.signed];omega
theorem Hc {fs:List Fd} {f:Fd} (h:fs[i]? = some f):putFs (fs.take (i+1))=putFs (fs.take i)++txL f.1++txL f.2:=by
 unfold putFs;rw[Ei h,List.flatMap_append];simp[putF]
theorem DQ {fs:List Fd} (h:∀f∈fs,f.1.length<=32/\f.2.length<=4096) (i:Nat):(putFs (fs.take i)).length<=5000*fs.length:=by
 have h1:=IR (fs:=fs.take i) fun f j=>h f (List.mem_of_mem_take j);have h2:=I7 (fs:=fs.take i) fun f j=>h f (List.mem_of_mem_take j);have Y:=List.length_take_le i fs;have a:∀ {gs:List Fd},(∀f∈gs,f.1.length<=32/\f.2.length<=4096)->sizeFs gs<=4128*gs.length:=by
  intro gs
  induction gs with
  | nil=>intro _;simp[sizeFs]
  | cons f gs ih =>
   intro h;have h1:=ih fun x H=>h x (by simp[H]);have j:=h f (by simp);have b:sizeFs (f::gs)=f.1.length+f.2.length+sizeFs gs:=by unfold sizeFs;rw[List.map_cons,List.sum_cons];rfl
   rw[b,List.length_cons];omega
 have b:=a (gs:=fs.take i) fun f j=>h f (List.mem_of_mem_take j);have J:(fs.take i).length<=fs.length:=by rw[List.length_take];omega
 omega
theorem NG (A:Option Addr) (n c:Nat) (l:List UInt8) (e:Ev) (B:Option Addr) (d:Nat) (w:World) (hn:n=l.length) (hl:Bs w A l) (hz:A=none->c=0) (p4:n<=100000000) (h:e.Ok w B) (hk:checkE e.fs=0) (ha:I64ok' e.at_) :
 Calls prog 171 #[.slice A n c,e.val B d] w fun en w'=>NewB w (l++putE e) en w':=by
 obtain⟨d2,t0⟩:=AM hk;have r0:l++putE e=(l++vb (zig e.at_)++vb e.fs.length)++putFs (e.fs.take e.fs.length):=by unfold putE;rw[List.take_length];simp
 rw[r0];obtain⟨at_,fs⟩:=e;obtain⟨hc,_,_⟩:=h;unfold Ev.val;simp only at hc d2 t0 ha ⊢;have l0:=DQ t0;obtain⟨m,hm⟩:=Ab fs.length;rw[<-hm]at d2 l0 ⊢;obtain⟨W,hW⟩:=Ab (w.alloc (.cells #[.int .i64 at_,.slice B m d] 69));have G:Ext w W:=by rw[hW];exact(Ext.refl w).alloc _
 have hr:Row W w.heap.size 69 #[.int .i64 at_,.slice B m d]:=by rw[hW];exact Row.new w _ _
 obtain⟨b,hb⟩:=Ab w.heap.size;rw[<-hb]at hr;have m3:=Co (CM ha.1 ha.2);have a2:=Co (n:=m) (by omega);obtain⟨L1,v0⟩:=Ab (l++vb (zig at_));obtain⟨L2,x0⟩:=Ab (L1++vb m);have q2:L1.length<=100000010:=by rw[v0,List.length_append];omega
 have r3:L2.length<=100000020:=by rw[x0,List.length_append];omega
 rw[<-v0,<-x0];have f1:W.cell? ⟨b,0,none⟩=some (.int .i64 at_)/\W.cell? ⟨b,1,none⟩=some (.slice B m d)/\Ext W W:=⟨hr.cell 0 rfl,hr.cell 1 rfl,Ext.refl W⟩
 have c0:W.drew.cell? ⟨b,0,none⟩=some (.int .i64 at_)/\W.drew.cell? ⟨b,1,none⟩=some (.slice B m d)/\Ext W W.drew:=⟨hr.cell 0 rfl,hr.cell 1 rfl,(Ext.refl W).drew⟩
 have f0:∀x,(x.cell? ⟨b,0,none⟩=some (.int .i64 at_)/\x.cell? ⟨b,1,none⟩=some (.slice B m d)/\Ext W x)->Calls prog 88 #[.slice A n c,.int .i64 at_] x fun e y=>∃A1 c1,e = .returned (.slice A1 L1.length c1)/\Own8 y w.heap.size A1 L1.length c1 L1/\(y.cell? ⟨b,0,none⟩=some (.int .i64 at_)/\y.cell? ⟨b,1,none⟩=some (.slice B m d)/\Ext W y):=fun x ⟨h0,h1,Z⟩ =>
  (EF A n c at_ l x hn (hl.ext (G.trans Z)) hz (by omega) ha.1 ha.2).mono fun e y hy=>by
   obtain⟨A1,c1,he,H,a⟩:=NewB.own hy (G.trans Z).size;rw[<-v0]at he H;exact⟨A1,c1,he,H,a.cell h0,a.cell h1,Z.trans a⟩
 have i0:∀x A1 c1,Own8 x w.heap.size A1 L1.length c1 L1->(x.cell? ⟨b,0,none⟩=some (.int .i64 at_)/\x.cell? ⟨b,1,none⟩=some (.slice B m d)/\Ext W x)->Calls prog 79 #[.slice A1 L1.length c1,.int .u64 (m:Int)] x fun e y=>∃A2 c2,e = .returned (.slice A2 L2.length c2)/\Own8 y w.heap.size A2 L2.length c2 L2/\(y.cell? ⟨b,0,none⟩=some (.int .i64 at_)/\y.cell? ⟨b,1,none⟩=some (.slice B m d)/\Ext W y):=fun x A1 c1 H ⟨h0,h1,Z⟩ =>
  (Cm A1 L1.length c1 m L1 x rfl H.2.cells H.nil_ (by omega) (by omega)).mono fun e y hy=>by
   obtain⟨A2,c2,he,T,a⟩:=NewB.own hy (G.trans Z).size;rw[<-x0]at he T;exact⟨A2,c2,he,T,a.cell h0,a.cell h1,Z.trans a⟩
 replace f0:=Aa f0;replace i0:=Aa i0;replace f1:=Aa f1;replace c0:=Aa c0;have j4:=AH (m:=m) (by omega);replace hW:=Aa hW;replace hm:=Aa hm;replace t0:=Aa t0;replace l0:=Aa l0;replace hb:=Aa hb;clear v0 x0 r0 m3 a2 hl hz hn
 go_in
 go_wp2_with fail;rw[<-hW.out,<-hb.out];refine wp_region_held_drew (S:=fun x=>x.cell? ⟨b,0,none⟩=some (.int .i64 at_)/\x.cell? ⟨b,1,none⟩=some (.slice B m d)/\Ext W x) (by kernel_rfl) c0.out (fun I=>?_);refine wpAnyH_take (i:=0) (v:= .slice A n c) rfl (by kernel_rfl) (by kernel_rfl) (by kernel_rfl) (fun _ _ _ h=>h) (Or.inl ⟨by rfl,?_⟩) (by assumption) ?_
 ·intro w' j
  (try dsimp only at j)
  obtain⟨z1,z2,z3⟩:=j;go_simp
  try with_reducible rfl
  all_goals omega
 (try simp only[Act.put,Bv,Bw,By,CN,CO,CP])
 refine wpAnyH_take (i:=1) (v:= .pointer (some ⟨b,0,none⟩)) rfl (by kernel_rfl) (by kernel_rfl) (by kernel_rfl) (fun _ _ _ h=>h) (Or.inl ⟨by rfl,?_⟩) (by assumption) ?_
 ·intro w' j
  (try dsimp only at j)
  obtain⟨z1,z2,z3⟩:=j;go_simp
  try with_reducible rfl
  all_goals omega
 (try simp only[Act.put,Bv,Bw,By,CN,CO,CP])
 refine wpAnyH_take (i:=2) (v:= .int .i64 at_) rfl (by kernel_rfl) (by kernel_rfl) (by kernel_rfl) (fun _ _ _ h=>h) (Or.inl ⟨by rfl,?_⟩) (by assumption) ?_
 ·intro w' j
  (try dsimp only at j)
  obtain⟨z1,z2,z3⟩:=j;go_simp
  try with_reducible rfl
  all_goals omega
 (try simp only[Act.put,Bv,Bw,By,CN,CO,CP])
 refine wpAnyH_take (i:=4) (v:= .pointer (some ⟨b,1,none⟩)) rfl (by kernel_rfl) (by kernel_rfl) (by kernel_rfl) (fun _ _ _ h=>h) (Or.inl ⟨by rfl,?_⟩) (by assumption) ?_
 ·intro w' j
  (try dsimp only at j)
  obtain⟨z1,z2,z3⟩:=j;go_simp
  try with_reducible rfl
  all_goals omega
 (try simp only[Act.put,Bv,Bw,By,CN,CO,CP])
 refine wpAnyH_take (i:=5) (v:= .slice B m d) rfl (by kernel_rfl) (by kernel_rfl) (by kernel_rfl) (fun _ _ _ h=>h) (Or.inl ⟨by rfl,?_⟩) (by assumption) ?_
 ·intro w' j
  (try dsimp only at j)
  obtain⟨z1,z2,z3⟩:=j;go_simp
  try with_reducible rfl
  all_goals omega
 (try simp only[Act.put,Bv,Bw,By,CN,CO,CP])
 refine wpAnyH_take (i:=6) (v:= .int .i64 (m:Int)) rfl (by kernel_rfl) (by kernel_rfl) (by kernel_rfl) (fun _ _ _ h=>h) (Or.inl ⟨by rfl,?_⟩) (by assumption) ?_
 ·intro w' j
  (try dsimp only at j)
  obtain⟨z1,z2,z3⟩:=j;go_simp
  try with_reducible rfl
  all_goals omega
 (try simp only[Act.put,Bv,Bw,By,CN,CO,CP])
 refine wpAnyH_take (i:=7) (v:= .int .u64 (m:Int)) rfl (by kernel_rfl) (by kernel_rfl) (by kernel_rfl) (fun _ _ _ h=>h) (Or.inl ⟨by rfl,?_⟩) (by assumption) ?_
 ·intro w' j
  (try dsimp only at j)
  obtain⟨z1,z2,z3⟩:=j;go_simp
  try with_reducible rfl
  all_goals omega
 (try simp only[Act.put,Bv,Bw,By,CN,CO,CP])
 refine wpAnyH_ready (rs:= [3]) (by kernel_rfl) (by simp) ?_;refine AllReadyH.cons rfl (fun K hK=>?_) AllReadyH.nil
 (first | go_at_call 88 | (go_simp;go_at_call 88));(refine(f0.out _ ‹_›).mono ?_;rintro en w3 ⟨A1,c1,rfl,H,q0⟩)
 refine hK.out _ _ ?_ (fun U=>?_)
 ·exact q0
 clear hK K
 (try simp only[Act.put,Bv,Bw,By,CN,CO,CP])
 refine wpAnyH_ready (rs:= [8]) (by kernel_rfl) (by simp) ?_;refine AllReadyH.cons rfl (fun K hK=>?_) AllReadyH.nil
 (first | go_at_call 79 | (go_simp;go_at_call 79));(refine(i0.out _ _ _ H q0).mono ?_;rintro en w4 ⟨A2,c2,rfl,T,Y⟩)
 refine hK.out _ _ ?_ (fun O=>?_)
 ·exact Y
 clear hK K
 (try simp only[Act.put,Bv,Bw,By,CN,CO,CP])
 refine wpAnyH_take (i:=9) (v:= .slice A2 L2.length c2) rfl (by kernel_rfl) (by kernel_rfl) (by kernel_rfl) (fun _ _ _ h=>h) (Or.inl ⟨by rfl,?_⟩) (by assumption) ?_
 ·intro w' j
  (try dsimp only at j)
  obtain⟨z1,z2,z3⟩:=j;go_simp
  try with_reducible rfl
  all_goals omega
 (try simp only[Act.put,Bv,Bw,By,CN,CO,CP])
 refine wpAnyH_done (by kernel_rfl) ?_ _;clear I U O q0 H f0 i0 f1 c0;have J:Ext W w4:=Y.2.2;have y1:w4.cell? ⟨b,1,none⟩=some (.slice B m d):=Y.2.1;have i3:w.heap.size<=w4.heap.size:=(G.trans J).size;replace T:=Aa T;replace J:=Aa J;clear Y;go_wp2_with fail
 go_loopw [0,19] (fun s0 s19 wr=>∃(i n4 c4:Nat) (A4:Option Addr) (L:List UInt8),s19 = .int .i64 (i:Int)/\s0 = .slice A4 n4 c4/\i<=m/\n4<=100100000/\Hid (L=L2++putFs (fs.take i))/\Hid (Own8 wr w.heap.size A4 n4 c4 L)/\Hid (Ext w4 wr)) (fun _ s19 _=>m - (intOf s19).toNat)
 case atStart=>exact⟨0,L2.length,c2,A2,L2,rfl,rfl,by omega,by omega,Aa (by simp[putFs]),T,Aa (Ext.refl w4)⟩
 case round =>
  obtain⟨i,n4,c4,A4,L,rfl,rfl,hi,k4,hL,d0,Z⟩:=hrel;by_cases him:i<m
  ·obtain⟨f,hf⟩:∃f,fs[i]? = some f:=⟨_,List.getElem?_eq_getElem (by rw[<-hm.out];exact him)⟩
   obtain⟨g,o,rfl,k0,k1⟩:=Bg (((hc.ext G).ext J.out).ext Z.out) hf;have q2:=t0.out f (List.mem_of_getElem? hf);have x2:=Hc hf;obtain⟨nm,tx⟩:=f;unfold strV at k0 k1;simp only at k0 k1 q2 x2;obtain⟨e3,f3⟩:=q2;obtain⟨g2,e0⟩:=Ab wr.heap.size;obtain⟨Wf,j0⟩:=Ab (wr.alloc (.cells #[.string ⟨nm.toArray⟩,.string ⟨tx.toArray⟩] 91));have m1:Ext wr Wf:=by rw[j0];exact(Ext.refl wr).alloc _
   have m2:Row Wf g2 91 #[.string ⟨nm.toArray⟩,.string ⟨tx.toArray⟩]:=by rw[j0,e0];exact Row.new wr _ _
   obtain⟨L5,y0⟩:=Ab (L++txL nm);obtain⟨L6,a1⟩:=Ab (L5++txL tx);have d1:L.length=n4:=d0.out.1.symm;have y3:=Dy (s:=nm) (by omega);have a3:=Dy (s:=tx) (by omega);have h4:L5.length<=100200000:=by rw[y0,List.length_append];omega
   have n0:Hid (L6=L2++putFs (fs.take (i+1))):=Aa (by rw[a1,y0,hL.out,x2];simp);have q4:L6.length<=100100000:=by
    rw[n0.out,List.length_append];have:=l0.out (i+1);omega
   have j1:Ext w Wf:=(G.trans J.out).trans (Z.out.trans m1);have i1:Wf.drew.cell? ⟨g2,0,none⟩=some (.string ⟨nm.toArray⟩)/\Wf.drew.cell? ⟨g2,1,none⟩=some (.string ⟨tx.toArray⟩)/\Ext Wf Wf.drew:=⟨m2.cell 0 rfl,m2.cell 1 rfl,(Ext.refl Wf).drew⟩
   have o0:Buf Wf w.heap.size 5 A4 n4 c4 (L.map B8):=d0.out.2.ext m1;have k2:∀x,(x.cell? ⟨g2,0,none⟩=some (.string ⟨nm.toArray⟩)/\x.cell? ⟨g2,1,none⟩=some (.string ⟨tx.toArray⟩)/\Ext Wf x)->Calls prog 138 #[.slice A4 n4 c4,.string ⟨nm.toArray⟩] x fun e y=>∃A5 c5,e = .returned (.slice A5 L5.length c5)/\Own8 y w.heap.size A5 L5.length c5 L5/\(y.cell? ⟨g2,0,none⟩=some (.string ⟨nm.toArray⟩)/\y.cell? ⟨g2,1,none⟩=some (.string ⟨tx.toArray⟩)/\Ext Wf y):=fun x ⟨h0,h1,Z⟩ =>
    (DR A4 n4 c4 L nm x d1.symm (o0.cells.ext Z) d0.out.nil_ (by omega) (by omega)).mono fun e y hy=>by
     obtain⟨A1,c1,he,H,a⟩:=NewB.own hy (j1.trans Z).size;rw[<-y0]at he H;exact⟨A1,c1,he,H,a.cell h0,a.cell h1,Z.trans a⟩
   have j2:∀x A5 c5,Own8 x w.heap.size A5 L5.length c5 L5->(x.cell? ⟨g2,0,none⟩=some (.string ⟨nm.toArray⟩)/\x.cell? ⟨g2,1,none⟩=some (.string ⟨tx.toArray⟩)/\Ext Wf x)->Calls prog 138 #[.slice A5 L5.length c5,.string ⟨tx.toArray⟩] x fun e y=>∃A6 c6,e = .returned (.slice A6 L6.length c6)/\Own8 y w.heap.size A6 L6.length c6 L6/\(y.cell? ⟨g2,0,none⟩=some (.string ⟨nm.toArray⟩)/\y.cell? ⟨g2,1,none⟩=some (.string ⟨tx.toArray⟩)/\Ext Wf y):=fun x A5 c5 H ⟨h0,h1,Z⟩ =>
    (DR A5 L5.length c5 L5 tx x rfl H.2.cells H.nil_ (by omega) (by omega)).mono fun e y hy=>by
     obtain⟨A2,c2,he,T,a⟩:=NewB.own hy (j1.trans Z).size;rw[<-a1]at he T;exact⟨A2,c2,he,T,a.cell h0,a.cell h1,Z.trans a⟩
   have o3:(0:Int)<=i:=by omega
   have hi1:(i:Int)<m:=by omega
   have f2:=Aa (Z.out.trans m1);replace k2:=Aa k2;replace j2:=Aa j2;replace i1:=Aa i1;replace e0:=Aa e0;replace d1:=Aa d1;replace j0:=Aa j0;clear hf y0 a1 x2 y3 a3 m2 j1 o0;go_wp2_with fail;rw[<-j0.out,<-e0.out];refine wp_region_held_drew (S:=fun x=>x.cell? ⟨g2,0,none⟩=some (.string ⟨nm.toArray⟩)/\x.cell? ⟨g2,1,none⟩=some (.string ⟨tx.toArray⟩)/\Ext Wf x) (by kernel_rfl) i1.out (fun I=>?_);refine wpAnyH_take (i:=0) (v:= .slice A4 n4 c4) rfl (by kernel_rfl) (by kernel_rfl) (by kernel_rfl) (fun _ _ _ h=>h) (Or.inl ⟨by rfl,?_⟩) (by assumption) ?_
   ·intro w' j
    (try dsimp only at j)
    obtain⟨z1,z2,z3⟩:=j;go_simp
    try with_reducible rfl
    all_goals omega
   (try simp only[Act.put,Bv,Bw,By,CN,CO,CP])
   refine wpAnyH_take (i:=1) (v:= .pointer (some ⟨g2,0,none⟩)) rfl (by kernel_rfl) (by kernel_rfl) (by kernel_rfl) (fun _ _ _ h=>h) (Or.inl ⟨by rfl,?_⟩) (by assumption) ?_
   ·intro w' j
    (try dsimp only at j)
    obtain⟨z1,z2,z3⟩:=j;go_simp
    try with_reducible rfl
    all_goals omega
   (try simp only[Act.put,Bv,Bw,By,CN,CO,CP])
   refine wpAnyH_take (i:=2) (v:= .string ⟨nm.toArray⟩) rfl (by kernel_rfl) (by kernel_rfl) (by kernel_rfl) (fun _ _ _ h=>h) (Or.inl ⟨by rfl,?_⟩) (by assumption) ?_
   ·intro w' j
    (try dsimp only at j)
    obtain⟨z1,z2,z3⟩:=j;go_simp
    try with_reducible rfl
    all_goals omega
   (try simp only[Act.put,Bv,Bw,By,CN,CO,CP])
   refine wpAnyH_take (i:=4) (v:= .pointer (some ⟨g2,1,none⟩)) rfl (by kernel_rfl) (by kernel_rfl) (by kernel_rfl) (fun _ _ _ h=>h) (Or.inl ⟨by rfl,?_⟩) (by assumption) ?_
   ·intro w' j
    (try dsimp only at j)
    obtain⟨z1,z2,z3⟩:=j;go_simp
    try with_reducible rfl
    all_goals omega
   (try simp only[Act.put,Bv,Bw,By,CN,CO,CP])
   refine wpAnyH_take (i:=5) (v:= .string ⟨tx.toArray⟩) rfl (by kernel_rfl) (by kernel_rfl) (by kernel_rfl) (fun _ _ _ h=>h) (Or.inl ⟨by rfl,?_⟩) (by assumption) ?_
   ·intro w' j
    (try dsimp only at j)
    obtain⟨z1,z2,z3⟩:=j;go_simp
    try with_reducible rfl
    all_goals omega
   (try simp only[Act.put,Bv,Bw,By,CN,CO,CP])
   refine wpAnyH_ready (rs:= [3]) (by kernel_rfl) (by simp) ?_;refine AllReadyH.cons rfl (fun K hK=>?_) AllReadyH.nil
   (first | go_at_call 138 | (go_simp;go_at_call 138));(refine(k2.out _ ‹_›).mono ?_;rintro en w5 ⟨A5,c5,rfl,h3,q0⟩)
   refine hK.out _ _ ?_ (fun U=>?_)
   ·exact q0
   clear hK K
   (try simp only[Act.put,Bv,Bw,By,CN,CO,CP])
   refine wpAnyH_ready (rs:= [6]) (by kernel_rfl) (by simp) ?_;refine AllReadyH.cons rfl (fun K hK=>?_) AllReadyH.nil
   (first | go_at_call 138 | (go_simp;go_at_call 138));(refine(j2.out _ _ _ h3 q0).mono ?_;rintro en w6 ⟨A6,c6,rfl,o1,Y⟩)
   refine hK.out _ _ ?_ (fun O=>?_)
   ·exact Y
   clear hK K
   (try simp only[Act.put,Bv,Bw,By,CN,CO,CP])
   refine wpAnyH_take (i:=7) (v:= .slice A6 L6.length c6) rfl (by kernel_rfl) (by kernel_rfl) (by kernel_rfl) (fun _ _ _ h=>h) (Or.inl ⟨by rfl,?_⟩) (by assumption) ?_
   ·intro w' j
    (try dsimp only at j)
    obtain⟨z1,z2,z3⟩:=j;go_simp
    try with_reducible rfl
    all_goals omega
   (try simp only[Act.put,Bv,Bw,By,CN,CO,CP])
   refine wpAnyH_done (by kernel_rfl) ?_ _;have t3:=Aa (f2.out.trans Y.2.2);replace o1:=Aa o1;clear I U O q0 Y h3;go_wp2_with fail;go_roundw
   case rel=>exact⟨i+1,L6.length,c6,A6,L6,by go_num,rfl,by omega,by omega,n0,o1,t3⟩
   case measure=>simp[intOf];omega
  ·obtain rfl:i=m:=by omega
   obtain⟨h2,q3⟩:=d0.out;have x1:=Aa ((G.trans J.out).trans Z.out);have m0:NewB w (L2++putFs (fs.take i)) (.returned (.slice A4 n4 c4)) wr:=⟨A4,c4,by rw[<-hL.out,h2],by rw[<-hL.out,<-h2];exact q3,x1.out⟩
   replace m0:=Aa m0;clear q3 h2;go_wp2_with fail;go_ret;exact m0.out
def OwnB (w:World) (base:Nat) (l:List UInt8) (e:Ending) (w':World):Prop:=∃A c,e = .returned (.slice A l.length c)/\Own8 w' base A l.length c l/\Ext w w'
theorem Own8.ext {base:Nat} (h:Own8 w base A n c l) (j:Ext w w1):Own8 w1 base A n c l:=⟨h.1,h.2.ext j⟩
theorem RS (h:z=(q:Int)) (j:q<18446744073709551616):IntKind.u64.wrap z=(q:Int):=by rw[h];exact AH j
theorem AY {α:Type} {l:List α} {x:α} (h:l[i]? = some x):l.drop i=x::l.drop (i+1):=by
 obtain⟨hi,rfl⟩:=List.getElem?_eq_some_iff.1 h;exact List.drop_eq_getElem_cons hi
theorem BW {n lo x:Int} {t:List Int} (h:risB n lo (x::t)=true):lo<x/\x<n/\risB n x t=true:=by
 unfold risB at h;rw[Bool.and_eq_true,Bool.and_eq_true]at h;exact⟨of_decide_eq_true h.1.1,of_decide_eq_true h.1.2,h.2⟩
theorem OJ (base:Nat) (A B:Option Addr) (n c k c2:Nat) (l:List UInt8) (last N:Int) (xs:List Int) (w:World) (hb:Own8 w base A n c l) (G:base<=w.heap.size) (hk:k=xs.length) (hx:Cells w B (xs.map IV))
 (hr:risB N last xs=true) (q0 : -1<=last) (H:last<=1099511627776) (hN:N<=1099511627776) (a1:n+10*k<=1000000000) :
 Calls prog 84 #[.slice A n c,.int .i64 last,.slice B k c2] w fun e w'=>OwnB w base (l++stepsL last xs) e w':=by
 have t0:=Aa (fun A n c x l W h1 h2 h3 h4 h5=>Cm A n c x l W h1 h2 h3 h4 h5);obtain⟨Z,hZ⟩:=Ab (l++stepsL last xs);rw[<-hZ];replace hZ:=Aa hZ;replace hb:=Aa hb;replace hk:=Aa hk;replace hx:=Aa hx;replace hr:=Aa hr
 go_in
 go_wp2_with fail
 go_loopw [0,1,11] (fun s0 s1 s11 wr=>∃(i n1 c1:Nat) (A1:Option Addr) (L:List UInt8) (p:Int),s0 = .slice A1 n1 c1/\s1 = .int .i64 p/\s11 = .int .i64 (i:Int)/\i<=k /\ -1<=p/\p<=1099511627776/\n1<=n+10*i/\Hid (Z=L++stepsL p (xs.drop i))/\Hid (risB N p (xs.drop i)=true)/\Hid (Own8 wr base A1 n1 c1 L)/\Hid (Ext w wr)) (fun _ _ s11 _=>k - (intOf s11).toNat)
 case atStart=>exact⟨0,n,c,A,l,last,rfl,rfl,rfl,by omega,q0,H,by omega,Aa (by rw[hZ.out];rfl),hr,hb,Aa (Ext.refl w)⟩
 case round =>
  obtain⟨i,n1,c1,A1,L,p,rfl,rfl,rfl,hi,f1,i1,d1,j0,o0,j,hE⟩:=hrel;by_cases h:i<k
  ·obtain⟨x,Y⟩:∃x,xs[i]? = some x:=⟨_,List.getElem?_eq_getElem (by rw[<-hk.out];exact h)⟩
   obtain⟨g,o,hA,I⟩:=hx.out.at_ (by rw[List.length_map,<-hk.out];omega);subst hA;have l0:=hE.out.cell (I i (IV x) (by rw[List.getElem?_map,Y];rfl));unfold IV at l0;have h0:=AY Y;have b:=o0.out;have O:=j0.out;rw[h0]at b O;obtain⟨o1,k2,a⟩:=BW b;obtain⟨q,hq⟩:∃q:Nat,(q:Int)=x - p - 1:=⟨(x - p - 1).toNat,by omega⟩
   have q2:=RS (z:=x - p - 1) hq.symm (by omega);have v0:q<18446744073709551616:=by omega
   have e0:Hid (Z=(L++vb q)++stepsL x (xs.drop (i+1))):=Aa (by
    rw[O,List.append_assoc];show _++(vb (x - p - 1).toNat++_)=_;rw[<-hq];rfl)
   have g0:=Ag v0;have i0:=Aa (t0.out A1 n1 c1 q L wr j.out.1 j.out.2.cells (j.out.nil_) (by omega) v0);have U:L.length=n1:=j.out.1.symm;have f0:=Nat.le_trans G hE.out.size;have hlen:(L++vb q).length<=n+10*(i+1):=by rw[List.length_append,U];omega
   replace I:=Aa I;replace Y:=Aa Y;replace h0:=Aa h0;replace U:=Aa U;replace a:=Aa a;clear b O g0;replace hq:=Aa hq;go_wp2_with fail;refine i0.out.mono ?_;rintro e w2 d0;obtain⟨A2,c2,rfl,k0,J⟩:=d0;have m0:Hid (Own8 w2 base A2 (L++vb q).length c2 (L++vb q)):=Aa ⟨rfl,k0.lower f0⟩;obtain⟨n2,p0⟩:=Ab ((L++vb q).length);rw[<-p0]at m0 hlen ⊢;replace p0:=Aa p0;replace J:=Aa (hE.out.trans J);clear k0;go_wp2_with fail;exact⟨⟨i+1,n2,c2,A2,L++vb q,x,rfl,rfl,rfl,by omega,by omega,by omega,by omega,e0,a,m0,J⟩,by simp only[intOf];omega⟩
  ·obtain rfl:i=k:=by omega
   have T:Z=L:=by rw[j0.out,List.drop_eq_nil_of_le (by rw[<-hk.out];exact Nat.le_refl _),stepsL,List.append_nil]
   replace T:=Aa T;go_wp2_with fail;go_ret;have ho:=j.out;have hl:=ho.1;rw[T.out];subst hl;exact⟨A1,c1,rfl,ho,hE.out⟩
end
section
open Go.RowKit
theorem Cells.part (h:Cells w A xs) (Y:∀a,A=some a->a.spot=none) (k m:Nat):Cells w (A.map fun a=>a.add k) ((xs.drop k).take m):=by
 rcases h with h | ⟨g,o,rfl,H⟩
 ·subst h;exact .inl (by simp)
 ·refine .inr ⟨g,o+k,by rw[Option.map_some,Addr.add_lit],fun j v b=>?_⟩;rw[List.getElem?_take]at b;split at b
  ·rw[List.getElem?_drop]at b;have:=H _ v b
   rwa [Nat.add_assoc]
  ·cases b
theorem Chg.others (h:Chg S w w1) (b:∀k,S k->∃t cs,Row w k t cs):KeepsOthers w w1 :=
 ⟨h.size,fun k o hk a=>(h.block k (Array.getElem?_eq_some_iff.1 hk).1 fun hs=>by
  obtain⟨t,cs,j⟩:=b k hs;unfold Row at j;rw[j]at hk;injection hk with hk;subst hk;cases a).trans hk⟩
theorem Bo {α:Type} {f:α->List Value} (h:∀x,(f x).length=k):∀(l:List α) (i:Nat),(l.drop i).flatMap f=(l.flatMap f).drop (i*k)
 | [],i=>by simp
 | x::l,0=>by simp
 | x::l,i+1=>by
  rw[List.drop_succ_cons,List.flatMap_cons,Bo h l i,Nat.succ_mul,Nat.add_comm,<-List.drop_drop,List.drop_left' (h x)]
theorem Bh {α:Type} {f:α->List Value} (h:∀x,(f x).length=k):∀(l:List α) (i:Nat),(l.take i).flatMap f=(l.flatMap f).take (i*k)
 | [],i=>by simp
 | x::l,0=>by simp
 | x::l,i+1=>by
  rw[List.take_succ_cons,List.flatMap_cons,Bh h l i,List.flatMap_cons,Nat.succ_mul,Nat.add_comm,show k+i*k=(f x).length+i*k by rw[h x],List.take_length_add_append]
theorem Nm {b1 b2 k size n c:Nat} (hb:Buf W b1 e A n c xs) (Y:W.ownsRow b2 e2 size v k ys) (j:e2≠e):∀a,A=some a->v.ownBlock≠some a.block:=fun a h=>by
 rcases hb.2.2 with ⟨b,_⟩ | ⟨g,cur,H,_,J,_⟩
 ·rw[b]at h;cases h
 ·rw[H]at h;cases h;exact Am Y J j
theorem BN {base:Nat} {size n c:Nat} (h:w.ownsRow base e size (.slice A n c) n xs):n<=c/\∀a,A=some a->a.spot=none:=by
 rcases h.2 with ⟨b,Y⟩ | ⟨g,cap,cur,b,_,_,j,_⟩
 ·injection b with h1 h2 h3;subst h1 h3;exact⟨by omega,nofun⟩
 ·injection b with h1 h2 h3;subst h1 h3;exact⟨j,fun a H=>by cases H;rfl⟩
def HB (base h1 h2:Nat) (Hd Bd:List UInt8) (W:World):Prop:=∃(A1 A2:Option Addr) (c1 c2:Nat),Row W h1 24 #[.slice A1 Hd.length c1]/\Row W h2 24 #[.slice A2 Bd.length c2]/\Own8 W base A1 Hd.length c1 Hd/\Own8 W base A2 Bd.length c2 Bd/\∀a1 a2,A1=some a1->A2=some a2->a1.block≠a2.block
section
variable {base h1 h2:Nat} {Hd Bd:List UInt8} {W W1:World}
theorem HB.ext (h:HB base h1 h2 Hd Bd W) (j:Ext W W1):HB base h1 h2 Hd Bd W1:=by
 obtain⟨A1,A2,c1,c2,r1,r2,o1,o2,b⟩:=h;exact⟨A1,A2,c1,c2,r1.ext j,r2.ext j,o1.ext j,o2.ext j,b⟩
theorem HB.alike (h:HB base h1 h2 Hd Bd W) (j:Alike B W W1):HB base h1 h2 Hd Bd W1:=by
 obtain⟨A1,A2,c1,c2,r1,r2,o1,o2,b⟩:=h;exact⟨A1,A2,c1,c2,j.row r1,j.row r2,⟨o1.1,j.buf o1.2⟩,⟨o2.1,j.buf o2.2⟩,b⟩
theorem HB.chg (h:HB base h1 h2 Hd Bd W) (b:Chg S W W1) (Y:∀k,S k->∃t cs,Row W k t cs/\t≠24/\t≠5):HB base h1 h2 Hd Bd W1:=by
 obtain⟨A1,A2,c1,c2,r1,r2,o1,o2,H⟩:=h;have hn:∀ {g:Nat} {cs:Array Value},Row W g 24 cs->¬ S g:=fun U hs=>by
  obtain⟨t,cs,j,ht,_⟩:=Y _ hs;exact Row.unlike U j (fun e=>ht e.symm) rfl
 have hb:∀ {A:Option Addr} {n c:Nat} {xs:List Value},Buf W base 5 A n c xs->∀a,A=some a->¬ S a.block:=fun hb a J hs=>by
  obtain⟨t,cs,j,_,ht⟩:=Y _ hs;exact hb.unlike j (fun e=>ht e.symm) a J rfl
 exact⟨A1,A2,c1,c2,b.row r1 (hn r1),b.row r2 (hn r2),⟨o1.1,o1.2.chg b (hb o1.2)⟩,⟨o2.1,o2.2.chg b (hb o2.2)⟩,H⟩
theorem HB.head (h:HB base h1 h2 Hd Bd W) (a:h1≠h2) (b:Ext W W6) (hn:n=Hd'.length) (hb:Buf W6 B1 5 A n c (Hd'.map B8)) (J:W.heap.size<=B1) (j:base<=B1) :
 HB base h1 h2 Hd' Bd (W6.setCell ⟨h1,0,none⟩ (.slice A n c)):=by
 subst hn;obtain⟨A1,A2,c1,c2,r1,r2,o1,o2,hd⟩:=h;have r16:=r1.ext b;refine⟨A,A2,c,c2,r16.put 0 _,(r2.ext b).away (fun e=>a e.symm) _,⟨rfl,(hb.lower j).setCell (hb.unlike r16 (by decide)) _⟩,⟨o2.1,(o2.2.ext b).setCell ((o2.2.ext b).unlike r16 (by decide)) _⟩,fun a1 a2 e1 e2 e=>?_⟩;have H:=hb.base_le a1 e1;have Y:=o2.2.lt a2 e2;omega
theorem HB.rows (h:HB base h1 h2 Hd Bd W) (j:Row W h2 24 #[.slice A2 Bd.length c2]) (Y:W.grownBy W1 (Value.slice A2 Bd.length c2).ownBlock) (b:Row W g t cs) (ht:t≠5):Row W1 g t cs:=by
 obtain⟨A1,A2',c1,c2',r1,r2,o1,o2,hd⟩:=h;have H:A2'=A2/\c2'=c2:=by
  have e:=r2.cell 0 rfl;rw[j.cell 0 rfl]at e;injection e with e;injection e with e1 _ e2;exact⟨e1.symm,e2.symm⟩
 obtain⟨rfl,rfl⟩:=H;refine b.grown Y fun e=>?_;cases A2' with
 | none=>simp[Value.ownBlock]at e
 | some a=>exact o2.2.unlike b (fun e=>ht e.symm) a rfl (by simpa [Value.ownBlock]using e.symm)
theorem HB.body {x:List UInt8} (h:HB base h1 h2 Hd Bd W) (T:h1≠h2) (Z:Row W h2 24 #[.slice A2 Bd.length c2]) (Y:W.grownBy W1 (Value.slice A2 Bd.length c2).ownBlock) (hn:n3=(Bd++x).length) (hb:Buf W1 base 5 A3 n3 c3 ((Bd++x).map B8))
 (G:A3=A2\/A3=some ⟨W.heap.size,0,none⟩) :
 HB base h1 h2 Hd (Bd++x) (W1.setCell ⟨h2,0,none⟩ (.slice A3 n3 c3))/\KeepsOthers W (W1.setCell ⟨h2,0,none⟩ (.slice A3 n3 c3))/\(∀g t cs,Row W g t cs->t≠5->g≠h2->Row (W1.setCell ⟨h2,0,none⟩ (.slice A3 n3 c3)) g t cs) /\
  (∀w0,Ext w0 W->w0.heap.size<=base->w0.heap.size<=h2->Ext w0 (W1.setCell ⟨h2,0,none⟩ (.slice A3 n3 c3))):=by
 subst hn;obtain⟨A1,A2',c1,c2',r1,r2,o1,o2,hd⟩:=h;have he:A2'=A2/\c2'=c2:=by
  have e:=r2.cell 0 rfl;rw[Z.cell 0 rfl]at e;injection e with e;injection e with e1 _ e2;exact⟨e1.symm,e2.symm⟩
 obtain⟨rfl,rfl⟩:=he;have j:∀k,(Value.slice A2' Bd.length c2').ownBlock=some k->∃a,A2'=some a/\a.block=k:=fun k hk=>by
  cases A2' with
  | none=>simp[Value.ownBlock]at hk
  | some a=>exact⟨a,rfl,by simpa [Value.ownBlock]using hk⟩
 have b:∀g t cs,Row W g t cs->t≠5->Row W1 g t cs:=fun g t cs J ht=>J.grown Y fun e=>by
  obtain⟨a,U,hk⟩:=j g e.symm;exact o2.2.unlike J (fun e=>ht e.symm) a U hk
 have r1':=b _ _ _ r1 (by decide);have r2':=b _ _ _ r2 (by decide);have o1':Buf W1 base 5 A1 Hd.length c1 (Hd.map B8):=o1.2.grown Y fun a U e=>by
  obtain⟨a2,H,hk⟩:=j _ e;exact hd a a2 U H hk.symm
 refine⟨⟨A1,A3,c1,c3,r1'.away T _,r2'.put 0 _,⟨rfl,o1'.setCell (o1'.unlike r2' (by decide)) _⟩,⟨rfl,hb.setCell (hb.unlike r2' (by decide)) _⟩,fun a1 a3 e1 e3 e=>?_⟩,(BL o2.2 Y).trans (KeepsOthers.setCell _ _ _),fun g t cs J ht O=>(b g t cs J ht).away O _,fun w0 I h0 hh=>(I.grown Y fun k hk=>?_).setCell hh _⟩
 ·rcases G with rfl | rfl
  ·exact hd a1 a3 e1 e3 e
  ·have:=o1.2.lt a1 e1;injection e3 with e3;subst e3;simp only at e;omega
 ·obtain⟨a2,H,rfl⟩:=j _ hk;have:=o2.2.base_le a2 H;omega
end
end
section
open Go.RowKit
attribute [local go_sem] Oper.semAt_some AP
def KeepB (b1 b2:Nat) (W W':World):Prop:=(∀o,W.heap[b1]? = some o->W'.heap[b1]? = some o)/\∀o,W.heap[b2]? = some o->W'.heap[b2]? = some o
theorem KeepB.trans (b1 b2:Nat) (A B C:World) (h:KeepB b1 b2 A B) (k:KeepB b1 b2 B C):KeepB b1 b2 A C:=⟨fun o j=>k.1 o (h.1 o j),fun o j=>k.2 o (h.2 o j)⟩
theorem KeepB.refl (b1 b2:Nat) (A:World):KeepB b1 b2 A A:=⟨fun _ h=>h,fun _ h=>h⟩
theorem KeepB.of {c1 c2:Array Value} (h1:Row W b1 t1 c1) (h:Row W' b1 t1 c1) (h2:Row W b2 t2 c2) (j:Row W' b2 t2 c2):KeepB b1 b2 W W' :=
 ⟨fun o b=>by unfold Row at h1 h;rw[h] ;rw[h1]at b;exact b,fun o b=>by unfold Row at h2 j;rw[j];rw[h2]at b;exact b⟩
theorem KeepB.alike (h1:b1<B) (h2:b2<B) (A C:World) (h:Alike B A C):KeepB b1 b2 A C :=
 ⟨fun _ j=>(h.block b1 (Array.getElem?_eq_some_iff.1 j).1 (fun hn=>by have:=hn.1;omega)).trans j,fun _ j=>(h.block b2 (Array.getElem?_eq_some_iff.1 j).1 (fun hn=>by have:=hn.1;omega)).trans j⟩
theorem Ln (A:Option Addr) (n c k:Nat) (w:World) (hk:1<=k) (h:k<=1000000) :
 Calls prog 83 #[.slice A n c,.int .i64 (k:Int)] w fun e w'=>∃b1 b2,e = .returned (.func (.func 135) #[] #[.pointer (some ⟨b1,0,none⟩),.pointer (some ⟨b2,0,none⟩)])/\Row w' b1 47 #[.slice A n c]/\Row w' b2 3 #[.int .i64 (k:Int)]/\w.heap.size<=b1/\w.heap.size<=b2/\b1<b2/\Ext w w':=by
 go_in
 go_wp2_with fail;go_ret;have h1:=Row.new w 47 #[.slice A n c];have h2:=Row.new (w.alloc (.cells #[.slice A n c] 47)) 3 #[.int .i64 (k:Int)];rw[World.size_alloc]at h2;exact⟨w.heap.size,w.heap.size+1,rfl,h1.alloc _,h2,Nat.le_refl _,by omega,by omega,((Ext.refl w).alloc _).alloc _⟩
theorem KO (j:z=(i:Int)) (hi:i<=n):∃A' c',∀W:World,(Instr.sliceAt 47 (.slice A n c) (some (.int .i64 z)) none none).run prog W = .ok (.slice A' (n - i) c') W:=by
 subst j;have ht:=underlying47;have h:prog.elem 47=89:=by unfold Program.elem;rw[ht]
 have hs:∀W:World,(sizeOf 89).run prog W = .ok 2 W:=fun W=>by kernel_rfl
 refine⟨if c=i then A else A.map fun a=>a.add (i*2),c - i,fun W=>?_⟩;rw[run_sliceAt_slice W _ _ _ _ _ (by rw[ht,h]),run_slice_l W _ A n c (by rw[ht,h]) .i64 i (by omega) (by omega),h,hs];simp only[Result.andThen_ok,sliced];rfl
theorem KP {n c i j:Nat} (Y:z=(i:Int)) (b:z1=((i+j:Nat):Int)) (H:z2=((i+j:Nat):Int)) (hi:i+j<=c) (J:0<j) (W:World) :
 (Instr.sliceAt 47 (.slice A n c) (some (.int .i64 z)) (some (.int .i64 z1)) (some (.int .i64 z2))).run prog W = .ok (.slice (A.map fun a=>a.add (i*2)) j j) W:=by
 subst Y b H;have ht:=underlying47;have h:prog.elem 47=89:=by unfold Program.elem;rw[ht]
 have hs:(sizeOf 89).run prog W = .ok 2 W:=by kernel_rfl
 rw[run_sliceAt_slice W _ _ _ _ _ (by rw[ht,h]),run_slice_lhm W _ A n c (by rw[ht,h]) .i64 .i64 .i64 i ((i+j:Nat):Int) ((i+j:Nat):Int) (by omega) (by omega) (by omega) (by omega),h,hs];simp only[Result.andThen_ok];congr 1;unfold sliced;rw[if_neg (by omega),show ((i+j:Nat):Int).toNat - (i:Int).toNat=j by omega];rfl
def chunkVA (A:Option Addr) (n k i:Nat):Value:= .slice (A.map fun a=>a.add (i*k*2)) (min k (n - i*k)) (min k (n - i*k))
def ChIterA (A:Option Addr) (n k b1 b2:Nat) (w:World):Prop :=
 Iter prog 135 #[.pointer (some ⟨b1,0,none⟩),.pointer (some ⟨b2,0,none⟩)] (fun i:Nat=>#[chunkVA A n k i]) Ext (fun pre i _=>i=pre.length/\i*k<n) (KeepB b1 b2) (fun xs W W'=>n<=xs.length*k/\xs=List.range xs.length/\(∀i∈xs,i*k<n)/\Ext W W') w
theorem JT (A:Option Addr) (n c k b1 b2:Nat) (w:World) (H:Row w b1 47 #[.slice A n c]) (Y:Row w b2 3 #[.int .i64 (k:Int)]) (hk:1<=k) (n0:k<=1000000) (hn:n<=1000000000) (hc:n<=c):ChIterA A n k b1 b2 w:=by
 intro l J W hE U hY h0;replace H:=H.ext hE;replace Y:=Y.ext hE;clear hE;replace H:=Aa H;replace Y:=Aa Y;replace hY:=Aa hY;replace U:=Aa U;replace h0:=Aa h0;refine(callsIn_wide (n:=0)).1 ?_;refine callsIn_of_wp func135 rfl trivial ?_;simp only[ntmps135,List.size_toArray,List.length_cons,List.length_nil,Nat.reduceAdd,Nat.reduceSub,Array.replicate_succ,Array.replicate_zero,List.push_toArray,List.append_toArray,List.nil_append,List.cons_append];gi_wp2_with fail
 gi_loopw [4] (fun s4 wr=>∃(i q:Nat) (pre:List Nat),s4 = .int .i64 (q:Int)/\Hid (q=i*k)/\q<=n+k/\Hid (pre.length=i)/\Hid (pre=List.range i)/\Hid (∀j∈pre,j*k<n)/\Hid (J pre wr)/\Hid (Row wr b1 47 #[.slice A n c])/\Hid (Row wr b2 3 #[.int .i64 (k:Int)])) (fun s4 _=>n - (intOf s4).toNat)
 case atStart=>exact⟨0,0,[],rfl,Aa (by simp),by omega,Aa rfl,Aa rfl,Aa nofun,h0,H,Y⟩
 case round =>
  obtain⟨i,q,pre,rfl,hq,h1,b,q0,G,hJ,r1,r2⟩:=hrel;have k1:=r1.out.cell 0 rfl;have k2:=r2.out.cell 0 rfl;by_cases Z:q<n
  ·obtain⟨m,hm⟩:∃m:Nat,(m:Int)=min (k:Int) ((n - q:Nat):Int):=⟨min k (n - q),by omega⟩
   have y0:0<m:=by omega
   have o0:m<=k:=by omega
   have r0:m<=n - q:=by omega
   have c0:m=k\/m=n - q:=by omega
   have f0:=fun(W:World)=>AQ (P:=prog) #[3,3] 3 hm W;have j1:=fun(W:World)=>KP (A:=A) (n:=n) (c:=c) (i:=q) (j:=m) (z:=(q:Int)) (z1:=(q:Int)+(m:Int)) (z2:=(q:Int)+(m:Int)) rfl (by omega) (by omega) (by omega) y0 W;obtain⟨A',c',q1⟩:=KO (A:=A) (n:=n) (c:=c) (i:=q) (z:=(q:Int)) rfl (by omega);replace hm:=Aa hm;have j0:=hY.out pre pre.length wr.drew (U.out _ _ _ hJ.out (Ext.refl wr).drew) ⟨rfl,by rw[b.out,<-hq.out];exact Z⟩;have O:chunkVA A n k pre.length = .slice (A.map fun a=>a.add (q*2)) m m:=by
    unfold chunkVA;rw[b.out,<-hq.out,show min k (n - q)=m by omega]
   rw[O]at j0;obtain⟨fn,tmps,assign,body,hy,hR⟩:=j0;have I:Hid (∀j∈pre ++ [pre.length],j*k<n):=Aa fun j hj=>by
    rcases List.mem_append.1 hj with h | h
    ·exact G.out j h
    ·rw[List.mem_singleton.1 h,b.out,<-hq.out];exact Z
   have p0:Hid (pre ++ [pre.length]=List.range (i+1)):=Aa (by rw[List.range_succ,b.out,q0.out]);have d0:Hid (q+k=(i+1)*k):=Aa (by rw[Nat.succ_mul,hq.out]);clear O c0 hY U;gi_wp2_with fail;refine wpIn_wide.2 (AE (fun K hK=>?_));go_wp2_with fail;refine⟨by kernel_rfl,?_⟩;gi_wp2_with fail;refine hR.mono ?_;rintro e W3 ⟨rfl,v0,T⟩;have r13:=Aa (show Row W3 b1 47 #[.slice A n c] from T.1 _ r1.out);have r23:=Aa (show Row W3 b2 3 #[.int .i64 (k:Int)] from T.2 _ r2.out);have k23:=r23.out.cell 0 rfl;gi_wp2_with fail;exact⟨⟨i+1,q+k,pre ++ [pre.length],by congr 1,d0,by omega,Aa (by rw[List.length_append,b.out];rfl),p0,I,Aa v0,r13,r23⟩,by simp only[intOf];omega⟩
  ·gi_wp2_with fail
   go_end0
   exact⟨⟨_,rfl⟩,pre,_,hJ.out,by rw[b.out,<-hq.out];omega,by rw[b.out];exact q0.out,G.out,Ext.refl _⟩
end
section
open Go.RowKit Go.Shelf
attribute [local go_sem] Oper.semAt_some AP Cp
def psP (ps:List PoC):List Po:=ps.map PoC.po
def OkB (w:World) (l:List UInt8) (e:Ending) (w':World):Prop:=∃A c,e = .returned (.tuple #[.slice A l.length c,.int .i64 0])/\Own8 w' w.heap.size A l.length c l/\Ext w w'
theorem E6 {l:List Po} (h:okPs l=true):l.length<=65536:=by
 rw[Ed,Bool.and_eq_true]at h;have:=DU h.1 (by omega);rw[List.length_map]at this;omega
theorem PosOk.part {ps:List PoC} (h:PosOk w A ps) (j:∀a,A=some a->a.spot=none) (i m:Nat):PosOk w (A.map fun a=>a.add (i*2)) ((ps.drop i).take m):=by
 refine⟨?_,fun x b=>h.each x (List.mem_of_mem_drop (List.mem_of_mem_take b))⟩;unfold pcells;rw[Bh (f:=PoC.cells) (k:=2) (fun _=>rfl),Bo (f:=PoC.cells) (k:=2) (fun _=>rfl)];exact h.cells.part j _ _
def PEnc (base h1 h2 h3 b1 b2:Nat) (V:Value) (Hd Bd:List UInt8) (last:Int) (w W:World):Prop :=
 HB base h1 h2 Hd Bd W/\Row W h3 3 #[.int .i64 last]/\Row W b1 47 #[V]/\Row W b2 3 #[.int .i64 32]/\Ext w W
theorem PEnc.alike {base h1 h2 b b1 b2 B:Nat} {Hd Bd:List UInt8} {last:Int} (h:PEnc base h1 h2 b b1 b2 V Hd Bd last w W) (j:Alike B W W1) (a:w.heap.size<=B):PEnc base h1 h2 b b1 b2 V Hd Bd last w W1 :=
 ⟨h.1.alike j,j.row h.2.1,j.row h.2.2.1,j.row h.2.2.2.1,j.ext h.2.2.2.2 a⟩
theorem PEnc.ext {base h1 h2 b b1 b2:Nat} {Hd Bd:List UInt8} {last:Int} (h:PEnc base h1 h2 b b1 b2 V Hd Bd last w W) (j:Ext W W1):PEnc base h1 h2 b b1 b2 V Hd Bd last w W1 :=
 ⟨h.1.ext j,h.2.1.ext j,h.2.2.1.ext j,h.2.2.2.1.ext j,h.2.2.2.2.trans j⟩
theorem E7 (ps:List PoC) (A:Option Addr) (m c:Nat) (w:World) (hm:m=ps.length) (h:PosOk w A ps) (hA:∀a,A=some a->a.spot=none) (g9:m<=c) (c0:okPs (psP ps)=true) (p0:(blockPo (-1) (psP ps)).length<=50000000) :
 Calls prog 44 #[.slice A m c] w fun e w'=>OkB w (encPs (psP ps)) e w':=by
 have ma:m<=65536:=by have:=E6 c0;unfold psP at this;rw[List.length_map]at this;omega
 have m5:=Ku ps A m c w hm h (by omega);rw[show ps.map PoC.po=psP ps from rfl,c0,if_pos rfl]at m5;obtain⟨P,hP⟩:=Ab (psP ps);rw[<-hP]at c0 p0 ⊢;have a2:=Aa (fun A n c x l W h1 h2 h3 h4 h5=>Cm A n c x l W h1 h2 h3 h4 h5);have za:=AH (m:=m) (by omega);replace m5:=Aa m5;replace hm:=Aa hm;replace h:=Aa h;replace hP:=Aa hP;replace c0:=Aa c0;replace p0:=Aa p0;replace hA:=Aa hA;refine(callsIn_wide (n:=0)).1 ?_;refine callsIn_of_wp_marks func44 rfl trivial ?_;simp only[ntmps44,List.size_toArray,List.length_cons,List.length_nil,Nat.reduceAdd,Nat.reduceSub,Array.replicate_succ,Array.replicate_zero,List.push_toArray,List.append_toArray,List.nil_append,List.cons_append];gi_wp2_with fail;refine(callsIn_wide.2 m5.out).mono ?_;rintro e w1 ⟨rfl,q7⟩;gi_wp2_with fail;refine(callsIn_wide.2 (a2.out none 0 0 m [] w1 rfl (.inl rfl) (fun _=>rfl) (by omega) (by omega))).mono ?_;rintro e w2 l0;obtain⟨A2,c2,rfl,k3,d3⟩:=l0;rw[List.nil_append]at k3 ⊢;obtain⟨k2,y3⟩:∃k,k=(vb m).length:=⟨_,rfl⟩
 rw[<-y3]at k3 ⊢;replace k3:=Aa k3;replace y3:=Aa y3;replace d3:=Aa (q7.trans d3);gi_wp2_with fail;obtain⟨W3,g0⟩:=Ab (((w2.alloc (Obj.cells #[Value.slice A2 k2 c2] 24)).alloc (Obj.cells #[Value.slice none 0 0] 24)).alloc (Obj.cells #[Value.int IntKind.i64 (-1)] 3));rw[<-g0];obtain⟨h1,m0⟩:=Ab w2.heap.size;have q1:Row W3 h1 24 #[.slice A2 k2 c2]:=by rw[g0,m0];exact((Row.new w2 _ _).alloc _).alloc _
 have q2:Row W3 (h1+1) 24 #[.slice none 0 0]:=by
  have:=Row.new (w2.alloc (Obj.cells #[Value.slice A2 k2 c2] 24)) 24 #[.slice none 0 0];rw[World.size_alloc,<-m0]at this;rw[g0];exact this.alloc _
 have q3:Row W3 (h1+2) 3 #[.int .i64 (-1)]:=by
  have:=Row.new ((w2.alloc (Obj.cells #[Value.slice A2 k2 c2] 24)).alloc (Obj.cells #[Value.slice none 0 0] 24)) 3 #[.int .i64 (-1)];rw[World.size_alloc,World.size_alloc,<-m0]at this;rw[g0];exact this
 have j0:Ext w2 W3:=by rw[g0];exact(((Ext.refl w2).alloc _).alloc _).alloc _
 have f5:W3.heap.size=h1+3:=by rw[g0,m0];simp
 have o7:w.heap.size<=h1:=by rw[m0];exact d3.out.size
 have o4:HB w.heap.size h1 (h1+1) (vb m) [] W3:=⟨A2,none,c2,0,by rw[<-y3.out];exact q1,q2,⟨rfl,by rw[<-y3.out];exact(k3.out.lower q7.size).ext j0⟩,⟨rfl,Buf.nil _ _ _⟩,fun _ _ _ e=>by cases e⟩
 replace j0:=Aa (d3.out.trans j0);rw[<-m0];refine(callsIn_wide.2 (Ln A m c 32 W3 (by omega) (by omega))).mono ?_;rintro e w4 ⟨b1,b2,rfl,rb1,rb2,f8,i8,v9,n4⟩;have m3:PEnc w.heap.size h1 (h1+1) (h1+2) b1 b2 (.slice A m c) (vb m) [] (-1) w w4:=⟨o4.ext n4,q3.ext n4,rb1,rb2,j0.out.trans n4⟩
 have v5:=JT A m c 32 b1 b2 w4 rb1 rb2 (by omega) (by omega) (by omega) g9;rw[f5]at f8 i8;have e0:=m3.2.2.2.2.size;replace m3:=Aa m3;replace v5:=Aa v5;replace g0:=Aa g0;replace m0:=Aa m0;clear q1 q2 q3 o4 n4 rb1 rb2 k3 j0 d3 y3 f5;gi_wp2_with fail;unfold ChIterA at v5;refine C8 (gf:=135) (lb:=#[.pointer (some ⟨b1,0,none⟩),.pointer (some ⟨b2,0,none⟩)]) rfl (enters_of func135 (by kernel_rfl) rfl) v5.out (fun _=>rfl) (fun _ _ h=>h.others) (fun _ _ _ h=>h.2.2.2.others) (KeepB.trans b1 b2) ?kb
  (fun pre W=>PEnc w.heap.size h1 (h1+1) (h1+2) b1 b2 (.slice A m c) (vb m++headPo (-1) ((chunkL 32 P).take pre.length)) (blockPo (-1) (P.take (pre.length*32))) (lastPo (-1) (P.take (pre.length*32))) w W) (fun pre A B h ha=>h.alike ha e0) (fun pre A B h hE=>h.ext hE) ?h0 ?hround ?hdone
 case kb =>
  have d7:=(m3.out.2.2.1).lt;have e7:=(m3.out.2.2.2.1).lt;exact KeepB.alike d7 e7
 case h0 =>
  intro W ha;have:=m3.out.alike ha e0;simpa [headPo,blockPo,lastPo]using this
 case hround =>
  rintro l pre i W hI ⟨hi,j9⟩;subst hi;have t3:P.length=m:=by rw[hP.out,hm.out];exact List.length_map ..
  have hR:=Hb c0.out p0.out (r:=pre.length) (by rw[t3];exact j9);obtain⟨j,hj⟩:=Ab (min 32 (m - pre.length*32));obtain⟨cb,m4⟩:=Ab ((ps.drop (pre.length*32)).take 32);have j2:cb.length=j:=by rw[m4,hj,List.length_take,List.length_drop,hm.out]
  obtain⟨A',l4⟩:=Ab (A.map fun a=>a.add (pre.length*32*2):Option Addr);have y2:PosOk w A' cb:=by rw[l4,m4];exact h.out.part hA.out _ _
  have i5:chunkVA A m 32 pre.length = .slice A' j j:=by unfold chunkVA;rw[l4,hj]
  obtain⟨bP,k5⟩:=Ab ((P.drop (pre.length*32)).take 32);have i1:bP=cb.map PoC.po:=by rw[k5,m4,hP.out,psP,<-List.map_drop,<-List.map_take]
  obtain⟨lst,x4⟩:=Ab (lastPo (-1) (P.take (pre.length*32)));rw[<-k5,<-x4]at hR;rw[hR.last]at hI;obtain⟨Hd,G⟩:=Ab (vb m++headPo (-1) ((chunkL 32 P).take pre.length));obtain⟨Bd,T⟩:=Ab (blockPo (-1) (P.take (pre.length*32)));rw[<-G,<-T]at hI;have x9:j<=32:=by omega
  replace hI:=Aa hI;replace hR:=Aa hR;rw[i5];clear i5;replace y2:=Aa y2;replace l4:=Aa l4;replace m4:=Aa m4;replace hj:=Aa hj;replace k5:=Aa k5;replace x4:=Aa x4;replace G:=Aa G;replace T:=Aa T;replace j2:=Aa j2;replace i1:=Aa i1;replace t3:=Aa t3;gi_wp2_with fail;refine⟨KeepsOthers.refl _,KeepB.refl _ _ _,fun W2 o6=>?_⟩;have v7:=Aa (hI.out.alike o6 e0);clear o6 hI;obtain⟨r3,c4,d2,i2,e3⟩:=v7.out;obtain⟨Y,hY⟩:=Ab (blockPo lst bP);obtain⟨lz,z3⟩:=Ab (lastPo lst bP);have k9:=hR.out.lo;have l8:=hR.out.hi;have e8:Y.length<=50000000:=by have:=hR.out.len;have:=p0.out;rw[hY];omega
  have k8:=Aa (fun base A B n c k c2 l last N xs W h1 h2 h3 h4 h5 h6 h7 h8 h9=>OJ base A B n c k c2 l last N xs W h1 h2 h3 h4 h5 h6 h7 h8 h9);replace r3:=Aa r3;replace c4:=Aa c4;replace d2:=Aa d2;replace i2:=Aa i2;replace e3:=Aa e3;replace hY:=Aa hY;replace z3:=Aa z3;clear v7;gi_wp2_with fail
  gi_loopw [9,26] (fun s9 s26 wr=>∃(i n9 c9:Nat) (A9:Option Addr) (X:List UInt8) (la:Int),s9 = .slice A9 n9 c9/\s26 = .int .i64 (i:Int)/\i<=j/\n9<=50000000 /\ -1<=la/\la<65536/\Hid (Y=X++blockPo la (bP.drop i))/\Hid (risB 65536 la ((bP.drop i).map (·.1))=true)/\Hid (lastPo la (bP.drop i)=lz)/\Hid (Own8 wr w.heap.size A9 n9 c9 X)/\Hid (Row wr (h1+2) 3 #[.int .i64 la])/\Hid (Chg (fun k=>k=h1+2) W2 wr)) (fun _ s26 _=>j - (intOf s26).toNat)
  case atStart=>exact⟨0,0,0,none,[],lst,rfl,rfl,by omega,by omega,k9,l8,Aa (by rw[hY.out];rfl),Aa hR.out.ris,Aa (by rw[z3.out];rfl),Aa ⟨rfl,Buf.nil _ _ _⟩,c4,Aa (Chg.refl _ _)⟩
  case round =>
   obtain⟨i,n9,c9,A9,X,la,rfl,rfl,ga,ta,z9,a9,b7,m9,q8,I,d0,o0⟩:=hrel;have H:Hid (Ext w wr):=Aa (e3.out.chg o0.out fun k hk e=>by omega);by_cases o8:i<j
   ·obtain⟨x,i4⟩:∃x,cb[i]? = some x:=⟨_,List.getElem?_eq_getElem (by rw[j2.out];exact o8)⟩
    obtain⟨g,o,a8,x0,x1⟩:=Bc (y2.out.cells.ext H.out) i4;subst a8;have d6:=y2.out.each x (List.mem_of_getElem? i4);have j5:bP[i]? = some x.po:=by rw[i1.out,List.getElem?_map,i4];rfl
    have y6:=hR.out.pos x.po (List.mem_of_getElem? j5);have k1:=b7.out;have p3:=m9.out;have x2:=q8.out;rw[AY j5]at k1 p3 x2;rw[List.map_cons]at p3;obtain⟨k6,j6,e4⟩:=BW p3;have p7:=fun o=>H.out.alloc o;have l7:=fun o=>o0.out.trans (Chg.of_ext ((Ext.refl wr).alloc o) _) fun _ _ h=>h;have n6:=fun o=>d0.out.alloc o;have f9:=fun o=>(d0.out.alloc o).cell 0 rfl;replace i4:=Aa i4;replace j5:=Aa j5;replace y6:=Aa y6;replace k1:=Aa k1;replace x2:=Aa x2;replace e4:=Aa e4;replace d6:=Aa d6;clear p3;obtain⟨d,pos,B,cB⟩:=x;have k6:la<d:=k6;have j6:d<65536:=j6;simp only at x0 x1;obtain⟨pl,b3⟩:=Ab pos.length;rw[<-b3]at x1;replace b3:=Aa b3;replace p7:=Aa p7;replace l7:=Aa l7;replace n6:=Aa n6;obtain⟨b9,b4⟩:0<pos.length/\risB 1048576 (-1) pos=true:=by
     have:=y6.out;unfold okPo at this;rw[Bool.and_eq_true]at this;exact⟨of_decide_eq_true this.1,this.2⟩
    obtain⟨q,hq⟩:∃q:Nat,(q:Int)=d - la - 1:=⟨(d - la - 1).toNat,by omega⟩
    obtain⟨X1,q5⟩:=Ab (X++stepsL la [d]);obtain⟨X2,p4⟩:=Ab (X1++vb pl);obtain⟨X3,x3⟩:=Ab (X2++stepsL (-1) pos);have j1:Y=X3++blockPo d (bP.drop (i+1)):=by
     rw[k1.out,x3,p4,q5,b3.out];show X++((vb (d - la - 1).toNat++vb pos.length++stepsL (-1) pos)++_)=_;simp[stepsL,PoC.po]
    have z7:X3.length<=50000000:=by rw[j1,List.length_append]at e8;omega
    have y7:X2.length<=X3.length:=by rw[x3,List.length_append];omega
    have x7:X1.length<=X2.length:=by rw[p4,List.length_append];omega
    have d9:pl<=50000000:=by
     have:=FR pos (-1);rw[x3,List.length_append,<-b3.out]at *;omega
    have aa:=AH (m:=pl) (by omega);replace q5:=Aa q5;replace p4:=Aa p4;replace x3:=Aa x3;replace j1:=Aa j1;replace hq:=Aa hq;replace b4:=Aa b4;gi_wp2_with fail;obtain⟨W5,q4⟩:=Ab ((wr.alloc (Obj.cells #[Value.int IntKind.i64 d,Value.slice B pl cB] 89)).alloc (Obj.cells #[Value.int IntKind.i64 d] 3));have Z:Ext wr W5:=by rw[q4];exact((Ext.refl wr).alloc _).alloc _
    have rp:Row W5 wr.heap.size 89 #[Value.int IntKind.i64 d,Value.slice B pl cB]:=by rw[q4];exact(Row.new wr _ _).alloc _
    have f7:Cells W5 (some ⟨wr.heap.size+1,0,none⟩) ([d].map IV):=by
     rw[q4];refine .inr ⟨_,0,rfl,fun u v hv=>?_⟩;have:=heap_alloc_new (wr.alloc (Obj.cells #[Value.int IntKind.i64 d,Value.slice B pl cB] 89)) (Obj.cells #[Value.int IntKind.i64 d] 3);rw[World.size_alloc]at this;rw[Nat.zero_add,cell_of_row _ _ _ _ _ _ this];simpa [IV]using hv
    rw[<-q4];have O:=I.out.1;refine(Bb (k8.out w.heap.size A9 _ n9 c9 1 1 X la 65536 [d] W5 (I.out.ext Z) (by have:=(H.out.trans Z).size;omega) rfl f7 (by simp[risB,k6,j6]) (by omega) (by omega) (by omega) (by omega))).mono ?_;rintro e w6 r5;obtain⟨A6,c6,rfl,f0,n5⟩:=r5;rw[<-q5.out]at f0 ⊢;obtain⟨gp,m6⟩:=Ab wr.heap.size;rw[<-m6]at rp ⊢;have rp6:=rp.ext n5;have y1:=rp6.cell 1 rfl;have f4:w.heap.size<=W5.heap.size:=(H.out.trans Z).size;have b5:Hid (Ext wr w6):=Aa (Z.trans n5);have j8:w.heap.size<=w6.heap.size:=(H.out.trans b5.out).size;obtain⟨n10,y4⟩:=Ab X1.length;rw[<-y4]at f0 x7 ⊢;replace y4:=Aa y4;replace rp6:=Aa rp6;replace f0:=Aa f0;replace m6:=Aa m6;clear q4 Z rp f7 O n5 f4;gi_wp2_with fail;refine(Bb (a2.out A6 n10 c6 pl X1 w6 f0.out.1 f0.out.2.cells f0.out.nil_ (by omega) (by omega))).mono ?_;rintro e w7 l0;obtain⟨A7,c7,rfl,k0,q0⟩:=l0;rw[<-p4.out]at k0 ⊢;have rp7:=rp6.out.ext q0;have z1:=rp7.cell 1 rfl;have z0:=rp7.cell 0 rfl;have a3:Hid (Own8 w7 w.heap.size A7 X2.length c7 X2):=Aa ⟨rfl,k0.lower j8⟩;have i3:Hid (Ext wr w7):=Aa (b5.out.trans q0);have g8:w.heap.size<=w7.heap.size:=(H.out.trans i3.out).size;obtain⟨n11,z4⟩:=Ab X2.length;rw[<-z4]at a3 y7 ⊢;replace z4:=Aa z4;replace rp7:=Aa rp7;clear k0 q0 y1;gi_wp2_with fail;refine(Bb (k8.out w.heap.size A7 B n11 c7 pl cB X2 (-1) 1048576 pos w7 a3.out g8 b3.out ((d6.out.1.ext H.out).ext i3.out) b4.out (by omega) (by omega) (by omega) (by omega))).mono ?_;rintro e w8 r5;obtain⟨A8,c8,rfl,J,j3⟩:=r5;rw[<-x3.out]at J ⊢;have rp8:=rp7.out.ext j3;have v0:=rp8.cell 0 rfl;have c5:Hid (Ext wr w8):=Aa (i3.out.trans j3);have r38:=d0.out.ext c5.out;have t0:=r38.cell 0 rfl;have t1:=r38.free 0;obtain⟨n12,a4⟩:=Ab X3.length;rw[<-a4]at J z7 ⊢;replace a4:=Aa a4;replace J:=Aa J;replace r38:=Aa r38;clear z0 z1 j3 rp8;gi_wp2_with fail;have p8:=r38.out.put 0 (.int .i64 d);have v6:Own8 (w8.setCell ⟨h1+2,0,none⟩ (.int .i64 d)) w.heap.size A8 n12 c8 X3:=⟨J.out.1,J.out.2.setCell (J.out.2.unlike r38.out (by decide)) _⟩
    have i7:Chg (fun k=>k=h1+2) W2 (w8.setCell ⟨h1+2,0,none⟩ (.int .i64 d)):=(o0.out.trans (Chg.of_ext c5.out _) fun _ _ h=>h).trans (Chg.of_set (S:=fun k=>k=h1+2) w8 _ rfl) fun _ _ h=>h;exact⟨⟨i+1,n12,c8,A8,X3,d,rfl,by congr 1,by omega,by omega,by omega,by omega,j1,e4,x2,Aa v6,Aa p8,Aa i7⟩,by simp only[intOf];omega⟩
   ·have g5:bP.length=j:=by rw[i1.out,List.length_map];exact j2.out
    have w5:Y=X:=by rw[b7.out,List.drop_eq_nil_of_le (by rw[g5];omega),blockPo,List.append_nil]
    have y0:la=lz:=by rw[<-q8.out,List.drop_eq_nil_of_le (by rw[g5];omega),lastPo]
    have e5:HB w.heap.size h1 (h1+1) Hd Bd wr:=r3.out.chg o0.out fun k hk=>⟨3,#[.int .i64 lst],by rw[hk];exact c4.out,by decide,by decide⟩
    have i0:=e5;obtain⟨A1,B1,c1,d1,r1,r2,o1,o2,t5⟩:=e5;have f1:=r1.cell 0 rfl;have f3:=d0.out.cell 0 rfl;obtain⟨lN,x5⟩:∃lN:Nat,la=(lN:Int):=⟨la.toNat,by have:=hR.out.ne;rw[y0,z3.out];omega⟩
    have y9:lN<65536:=by omega
    have ya:=AH (m:=lN) (by omega);have xa:=AH (m:=n9) (by omega);rw[x5]at f3;have t7:Hd.length<=100000:=by
     have h1:=hR.out.hlen;have h2:=Ag (n:=m) (by omega);rw[G.out,List.length_append];omega
    obtain⟨nh,a5⟩:=Ab Hd.length;rw[<-a5]at f1 t7 o1;obtain⟨H1,l3⟩:=Ab (Hd++vb lN);obtain⟨H2,o3⟩:=Ab (H1++vb n9);have q9:=Ag (n:=lN) (by omega);have p9:=Ag (n:=n9) (by omega);have g7:H1.length<=100010:=by rw[l3,List.length_append,<-a5];omega
    have m7:H2.length<=100020:=by rw[o3,List.length_append];omega
    have O:=I.out.1;have t8:=H.out.size;replace a5:=Aa a5;replace l3:=Aa l3;replace o3:=Aa o3;replace x5:=Aa x5;replace w5:=Aa w5;replace y0:=Aa y0;replace i0:=Aa i0;replace r1:=Aa r1;replace r2:=Aa r2;replace o1:=Aa o1;replace o2:=Aa o2;replace t5:=Aa t5;replace O:=Aa O;replace g5:=Aa g5;clear q9 p9;gi_wp2_with fail;refine(Bb (a2.out A1 nh c1 lN Hd wr o1.out.1 o1.out.2.cells o1.out.nil_ (by omega) (by omega))).mono ?_;rintro e w7 l0;obtain⟨A7,c7,rfl,k0,q0⟩:=l0;rw[<-l3.out]at k0 ⊢;obtain⟨n7,y5⟩:=Ab H1.length;rw[<-y5]at k0 g7 ⊢;have a3:Hid (Own8 w7 w.heap.size A7 n7 c7 H1):=Aa ⟨y5,k0.lower t8⟩;replace y5:=Aa y5;replace q0:=Aa q0;clear k0;gi_wp2_with fail;refine(Bb (a2.out A7 n7 c7 n9 H1 w7 a3.out.1 a3.out.2.cells a3.out.nil_ (by omega) (by omega))).mono ?_;rintro e w8 l0;obtain⟨A8,c8,rfl,J,j3⟩:=l0;rw[<-o3.out]at J ⊢;obtain⟨n8,z5⟩:=Ab H2.length;rw[<-z5]at J m7 ⊢;have b:Hid (Ext wr w8):=Aa (q0.out.trans j3);have r18:=r1.out.ext b.out;have s0:=r18.cell 0 rfl;have s1:=r18.free 0;have d5:=Aa (i0.out.head (W6:=w8) (B1:=w7.heap.size) (by omega) b.out z5 J q0.out.size (by have:=q0.out.size;omega));replace r18:=Aa r18;replace z5:=Aa z5;clear J j3;have x6:Hid (Own8 (w8.setCell ⟨h1,0,none⟩ (.slice A8 n8 c8)) w.heap.size A9 n9 c9 X):=Aa ⟨I.out.1,((I.out.2.ext b.out)).setCell ((I.out.2.ext b.out).unlike r18.out (by decide)) _⟩;have t4:KeepsOthers W2 (w8.setCell ⟨h1,0,none⟩ (.slice A8 n8 c8)):=((o0.out.others fun k hk=>⟨3,#[.int .i64 lst],by rw[hk];exact c4.out⟩).trans b.out.others).trans (KeepsOthers.setCell _ _ _);have m1:Row (w8.setCell ⟨h1,0,none⟩ (.slice A8 n8 c8)) b1 47 #[.slice A m c]:=(((o0.out.row d2.out (by omega)).ext b.out)).away (by simp;omega) _;have a1:Row (w8.setCell ⟨h1,0,none⟩ (.slice A8 n8 c8)) b2 3 #[.int .i64 32]:=(((o0.out.row i2.out (by omega)).ext b.out)).away (by simp;omega) _;have d4:Row (w8.setCell ⟨h1,0,none⟩ (.slice A8 n8 c8)) (h1+2) 3 #[.int .i64 la]:=(d0.out.ext b.out).away (by simp) _;have r0:Ext w (w8.setCell ⟨h1,0,none⟩ (.slice A8 n8 c8)):=(H.out.trans b.out).setCell (by simpa using o7) _;replace t4:=Aa t4;replace m1:=Aa m1;replace a1:=Aa a1;replace d4:=Aa d4;replace r0:=Aa r0;have t9:Bd.length<=50000000:=by have:=hR.out.len;have:=p0.out;rw[T.out];omega
    have r28:Row (w8.setCell ⟨h1,0,none⟩ (.slice A8 n8 c8)) (h1+1) 24 #[.slice B1 Bd.length d1]:=(r2.out.ext b.out).away (by simp) _;have s2:=(r2.out.ext b.out).cell 0 rfl;have p6:Buf (w8.setCell ⟨h1,0,none⟩ (.slice A8 n8 c8)) w.heap.size 5 B1 Bd.length d1 (Bd.map B8):=(o2.out.2.ext b.out).setCell ((o2.out.2.ext b.out).unlike r18.out (by decide)) _;have b6:Cells (w8.setCell ⟨h1,0,none⟩ (.slice A8 n8 c8)) A9 (X.map B8):=x6.out.2.cells;have k4:(X.map B8).length=n9:=by rw[List.length_map];exact O.out.symm
    have m8:=r0.out.size;replace r28:=Aa r28;replace p6:=Aa p6;replace b6:=Aa b6;replace k4:=Aa k4;gi_wp2_with (gi_at_builtin;refine Bu Aw p6.out b6.out (.tmp 57) (.tmp 58) rfl rfl rfl rfl rfl k4.out (Ai _) (by omega) m8 (fun A10 c10 w10 j4 m2 l5 v4=>?_);have r210:=HB.rows d5.out r28.out m2 r28.out (by decide);have u0:=r210.cell 0 rfl;have u1:=r210.free 0;replace r210:=Aa r210;replace j4:=Aa j4;replace m2:=Aa m2;replace l5:=Aa l5;replace v4:=Aa v4);obtain⟨g1,g2,g3,g4⟩:=HB.body (x:=X) d5.out (by omega) r28.out m2.out (by rw[List.length_append,<-O.out]) (by rw[List.map_append];exact j4.out) v4.out;refine⟨t4.out.trans g2,KeepB.of d2.out (g3 _ _ _ m1.out (by decide) (by omega)) i2.out (g3 _ _ _ a1.out (by decide) (by omega)),?_,g3 _ _ _ ?_ (by decide) (by omega),g3 _ _ _ m1.out (by decide) (by omega),g3 _ _ _ a1.out (by decide) (by omega),g4 _ r0.out (Nat.le_refl _) (by omega)⟩
    ·rw[List.length_append,List.length_singleton,hR.out.head,hR.out.body,<-T.out,<-List.append_assoc,<-List.append_assoc,<-G.out,<-hY.out,w5.out,<-z3.out,<-y0.out,<-O.out,x5.out,Int.toNat_natCast,<-l3.out,<-o3.out];exact g1
    ·rw[List.length_append,List.length_singleton,hR.out.last2,<-z3.out,<-y0.out];exact d4.out
 case hdone =>
  rintro D xs W2 W3 W5 hD hI ⟨k7,b8,d8,j7⟩ r6 hk;have t3:P.length=m:=by rw[hP.out,hm.out];exact List.length_map ..
  have U:=Iu P xs.length (by rw[t3];exact k7);rw[t3]at U;have o5:=(hI.ext j7).alike r6 e0;have o4:=o5.1;have Z:=o5.2.2.2.2;obtain⟨A1,B1,c1,d1,r1,r2,o1,o2,t5⟩:=o4;obtain⟨Hd,G⟩:=Ab (vb m++headPo (-1) ((chunkL 32 P).take xs.length));obtain⟨Bd,T⟩:=Ab (blockPo (-1) (P.take (xs.length*32)));rw[<-G]at r1 o1 U;rw[<-T]at r2 o2 U;have f1:=r1.cell 0 rfl;have f2:=r2.cell 0 rfl;have ja:Hd.length<=50000000:=by
   have h1:=E8 c0.out p0.out xs.length;have h2:=Ag (n:=m) (by omega);have h3:(headPo (-1) ((chunkL 32 P).take xs.length)).length<=20*(chunkL 32 P).length:=by
    have:=E8 c0.out p0.out (chunkL 32 P).length;rw[List.take_length]at this;refine Nat.le_trans ?_ this;have h4:=Ew ((chunkL 32 P).take xs.length) ((chunkL 32 P).drop xs.length) (-1);rw[List.take_append_drop]at h4;rw[h4,List.length_append];omega
   have h5:=AO (k:=32) (by omega) P;rw[G,List.length_append];omega
  have qa:Bd.length<=50000000:=by have:=DO P (xs.length*32);have:=p0.out;rw[T];omega
  have f4:=Z.size;have z6:=o2.2.cells;have p5:=o1.2;have t6:(Bd.map B8).length=Bd.length:=List.length_map ..;replace U:=Aa U;replace G:=Aa G;replace T:=Aa T;replace r1:=Aa r1;replace r2:=Aa r2;replace z6:=Aa z6;replace p5:=Aa p5;replace t6:=Aa t6;replace Z:=Aa Z;replace hk:=Aa hk;clear hI o5 k7 b8 d8 j7 r6 o1 o2 t5;gi_wp2_with (gi_at_builtin;refine Bu Aw p5.out z6.out (.tmp 60) (.tmp 61) rfl rfl rfl rfl rfl t6.out (Ai _) (by omega) f4 (fun A6 c6 w6 q6 g6 a6 r7=>?_);replace q6:=Aa q6;replace g6:=Aa g6;replace a6:=Aa a6;replace r7:=Aa r7);have r8:w6.heap[D]? = some (.deferred (some [])):=(BL p5.out g6.out).same _ _ hk.out rfl;refine BR (B:=w4.heap.size) rfl r8 hD fun W ha=>⟨_,results_tmp2 rfl _ _ _,?_⟩
  refine⟨A6,c6,?_,⟨rfl,?_⟩,ha.ext (a6.out w Z.out (Nat.le_refl _)) e0⟩
  ·rw[U.out,List.length_append];rfl
  ·rw[U.out,List.length_append,List.map_append];exact ha.buf q6.out
end
section
open Go.RowKit
def RdSt (w0:World) (p1 p2:Nat) (r:List UInt8) (W:World):Prop:=∃A c,Row W p1 24 #[.slice A r.length c]/\Row W p2 4 #[.bool false]/\In8 w0 A r.length c r/\Ext w0 W
theorem RdSt.chg (h:RdSt w0 p1 p2 r W) (j:Chg S W W1) (h1:¬ S p1) (h2:¬ S p2) (b:∀k,S k->w0.heap.size<=k):RdSt w0 p1 p2 r W1:=by
 obtain⟨A,c,r1,r2,hi,a⟩:=h;exact⟨A,c,j.row r1 h1,j.row r2 h2,hi,a.chg j fun i hi hs=>by have:=b i hs;omega⟩
theorem RdSt.ext (h:RdSt w0 p1 p2 r W) (j:Ext W W1):RdSt w0 p1 p2 r W1:=by
 obtain⟨A,c,r1,r2,hi,b⟩:=h;exact⟨A,c,r1.ext j,r2.ext j,hi,b.trans j⟩
def NumR (w0:World) (p1 p2 q:Nat) (r:List UInt8) (W:World) (e:Ending) (W':World):Prop:=e = .returned (.int .i64 (q:Int))/\RdSt w0 p1 p2 r W'/\Chg (fun k=>k=p1) W W'
theorem wrap_i64 (h:q<9223372036854775808):IntKind.i64.wrap (q:Int)=(q:Int):=by
 simp[IntKind.wrap,IntKind.bits,IntKind.signed];omega
theorem LZ (w0 W:World) (p1 p2 q:Nat) (r:List UInt8) (z:Int) (h:RdSt w0 p1 p2 (vb q++r) W) (J:w0.heap.size<=p1) (U:p1≠p2) (I:(q:Int)<=z) (G:z<=1099511627776) (H:(vb q++r).length<=1000000000) :
 Calls prog 101 #[.int .i64 z,.pointer (some ⟨p1,0,none⟩),.pointer (some ⟨p2,0,none⟩)] W fun e W'=>NumR w0 p1 p2 q r W e W':=by
 obtain⟨A,c,r1,r2,hi,Y⟩:=h;have a:=Cl A (vb q++r).length c (vb q++r) w0 W hi Y H;rw[BD (by omega)]at a;obtain⟨n,hn⟩:=Ab ((vb q++r).length);rw[<-hn]at a r1 H;obtain⟨b,hb⟩:∃b:Nat,z=(b:Int):=⟨z.toNat,by omega⟩
 subst hb;have k1:=r1.cell 0 rfl;have T:=AH (m:=b) (by omega);have Z:=wrap_i64 (q:=q) (by omega);have O:¬ (b:Int)<(q:Int):=by omega
 replace a:=Aa a;replace r1:=Aa r1;replace r2:=Aa r2;replace hi:=Aa hi;replace Y:=Aa Y;replace hn:=Aa hn
 go_in
 go_wp2_with fail;refine a.out.mono ?_;rintro e w1 ⟨j,A1,c1,rfl,hi1⟩;have r11:=r1.out.ext j;have r21:=r2.out.ext j;have k2:=r21.cell 0 rfl;have k3:=r11.cell 0 rfl;have k4:=r11.free 0;have k5:=r21.free 0;replace r11:=Aa r11;replace r21:=Aa r21;replace j:=Aa j;replace hi1:=Aa hi1;go_wp2_with fail;go_ret;refine⟨rfl,⟨A1,c1,r11.out.put 0 _,r21.out.away (by simpa using fun e=>U e.symm) _,hi1.out,(Y.out.trans j.out).setCell J _⟩,(Chg.of_ext j.out _).trans (Chg.of_set (S:=fun k=>k=p1) w1 _ rfl) fun _ _ h=>h⟩
theorem GJ (A B:Option Addr) (n m c c2:Nat) (a b:List UInt8) (w:World) (ha:In8 w A n c a) (hb:In8 w B m c2 b) (hn:n<=1000000000) (hm:m<=1000000000) :
 Calls prog 96 #[.slice A n c,.slice B m c2] w fun e w'=>e = .returned (.bool (decide (a=b)))/\Ext w w':=by
 have j:=ha.len;have H:=hb.len;have Y:((n:Int) != (m:Int))=true->decide (a=b)=false:=fun h=>decide_eq_false fun e=>by rw[e]at j;simp at h;omega
 replace Y:=Aa Y;by_cases p0:n=m
 ·subst p0;replace j:=Aa j;replace H:=Aa H;clear Y
  go_in
  go_wp2_with fail
  go_loopw [13] (fun s13 wr=>∃i:Nat,s13 = .int .i64 i/\i<=n/\Hid (a.take i=b.take i)/\Hid (Ext w wr)) (fun s13 _=>n - (intOf s13).toNat)
  case atStart=>exact⟨0,rfl,by omega,rfl,Aa (Ext.refl w)⟩
  case round =>
   obtain⟨i,rfl,hi,hab,J⟩:=hrel;by_cases h0:i<n
   ·have G:i<a.length:=by rw[<-j.out];exact h0
    have I:i<b.length:=by rw[<-H.out];exact h0
    obtain⟨g,o,rfl,hc⟩:=ha.bytes.at_ (by omega);obtain⟨g2,o2,rfl,Z⟩:=hb.bytes.at_ (by omega);have k0:=J.out.cell (hc i G);have k1:=J.out.cell (Z i I);have O:a[i]=b[i]->a.take (i+1)=b.take (i+1):=fun h=>by rw[List.take_succ_eq_append_getElem G,List.take_succ_eq_append_getElem I,hab.out,h]
    have T:a[i]≠b[i]->decide (a=b)=false:=fun h=>decide_eq_false fun e=>h (by subst e;rfl);obtain⟨p,hp⟩:=Ab (a[i]);obtain⟨q,hq⟩:=Ab (b[i]);rw[<-hp,<-hq]at O T;rw[<-hp]at k0;rw[<-hq]at k1;have x0:(0:Int)<=i:=by omega
    have hi1:(i:Int)<n:=by omega
    replace O:=Aa O;replace T:=Aa T;clear hp hq hc Z;by_cases U:p=q
    ·subst U;have m0:=Aa (O.out rfl);clear O T;go_wp2_with fail;go_quiet (fail);go_wp2_with fail;go_roundw
     case rel=>exact⟨i+1,by go_num,by omega,m0,by first | exact Aa J.out.drew | exact Aa (J.out.drewN _)⟩
     case measure=>simp[intOf];omega
    ·have t0:=Aa (T.out U);have y0:(((p.toNat:Int)) != (q.toNat:Int))=true:=by simp;exact fun h=>U (UInt8.toNat_inj.1 (by omega))
     clear O T;go_wp2_with fail;go_quiet (fail);go_wp2_with fail;go_ret;exact⟨Bf t0.out.symm,by first | exact J.out.drew | exact J.out.drewN _⟩
   ·obtain rfl:i=n:=by omega
    have hd:decide (a=b)=true:=decide_eq_true (by
     have h:=hab.out;rw[List.take_of_length_le (by rw[<-j.out];exact Nat.le_refl _),List.take_of_length_le (by rw[<-H.out];exact Nat.le_refl _)]at h;exact h)
    replace hd:=Aa hd;go_wp2_with fail;go_ret;exact⟨Bf hd.out.symm,J.out⟩
 ·have hd:=Aa (Y.out (by simp;omega));clear Y j H ha hb
  go_in
  go_wp2_with fail;go_ret;exact⟨Bf hd.out.symm,Ext.refl w⟩
theorem In8.take (h:In8 w A n c l) (hk:k<=n):In8 w A k c (l.take k):=by
 refine⟨by rw[List.length_take,<-h.len];omega,?_,by have:=h.cap;omega,h.nil_,h.at_⟩;rcases h.bytes with hb | ⟨g,o,b,hb⟩
 ·left;have:l = []:=by simpa using hb
  rw[this];simp
 ·refine .inr ⟨g,o,b,fun i v j=>hb i v ?_⟩;rw[List.getElem?_map]at j ⊢;rw[List.getElem?_take]at j;split at j
  ·exact j
  ·cases j
end
end Go.Proofs.YtfifdilapbeiiaaGreat
