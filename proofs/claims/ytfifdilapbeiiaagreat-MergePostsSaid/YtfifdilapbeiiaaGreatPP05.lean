/- Texts of one proof, joined. -/
import Derived.Test.YtfifdilapbeiiaaGreatPP04
import Derived.Lib.AppendZeros
import Derived.Maps.Keyed
import Derived.Maps.OwnOps
import Derived.IntWalk
set_option linter.unusedSimpArgs false
set_option linter.unusedVariables false
set_option maxRecDepth 100000
set_option maxHeartbeats 16000000
namespace Go.Proofs.YtfifdilapbeiiaaGreat
open _root_.Go.Proofs.Tryz
variable {ps:List (List UInt8)} {l p r s:List UInt8} {B cl i k m x:Nat} {E t:TypeId}
section
open Go.RowKit
theorem Ns (v:Nat) (c:UInt8):con v c=c8 ((v%256) ^^^ c.toNat) ^^^ (v / 256):=by
 rw[Nt];congr 2;have h:=Nat.xor_mod_two_pow (a:=v) (b:=c.toNat) (n:=8);have j:=c.toNat_lt;rw[show (2:Nat)^8=256 from rfl,Nat.mod_eq_of_lt (a:=c.toNat) (by omega)]at h;exact h
theorem PG (A:Option Addr) (s n c:Nat) (l:List UInt8) (w0 w:World) (hb:In8 w0 A n c l) (hw:Ext w0 w) (hs:s<4294967296) (f0:n<=1000000000) :
 Calls prog 181 #[.int .u32 s,.slice A n c] w fun e w'=>e = .returned (.int .u32 (cnext s l:Nat))/\Ext w w':=by
 have I:=Aa (ON w);have H:=Dh s hs;have O:cnot s<4294967296:=by unfold cnot;omega
 rw[show 4294967295 - s=cnot s from rfl]at H;obtain⟨y,hy⟩:=Ab (cnot s);rw[<-hy]at H O;have hr:cnext s l=4294967295 - l.foldl con y:=by unfold cnext;rw[<-hy];rfl
 replace hr:=Aa hr;clear hy;replace hb:=Aa hb
 go_in
 go_wp2_with fail;refine I.out.mono ?_;rintro e w1 ⟨rfl,j,b⟩;replace j:=Aa j;replace b:=Aa b;go_wp2_with fail
 go_loop [6,8,14] (fun s6 _ s14=>∃(i v:Nat),s14 = .int .i64 i/\i<=n/\s6 = .int .u32 v/\v<4294967296/\Hid (l.foldl con y=(l.drop i).foldl con v)) (fun _ _ s14=>n - (intOf s14).toNat)
 case atStart=>exact⟨0,y,rfl,by omega,rfl,O,rfl⟩
 case round =>
  obtain⟨i,v,rfl,hi,rfl,hv,hf⟩:=hrel;by_cases e0:i<n
  ·have T:i<l.length:=by rw[<-hb.out.len];omega
   obtain⟨g,o,rfl,hc⟩:=hb.out.bytes.at_ (by omega);have Y:=(hw.trans b.out).cell (hc i T);have hn:l.foldl con y=(l.drop (i+1)).foldl con (con v l[i]):=by rw[hf.out,List.drop_eq_getElem_cons T];rfl
   have a:=Lq l[i] hv;have h:=Ns v l[i];obtain⟨x,hx⟩:=Ab (l[i].toNat);have q0:x<256:=by rw[hx];exact l[i].toNat_lt
   rw[<-hx]at Y h;obtain⟨z,hz⟩:=Ab (con v l[i]);rw[<-hz]at hn a h;obtain⟨m,hm⟩:=Ab (v%256);have i0:(v:Int)%256=(m:Int):=by omega
   have Z:m<256:=by omega
   have g0:=u8_xor_nat m x Z q0;rw[<-hm]at h;have U:m ^^^ x<256:=Nat.xor_lt_two_pow (n:=8) Z q0;obtain⟨k,hk⟩:=Ab (m ^^^ x);rw[<-hk]at h g0 U;have h0:=j.out.cell k (Fr U);rw[if_pos U]at h0;obtain⟨t,ht⟩:=Ab (c8 k);have G:t<4294967296:=by rw[ht];exact Re (by omega)
   rw[<-ht]at h0 h;obtain⟨d,hd⟩:=Ab (v / 256);have d0:(v:Int) / 256=(d:Int):=by omega
   have m0:=u32_xor_nat t d G (by omega);rw[<-hd]at h;rw[<-h]at m0;replace hn:=Aa hn;clear hc hf hx hz hm hk ht hd h;go_wp2_with fail
   go_round
   case rel=>exact⟨i+1,z,by go_num,by omega,rfl,a,hn⟩
   case measure=>simp[intOf];omega
  ·have J:l.foldl con y=v:=by rw[hf.out,List.drop_of_length_le (by rw[<-hb.out.len];omega)];rfl
   have l0:=Dh v hv;replace J:=Aa J;clear hf;go_wp2_with fail;go_ret;exact⟨Fb (by rw[hr.out,J.out]),b.out⟩
def csum (s:Nat) (ls:List (List UInt8)):Nat:=ls.foldl cnext s
theorem Ng (B:Option Addr) (k c2:Nat) (ps:List (Option Addr×Nat×List UInt8)) (w:World) (hk:k=ps.length) (hB:Cells w B (ps.map fun p=> .slice p.1 p.2.2.length p.2.1)) (Y:∀p∈ps,In8 w p.1 p.2.2.length p.2.1 p.2.2) (J:∀p∈ps,p.2.2.length<=1000000000) (p0:k<=1000000) :
 Calls prog 139 #[.slice B k c2] w fun e w'=>e = .returned (.int .u32 (csum 0 (ps.map fun p=>p.2.2):Nat))/\Ext w w':=by
 replace hk:=Aa hk;replace Y:=Aa Y;replace J:=Aa J
 go_in
 go_wp2_with fail
 go_loopw [3,5,8] (fun s3 _ s8 wr=>∃(i v:Nat),s8 = .int .i64 i/\i<=k/\s3 = .int .u32 v/\v<4294967296/\Hid (csum 0 (ps.map fun p=>p.2.2)=csum v ((ps.drop i).map fun p=>p.2.2))/\Hid (Ext w wr)) (fun _ _ s8 _=>k - (intOf s8).toNat)
 case atStart=>exact⟨0,0,rfl,by omega,rfl,by omega,Aa rfl,Aa (Ext.refl w)⟩
 case round =>
  obtain⟨i,v,rfl,hi,rfl,hv,O,U⟩:=hrel;by_cases q0:i<k
  ·have j:i<ps.length:=by rw[<-hk.out];omega
   obtain⟨g,o,rfl,Z⟩:=hB.at_ (by rw[List.length_map];omega);have b:=U.out.cell (Z i _ (by rw[List.getElem?_map,List.getElem?_eq_getElem j];rfl));have hn:csum 0 (ps.map fun p=>p.2.2)=csum (cnext v ps[i].2.2) ((ps.drop (i+1)).map fun p=>p.2.2):=by rw[O.out,List.drop_eq_getElem_cons j];rfl
   have h:=PG ps[i].1 v ps[i].2.2.length ps[i].2.1 ps[i].2.2 w wr (Y.out _ (List.getElem_mem j)) U.out hv (J.out _ (List.getElem_mem j));have a:=EP v ps[i].2.2;obtain⟨p,G⟩:=Ab (ps[i]);rw[<-G]at b hn h a;obtain⟨z,I⟩:=Ab (cnext v p.2.2);rw[<-I]at hn h a;replace hn:=Aa hn;replace h:=Aa h;clear G Z O I;go_wp2_with fail;refine h.out.mono ?_;rintro e w1 ⟨rfl,T⟩;go_wp2_with fail;go_roundw
   case rel=>exact⟨i+1,z,by go_num,by omega,rfl,a,hn,Aa (U.out.trans T)⟩
   case measure=>simp[intOf];omega
  ·have H:csum 0 (ps.map fun p=>p.2.2)=v:=by rw[O.out,List.drop_of_length_le (by rw[<-hk.out];omega)];rfl
   replace H:=Aa H;clear O;go_wp2_with fail;go_ret;exact⟨by rw[H.out];rfl,U.out⟩
theorem Pr (n:Nat) (w:World) (hn:n<=1000000000):Calls prog 182 #[.slice none 0 0,.int .i64 n] w fun e w'=>∃A c,e = .returned (.slice A 0 c)/\Buf w' w.heap.size 5 A 0 c []/\Ext w w':=by
 have k0:¬ (n:Int)<0:=by omega
 rcases Nat.eq_zero_or_pos n with rfl | H
 ·go_in
  go_wp2_with fail;go_ret;exact⟨none,0,rfl,Buf.nil _ _ _,Ext.refl w⟩
 ·have T:(0:Int)<n:=by omega
  obtain⟨i,z,hi,I,h3,Z,G⟩:=Aw.hi;have b:=fun W ty=>Lib.run_append_nil_zeros (P:=prog) W 24 3 ty 5 i z .i64 .i64 underlying24 underlying3 hi I n H (by omega) (by omega) (by rw[Z];omega);have U:=grownCap_ge w n 0 5;obtain⟨cur,j⟩:=Ab (Builtin.zeroCells z.cells n++Builtin.zeroCells z.cells (grownCap w n 0 5 - n));have J:cur.size=grownCap w n 0 5:=by rw[j,Array.size_append,size_zeroCells,size_zeroCells,G];omega
  have p0:=fun W=>FN (n:=0) (c:=0) (k:=0) (A:=none) (Nat.le_refl _) nofun W;have O:=fun W=>FN (n:=n) (c:=grownCap w n 0 5) (k:=0) (A:=some ⟨w.heap.size,0,none⟩) (by omega) (fun a ha=>by cases ha;rfl) W;obtain⟨C,Y⟩:=Ab (grownCap w n 0 5);rw[<-Y]at U O;have h:=fun ty=>b w ty;rw[<-j,<-Y]at h;rw[<-Y]at J;replace h:=Aa h;clear b Y j G Z h3 I hi
  go_in
  go_wp2_with (at_builtin;refine Lib.wpList_append_run _ rfl (.tmp 20) (.tmp 21) 24 3 rfl (.slice none 0 0) (.int .i64 n) rfl rfl _ _ (h.out _) ?_);go_ret;refine⟨some ⟨w.heap.size,0,none⟩,C,rfl,⟨rfl,Nat.zero_le _,.inr ⟨w.heap.size,cur,rfl,Nat.le_refl _,heap_alloc_new w _,by omega,by simp⟩⟩,?_⟩;exact((Ext.refl w).alloc _).drew
def catL (ps:List (Option Addr×Nat×List UInt8)):List UInt8:=ps.flatMap fun p=>p.2.2
theorem Ij {ps:List (Option Addr×Nat×List UInt8)} (h:i<ps.length):catL (ps.take (i+1))=catL (ps.take i)++ps[i].2.2:=by
 unfold catL;rw[List.take_succ_eq_append_getElem h,List.flatMap_append];simp
theorem HT (ps:List (Option Addr×Nat×List UInt8)) (i:Nat):(catL (ps.take i)).length<=(catL ps).length:=by
 have h:catL ps=catL (ps.take i)++catL (ps.drop i):=by
  unfold catL;rw[<-List.flatMap_append,List.take_append_drop]
 rw[h,List.length_append];omega
theorem Lr (B:Option Addr) (k c2:Nat) (ps:List (Option Addr×Nat×List UInt8)) (w:World) (hk:k=ps.length) (hB:Cells w B (ps.map fun p=> .slice p.1 p.2.2.length p.2.1)) (h0:∀p∈ps,In8 w p.1 p.2.2.length p.2.1 p.2.2) (r0:(catL ps).length<=1000000000) (m1:k<=1000000) :
 Calls prog 140 #[.slice B k c2] w fun e w'=>NewB w (catL ps) e w':=by
 have b:=HT ps;obtain⟨T,hT⟩:=Ab ((catL ps).length);rw[<-hT]at r0 b;replace hk:=Aa hk;replace h0:=Aa h0;replace b:=Aa b;replace hT:=Aa hT
 go_in
 go_wp2_with fail
 go_loopw [3,5,11] (fun s3 _ s11 wr=>∃(i v:Nat),s11 = .int .i64 (i:Int)/\i<=k/\s3 = .int .i64 (v:Int)/\v<=T/\Hid (v=(catL (ps.take i)).length)/\wr=w) (fun _ _ s11 _=>k - (intOf s11).toNat)
 case atStart=>exact⟨0,0,rfl,by omega,rfl,by omega,Aa (by simp[catL]),rfl⟩
 case round =>
  obtain⟨i,v,rfl,hi,rfl,hv,d0,rfl⟩:=hrel;by_cases k1:i<k
  ·have U:i<ps.length:=by rw[<-hk.out];omega
   obtain⟨g,o,rfl,hc⟩:=hB.at_ (by rw[List.length_map];omega);have H:=hc i _ (by rw[List.getElem?_map,List.getElem?_eq_getElem U];rfl);have a:=Ij U;have g0:=b.out (i+1);obtain⟨p,hp⟩:=Ab (ps[i]);rw[<-hp]at H a;have J:v+p.2.2.length=(catL (ps.take (i+1))).length:=by rw[a,List.length_append,d0.out]
   have m0:v+p.2.2.length<=T:=by omega
   have y1:¬ ((v:Int)+(p.2.2.length:Int))<0:=by omega
   have o0:(0:Int)<=i:=by omega
   have hi1:(i:Int)<k:=by omega
   replace J:=Aa J;clear hp hc a g0;go_wp2_with fail;go_roundw
   case rel=>exact⟨i+1,v+p.2.2.length,by go_num,by omega,by go_num,m0,J,trivial⟩
   case measure=>simp[intOf];omega
  ·have O:ps.take i=ps:=List.take_of_length_le (by rw[<-hk.out];omega);have n0:=Aa (Pr v wr (by omega));rw[O]at d0;go_wp2_with fail;refine n0.out.mono ?_;rintro e w1 ⟨A1,c1,rfl,I,v0⟩;replace I:=Aa I;obtain⟨wo,p0⟩:=Ab wr;rw[<-p0]at v0 hB h0 I;have Y:∀e w',NewB wo (catL ps) e w'->NewB wr (catL ps) e w':=fun e w' h=>by rw[<-p0];exact h
   replace Y:=Aa Y;replace p0:=Aa p0;go_wp2_with fail
   go_loopw [6,8,27] (fun s6 _ s27 wz=>∃(i n4 c4:Nat) (A4:Option Addr),s27 = .int .i64 (i:Int)/\i<=k/\s6 = .slice A4 n4 c4/\n4<=T/\Hid (n4=(catL (ps.take i)).length)/\Hid (Buf wz wo.heap.size 5 A4 n4 c4 ((catL (ps.take i)).map B8))/\Hid (Ext wo wz)) (fun _ _ s27 _=>k - (intOf s27).toNat)
   case atStart=>exact⟨0,0,c1,A1,rfl,by omega,rfl,by omega,Aa (by simp[catL]),Aa (by simpa [catL]using I.out),Aa v0⟩
   case round =>
    obtain⟨j,n4,c4,A4,rfl,hj,rfl,x1,q0,j0,hE⟩:=hrel;by_cases j1:j<k
    ·have U:j<ps.length:=by rw[<-hk.out];omega
     obtain⟨g,o,rfl,hc⟩:=hB.at_ (by rw[List.length_map];omega);have H:=hE.out.cell (hc j _ (by rw[List.getElem?_map,List.getElem?_eq_getElem U];rfl));have a:=Ij U;have g0:=b.out (j+1);have k0:=(h0.out _ (List.getElem_mem U)).ext hE.out;obtain⟨p,hp⟩:=Ab (ps[j]);rw[<-hp]at H a k0;have J:n4+p.2.2.length=(catL (ps.take (j+1))).length:=by rw[a,List.length_append,q0.out]
     have m0:n4+p.2.2.length<=T:=by omega
     have G:(catL (ps.take (j+1))).map B8=(catL (ps.take j)).map B8++p.2.2.map B8:=by rw[a,List.map_append]
     have o0:(0:Int)<=j:=by omega
     have hi1:(j:Int)<k:=by omega
     have c0:wo.heap.size<=(‹World›).heap.size:=hE.out.size;replace J:=Aa J;replace G:=Aa G;clear hp hc a g0;go_wp2_with (at_builtin;refine Al Aw j0.out k0.bytes (.tmp 31) (.tmp 32) rfl rfl rfl rfl rfl (by rw[List.length_map]) (fun u hu=>by obtain⟨x,_,rfl⟩:=List.mem_map.1 hu;rfl) (by omega) c0 (fun A5 c5 w5 l0 q1 f0 _=>?_));refine⟨⟨j+1,n4+p.2.2.length,c5,A5,by go_num,by omega,rfl,m0,J,Aa (by rw[G.out];exact l0),Aa (f0 _ hE.out (Nat.le_refl _))⟩,?_⟩;simp[intOf];omega
    ·have O:ps.take j=ps:=List.take_of_length_le (by rw[<-hk.out];omega);rw[O]at q0 j0;have Z:∀wz,Ext wo wz->Buf wz wo.heap.size 5 A4 n4 c4 ((catL ps).map B8)->NewB wo (catL ps) (.returned (.slice A4 n4 c4)) wz:=fun wz h1 h2=>⟨A4,c4,by rw[<-q0.out],by rw[<-q0.out];exact h2,h1⟩
     replace Z:=Aa Z;go_wp2_with fail;go_ret;exact Y.out _ _ (Z.out _ hE.out j0.out)
def be4 (s:Nat):List UInt8:= [UInt8.ofNat (s / 16777216%256),UInt8.ofNat (s / 65536%256),UInt8.ofNat (s / 256%256),UInt8.ofNat (s%256)]
def be (l:List UInt8):Nat:=l.foldl (fun s x=>s*256+x.toNat) 0
theorem Rr {s:Nat} (h:s<4294967296):be (be4 s)=s:=by
 have h1:∀k,(UInt8.ofNat (k%256)).toNat=k%256:=fun k=>by rw[UInt8.toNat_ofNat'];omega
 unfold be be4;simp only[List.foldl_cons,List.foldl_nil,h1];omega
theorem Nq (h:x<4294967296):cnot (cnot x)=x:=by unfold cnot;omega
theorem Io (a b:List UInt8):cnext (cnext 0 a) b=cnext 0 (a++b):=by
 unfold cnext;rw[Nq (MX a (by unfold cnot;omega)),List.foldl_append]
def frameL (p:List UInt8):List UInt8:=vb p.length++be4 (cnext 0 (vb p.length++p))++p
def getF (l:List UInt8):Except Nat (List UInt8×List UInt8):=match getV 0 l with
 | .error k=>if k=6 then .error 41 else .error 40
 | .ok (n,r)=>if 16777216<n then .error 40 else if r.length<4+n then .error 41 else
  if cnext 0 (l.take (l.length - r.length)++(r.drop 4).take n)=be (r.take 4) then .ok ((r.drop 4).take n,r.drop (4+n)) else .error 40
theorem Pn (h:p.length<=16777216) (r:List UInt8):getF (frameL p++r) = .ok (p,r):=by
 have H:∀s,(be4 s).length=4:=fun _=>rfl;unfold getF frameL;rw[List.append_assoc,List.append_assoc,BD (by omega)];simp only;rw[if_neg (by omega),if_neg (by rw[List.length_append,List.length_append,H];omega)];obtain⟨B,b⟩:=Ab (be4 (cnext 0 (vb p.length++p)));have j:B.length=4:=by rw[b];rfl
 have a:be B=cnext 0 (vb p.length++p):=by rw[b];exact Rr (EP _ _)
 rw[<-b];have e1:(vb p.length++(B++(p++r))).length - (B++(p++r)).length=(vb p.length).length:=by rw[List.length_append];omega
 have e2:(B++(p++r)).drop 4=p++r:=List.drop_left' j;have e3:(B++(p++r)).take 4=B:=List.take_left' j;have e4:(B++(p++r)).drop (4+p.length)=r:=by rw[<-List.drop_drop,e2];exact List.drop_left' rfl
 rw[e1,e2,e3,e4,List.take_left' rfl,List.take_left' rfl,a,if_pos rfl]
theorem Eu:∀(l:List UInt8) (i n:Nat) (r r':List UInt8),getV i l = .ok (n,r)->∃p,l=p++r/\getV i (p++r') = .ok (n,r')
 | [],i,n,r,r',h=>by unfold getV at h;cases h
 | x::l,i,n,r,r',h=>by
  unfold getV at h;split at h
  ·cases h
  ·rename_i h1;split at h
   ·cases h
   ·rename_i h2;split at h
    ·rename_i j;injection h with h;injection h with e1 e2;refine⟨[x],by rw[<-e2];rfl,?_⟩;show getV i (x::r')=_;unfold getV;rw[if_neg h1,if_neg h2,if_pos j,e1]
    ·rename_i j;split at h
     ·rename_i m r1 b;injection h with h;injection h with e1 e2;obtain⟨p,a,H⟩:=Eu l (i+1) m r1 r' b;refine⟨x::p,by rw[a,<-e2];rfl,?_⟩;show getV i (x::(p++r'))=_;unfold getV;rw[if_neg h1,if_neg h2,if_neg j,H];simp only;rw[e1]
     ·cases h
theorem LH (h:getF l = .ok (p,r)) (r':List UInt8):∃f,l=f++r/\f ≠ []/\getF (f++r') = .ok (p,r'):=by
 unfold getF at h;split at h
 ·split at h <;> cases h
 ·rename_i n r0 U;split at h
  ·cases h
  ·rename_i h1;split at h
   ·cases h
   ·rename_i h2;split at h
    ·rename_i J;injection h with h;injection h with e1 e2;obtain⟨v,a,O⟩:=Eu l 0 n r0 (r0.take (4+n)++r') U;have Y:v ≠ []:=by
      obtain⟨_,_,q,b,H⟩:=Ck l 0 n r0 U;rw[a]at b;rw[List.append_cancel_right b];exact H
     refine⟨v++r0.take (4+n),by rw[a,<-e2,List.append_assoc,List.take_append_drop],by simp[Y],?_⟩;unfold getF;rw[List.append_assoc,O];simp only;have j:(r0.take (4+n)).length=4+n:=by rw[List.length_take];omega
     rw[if_neg h1,if_neg (by rw[List.length_append,j];omega)];have e3:(v++(r0.take (4+n)++r')).length - (r0.take (4+n)++r').length=v.length:=by rw[List.length_append];omega
     have e4:l.length - r0.length=v.length:=by rw[a,List.length_append];omega
     have e5:((r0.take (4+n)++r').drop 4).take n=(r0.drop 4).take n:=by
      rw[List.drop_append_of_le_length (by omega),List.take_append_of_le_length (by rw[List.length_drop];omega),List.drop_take,List.take_take];congr 1;omega
     have e6:(r0.take (4+n)++r').take 4=r0.take 4:=by
      rw[List.take_append_of_le_length (by omega),List.take_take];congr 1;omega
     have e7:(r0.take (4+n)++r').drop (4+n)=r':=List.drop_left' j;rw[e4,a,List.take_left' rfl]at J;rw[e3,List.take_left' rfl,e5,e6,e7,if_pos J,e1]
    ·cases h
theorem C1 (h:getF l = .ok (p,r)):r.length<l.length/\p.length<=16777216/\p.length<=l.length:=by
 obtain⟨f,a,j,_⟩:=LH h [];have b:=List.length_pos_iff.2 j;refine⟨by rw[a,List.length_append];omega,?_⟩;unfold getF at h;split at h
 ·split at h <;> cases h
 ·rename_i n r0 H;obtain⟨_,_,q,Y,_⟩:=Ck l 0 n r0 H;split at h
  ·cases h
  ·split at h
   ·cases h
   ·split at h
    ·injection h with h;injection h with e1 e2;rw[<-e1,List.length_take,List.length_drop,Y,List.length_append];omega
    ·cases h
theorem NQ (h:getF l = .error k):k=40\/k=41:=by
 unfold getF at h;split at h
 ·split at h <;> (injection h with h;omega)
 ·split at h
  ·injection h with h;omega
  ·split at h
   ·injection h with h;omega
   ·split at h
    ·cases h
    ·injection h with h;omega
theorem JH (k:Nat):B8 (UInt8.ofNat (k%256)) = .int .u8 ((k%256:Nat):Int):=by
 unfold B8;rw[UInt8.toNat_ofNat'];congr 2;omega
theorem OZ {s:Nat} (h:s<4294967296) : [.int .u8 ((s:Int) / 16777216),.int .u8 ((s:Int) / 65536%256),.int .u8 ((s:Int) / 256%256),.int .u8 ((s:Int)%256)]=(be4 s).map B8:=by
 unfold be4;rw[List.map_cons,List.map_cons,List.map_cons,List.map_cons,List.map_nil,JH,JH,JH,JH];congr 2
 ·omega
theorem Dg (h:m<18446744073709551616):IntKind.u64.wrap (m:Int)=(m:Int):=by
 simp[IntKind.wrap,IntKind.bits,IntKind.signed];omega
def PutP (w:World) (l:List UInt8) (e:Ending) (w':World):Prop:=∃A c,e = .returned (.tuple #[.slice A l.length c,.int .i64 0])/\Buf w' w.heap.size 5 A l.length c (l.map B8)/\Ext w w'
theorem Ph (A:Option Addr) (n c:Nat) (l:List UInt8) (B:Option Addr) (m d:Nat) (p:List UInt8) (w:World) (hl:In8 w A n c l) (hp:In8 w B m d p) (hn:n<=900000000) (hm:m<=16777216) :
 Calls prog 87 #[.slice A n c,.slice B m d] w fun e w'=>PutP w (l++frameL p) e w':=by
 have f0:=Aa (Cm none 0 0 m [] w rfl (.inl rfl) (fun _=>rfl) (by omega) (by omega));have j:=hp.len;have U:=hl.len;have h1:=Ag (n:=m) (by omega);have x1:=Dg (m:=m) (by omega);have m1:¬ (16777216:Int)<m:=by omega
 obtain⟨V,hV⟩:=Ab (vb m);rw[List.nil_append,<-hV]at f0;rw[<-hV]at h1;have m0:l++frameL p=l++(V++(be4 (cnext 0 (V++p))++p)):=by unfold frameL;rw[<-j,<-hV,List.append_assoc]
 have e0:=EP 0 (V++p);have g0:csum 0 [V,p]=cnext 0 (V++p):=Io V p;obtain⟨s,hs⟩:=Ab (cnext 0 (V++p));rw[<-hs]at m0 e0 g0;rw[m0];obtain⟨R,hR⟩:=Ab (l++(V++(be4 s++p)));rw[<-hR];replace hR:=Aa hR;have k0:=OZ e0;replace j:=Aa j;replace U:=Aa U;replace hV:=Aa hV;clear hs m0
 go_in
 go_wp2_with fail;refine f0.out.mono ?_;rintro e w1 ⟨A1,c1,rfl,d0,v0⟩;have a:=d0.in8;obtain⟨w2,O⟩:=Ab (w1.alloc (.cells #[.slice A1 V.length c1,.slice B m d] 24));have G:Ext w1 w2:=by rw[O];exact(Ext.refl w1).alloc _
 have i0:Row w2 w1.heap.size 24 #[.slice A1 V.length c1,.slice B m d]:=by rw[O];exact Row.new w1 _ _
 have h0:=Ng (some ⟨w1.heap.size,0,none⟩) 2 2 [(A1,c1,V),(B,d,p)] w2 rfl (.inr ⟨w1.heap.size,0,rfl,fun i v hv=>by
  rw[Nat.zero_add];exact i0.cell i (by rw[j.out];simpa using hv)⟩) (fun q Z=>by
  rcases List.mem_cons.1 Z with rfl | Z
  ·exact a.ext G
  ·rw[List.mem_singleton.1 Z];have:=(hp.ext v0).ext G;rw[j.out]at this;exact this) (fun q Z=>by
  rcases List.mem_cons.1 Z with rfl | Z
  ·simp only;omega
  ·rw[List.mem_singleton.1 Z];simp only;have:=j.out;omega) (by omega)
 rw[show ([(A1,c1,V),(B,d,p)].map fun p:Option Addr×Nat×List UInt8=>p.2.2) = [V,p] from rfl,g0]at h0;replace h0:=Aa h0;replace O:=Aa O;replace k0:=Aa k0;replace a:=Aa a;clear d0 g0 i0;go_wp2_with fail;rw[<-O.out];refine h0.out.mono ?_;rintro e w3 ⟨rfl,x0⟩;go_wp2_with fail;obtain⟨g,hg⟩:=Ab w3.heap.size;obtain⟨w4,T⟩:=Ab (w3.alloc (.cells #[.int .u8 ((s:Int) / 16777216),.int .u8 ((s:Int) / 65536%256),.int .u8 ((s:Int) / 256%256),.int .u8 ((s:Int)%256)] 5));have I:Ext w3 w4:=by rw[T];exact(Ext.refl w3).alloc _
 have hb:Buf w4 g 5 (some ⟨g,0,none⟩) 4 4 ((be4 s).map B8):=by
  have h:=EO w3 [.int .u8 ((s:Int) / 16777216),.int .u8 ((s:Int) / 65536%256),.int .u8 ((s:Int) / 256%256),.int .u8 ((s:Int)%256)] 5 (by simp);rw[T,hg,<-k0.out];exact h
 have n0:w4.heap.size=g+1:=by rw[T,hg];simp
 obtain⟨w5,q0⟩:=Ab (w4.alloc (.cells #[.slice A n c,.slice A1 V.length c1,.slice (some ⟨g,0,none⟩) 4 4,.slice B m d] 24));have H:Ext w4 w5:=by rw[q0];exact(Ext.refl w4).alloc _
 have l0:Row w5 (g+1) 24 #[.slice A n c,.slice A1 V.length c1,.slice (some ⟨g,0,none⟩) 4 4,.slice B m d]:=by rw[q0,<-n0];exact Row.new w4 _ _
 have Y:=((v0.trans G).trans x0)
 have J:=Lr (some ⟨g+1,0,none⟩) 4 4 [(A,c,l),(A1,c1,V),(some ⟨g,0,none⟩,4,be4 s),(B,d,p)] w5 rfl (.inr ⟨g+1,0,rfl,fun i v hv=>by
  rw[Nat.zero_add];refine l0.cell i ?_;have e4:(be4 s).length=4:=rfl;rw[j.out,U.out];simpa [e4]using hv⟩) (fun q Z=>by
  have e4:(be4 s).length=4:=rfl;simp only[List.mem_cons,List.not_mem_nil,or_false]at Z;rcases Z with rfl | rfl | rfl | rfl
  ·have:=(hl.ext Y).ext (I.trans H);rw[U.out]at this;exact this
  ·exact a.out.ext ((G.trans x0).trans (I.trans H))
  ·exact hb.in8.ext H
  ·have:=(hp.ext Y).ext (I.trans H);rw[j.out]at this;exact this) (by
  have e4:(be4 s).length=4:=rfl;unfold catL;simp only[List.flatMap_cons,List.flatMap_nil,List.length_append,List.length_nil,e4];have:=j.out;have:=U.out;omega) (by omega)
 have p0:catL [(A,c,l),(A1,c1,V),(some ⟨g,0,none⟩,4,be4 s),(B,d,p)]=l++(V++(be4 s++p)):=by unfold catL;simp
 rw[p0]at J;rw[<-hR.out]at J;have b:=Y.trans (I.trans H);rw[q0,T,hg]at J b;replace b:=Aa b;refine J.mono ?_;rintro e w6 ⟨A6,c6,rfl,j0,y0⟩;replace j0:=Aa (j0.lower b.out.size);have t0:=Aa (b.out.trans y0);clear y0 J p0 T q0 n0 hg l0 hb;go_wp2_with fail;go_ret2;exact⟨A6,c6,rfl,j0.out,t0.out⟩
def joinL (ps:List (List UInt8)):List UInt8:=ps.flatMap frameL
theorem Et (h:p.length<=16777216):(frameL p).length<=p.length+20:=by
 have h1:=Ag (n:=p.length) (by omega);have h2:(be4 (cnext 0 (vb p.length++p))).length=4:=rfl;unfold frameL;rw[List.length_append,List.length_append,h2];omega
theorem Cv:∀ {ps:List (List UInt8)},(∀p∈ps,p.length<=16777216)->(joinL ps).length<=16777236*ps.length
 | [],_=>by simp[joinL]
 | p::ps,h=>by
  have h1:=Et (h p (List.mem_cons_self ..));have h2:=Cv (ps:=ps) fun q j=>h q (List.mem_cons_of_mem _ j);have b:=h p (List.mem_cons_self ..);show (frameL p++joinL ps).length<=_;rw[List.length_append,List.length_cons];omega
theorem GT (h:ps[i]? = some p):joinL (ps.take (i+1))=joinL (ps.take i)++frameL p:=by
 unfold joinL;rw[List.take_add_one,h,List.flatMap_append];simp
def OkB' (w:World) (l:List UInt8) (e:Ending) (w':World):Prop:=∃A c,e = .returned (.tuple #[.slice A l.length c,.int .i64 0])/\Own8 w' w.heap.size A l.length c l/\Ext w w'
theorem NL (B:Option Addr) (k c2:Nat) (ps:List (Option Addr×Nat×List UInt8)) (w:World) (hk:k=ps.length) (hB:Cells w B (ps.map fun p=> .slice p.1 p.2.2.length p.2.1)) (J:∀p∈ps,In8 w p.1 p.2.2.length p.2.1 p.2.2/\p.2.2.length<=16777216) (n0:k<=50) :
 Calls prog 47 #[.slice B k c2] w fun e w'=>OkB' w (joinL (ps.map (·.2.2))) e w':=by
 have j0:=Aa (fun A n c l B m d p W h1 h2 h3 h4=>Ph A n c l B m d p W h1 h2 h3 h4);obtain⟨P,I⟩:=Ab (ps.map (·.2.2));rw[<-I];have O:∀p∈P,p.length<=16777216:=fun p hp=>by
  rw[I]at hp;obtain⟨q,hq,rfl⟩:=List.mem_map.1 hp;exact(J q hq).2
 have Y:P.length=k:=by rw[I,List.length_map,hk]
 replace hk:=Aa hk;replace hB:=Aa hB;replace J:=Aa J;replace I:=Aa I;replace O:=Aa O;replace Y:=Aa Y
 go_in
 go_wp2_with fail
 go_loopw [4,11] (fun s4 s11 wr=>∃(i n c:Nat) (A:Option Addr),s4 = .slice A n c/\s11 = .int .i64 (i:Int)/\i<=k/\n<=16777236*i/\Hid (Own8 wr w.heap.size A n c (joinL (P.take i)))/\Hid (Ext w wr)) (fun _ s11 _=>k - (intOf s11).toNat)
 case atStart=>exact⟨0,0,0,none,rfl,rfl,by omega,by omega,Aa ⟨rfl,Buf.nil _ _ _⟩,Aa (Ext.refl w)⟩
 case round =>
  obtain⟨i,n,c,A,rfl,rfl,hi,hn,ho,hE⟩:=hrel;by_cases c0:i<k
  ·obtain⟨x,hx⟩:∃x,ps[i]? = some x:=⟨_,List.getElem?_eq_getElem (by rw[<-hk.out];exact c0)⟩
   obtain⟨g,o,hA,p0⟩:=hB.out.at_ (by rw[List.length_map,<-hk.out];omega);subst hA;have k0:=hE.out.cell (p0 i _ (by rw[List.getElem?_map,hx];rfl));have j:=J.out x (List.mem_of_getElem? hx);have T:P[i]? = some x.2.2:=by rw[I.out,List.getElem?_map,hx];rfl
   have a:=GT T;obtain⟨XA,xc,xl⟩:=x;simp only at k0 j a;have y0:=Et j.2;have Z:=Cv (ps:=P.take (i+1)) fun p hp=>O.out p (List.mem_of_mem_take hp);have m0:(P.take (i+1)).length=i+1:=by rw[List.length_take,Y.out];omega
   rw[m0]at Z;obtain⟨L2,H⟩:=Ab (joinL (P.take (i+1)));rw[<-H]at a Z;have b:=j0.out A n c (joinL (P.take i)) XA xl.length xc xl wr (by have:=ho.out.2.in8;rwa [ho.out.1]at this ⊢) (j.1.ext hE.out) (by omega) j.2;rw[<-a]at b;obtain⟨m,hm⟩:=Ab xl.length;rw[<-hm]at b k0;have g0:=hE.out.size;replace b:=Aa b;replace hm:=Aa hm;replace hx:=Aa hx;replace j:=Aa j;replace T:=Aa T;replace a:=Aa a;replace H:=Aa H;clear p0 y0 m0;go_wp2_with fail;refine b.out.mono ?_;rintro e w2 ⟨A2,c3,rfl,h0,U⟩;have h:Hid (Own8 w2 w.heap.size A2 L2.length c3 (joinL (P.take (i+1)))):=Aa (by rw[<-H.out];exact⟨rfl,h0.lower g0⟩);obtain⟨n2,G⟩:=Ab L2.length;rw[<-G]at h Z ⊢;replace G:=Aa G;replace U:=Aa (hE.out.trans U);clear h0;go_wp2_with fail;exact⟨⟨i+1,n2,c3,A2,rfl,rfl,by omega,by omega,h,U⟩,by simp only[intOf];omega⟩
  ·obtain rfl:i=k:=by omega
   have h:=ho.out;rw[List.take_of_length_le (by rw[Y.out];exact Nat.le_refl _)]at h;replace h:=Aa h;go_wp2_with fail;go_ret2;have hl:=h.out.1;subst hl;exact⟨A,c,rfl,h.out,hE.out⟩
theorem ND (A:Option Addr) (n c:Nat) (l:List UInt8) (e:Ev) (B:Option Addr) (d:Nat) (w:World) (hn:n=l.length) (I:Bs w A l) (hz:A=none->c=0) (h0:n<=100000000) (h:e.Ok w B) (hk:checkE e.fs=0) (ha:I64ok' e.at_) :
 Calls prog 128 #[.slice A n c,e.val B d] w fun en w'=>OkB' w (l++putE e) en w':=by
 obtain⟨W1,b⟩:=Ab (w.alloc (.cells #[.int .i64 e.at_,.slice B e.fs.length d] 69));obtain⟨g,T⟩:=Ab w.heap.size;have O:Row W1 g 69 #[.int .i64 e.at_,.slice B e.fs.length d]:=by rw[b,T];exact Row.new w _ _
 have H:Ext w W1:=by rw[b];exact(Ext.refl w).alloc _
 have J:=Aa (Dj e B d W1 (h.ext H));rw[hk]at J;have a:=Aa (fun W (hE:Ext w W)=>NG A n c l e B d W hn (I.ext hE) hz h0 (h.ext hE) hk ha);obtain⟨L,Z⟩:=Ab (l++putE e);rw[<-Z]at a ⊢;unfold Ev.val at J a ⊢;have k0:=O.cell 0 rfl;have k1:=O.cell 1 rfl;replace O:=Aa O;replace H:=Aa H;replace b:=Aa b;replace T:=Aa T;replace Z:=Aa Z;replace hk:=Aa hk;replace h:=Aa h;replace hn:=Aa hn;replace I:=Aa I;clear hz
 go_in
 go_upto_region 1 with (fail)
 rw[<-b.out,<-T.out];go_wp2_with fail;refine J.out.mono ?_;rintro en w2 ⟨rfl,j⟩;have r2:=O.out.ext j;have q0:=r2.cell 0 rfl;have q1:=r2.cell 1 rfl;replace r2:=Aa r2;replace j:=Aa (H.out.trans j);go_wp2_with fail;refine(a.out w2 j.out).mono ?_;rintro en w3 G;obtain⟨A3,c3,rfl,U,Y⟩:=G;have ho:=Aa (show Own8 w3 w.heap.size A3 L.length c3 L from⟨rfl,U.lower j.out.size⟩);replace Y:=Aa (j.out.trans Y);clear U;go_wp2_with fail;go_ret2;exact⟨A3,c3,rfl,ho.out,Y.out⟩
def timesD:Int->List Dc->List UInt8
 | _,[]=> []
 | a,d::t=>vb (zig (wrap64 (d.2.at_ - a)))++timesD d.2.at_ t
def lastAt:Int->List Dc->Int
 | a,[]=>a
 | _,d::t=>lastAt d.2.at_ t
def lowD:Int->List Dc->Int
 | m,[]=>m
 | m,d::t=>lowD (min m d.2.at_) t
def highD:Int->List Dc->Int
 | m,[]=>m
 | m,d::t=>highD (max m d.2.at_) t
def partD:List Dc->List Int
 | []=> [0,0,0,0,0]
 | d::t=> [lowD d.2.at_ (d::t),highD d.2.at_ (d::t),d.1,lastD d.1 t,((d::t).length:Int)]
def pairsD:Nat->List Dc->List (List UInt8×Po)
 | _,[]=> []
 | i,d::t=>(termsL d.2).map (fun p=>(p.1,((i:Int),p.2)))++pairsD (i+1) t
def rowsD (l:List Dc):List (List UInt8×List Po):=grp (pairsD 0 l)
def enOf:Nat->List (List UInt8×List Po)->List En
 | _,[]=> []
 | o,r::t=>⟨r.1,o,(encPs r.2).length,r.2.length⟩::enOf (o+(encPs r.2).length) t
def postB (rs:List (List UInt8×List Po)):List UInt8:=rs.flatMap fun r=>encPs r.2
def framesD (l:List Dc):List (List UInt8):= [encDs l,timesD 0 l,postB (rowsD l),encEs (enOf 0 (rowsD l)),ofB ((rowsD l).map (·.1)),vall (partD l)]
def segL (l:List Dc):List UInt8:= [76,83,69,71]++joinL (framesD l)
theorem EI:∀(a b:List Dc) (x:Int),timesD x (a++b)=timesD x a++timesD (lastAt x a) b
 | [],b,x=>rfl
 | d::t,b,x=>by
  show _++timesD d.2.at_ (t++b)=(_++timesD d.2.at_ t)++_;rw[EI t b,List.append_assoc];rfl
theorem Ez:∀(a b:List Dc) (x:Int),lastAt x (a++b)=lastAt (lastAt x a) b
 | [],b,x=>rfl
 | d::t,b,x=>Ez t b d.2.at_
theorem GY:∀(a b:List Dc) (x:Int),lowD x (a++b)=lowD (lowD x a) b
 | [],b,x=>rfl
 | d::t,b,x=>GY t b _
theorem FE:∀(a b:List Dc) (x:Int),highD x (a++b)=highD (highD x a) b
 | [],b,x=>rfl
 | d::t,b,x=>FE t b _
theorem CG:∀(a b:List Dc) (i:Nat),pairsD i (a++b)=pairsD i a++pairsD (i+a.length) b
 | [],b,i=>rfl
 | d::t,b,i=>by
  show _++pairsD (i+1) (t++b)=(_++pairsD (i+1) t)++_;rw[CG t b,List.append_assoc,List.length_cons,show i+1+t.length=i+(t.length+1)by omega]
theorem GG:∀(a b:List (List UInt8×List Po)) (o:Nat),enOf o (a++b)=enOf o a++enOf (o+(postB a).length) b
 | [],b,o=>rfl
 | r::t,b,o=>by
  show _::enOf _ (t++b)=_::enOf _ t++_;rw[GG t b];unfold postB;rw[List.flatMap_cons,List.length_append,Nat.add_assoc];rfl
theorem Cx (a b:List (List UInt8×List Po)):postB (a++b)=postB a++postB b:=by unfold postB;rw[List.flatMap_append]
theorem Fw (n:Int) : -9223372036854775808<=wrap64 n/\wrap64 n<=9223372036854775807:=by
 unfold wrap64;omega
theorem Dx:∀(l:List Dc) (a:Int),(timesD a l).length<=10*l.length
 | [],a=>by simp[timesD]
 | d::t,a=>by
  have h1:=Dx t d.2.at_;have h2:=CM (Fw (d.2.at_ - a)).1 (Fw (d.2.at_ - a)).2;have h:=Ag h2;unfold timesD;rw[List.length_append,List.length_cons];omega
end
section
open Go.RowKit Go.Maps
open Go
structure MapL (P:Program) (k:TypeId) (w:World) (m:Nat) (L:List (Value×Value)):Prop where
  ex:∃es clock,w.heap[m]? = some (.map es clock)/\es.toList.map (fun e=>(e.key,e.val))=L/\es.toList.Pairwise (fun a b=>a.born≠b.born)/\∀e∈es.toList,e.born<clock
  keys:∀p∈L,∃l,keyOf P k p.1=some l
  nodup:(L.map Prod.fst).Nodup
section
variable {P:Program} {k:TypeId} {w w1:World} {m:Nat} {L:List (Value×Value)}
theorem MapL.keep (h:MapL P k w m L) (hb:w1.heap[m]? = w.heap[m]?):MapL P k w1 m L:=by
 obtain⟨⟨es,cl,h1,h2⟩,j,b⟩:=h;exact⟨⟨es,cl,hb.trans h1,h2⟩,j,b⟩
theorem MapL.lt (h:MapL P k w m L):m<w.heap.size:=by
 obtain⟨⟨es,cl,h1,_⟩,_⟩:=h;exact(Array.getElem?_eq_some_iff.1 h1).1
theorem MapL.ext (h:MapL P k w m L) (j:Ext w w1):MapL P k w1 m L:=h.keep (Below.block j m h.lt)
theorem MapL.grown {row:Option Nat} (h:MapL P k w m L) (b:w.grownBy w1 row) (j:row≠some m):MapL P k w1 m L:=h.keep (b.block m h.lt (fun e=>j e.symm))
theorem MapL.drew (h:MapL P k w m L):MapL P k w.drew m L:=h.keep rfl
theorem MapL.alloc (h:MapL P k w m L) (o:Obj):MapL P k (w.alloc o) m L:=h.keep (Below.heap_alloc w o m h.lt)
theorem MapL.made (w:World):MapL P k (w.alloc (.map #[] 0)) w.heap.size [] :=
 ⟨⟨#[],0,heap_alloc_new w _,rfl,List.Pairwise.nil,by simp⟩,by simp,by simp⟩
theorem MapL.unique {x u v:Value} (h:MapL P k w m L) (j:(x,u)∈L) (b:(x,v)∈L):u=v:=by
 have hn:=h.nodup;clear h
 induction L with
 | nil=>cases j
 | cons p L ih =>
  simp only[List.map_cons,List.nodup_cons]at hn;rcases List.mem_cons.1 j with h1 | h1 <;> rcases List.mem_cons.1 b with h2 | h2
  ·rw[<-h1]at h2;exact(Prod.mk.inj h2).2.symm
  ·exfalso;apply hn.1;rw[<-h1];exact List.mem_map.2 ⟨_,h2,rfl⟩
  ·exfalso;apply hn.1;rw[<-h2];exact List.mem_map.2 ⟨_,h1,rfl⟩
  ·exact ih h1 h2 hn.2
theorem MapL.find (h:MapL P k w m L) (K:Keyed P k) {x:Value} {l:Lit} (O:keyOf P k x=some l) {es:Array MapEntry} (hb:w.heap[m]? = some (.map es cl)) (W:World) :
 ((Instr.findKey k x es.toList).run P W = .ok none W/\∀p∈L,p.1≠x) \/
 ∃j e,(Instr.findKey k x es.toList).run P W = .ok (some (j,e.val)) W/\es[j]? = some e/\e.key=x/\(x,e.val)∈L:=by
 obtain⟨⟨es',cl',h1,h2,_⟩,U,_⟩:=h;rw[hb]at h1;cases h1;have hk:∀e∈es.toList,∃l,keyOf P k e.key=some l:=fun e b=>U (e.key,e.val) (by rw[<-h2];exact List.mem_map.2 ⟨e,b,rfl⟩);rcases K.find W O es.toList hk with ⟨H,a⟩ | ⟨j,e,H,Y,b⟩
 ·refine .inl ⟨H,fun p J=>?_⟩;rw[<-h2]at J;obtain⟨e,b,rfl⟩:=List.mem_map.1 J;exact a e b
 ·refine .inr ⟨j,e,H,by simpa using Y,b,?_⟩;rw[<-h2];exact List.mem_map.2 ⟨e,List.mem_of_getElem? Y,by rw[b]⟩
theorem MapL.look (h:MapL P k w m L) (K:Keyed P k) (ht:P.underlying t=some (.map k E)) {x z:Value} {l:Lit} (H:keyOf P k x=some l) (U:(zeroValue E).run P w = .ok z w) (ok:Bool) :
 (∃v,(x,v)∈L/\(Instr.lookup t (.map (some m)) x ok).run P w = .ok (if ok then .tuple #[v,.bool true] else v) w) \/
 ((∀p∈L,p.1≠x)/\(Instr.lookup t (.map (some m)) x ok).run P w = .ok (if ok then .tuple #[z,.bool false] else z) w):=by
 obtain⟨es,cl,hb,_⟩:=h.ex;have Y:(getObj m).run P w = .ok (.map es cl) w:=by simp[getObj,Sem.run,hb]
 rcases h.find K H hb w with ⟨a,b⟩ | ⟨j,e,a,T,O,J⟩
 ·refine .inr ⟨b,?_⟩;simp only[Instr.lookup,Sem.run_bind,run_underlying ht,Result.andThen_ok,Y,Sem.run_pure,K.check w es.isEmpty H,a,U]
 ·refine .inl ⟨e.val,J,?_⟩;simp only[Instr.lookup,Sem.run_bind,run_underlying ht,Result.andThen_ok,Y,Sem.run_pure,K.check w es.isEmpty H,a]
structure Put (L:List (Value×Value)) (x v:Value) (L':List (Value×Value)):Prop where
  mem:∀p,p∈L'↔p=(x,v)\/(p∈L/\p.1≠x)
  len:(∃u,(x,u)∈L)/\L'.length=L.length\/(∀p∈L,p.1≠x)/\L'.length=L.length+1
theorem CI {es:Array MapEntry} (hb:w.heap[m]? = some (.map es cl)) (o:Obj):(setObj m o).run P w = .ok () { w with heap:=w.heap.setIfInBounds m o }:=by
 simp[setObj,Sem.run,hb]
theorem BH {o:Obj} (h:m<w.heap.size):({ w with heap:=w.heap.setIfInBounds m o }:World).heap[m]? = some o:=by
 simp[h]
theorem Br (o : Obj) : w.grownBy { w with heap := w.heap.setIfInBounds m o } (some m) :=
  ⟨rfl, rfl, rfl, by simp, fun i _ hi => by
    have : m ≠ i := fun e => hi (by rw [e])
    simp [Array.getElem?_setIfInBounds_ne this]⟩
theorem CE {es:Array MapEntry} {j:Nat} {e0:MapEntry} (a:es[j]? = some e0) (f:MapEntry->MapEntry) (e:MapEntry) :
 e∈(es.modify j f).toList↔e=f e0\/∃i,i≠j/\es[i]? = some e:=by
 have H:j<es.size:=(Array.getElem?_eq_some_iff.1 a).1;constructor
 ·intro h;obtain⟨i,hi⟩:=List.mem_iff_getElem?.1 h;rw[Array.getElem?_toList,Array.getElem?_modify]at hi;split at hi
  ·rename_i b;subst b;rw[a]at hi;exact .inl (Option.some.inj hi).symm
  ·rename_i b;exact .inr ⟨i,fun h=>b h.symm,hi⟩
 ·rintro(rfl | ⟨i,hi,b⟩)
  ·refine List.mem_iff_getElem?.2 ⟨j,?_⟩;rw[Array.getElem?_toList,Array.getElem?_modify,if_pos rfl,a];rfl
  ·refine List.mem_iff_getElem?.2 ⟨i,?_⟩;rw[Array.getElem?_toList,Array.getElem?_modify,if_neg (fun h=>hi h.symm)];exact b
theorem GZ {es:Array MapEntry} {j:Nat} {β:Type} (f:MapEntry->MapEntry) (g:MapEntry->β) (a:∀e,es[j]? = some e->g (f e)=g e):(es.modify j f).toList.map g=es.toList.map g:=by
 refine List.ext_getElem? fun i=>?_;rw[List.getElem?_map,List.getElem?_map,Array.getElem?_toList,Array.getElem?_toList,Array.getElem?_modify];split
 ·rename_i h;subst h;cases b:es[j]? with
  | none=>rfl
  | some e=>simp[a e b]
 ·rfl
theorem Kr {es:Array MapEntry} (hn:(es.toList.map (·.key)).Nodup) {i j:Nat} {a b:MapEntry} (hi:es[i]? = some a) (H:es[j]? = some b) (hk:a.key=b.key):i=j:=by
 have h1:(es.toList.map (·.key))[i]? = some a.key:=by simp[hi]
 have h2:(es.toList.map (·.key))[j]? = some b.key:=by simp[H]
 have h:i<(es.toList.map (·.key)).length:=(List.getElem?_eq_some_iff.1 h1).1;exact(List.getElem?_inj h hn).1 (by rw[h1,h2,hk])
theorem MM {es:Array MapEntry} (hn:es.toList.Pairwise (fun a b=>a.born≠b.born)) {i j:Nat} {a b:MapEntry} (hi:es[i]? = some a) (Y:es[j]? = some b) (hk:a.born=b.born):i=j:=by
 have H:(es.toList.map (·.born)).Nodup:=by rw[List.nodup_iff_pairwise_ne,List.pairwise_map];exact hn
 have h1:(es.toList.map (·.born))[i]? = some a.born:=by simp[hi]
 have h2:(es.toList.map (·.born))[j]? = some b.born:=by simp[Y]
 have h:i<(es.toList.map (·.born)).length:=(List.getElem?_eq_some_iff.1 h1).1;exact(List.getElem?_inj h H).1 (by rw[h1,h2,hk])
theorem MapL.modify (h:MapL P k w m L) {es:Array MapEntry} (hb:w.heap[m]? = some (.map es cl)) {j:Nat} {e0:MapEntry} (a:es[j]? = some e0) (v:Value) {f:MapEntry->MapEntry}
 (Y:(f e0).key=e0.key) (U:(f e0).val=v) (O:(f e0).born=e0.born) (hw:w1.heap[m]? = some (.map (es.modify j f) cl)):∃L',MapL P k w1 m L'/\Put L e0.key v L':=by
 obtain⟨⟨es',cl',h1,h2,h4,h5⟩,h3,h6⟩:=h;rw[hb]at h1;cases h1;have H:(es.toList.map (·.key)).Nodup:=by
  rw[<-h2,List.map_map]at h6;exact h6
 refine⟨(es.modify j f).toList.map (fun e=>(e.key,e.val)),⟨⟨es.modify j f,cl,hw,rfl,?_,fun e b=>?_⟩,fun p J=>?_,?_⟩,fun p=>?_,.inl ⟨⟨e0.val,?_⟩,?_⟩⟩
 ·have Z:(es.modify j f).toList.map (·.born)=es.toList.map (·.born):=GZ f (·.born) (fun e b=>by rw[a]at b;cases b;exact O);have hn:(es.toList.map (·.born)).Nodup:=by rw[List.nodup_iff_pairwise_ne,List.pairwise_map];exact h4
  rw[<-Z,List.nodup_iff_pairwise_ne,List.pairwise_map]at hn;exact hn
 ·rcases (CE a f e).1 b with rfl | ⟨i,_,hi⟩
  ·rw[O];exact h5 e0 (by simpa using Array.mem_of_getElem? a)
  ·exact h5 e (by simpa using Array.mem_of_getElem? hi)
 ·obtain⟨e,b,rfl⟩:=List.mem_map.1 J;rcases (CE a f e).1 b with rfl | ⟨i,_,hi⟩
  ·rw[Y];exact h3 (e0.key,e0.val) (by rw[<-h2];exact List.mem_map.2 ⟨e0,by simpa using Array.mem_of_getElem? a,rfl⟩)
  ·exact h3 (e.key,e.val) (by rw[<-h2];exact List.mem_map.2 ⟨e,by simpa using Array.mem_of_getElem? hi,rfl⟩)
 ·rw[List.map_map];have:(es.modify j f).toList.map (Prod.fst∘fun e=>(e.key,e.val))=es.toList.map (·.key):=GZ f _ (fun e b=>by rw[a]at b;cases b;exact Y);rw[this];exact H
 ·constructor
  ·intro J;obtain⟨e,b,rfl⟩:=List.mem_map.1 J;rcases (CE a f e).1 b with rfl | ⟨i,hi,T⟩
   ·exact .inl (by rw[Y,U])
   ·refine .inr ⟨by rw[<-h2];exact List.mem_map.2 ⟨e,by simpa using Array.mem_of_getElem? T,rfl⟩,fun hk=>hi (Kr H T a hk)⟩
  ·rintro(rfl | ⟨J,I⟩)
   ·exact List.mem_map.2 ⟨f e0,(CE a f _).2 (.inl rfl),by rw[Y,U]⟩
   ·rw[<-h2]at J;obtain⟨e,b,rfl⟩:=List.mem_map.1 J;obtain⟨i,hi⟩:=List.mem_iff_getElem?.1 b;rw[Array.getElem?_toList]at hi;exact List.mem_map.2 ⟨e,(CE a f e).2 (.inr ⟨i,fun G=>I (by subst G;rw[a]at hi;cases hi;rfl),hi⟩),rfl⟩
 ·rw[<-h2];exact List.mem_map.2 ⟨e0,by simpa using Array.mem_of_getElem? a,rfl⟩
 ·rw[<-h2];simp
theorem MapL.push (h:MapL P k w m L) {es:Array MapEntry} (hb:w.heap[m]? = some (.map es cl)) {x v:Value} {l:Lit} (hx:keyOf P k x=some l) (Y:∀p∈L,p.1≠x)
 (I:w1.heap[m]? = some (.map (es.push { key:=x,val:=v,born:=cl }) (cl+1))):∃L',MapL P k w1 m L'/\Put L x v L':=by
 obtain⟨⟨es',cl',h1,h2,Z,O⟩,T,G⟩:=h;rw[hb]at h1;cases h1;refine⟨L ++ [(x,v)],⟨⟨_,_,I,by simp[h2],?_,fun e J=>?_⟩,fun p j=>?_,?_⟩,fun p=>?_,.inr ⟨Y,by simp⟩⟩
 ·simp only[Array.toList_push];rw[List.pairwise_append];exact⟨Z,List.pairwise_singleton ..,fun a U b H=>by
   obtain rfl:=List.mem_singleton.1 H;have:=O a U;simp only;omega⟩
 ·simp only[Array.toList_push]at J;rcases List.mem_append.1 J with J | J
  ·have:=O e J;omega
  ·obtain rfl:=List.mem_singleton.1 J;simp only;omega
 ·rcases List.mem_append.1 j with j | j
  ·exact T p j
  ·obtain rfl:=List.mem_singleton.1 j;exact⟨l,hx⟩
 ·rw[List.map_append,List.nodup_append];refine⟨G,by simp,fun a U b H=>?_⟩;simp at H;obtain⟨p,j,rfl⟩:=List.mem_map.1 U;rw[H];exact Y p j
 ·constructor
  ·intro j;rcases List.mem_append.1 j with j | j
   ·exact .inr ⟨j,Y p j⟩
   ·exact .inl (List.mem_singleton.1 j)
  ·rintro(rfl | ⟨j,_⟩)
   ·simp
   ·exact List.mem_append_left _ j
theorem MapL.update (h:MapL P k w m L) (K:Keyed P k) (ht:P.underlying t=some (.map k E)) {x:Value} {l:Lit} (b:keyOf P k x=some l) (v:Value) :
 ∃w' L',(Instr.mapUpdate t (.map (some m)) x v).run P w = .ok () w'/\MapL P k w' m L'/\Put L x v L'/\w.grownBy w' (some m)/\w'.heap.size=w.heap.size:=by
 obtain⟨es,cl,hb,_⟩:=h.ex;have Y:(getObj m).run P w = .ok (.map es cl) w:=by simp[getObj,Sem.run,hb]
 rcases h.find K b hb w with ⟨H,a⟩ | ⟨j,e,H,J,U,O⟩
 ·obtain⟨L',h1,h2⟩:=h.push (w1:= { w with heap:=w.heap.setIfInBounds m (.map (es.push { key:=x,val:=v,born:=cl }) (cl+1)) }) hb b a (BH h.lt);refine⟨_,L',?_,h1,h2,Br _,by simp⟩;simp only[Instr.mapUpdate,Sem.run_bind,run_underlying ht,Result.andThen_ok,Y,K.check w false b,H,CI hb]
 ·subst U;obtain⟨L',h1,h2⟩:=h.modify (w1:= { w with heap:=w.heap.setIfInBounds m (.map (es.modify j fun e'=> { e' with key:=e.key,val:=v }) cl) }) hb J v (f:=fun e'=> { e' with key:=e.key,val:=v }) rfl rfl rfl (BH h.lt);refine⟨_,L',?_,h1,h2,Br _,by simp⟩;simp only[Instr.mapUpdate,Sem.run_bind,run_underlying ht,Result.andThen_ok,Y,K.check w false b,H,J,Option.map_some,Option.getD_some,K.stays w b,CI hb]
theorem MapL.entry (h:MapL P k w m L) (K:Keyed P k) (ht:P.underlying t=some (.map k E)) {x z:Value} {l:Lit} (hx:keyOf P k x=some l) (hz:(zeroValue E).run P w = .ok z w) :
 ∃w' v n,(Instr.mapEntry t (.map (some m)) x).run P w = .ok (.tuple #[v,.int .i64 n]) w'/\((x,v)∈L\/(∀p∈L,p.1≠x)/\v=z)/\w.grownBy w' (some m)/\w'.heap.size=w.heap.size/\(∃L1,MapL P k w' m L1) /\
  ∀(w2:World) (u:Value),w2.heap[m]? = w'.heap[m]? ->
   ∃w3 L',(Instr.entryStore t (.map (some m)) (.int .i64 n) u).run P w2 = .ok () w3/\MapL P k w3 m L'/\Put L x u L'/\w2.grownBy w3 (some m)/\w3.heap.size=w2.heap.size:=by
 obtain⟨es,cl,hb,_,Z,n0⟩:=h.ex;have hg:(getObj m).run P w = .ok (.map es cl) w:=by simp[getObj,Sem.run,hb]
 have back:∀(es2:Array MapEntry) (cl2 j:Nat) (e0:MapEntry) (w2:World) (u:Value),w2.heap[m]? = some (.map es2 cl2)->es2[j]? = some e0->es2.toList.Pairwise (fun a b=>a.born≠b.born) ->
  (Instr.entryStore t (.map (some m)) (.int .i64 (e0.born:Int)) u).run P w2 = .ok () { w2 with heap:=w2.heap.setIfInBounds m (.map (es2.modify j fun e=> { e with val:=u }) cl2) }:=by
  intro es2 cl2 j e0 w2 u H G d0;have c0:(getObj m).run P w2 = .ok (.map es2 cl2) w2:=by simp[getObj,Sem.run,H]
  have J:j<es2.size:=(Array.getElem?_eq_some_iff.1 G).1;have y0:es2.findIdx? (fun e=>(e.born:Int)==(e0.born:Int))=some j:=by
   rw[Array.findIdx?_eq_some_iff_getElem];refine⟨J,?_,fun i hi=>?_⟩
   ·have:es2[j]=e0:=by
     have:=Array.getElem?_eq_getElem J;rw[G]at this;exact(Option.some.inj this).symm
    simp[this]
   ·have U:es2[i].born≠e0.born:=fun he=>by
     have:=MM d0 (Array.getElem?_eq_getElem (by omega:i<es2.size)) G he;omega
    simp;omega
  simp only[Instr.entryStore,Sem.run_bind,c0,Result.andThen_ok,asInt,asIntOf,Sem.run_pure,y0,CI H]
 rcases h.find K hx hb w with ⟨hr,T⟩ | ⟨j,e,hr,hj,he,hm⟩
 ·let w':World:= { w with heap:=w.heap.setIfInBounds m (.map (es.push { key:=x,val:=z,born:=cl }) (cl+1)) }
  have Y:w'.heap[m]? = some (.map (es.push { key:=x,val:=z,born:=cl }) (cl+1)):=BH h.lt;obtain⟨L1,h1,h2⟩:=h.push (w1:=w') hb hx T Y;refine⟨w',z,(cl:Int),?_,.inr ⟨T,rfl⟩,Br _,by simp[w'],⟨L1,h1⟩,fun w2 u H=>?_⟩
  ·simp only[Instr.mapEntry,Sem.run_bind,run_underlying ht,Result.andThen_ok,hg,K.check w false hx,hr,hz,CI hb,Sem.run_pure,goInt];rfl
  ·have q0:(es.push { key:=x,val:=z,born:=cl })[es.size]? = some { key:=x,val:=z,born:=cl }:=by simp
   obtain⟨⟨es1,cl1,j0,_,v0,_⟩,_⟩:=id h1;rw[Y]at j0;cases j0;have I:=back _ _ _ _ w2 u (H.trans Y) q0 v0;have J:m<w2.heap.size:=(Array.getElem?_eq_some_iff.1 (H.trans Y)).1;obtain⟨L2,h3,h4⟩:=(h1.keep H).modify (w1:= { w2 with heap:=w2.heap.setIfInBounds m (.map ((es.push { key:=x,val:=z,born:=cl }).modify es.size fun e=> { e with val:=u }) (cl+1)) }) (H.trans Y) q0 u (f:=fun e=> { e with val:=u }) rfl rfl rfl (BH J);refine⟨_,L2,I,h3,⟨fun p=>?_,?_⟩,Br _,by simp⟩
   ·rw[h4.mem p];constructor
    ·rintro(rfl | ⟨hp,U⟩)
     ·exact .inl rfl
     ·rcases (h2.mem p).1 hp with rfl | hp
      ·exact absurd rfl U
      ·exact .inr hp
    ·rintro(rfl | ⟨hp,U⟩)
     ·exact .inl rfl
     ·exact .inr ⟨(h2.mem p).2 (.inr ⟨hp,U⟩),U⟩
   ·refine .inr ⟨T,?_⟩;rcases h2.len with ⟨⟨u',i0⟩,_⟩ | ⟨_,hl⟩
    ·exact absurd rfl (T _ i0)
    ·rcases h4.len with ⟨_,o0⟩ | ⟨p0,_⟩
     ·omega
     ·exact absurd rfl (p0 (x,z) ((h2.mem _).2 (.inl rfl)))
 ·subst he
  let w':World:= { w with heap:=w.heap.setIfInBounds m (.map (es.modify j fun e'=> { e' with key:=e.key }) cl) }
  have r0:j<es.size:=(Array.getElem?_eq_some_iff.1 hj).1;have O:es.modify j (fun e'=> { e' with key:=e.key })=es:=by
   apply Array.ext_getElem?;intro i;rw[Array.getElem?_modify];split
   ·rename_i hi;subst hi;rw[hj];rfl
   ·rfl
  have Y:w'.heap[m]? = some (.map es cl):=by
   have:=BH (w:=w) (m:=m) (o:= .map (es.modify j fun e'=> { e' with key:=e.key }) cl) h.lt;rw[O]at this;simpa [w',O]using this
  refine⟨w',e.val,(e.born:Int),?_,.inl hm,Br _,by simp[w'],⟨L,h.keep (Y.trans hb.symm)⟩,fun w2 u H=>?_⟩
  ·simp only[Instr.mapEntry,Sem.run_bind,run_underlying ht,Result.andThen_ok,hg,K.check w false hx,hr,hj,Option.map_some,Option.getD_some,K.stays w hx,CI hb,Sem.run_pure,goInt];rfl
  ·have I:=back es cl j e w2 u (H.trans Y) hj Z;have J:m<w2.heap.size:=(Array.getElem?_eq_some_iff.1 (H.trans Y)).1;obtain⟨L2,h3,h4⟩:=(h.keep ((H.trans Y).trans hb.symm)).modify (w1:= { w2 with heap:=w2.heap.setIfInBounds m (.map (es.modify j fun e=> { e with val:=u }) cl) }) (H.trans Y) hj u (f:=fun e=> { e with val:=u }) rfl rfl rfl (BH J);exact⟨_,L2,I,h3,h4,Br _,by simp⟩
end
end
section
open Go.RowKit
attribute [local go_sem] Oper.semAt_some AP Cp
def KpT (B:Nat) (W W':World):Prop:=(∀w0:World,w0.heap.size<=B->Ext w0 W->Ext w0 W')/\∀g t cs,t≠155->t≠157->Row W g t cs->Row W' g t cs
theorem KpT.trans (B:Nat) (A C D:World) (h:KpT B A C) (k:KpT B C D):KpT B A D:=⟨fun w0 j b=>k.1 w0 j (h.1 w0 j b),fun g t cs h1 h2 a=>k.2 g t cs h1 h2 (h.2 g t cs h1 h2 a)⟩
theorem KpT.alike {B X:Nat} (a:B<=X) (A C:World) (h:Alike X A C):KpT B A C:=⟨fun _ hs j=>h.ext j (by omega),fun _ _ _ _ _ b=>h.row b⟩
theorem KpT.ext {A C:World} (h:Ext A C):KpT B A C:=⟨fun _ _ j=>j.trans h,fun _ _ _ _ _ b=>b.ext h⟩
def fdV (f:Fd):Value:= .agg #[.string ⟨f.1.toArray⟩,.string ⟨f.2.toArray⟩]
def BsIter (fs:List Fd) (B b0:Nat) (w:World):Prop :=
 Iter prog 172 #[.pointer (some ⟨b0,0,none⟩)] (fun x:Nat×Fd=>#[.int .i64 (x.1:Int),fdV x.2]) Ext (fun pre x _=>fs[pre.length]? = some x.2/\x.1=baseT 0 (fs.take pre.length)) (KpT B) (fun xs A C=>xs.length=fs.length/\Ext A C) w
theorem Nk (at_:Int) (A:Option Addr) (n c:Nat) (w:World) :
 Calls prog 129 #[.agg #[.int .i64 at_,.slice A n c]] w fun e w'=>∃b0,e = .returned (.func (.func 172) #[] #[.pointer (some ⟨b0,0,none⟩)])/\Row w' b0 69 #[.int .i64 at_,.slice A n c]/\w.heap.size<=b0/\Ext w w':=by
 go_in
 go_wp2_with fail;go_ret;exact⟨w.heap.size,rfl,Row.new w _ _,Nat.le_refl _,(Ext.refl w).alloc _⟩
theorem Lf (at_:Int) (fs:List Fd) (A:Option Addr) (n c b0 B:Nat) (w0 w:World) (hn:n=fs.length) (hc:Cells w0 A (fcells fs)) (hB:w0.heap.size<=B) (hw:Ext w0 w) (f1:n<=1000) (G:∀f∈fs,f.2.length<=1000000)
 (H:Row w b0 69 #[.int .i64 at_,.slice A n c]):BsIter fs B b0 w:=by
 intro l J W I T hY h0;have n0:=Aa (fun l W h=>HL l W h);replace H:=Aa (H.ext I);replace hw:=Aa (hw.trans I);clear I;replace hY:=Aa hY;replace T:=Aa T;replace h0:=Aa h0;replace hn:=Aa hn;replace hc:=Aa hc;replace G:=Aa G;refine(callsIn_wide (n:=0)).1 ?_;refine callsIn_of_wp func172 rfl trivial ?_;simp only[ntmps172,List.size_toArray,List.length_cons,List.length_nil,Nat.reduceAdd,Nat.reduceSub,Array.replicate_succ,Array.replicate_zero,List.push_toArray,List.append_toArray,List.nil_append,List.cons_append];have k0:=H.out.cell 0 rfl;have k1:=H.out.cell 1 rfl;gi_wp2_with fail
 gi_loopw [3,9] (fun s3 s9 wr=>∃(i bs:Nat) (pre:List (Nat×Fd)),s3 = .int .i64 (bs:Int)/\s9 = .int .i64 (i:Int)/\i<=n/\bs<=i*1000100/\Hid (pre.length=i)/\Hid (bs=baseT 0 (fs.take i))/\Hid (J pre wr)/\Hid (Ext w0 wr)) (fun _ s9 _=>n - (intOf s9).toNat)
 case atStart=>exact⟨0,0,[],rfl,rfl,by omega,by omega,Aa rfl,Aa rfl,h0,hw⟩
 case round =>
  obtain⟨i,bs,pre,rfl,rfl,hi,d1,O,m0,hJ,I⟩:=hrel;by_cases l0:i<n
  ·obtain⟨f,hf⟩:∃f,fs[i]? = some f:=⟨_,List.getElem?_eq_getElem (by rw[<-hn.out];exact l0)⟩
   obtain⟨g,o,hA,x0,x1⟩:=Bg (hc.out.ext I.out) hf;subst hA;have i0:=G.out f (List.mem_of_getElem? hf);obtain⟨W2,j⟩:=Ab (wr.alloc (.cells #[.string ⟨f.1.toArray⟩,.string ⟨f.2.toArray⟩] 91));have a:Ext wr W2:=by rw[j];exact(Ext.refl wr).alloc _
   have r2:Row W2 wr.heap.size 91 #[.string ⟨f.1.toArray⟩,.string ⟨f.2.toArray⟩]:=by rw[j];exact Row.new wr _ _
   obtain⟨gd,Y⟩:=Ab wr.heap.size;rw[<-Y]at r2;have p0:=r2.cell 0 rfl;have p1:=r2.cell 1 rfl;have h1:=hY.out pre (bs,f) W2 (T.out _ _ _ hJ.out a) ⟨by rw[O.out];exact hf,by rw[O.out];exact m0.out⟩;obtain⟨fn,tmps,assign,body,hy,g0⟩:=h1;simp only[fdV]at hy g0;have v0:=CK f.2;have b:baseT 0 (fs.take (i+1))=bs+(64+(tokL f.2).length):=by
    rw[List.take_add_one,hf,Fx,<-m0.out];rfl
   obtain⟨nm,tx⟩:=f;simp only at x0 x1 i0 j r2 p0 p1 hy v0 b;unfold strV at x0 x1;obtain⟨nt,U⟩:=Ab ((tokL tx).length);rw[<-U]at v0 b;rw[j]at hy;replace hf:=Aa hf;replace j:=Aa j;replace Y:=Aa Y;replace r2:=Aa r2;replace a:=Aa (I.out.trans a);replace U:=Aa U;replace b:=Aa b;clear hY;gi_wp2_with fail;rw[<-j.out,<-Y.out];refine g0.mono ?_;rintro e W3 ⟨rfl,Z,t0⟩;have r3:=t0.2 _ _ _ (by decide) (by decide) r2.out;have q1:=r3.cell 1 rfl;have d0:=Aa (t0.1 w0 hB a.out);have f0:=Aa (n0.out tx W3 (by omega));replace Z:=Aa Z;gi_wp2_with fail;refine(callsIn_wide.2 f0.out).mono ?_;rintro e w4 hT;obtain⟨A4,c4,rfl,_,j0⟩:=hT;rw[<-U.out];gi_wp2_with fail;exact⟨⟨i+1,bs+(64+nt),pre ++ [(bs,(nm,tx))],by first | rfl | (congr 1;omega),by go_num,by omega,by omega,Aa (by rw[List.length_append,O.out];rfl),Aa b.out.symm,Aa (T.out _ _ _ Z.out j0),Aa (d0.out.trans j0)⟩,by simp only[intOf];omega⟩
  ·gi_wp2_with fail
   go_end0
   exact⟨⟨_,rfl⟩,pre,_,hJ.out,by rw[O.out,<-hn.out];omega,Ext.refl _⟩
end
section
open Go.RowKit
section
variable {β:Type}
def Srt (l:List (List UInt8×β)):Prop:=l.Pairwise fun x y=>¬ y.1<x.1
structure Stb (l m:List (List UInt8×β)):Prop where
  perm:m.Perm l
  vals:∀s,valsOf m s=valsOf l s
theorem Stb.refl (l:List (List UInt8×β)):Stb l l:=⟨List.Perm.refl _,fun _=>rfl⟩
variable {l m k A B A1 A2 B1 B2 M1 M2:List (List UInt8×β)}
theorem Stb.trans (h:Stb l m) (h2:Stb m k):Stb l k:=⟨h2.perm.trans h.perm,fun s=>(h2.vals s).trans (h.vals s)⟩
theorem Stb.app (h:Stb A M1) (h2:Stb B M2):Stb (A++B) (M1++M2):=⟨h.perm.append h2.perm,fun s=>by rw[AK,AK,h.vals,h2.vals]⟩
theorem Stb.mem (h:Stb l m) {x:List UInt8×β} (j:x∈m):x∈l:=h.perm.mem_iff.1 j
theorem Stb.len (h:Stb l m):m.length=l.length:=h.perm.length_eq
theorem Df {l:List (List UInt8×β)} (h:∀x∈l,¬ x.1=s):valsOf l s = []:=by
 unfold valsOf;rw[List.filter_eq_nil_iff.2 fun x j=>by simpa using h x j];rfl
theorem Stb.swap (h:∀x∈A,∀y∈B,¬ x.1=y.1):Stb (A++B) (B++A):=by
 refine⟨List.perm_append_comm,fun s=>?_⟩;rw[AK,AK];by_cases b:∃x∈A,x.1=s
 ·obtain⟨x,j,rfl⟩:=b;rw[Df fun y a e=>h x j y a e.symm,List.nil_append,List.append_nil]
 ·rw[Df fun x j e=>b ⟨x,j,e⟩,List.nil_append,List.append_nil]
theorem C6 {a b c:List UInt8} (h:¬ b<a) (k:¬ c<b):¬ c<a:=fun j=>h (by
 by_cases e:c=b
 ·rw[<-e];exact j
 ·exact List.lt_trans (Ex k e) j)
theorem Py {a b c:List UInt8} (h:a<b) (k:¬ c<b):a<c:=by
 by_cases e:c=b
 ·rw[e];exact h
 ·exact List.lt_trans h (Ex k e)
theorem PH {a b c:List UInt8} (h:¬ b<a) (k:b<c):a<c:=by
 by_cases e:b=a
 ·rw[<-e];exact k
 ·exact List.lt_trans (Ex h e) k
theorem RN {a b:List UInt8} (h:a<b):¬ b<a:=fun k=>List.lt_irrefl _ (List.lt_trans h k)
theorem Srt.left (h:Srt (A++B)):Srt A:=(List.pairwise_append.1 h).1
theorem Srt.right (h:Srt (A++B)):Srt B:=(List.pairwise_append.1 h).2.1
theorem HI (a:Srt (A1++A2)) (H:Srt (B1++B2)) (h1:∀x∈A1,∀y∈B2,¬ y.1<x.1) (h2:∀x∈B1,∀y∈A2,x.1<y.1) (s1:Stb (A1++B1) M1) (r1:Srt M1) (s2:Stb (A2++B2) M2) (r2:Srt M2) :
 Srt (M1++M2)/\Stb ((A1++A2)++(B1++B2)) (M1++M2):=by
 constructor
 ·refine List.pairwise_append.2 ⟨r1,r2,fun x j y h=>?_⟩;have j:=List.mem_append.1 (s1.mem j);have h:=List.mem_append.1 (s2.mem h);rcases j with j | j
  ·rcases h with h | h
   ·exact(List.pairwise_append.1 a).2.2 x j y h
   ·exact h1 x j y h
  ·rcases h with h | h
   ·exact RN (h2 x j y h)
   ·exact(List.pairwise_append.1 H).2.2 x j y h
 ·have hs:Stb (A2++B1) (B1++A2):=Stb.swap fun x j y h e=>by
   have:=h2 y h x j;rw[e]at this;exact List.lt_irrefl _ this
  have b:Stb ((A1++A2)++(B1++B2)) ((A1++B1)++(A2++B2)):=by
   have:=((Stb.refl A1).app hs).app (Stb.refl B2);simpa only[List.append_assoc]using this
  exact b.trans (s1.app s2)
theorem Srt.take_le (h:Srt l) {z:List UInt8×β} (O:l[i]? = some z):∀x∈l.take (i+1),¬ z.1<x.1:=by
 intro x U;obtain⟨j,H⟩:=List.getElem?_of_mem U;rw[List.getElem?_take]at H;split at H
 ·rename_i J;obtain⟨hi,b⟩:=List.getElem?_eq_some_iff.1 O;obtain⟨Y,a⟩:=List.getElem?_eq_some_iff.1 H;by_cases e:j=i
  ·subst e;rw[<-b,<-a];exact List.lt_irrefl _
  ·have:=List.pairwise_iff_getElem.1 h j i Y hi (by omega);rw[a,b]at this;exact this
 ·cases H
theorem Srt.drop_ge (h:Srt l) {z:List UInt8×β} (U:l[i]? = some z):∀x∈l.drop i,¬ x.1<z.1:=by
 intro x J;obtain⟨j,Y⟩:=List.getElem?_of_mem J;rw[List.getElem?_drop]at Y;obtain⟨hi,b⟩:=List.getElem?_eq_some_iff.1 U;obtain⟨H,a⟩:=List.getElem?_eq_some_iff.1 Y;by_cases e:j=0
 ·subst e;rw[<-b,<-a];exact List.lt_irrefl _
 ·have:=List.pairwise_iff_getElem.1 h i (i+j) hi H (by omega);rw[a,b]at this;exact this
structure CutP (A B:List (List UInt8×β)) (i j:Nat):Prop where
  ile:i<=A.length
  jle:j<=B.length
  lo:i=0\/j=B.length\/∃x y,A[i - 1]? = some x/\B[j]? = some y/\¬ y.1<x.1
  hi:i=A.length\/j=0\/∃x y,A[i]? = some x/\B[j - 1]? = some y/\y.1<x.1
theorem CutP.le {i j:Nat} (h:CutP A B i j) (U:Srt A) (O:Srt B):(∀x∈A.take i,∀y∈B.drop j,¬ y.1<x.1)/\(∀x∈B.take j,∀y∈A.drop i,x.1<y.1):=by
 constructor
 ·intro x b y H;rcases h.lo with e | e | ⟨u,v,Y,J,a⟩
  ·rw[e]at b;cases b
  ·rw[e,List.drop_length]at H;cases H
  ·by_cases e:i=0
   ·rw[e]at b;cases b
   ·have h1:=U.take_le Y x (by rw[show i - 1+1=i by omega];exact b);have h2:=O.drop_ge J y H;exact C6 h1 (C6 a h2)
 ·intro x b y H;rcases h.hi with e | e | ⟨u,v,Y,J,a⟩
  ·rw[e,List.drop_length]at H;cases H
  ·rw[e]at b;cases b
  ·by_cases e:j=0
   ·rw[e]at b;cases b
   ·have h1:=O.take_le J x (by rw[show j - 1+1=j by omega];exact b);have h2:=U.drop_ge Y y H;exact PH h1 (Py a h2)
def Mrg (A B M:List (List UInt8×β)):Prop:=Srt M/\Stb (A++B) M
theorem CutP.mrg {i j:Nat} (h:CutP A B i j) (Y:Srt A) (J:Srt B) (m1:Mrg (A.take i) (B.take j) M1) (m2:Mrg (A.drop i) (B.drop j) M2):Mrg A B (M1++M2):=by
 have H:=h.le Y J;have b:=Y;have a:=J;rw[<-List.take_append_drop i A]at b;rw[<-List.take_append_drop j B]at a;have:=HI b a H.1 H.2 m1.2 m1.1 m2.2 m2.1;rw[List.take_append_drop,List.take_append_drop]at this;exact this
theorem Mrg.nil_left (h:Srt B):Mrg [] B B:=⟨h,Stb.refl _⟩
theorem Mrg.nil_right (h:Srt A):Mrg A [] A:=⟨h,by rw[List.append_nil];exact Stb.refl _⟩
theorem PI {x:List UInt8×β} (H:Srt B) (b:∀y∈B.take i,y.1<x.1) (j:∀y∈B.drop i,¬ y.1<x.1):Mrg [x] B (B.take i++x::B.drop i):=by
 have h:=H;rw[<-List.take_append_drop i B]at h;have hs:Srt ([] ++ [x]:List (List UInt8×β)):=List.pairwise_singleton ..;have:=HI (A1:= []) (A2:= [x]) hs h (by simp) (fun y a z Y=>by rw[List.mem_singleton.1 Y];exact b y a) (M1:=B.take i) (by rw[List.nil_append];exact Stb.refl _) h.left (M2:=x::B.drop i) (Stb.refl _)
  (List.pairwise_cons.2 ⟨fun y a=>j y a,h.right⟩)
 rw[List.take_append_drop]at this;exact this
theorem IM {y:List UInt8×β} (Y:Srt A) (b:∀x∈A.take i,¬ y.1<x.1) (j:∀x∈A.drop i,y.1<x.1):Mrg A [y] (A.take i++y::A.drop i):=by
 have h:=Y;rw[<-List.take_append_drop i A]at h;have hs:Srt ([y] ++ []:List (List UInt8×β)):=List.pairwise_singleton ..;have:=HI (B1:= [y]) (B2:= []) h hs (by simp) (fun x a z H=>by rw[List.mem_singleton.1 a];exact j z H) (M1:=A.take i ++ [y]) (Stb.refl _)
  (List.pairwise_append.2 ⟨h.left,List.pairwise_singleton ..,fun x a z H=>by rw[List.mem_singleton.1 H];exact b x a⟩) (M2:=A.drop i) (by rw[List.append_nil];exact Stb.refl _) h.right
 rw[List.take_append_drop]at this;unfold Mrg;simpa only[List.append_assoc,List.singleton_append]using this
def Std (l m:List (List UInt8×β)):Prop:=Srt m/\Stb l m
theorem Std.mrg {l l' A B M:List (List UInt8×β)} (h:Std l A) (h2:Std l' B) (j:Mrg A B M):Std (l++l') M:=⟨j.1,(h.2.app h2.2).trans j.2⟩
end
end
section
open Go.RowKit
abbrev TmV:=List UInt8×(Option Addr×Nat×Nat)
def tcell (x:TmV):List Value:= [.string ⟨x.1.toArray⟩,.slice x.2.1 x.2.2.1 x.2.2.2]
def tcs (D:List TmV):List Value:=D.flatMap tcell
theorem Ft (D:List TmV):(tcs D).length=D.length*2:=AU (cellsA:=tcell) (k:=2) (fun _=>rfl) D
theorem Dv {D:List TmV} {x:TmV} (h:D[i]? = some x) {j:Nat} (b:j<2):(tcs D)[i*2+j]? = (tcell x)[j]? :=AW (cellsA:=tcell) (k:=2) (fun _=>rfl) D i x j h b
def TR (w:World) (g:Nat) (D:List TmV):Prop:=∃cs:Array Value,Row w g 157 cs/\∀(i:Nat) (v:Value),(tcs D)[i]? = some v->cs[i]? = some v
section
variable {w w1:World} {g:Nat} {D:List TmV}
theorem TR.lt (h:TR w g D):g<w.heap.size:=by obtain⟨cs,j,_⟩:=h;exact j.lt
theorem TR.free (h:TR w g D) (i:Nat):w.frozen? ⟨g,i,none⟩=false:=by obtain⟨cs,j,_⟩:=h;exact j.free i
theorem TR.at_ (h:TR w g D) {x:TmV} (H:D[i]? = some x):w.cell? ⟨g,i*2,none⟩=some (.string ⟨x.1.toArray⟩)/\w.cell? ⟨g,i*2+1,none⟩=some (.slice x.2.1 x.2.2.1 x.2.2.2):=by
 obtain⟨cs,a,b⟩:=h;exact⟨a.cell (i*2) (b _ _ (by have:=Dv H (j:=0) (by omega);rw[Nat.add_zero]at this;rw[this];rfl)),a.cell (i*2+1) (b _ _ (by rw[Dv H (j:=1) (by omega)];rfl))⟩
theorem TR.ext (h:TR w g D) (j:Ext w w1):TR w1 g D:=by obtain⟨cs,a,b⟩:=h;exact⟨cs,a.ext j,b⟩
theorem TR.drew (h:TR w g D):TR w.drew g D:=h.ext (Ext.refl w).drew
theorem Rc (D:List TmV) (i:Nat) (y:TmV) (hi:i<D.length) (k:Nat):(tcs (D.set i y))[k]? = if k=i*2 then some (.string ⟨y.1.toArray⟩) else if k=i*2+1 then some (.slice y.2.1 y.2.2.1 y.2.2.2) else (tcs D)[k]? :=by
 have hk:k=k / 2*2+k%2:=by omega
 by_cases j:k / 2<D.length
 ·have a:D[k / 2]? = some D[k / 2]:=List.getElem?_eq_getElem j;by_cases b:k / 2=i
  ·have h1:(D.set i y)[k / 2]? = some y:=by rw[List.getElem?_set,if_pos b.symm,if_pos (by omega)]
   rw[hk,Dv h1 (Nat.mod_lt _ (by omega))];rcases Nat.mod_two_eq_zero_or_one k with h | h
   ·rw[h,if_pos (by omega)];rfl
   ·rw[h,if_neg (by omega),if_pos (by omega)];rfl
  ·have h1:(D.set i y)[k / 2]? = some D[k / 2]:=by rw[List.getElem?_set,if_neg (fun e=>b e.symm),a]
   rw[hk,Dv h1 (Nat.mod_lt _ (by omega)),Dv a (Nat.mod_lt _ (by omega)),if_neg (by omega),if_neg (by omega)]
 ·rw[if_neg (by omega),if_neg (by omega),List.getElem?_eq_none (by rw[Ft,List.length_set];omega),List.getElem?_eq_none (by rw[Ft];omega)]
abbrev setT (w:World) (g i:Nat) (y:TmV):World:=(w.setCell ⟨g,i*2,none⟩ (.string ⟨y.1.toArray⟩)).setCell ⟨g,i*2+1,none⟩ (.slice y.2.1 y.2.2.1 y.2.2.2)
theorem TR.put (h:TR w g D) (hi:i<D.length) (y:TmV):TR (setT w g i y) g (D.set i y):=by
 obtain⟨cs,Z,a⟩:=h;refine⟨_,(Z.put (i*2) _).put (i*2+1) _,fun k v b=>?_⟩;have U:D[i]? = some D[i]:=List.getElem?_eq_getElem hi;have Y:i*2<cs.size:=by
  have O:=a (i*2) _ (by have:=Dv U (j:=0) (by omega);rw[Nat.add_zero]at this;exact this);exact(Array.getElem?_eq_some_iff.1 O).1
 have J:i*2+1<cs.size:=(Array.getElem?_eq_some_iff.1 (a (i*2+1) _ (Dv U (j:=1) (by omega)))).1;rw[Rc D i y hi]at b;rw[Array.getElem?_setIfInBounds,Array.getElem?_setIfInBounds];split at b
 ·rename_i H;subst H;rw[if_neg (by omega),if_pos rfl,if_pos Y];exact b
 ·split at b
  ·rename_i T H;subst H;rw[if_pos rfl,if_pos (by rw[Array.size_setIfInBounds];exact J)];exact b
  ·rename_i h1 h2;rw[if_neg (by omega),if_neg (by omega)];exact a k v b
theorem Cf (w:World) (g i:Nat) (y:TmV):Chg (fun k=>k=g) w (setT w g i y) :=
 (Chg.of_set (S:=fun k=>k=g) w (a:=⟨g,i*2,none⟩) _ rfl).trans (Chg.of_set (S:=fun k=>k=g) _ (a:=⟨g,i*2+1,none⟩) _ rfl) fun _ _ h=>h
end
def SwK (D D':List TmV) (a b k:Nat):Prop:=D'.length=D.length/\∀i,D'[i]? = if a<=i/\i<a+k then D[i - a+b]? else if b<=i/\i<b+k then D[i - b+a]? else D[i]?
theorem SwK.zero (D:List TmV) (a b:Nat):SwK D D a b 0:=⟨rfl,fun i=>by rw[if_neg (by omega),if_neg (by omega)]⟩
theorem SwK.next {D D':List TmV} {a b k n:Nat} {x y:TmV} (h:SwK D D' a b k) (hk:k<n) (hab:a+n<=b) (U:D'[a+k]? = some x) (O:D'[b+k]? = some y):SwK D ((D'.set (a+k) y).set (b+k) x) a b (k+1):=by
 obtain⟨T,j⟩:=h;refine⟨by rw[List.length_set,List.length_set,T],fun i=>?_⟩;have J:=j (a+k);rw[if_neg (by omega),if_neg (by omega),U]at J;have hb:=j (b+k);rw[if_neg (by omega),if_neg (by omega),O]at hb;have H:=(List.getElem?_eq_some_iff.1 U).1;have Y:=(List.getElem?_eq_some_iff.1 O).1;rw[List.getElem?_set,List.getElem?_set,List.length_set];by_cases e1:b+k=i
 ·subst e1;rw[if_pos rfl,if_pos Y,if_neg (by omega),if_pos (by omega),show b+k - b+a=a+k by omega];exact J
 ·rw[if_neg e1];by_cases e2:a+k=i
  ·subst e2;rw[if_pos rfl,if_pos H,if_pos (by omega),show a+k - a+b=b+k by omega];exact hb
  ·rw[if_neg e2,j i];by_cases c1:a<=i/\i<a+k
   ·rw[if_pos c1,if_pos (show a<=i/\i<a+(k+1)by omega)]
   ·rw[if_neg c1,if_neg (show ¬ (a<=i/\i<a+(k+1))by omega)];by_cases c2:b<=i/\i<b+k
    ·rw[if_pos c2,if_pos (show b<=i/\i<b+(k+1)by omega)]
    ·rw[if_neg c2,if_neg (show ¬ (b<=i/\i<b+(k+1))by omega)]
theorem Ic (g c a b n:Nat) (D:List TmV) (f:Value) (w:World) (h:TR w g D) (hab:a+n<=b) (hb:b+n<=D.length) (hD:D.length<=1073741824) :
 Calls prog 234 #[.slice (some ⟨g,0,none⟩) D.length c,.int .i64 (a:Int),.int .i64 (b:Int),.int .i64 (n:Int),f] w fun e w'=>e = .returned (.tuple #[])/\∃D',SwK D D' a b n/\TR w' g D'/\Chg (fun k=>k=g) w w':=by
 obtain⟨dl,j⟩:∃n,n=D.length:=⟨_,rfl⟩
 rw[<-j]at hb hD ⊢;replace h:=Aa h;replace j:=Aa j
 go_in
 go_wp2_with fail
 go_loopw [10] (fun s10 wr=>∃(k:Nat) (E:List TmV),s10 = .int .i64 (k:Int)/\k<=n/\Hid (SwK D E a b k/\TR wr g E/\Chg (fun k=>k=g) w wr)) (fun s10 _=>n - (intOf s10).toNat)
 case atStart=>exact⟨0,D,rfl,by omega,Aa ⟨SwK.zero D a b,h.out,Chg.refl _ _⟩⟩
 case round =>
  obtain⟨k,E,rfl,hk,H⟩:=hrel;by_cases I:k<n
  ·have hl:=H.out.1.1;have U:=j.out;obtain⟨x,Z⟩:∃x,E[a+k]? = some x:=⟨_,List.getElem?_eq_getElem (by omega)⟩
   obtain⟨y,G⟩:∃y,E[b+k]? = some y:=⟨_,List.getElem?_eq_getElem (by omega)⟩
   have Y:=H.out.2.1.at_ Z;have J:=H.out.2.1.at_ G;have x0:=Y.1;have x1:=Y.2;have y0:=J.1;have y1:=J.2;have fr:=H.out.2.1.free;clear hl U Y J;replace Z:=Aa Z;replace G:=Aa G;go_wp2_with fail;refine AE (fun K hK=>?_);go_wp2_with fail;refine⟨by kernel_rfl,?_⟩;go_wp2_with fail;have O:=Z.out;have T:=G.out;have hN:=H.out.1.next I hab O T;have h1:=H.out.2.1.put (i:=a+k) (List.getElem?_eq_some_iff.1 O).1 y;have h2:=h1.put (i:=b+k) (by rw[List.length_set];exact(List.getElem?_eq_some_iff.1 T).1) x;have hc:=(H.out.2.2.trans (Cf wr g (a+k) y) fun _ _ h=>h).trans (Cf _ g (b+k) x) fun _ _ h=>h;go_roundw
   case rel=>exact⟨k+1,_,by go_num,by omega,Aa ⟨hN,h2.drew,hc.trans (Chg.of_ext (Ext.refl _).drew _) fun _ _ h=>h⟩⟩
   case measure=>simp[intOf];omega
  ·go_wp2_with fail
   go_end0
   obtain rfl:k=n:=by omega
   exact⟨rfl,E,H.out⟩
end
section
open Go.RowKit
theorem MC {E E' P X Y Z Q:List TmV} {a b n:Nat} (h:SwK E E' a b n) (O:E=P++(X++(Y++(Z++Q)))) (j:X.length=n) (H:Z.length=n) (T:a=P.length) (hb:b=P.length+X.length+Y.length):E'=P++(Z++(Y++(X++Q))):=by
 refine List.ext_getElem? fun i=>?_;rw[h.2 i,O];simp only[List.getElem?_append];subst T hb;by_cases h1:i<P.length
 ·rw[if_neg (show ¬ (P.length<=i/\i<P.length+n)by omega),if_neg (show ¬ (P.length+X.length+Y.length<=i/\i<P.length+X.length+Y.length+n)by omega)];simp only[if_pos h1]
 ·by_cases h2:i - P.length<n
  ·rw[if_pos (show P.length<=i/\i<P.length+n by omega)];simp only[if_neg h1,j,H,if_pos h2];rw[if_neg (by omega),if_neg (by omega),if_neg (by omega),if_pos (by omega)];congr 1;omega
  ·rw[if_neg (show ¬ (P.length<=i/\i<P.length+n)by omega)];by_cases J:i - P.length - n<Y.length
   ·rw[if_neg (show ¬ (P.length+X.length+Y.length<=i/\i<P.length+X.length+Y.length+n)by omega)];simp only[if_neg h1,j,H,if_neg h2,if_pos J]
   ·by_cases U:i - P.length - n - Y.length<n
    ·rw[if_pos (show P.length+X.length+Y.length<=i/\i<P.length+X.length+Y.length+n by omega)];simp only[if_neg h1,j,H,if_neg h2,if_neg J,if_pos U];rw[if_neg (by omega),if_pos (by omega)];congr 1;omega
    ·rw[if_neg (show ¬ (P.length+X.length+Y.length<=i/\i<P.length+X.length+Y.length+n)by omega)];simp only[if_neg h1,j,H,if_neg h2,if_neg J,if_neg U]
structure RotI (T E:List TmV) (m i j:Nat):Prop where
  ex:∃P U V Q:List TmV,E=P++(U++(V++Q))/\P.length+i=m/\U.length=i/\V.length=j/\T=P++(V++(U++Q))
  i0:0<i
  j0:0<j
theorem RotI.len {T E:List TmV} {m i j:Nat} (h:RotI T E m i j):i<=m/\m+j<=E.length/\E.length=T.length:=by
 obtain⟨P,U,V,Q,b,H,Y,J,a⟩:=h.ex;rw[b,a];simp only[List.length_append];omega
theorem RotI.left {T E E':List TmV} {m i j:Nat} (h:RotI T E m i j) (O:j<i) (hs:SwK E E' (m - i) m j):RotI T E' m (i - j) j:=by
 obtain⟨P,U,V,Q,a,G,I,J,H⟩:=h.ex;have b:=MC (P:=P) (X:=U.take j) (Y:=U.drop j) (Z:=V) (Q:=Q) hs (by rw[a,<-List.append_assoc (U.take j),List.take_append_drop]) (by rw[List.length_take];omega) J (by omega) (by rw[List.length_take,List.length_drop];omega);refine⟨⟨P++V,U.drop j,U.take j,Q,?_,?_,?_,?_,?_⟩,by omega,h.j0⟩
 ·rw[b];simp only[List.append_assoc]
 ·rw[List.length_append];omega
 ·rw[List.length_drop];omega
 ·rw[List.length_take];omega
 ·rw[H,List.append_assoc,<-List.append_assoc (U.take j),List.take_append_drop]
theorem RotI.right {T E E':List TmV} {m i j:Nat} (h:RotI T E m i j) (G:i<j) (hs:SwK E E' (m - i) (m+j - i) i):RotI T E' m i (j - i):=by
 obtain⟨P,U,V,Q,a,H,O,I,J⟩:=h.ex;have b:=MC (P:=P) (X:=U) (Y:=V.take (j - i)) (Z:=V.drop (j - i)) (Q:=Q) hs (by rw[a,<-List.append_assoc (V.take (j - i)),List.take_append_drop]) O (by rw[List.length_drop];omega) (by omega) (by rw[List.length_take];omega);refine⟨⟨P,V.drop (j - i),V.take (j - i),U++Q,?_,H,?_,?_,?_⟩,h.i0,by omega⟩
 ·rw[b]
 ·rw[List.length_drop];omega
 ·rw[List.length_take];omega
 ·rw[J,<-List.append_assoc (V.take (j - i)),List.take_append_drop]
theorem RotI.last {T E E':List TmV} (h:RotI T E m i i) (hs:SwK E E' (m - i) m i):E'=T:=by
 obtain⟨P,U,V,Q,b,O,H,J,a⟩:=h.ex;have j:=MC (P:=P) (X:=U) (Y:= []) (Z:=V) (Q:=Q) hs (by rw[b];rfl) H J (by omega) (by simp;omega);rw[j,a];rfl
theorem Ml (g c a m b:Nat) (D T:List TmV) (f:Value) (w:World) (h:TR w g D) (hR:RotI T D m (m - a) (b - m)) (c0:a<m) (n0:m<b) (hD:D.length<=1073741824) :
 Calls prog 225 #[.slice (some ⟨g,0,none⟩) D.length c,.int .i64 (a:Int),.int .i64 (m:Int),.int .i64 (b:Int),f] w fun e w'=>e = .returned (.tuple #[])/\TR w' g T/\Chg (fun k=>k=g) w w':=by
 have hlen:=hR.len;obtain⟨dl,I⟩:∃n,n=D.length:=⟨_,rfl⟩
 rw[<-I]at hD hlen ⊢;have Z:∀(a b n:Nat) (E:List TmV) (x:World),TR x g E->E.length=dl->a+n<=b->b+n<=dl->Calls prog 234 #[.slice (some ⟨g,0,none⟩) dl c,.int .i64 (a:Int),.int .i64 (b:Int),.int .i64 (n:Int),f] x fun e w'=>e = .returned (.tuple #[])/\∃D',SwK E D' a b n/\TR w' g D'/\Chg (fun k=>k=g) x w':=fun a b n E x hx hE hab hb=>by
  have:=Ic g c a b n E f x hx hab (by omega) (by omega);rw[hE]at this;exact this
 have hT:T.length=dl:=hlen.2.2.symm;have o0:m<=1073741824:=by omega
 have d0:b<=1073741824:=by omega
 have G:((b:Int) - (m:Int))=((b - m:Nat):Int):=by omega
 have h0:((m:Int) - (a:Int))=((m - a:Nat):Int):=by omega
 replace h:=Aa h;replace hR:=Aa hR;replace Z:=Aa Z;replace I:=Aa I;replace hlen:=Aa hlen;replace hT:=Aa hT;replace G:=Aa G;replace h0:=Aa h0
 go_in
 go_wp2_with fail;rw[h0.out,G.out]
 go_loopw [10,11] (fun s10 s11 wr=>∃(i j:Nat) (E:List TmV),s10 = .int .i64 (i:Int)/\s11 = .int .i64 (j:Int)/\i<=1073741824/\j<=1073741824/\Hid (RotI T E m i j/\TR wr g E/\Chg (fun k=>k=g) w wr)) (fun s10 s11 _=>(intOf s10).toNat+(intOf s11).toNat)
 case atStart=>exact⟨m - a,b - m,D,rfl,rfl,by omega,by omega,Aa ⟨hR.out,h.out,Chg.refl _ _⟩⟩
 case round =>
  obtain⟨i,j,E,rfl,rfl,hi,hj,O⟩:=hrel;have hl:=O.out.1.len;have e0:=O.out.1.i0;have l0:=O.out.1.j0;have Y:E.length=dl:=by have:=hT.out;omega
  have J:((m:Int) - (i:Int))=((m - i:Nat):Int):=by omega
  have U:((m:Int)+(j:Int) - (i:Int))=((m+j - i:Nat):Int):=by omega
  by_cases t0:i=j
  ·subst t0;have hs:=Aa (Z.out (m - i) m i E wr O.out.2.1 Y (by omega) (by omega));replace J:=Aa J;replace U:=Aa U;replace Y:=Aa Y;go_wp2_with fail;rw[J.out];refine hs.out.mono ?_;rintro e w1 ⟨rfl,E',hk,hr,hc⟩;obtain rfl:=O.out.1.last hk;go_wp2_with fail
   go_end0
   exact⟨rfl,hr,O.out.2.2.trans hc fun _ _ h=>h⟩
  ·have r0:¬ (i:Int)=(j:Int):=by omega
   by_cases v0:j<i
   ·have hs:=Aa (Z.out (m - i) m j E wr O.out.2.1 Y (by omega) (by omega));have H:((i:Int) - (j:Int))=((i - j:Nat):Int):=by omega
    replace J:=Aa J;replace U:=Aa U;replace Y:=Aa Y;replace H:=Aa H;go_wp2_with fail;rw[J.out];refine hs.out.mono ?_;rintro e w1 ⟨rfl,E',hk,hr,hc⟩;have hN:=O.out.1.left v0 hk;replace hk:=Aa hk;go_wp2_with fail;go_roundw
    case rel=>exact⟨i - j,j,E',by rw[H.out],rfl,by omega,hj,Aa ⟨hN,hr,O.out.2.2.trans hc fun _ _ h=>h⟩⟩
    case measure=>simp[intOf];omega
   ·have hs:=Aa (Z.out (m - i) (m+j - i) i E wr O.out.2.1 Y (by omega) (by omega));have H:((j:Int) - (i:Int))=((j - i:Nat):Int):=by omega
    replace J:=Aa J;replace U:=Aa U;replace Y:=Aa Y;replace H:=Aa H;go_wp2_with fail;rw[J.out,U.out];refine hs.out.mono ?_;rintro e w1 ⟨rfl,E',hk,hr,hc⟩;have hN:=O.out.1.right (by omega) hk;replace hk:=Aa hk;go_wp2_with fail;go_roundw
    case rel=>exact⟨i,j - i,E',rfl,by rw[H.out],hi,by omega,Aa ⟨hN,hr,O.out.2.2.trans hc fun _ _ h=>h⟩⟩
    case measure=>simp[intOf];omega
theorem MO:∀(a b:List UInt8),(Lib.compareBytes a b<0↔a<b) /\ -1<=Lib.compareBytes a b/\Lib.compareBytes a b<=1
 | [],[]=>⟨by simp[Lib.compareBytes],by simp[Lib.compareBytes],by simp[Lib.compareBytes]⟩
 | [],_::_=>⟨by simp[Lib.compareBytes],by simp[Lib.compareBytes],by simp[Lib.compareBytes]⟩
 | _::_,[]=>⟨by simp[Lib.compareBytes],by simp[Lib.compareBytes],by simp[Lib.compareBytes]⟩
 | x::xs,y::ys=>by
  have ih:=MO xs ys;rw[Lib.compareBytes,List.cons_lt_cons_iff];by_cases h1:x<y
  ·rw[if_pos h1];exact⟨⟨fun _=> .inl h1,fun _=>by decide⟩,by decide,by decide⟩
  ·rw[if_neg h1];by_cases h2:y<x
   ·rw[if_pos h2];refine⟨⟨fun h=>absurd h (by decide),fun h=>?_⟩,by decide,by decide⟩;rcases h with h | ⟨h,_⟩
    ·exact absurd h h1
    ·rw[h]at h2;exact absurd h2 (UInt8.lt_irrefl _)
   ·rw[if_neg h2];have j:x=y:=UInt8.le_antisymm (UInt8.not_lt.1 h2) (UInt8.not_lt.1 h1);refine⟨⟨fun h=> .inr ⟨j,ih.1.1 h⟩,fun h=>?_⟩,ih.2⟩;rcases h with h | ⟨_,h⟩
    ·exact absurd h h1
    ·exact ih.1.2 h
def tagg (x:TmV):Value:= .agg #[.string ⟨x.1.toArray⟩,.slice x.2.1 x.2.2.1 x.2.2.2]
def cmpV:Value:= .func (.func 132) #[] #[]
def CmpP (x y:TmV) (w:World) (e:Ending) (w':World):Prop:=∃z:Int,e = .returned (.int .i64 z)/\(z<0↔x.1<y.1) /\ -1<=z/\z<=1/\Ext w w'
theorem Fs (x y:TmV) (w:World):Calls prog 132 #[tagg x,tagg y] w (CmpP x y w):=by
 have j:=Aa (fun W=>Tryz.strings_Compare ⟨x.1.toArray⟩ ⟨y.1.toArray⟩ W);unfold tagg
 go_in
 go_wp2_with fail;refine(j.out _).mono ?_;rintro e w1 ⟨rfl,rfl⟩;go_wp2_with fail;go_ret;have h:=MO x.1 y.1;exact⟨_,rfl,h.1,h.2.1,h.2.2,((Ext.refl w).alloc _).alloc _⟩
structure InsI (D E P X Q:List TmV) (i:Nat):Prop where
  hi:P.length<=i/\i<=P.length+X.length
  ex:∃S,E=P++(S++(X.drop (i - P.length)++Q))/\Std (X.take (i - P.length)) S
structure InsJ (E P S R:List TmV) (z:TmV) (k:Nat):Prop where
  hk:k<=S.length
  eq:E=P++(S.take k++z::(S.drop k++R))
  gt:∀y∈S.drop k,z.1<y.1
theorem InsJ.len {E P S R:List TmV} {z:TmV} (h:InsJ E P S R z k):E.length=P.length+S.length+1+R.length:=by
 rw[h.eq];simp only[List.length_append,List.length_cons,List.length_take,List.length_drop];have:=h.hk;omega
theorem InsJ.here {E P S R:List TmV} {z:TmV} (h:InsJ E P S R z k):E[P.length+k]? = some z:=by
 have:=h.hk;rw[h.eq,List.getElem?_append_right (by omega),List.getElem?_append_right (by rw[List.length_take];omega),List.length_take,show P.length+k - P.length - min k S.length=0 by omega];rfl
theorem InsJ.ahead {E P S R:List TmV} {z:TmV} (h:InsJ E P S R z (k+1)):∃y,E[P.length+k]? = some y/\S[k]? = some y:=by
 have:=h.hk;obtain⟨y,j⟩:∃y,S[k]? = some y:=⟨_,List.getElem?_eq_getElem (by omega)⟩
 refine⟨y,?_,j⟩;rw[h.eq,List.getElem?_append_right (by omega),List.getElem?_append_left (by rw[List.length_take];omega),show P.length+k - P.length=k by omega,List.getElem?_take,if_pos (by omega)];exact j
theorem Hr {α:Type} (y z:α) (B:List α):∀A:List α,((A++y::z::B).set (A.length+1) y).set A.length z=A++z::y::B
 | []=>rfl
 | a::A=>by simp[Hr y z B A]
theorem InsJ.next {E P S R:List TmV} {z y:TmV} (h:InsJ E P S R z (k+1)) (H:S[k]? = some y) (b:z.1<y.1):InsJ ((E.set (P.length+(k+1)) y).set (P.length+k) z) P S R z k:=by
 have hk:=h.hk;have hd:S.drop k=y::S.drop (k+1):=by
  obtain⟨j,Y⟩:=List.getElem?_eq_some_iff.1 H;rw[List.drop_eq_getElem_cons j,Y]
 have ht:S.take (k+1)=S.take k ++ [y]:=by rw[List.take_succ_eq_append_getElem (by omega)];congr 2;exact(List.getElem?_eq_some_iff.1 H).2
 refine⟨by omega,?_,?_⟩
 ·have j:(P++S.take k).length=P.length+k:=by rw[List.length_append,List.length_take];omega
  have:=Hr y z (S.drop (k+1)++R) (P++S.take k);rw[j]at this;rw[h.eq,ht,hd,show P++(S.take k ++ [y]++z::(S.drop (k+1)++R))=(P++S.take k)++y::z::(S.drop (k+1)++R)by simp,<-Nat.add_assoc,this];simp
 ·rw[hd];intro x a;rcases List.mem_cons.1 a with rfl | a
  ·exact b
  ·exact h.gt x a
theorem InsJ.start {D E P X Q S:List TmV} {z:TmV} (h:E=P++(S++(X.drop (i - P.length)++Q))) (H:Std (X.take (i - P.length)) S) (a:X[i - P.length]? = some z):InsJ E P S (X.drop (i - P.length+1)++Q) z S.length:=by
 obtain⟨b,j⟩:=List.getElem?_eq_some_iff.1 a;refine⟨Nat.le_refl _,?_,by rw[List.drop_length];nofun⟩;rw[h,List.take_length,List.drop_length,List.nil_append,List.drop_eq_getElem_cons b,j];rfl
theorem InsJ.done {D E P X Q S:List TmV} {z:TmV} (h:InsJ E P S (X.drop (i - P.length+1)++Q) z k) (b:Std (X.take (i - P.length)) S) (T:X[i - P.length]? = some z) (Y:P.length<=i) (a:k=0\/∃y,S[k - 1]? = some y/\¬ z.1<y.1):InsI D E P X Q (i+1):=by
 obtain⟨U,J⟩:=List.getElem?_eq_some_iff.1 T;refine⟨⟨by omega,by omega⟩,S.take k++z::S.drop k,?_,?_⟩
 ·rw[h.eq,show i+1 - P.length=i - P.length+1 by omega];simp only[List.append_assoc,List.cons_append]
 ·rw[show i+1 - P.length=i - P.length+1 by omega,List.take_succ_eq_append_getElem U,J];have h1:Std [z] [z]:=⟨List.pairwise_singleton ..,Stb.refl _⟩
  refine b.mrg h1 (IM b.1 (fun x j=>?_) h.gt);rcases a with rfl | ⟨y,O,H⟩
  ·cases j
  ·by_cases e:k=0
   ·rw[e]at j;cases j
   ·exact C6 (b.1.take_le O x (by rw[show k - 1+1=k by omega];exact j)) H
theorem HW (g c a b : Nat) (D P X Q : List TmV) (w : World) (h : TR w g D) (hD : D = P ++ (X ++ Q)) (ha : a = P.length) (hb : b = P.length + X.length) (n0 : D.length ≤ 1073741824) :
    Calls prog 201 #[.slice (some ⟨g, 0, none⟩) D.length c, .int .i64 (a : Int), .int .i64 (b : Int), cmpV] w fun e w' => e = .returned (.tuple #[]) ∧ ∃ S, Std X S ∧ TR w' g (P ++ (S ++ Q)) ∧ Chg (fun k => k = g) w w' := by
  obtain ⟨dl, I⟩ : ∃ n, n = D.length := ⟨_, rfl⟩
  have r3 : b ≤ dl := by rw [I, hD]; simp only [List.length_append]; omega
  rw [← I] at n0 ⊢
  have f3 : a ≤ 1073741824 := by omega
  have i3 : b ≤ 1073741824 := by omega
  unfold cmpV
  by_cases hX : X = []
  · have t3 : b = a := by rw [hb, ha, hX]; rfl
    subst t3
    have Y : TR w g (P ++ ([] ++ Q)) := by rw [← hX, ← hD]; exact h
    have j0 : Std X [] := by rw [hX]; exact ⟨List.Pairwise.nil, Stb.refl _⟩
    replace Y := Aa Y
    replace j0 := Aa j0
    clear hX hD ha hb h I
    go_in
    go_wp2_with fail
    go_loopw [8] (fun s8 wr => s8 = .int .i64 ((b : Int) + 1) ∧ wr = w) (fun _ _ => 0)
    case atStart => exact ⟨rfl, rfl⟩
    case round =>
      obtain ⟨rfl, rfl⟩ := hrel
      have p0 : ¬ ((b : Int) + 1 < (b : Int)) := by omega
      go_wp2_with fail
      go_end0
      exact ⟨rfl, [], j0.out, Y.out, Chg.refl _ _⟩
  · have o3 : 0 < X.length := List.length_pos_iff.2 hX
    have hI : InsI D D P X Q (a + 1) := ⟨⟨by omega, by omega⟩, X.take 1, by
      rw [show a + 1 - P.length = 1 by omega, ← List.append_assoc (X.take 1), List.take_append_drop]; exact hD, by
      rw [show a + 1 - P.length = 1 by omega]
      refine ⟨?_, Stb.refl _⟩
      cases X with
      | nil => exact absurd rfl hX
      | cons x X => exact List.pairwise_singleton ..⟩
    replace h := Aa h
    replace hD := Aa hD
    replace I := Aa I
    replace hI := Aa hI
    replace ha := Aa ha
    replace hb := Aa hb
    have G := fun x y W => Fs x y W
    unfold tagg at G
    replace G := Aa G
    clear hX
    go_in
    go_wp2_with fail
    go_loopw [8] (fun s8 wr => ∃ (i : Nat) (E : List TmV), s8 = .int .i64 (i : Int) ∧ i ≤ b ∧ Hid (a < i ∧ InsI D E P X Q i ∧ TR wr g E ∧ Chg (fun k => k = g) w wr)) (fun s8 _ => b - (intOf s8).toNat)
    case atStart => exact ⟨a + 1, D, by go_num, by have := hb.out; have := ha.out; omega, Aa ⟨by omega, hI.out, h.out, Chg.refl _ _⟩⟩
    case round =>
      obtain ⟨i, E, rfl, hi, hJ⟩ := hrel
      obtain ⟨wo, rfl⟩ := Ab wr
      by_cases q4 : i < b
      · obtain ⟨j3, ⟨hi1, S, hE, hS⟩, hT, hC⟩ := hJ.out
        have J := ha.out
        have m3 := hb.out
        obtain ⟨z, hz⟩ : ∃ z, X[i - P.length]? = some z := ⟨_, List.getElem?_eq_getElem (by omega)⟩
        have k3 : S.length = i - P.length := by rw [hS.2.len, List.length_take]; omega
        have k0 := InsJ.start (D := D) hE hS hz
        have H := fun (E' : List TmV) (k : Nat) (h : InsJ E' P S (X.drop (i - P.length + 1) ++ Q) z k) (n0 : k = 0 ∨ ∃ y, S[k - 1]? = some y ∧ ¬ z.1 < y.1) => h.done (D := D) hS hz hi1.1 n0
        have hlen := k0.len
        have y2 : E.length = dl := by rw [I.out, hD.out, hlen]; simp only [List.length_append, List.length_drop]; omega
        obtain ⟨R, hR⟩ := Ab (X.drop (i - P.length + 1) ++ Q)
        rw [← hR] at k0 H hlen
        have t0 : P.length + S.length + 1 + R.length = dl := by omega
        have f0 : i = a + S.length := by omega
        replace k0 := Aa k0
        replace H := Aa H
        replace hT := Aa hT
        replace hC := Aa hC
        replace t0 := Aa t0
        replace f0 := Aa f0
        replace J := Aa J
        clear hE hS hz hlen y2 hR hJ hI h m3 k3 hi1
        go_wp2_with fail
        go_loopw [9] (fun s9 wr => ∃ (j k : Nat) (E : List TmV), s9 = .int .i64 (j : Int) ∧ j ≤ i ∧ Hid (j = a + k ∧ InsJ E P S R z k ∧ TR wr g E ∧ Chg (fun k => k = g) w wr)) (fun s9 _ => (intOf s9).toNat)
        case atStart => exact ⟨i, S.length, E, rfl, Nat.le_refl _, Aa ⟨f0.out, k0.out, hT.out, hC.out⟩⟩
        case round =>
          obtain ⟨j, k, E, rfl, k4, T⟩ := hrel
          by_cases l0 : k = 0
          · have x3 : ¬ (a : Int) < (j : Int) := by have := T.out.1; omega
            have y3 : decide ((a : Int) < (j : Int)) = false := decide_eq_false x3
            have p4 : decide (a < j) = false := decide_eq_false (by omega)
            replace l0 := Aa l0
            go_wp2_with fail
            go_quiet (fail)
            go_wp2_with fail
            go_roundw
            case rel => exact ⟨i + 1, E, by go_num, by omega, Aa ⟨by omega, H.out E k T.out.2.1 (.inl l0.out), T.out.2.2.1.ext ((Ext.refl wr).drewN _), T.out.2.2.2.trans (Chg.of_ext ((Ext.refl wr).drewN _) _) fun _ _ h => h⟩⟩
            case measure => simp [intOf]; omega
          · obtain ⟨k1, rfl⟩ : ∃ k1, k = k1 + 1 := ⟨k - 1, by omega⟩
            obtain ⟨j1, Z⟩ : ∃ j1, j = j1 + 1 := ⟨j - 1, by have := T.out.1; omega⟩
            obtain ⟨y, hy, v0⟩ := T.out.2.1.ahead
            have U := T.out.2.1.here
            have O : j1 = a + k1 := by have := T.out.1; omega
            have o0 := T.out.2.2.1.at_ (i := j) (x := z) (by rw [Z, O, J.out]; exact U)
            have r0 := T.out.2.2.1.at_ (i := j1) (x := y) (by rw [O, J.out]; exact hy)
            have g0 : wr.cell? ⟨g, j * 2, none⟩ = some (.string ⟨z.1.toArray⟩) ∧ wr.cell? ⟨g, j * 2 + 1, none⟩ = some (.slice z.2.1 z.2.2.1 z.2.2.2) ∧ wr.cell? ⟨g, j1 * 2, none⟩ = some (.string ⟨y.1.toArray⟩) ∧ wr.cell? ⟨g, j1 * 2 + 1, none⟩ = some (.slice y.2.1 y.2.2.1 y.2.2.2) ∧ Ext wr wr := ⟨o0.1, o0.2, r0.1, r0.2, Ext.refl wr⟩
            have m0 : ∀ w0 w1 : World, (w0.cell? ⟨g, j * 2, none⟩ = some (.string ⟨z.1.toArray⟩) ∧ w0.cell? ⟨g, j * 2 + 1, none⟩ = some (.slice z.2.1 z.2.2.1 z.2.2.2) ∧ w0.cell? ⟨g, j1 * 2, none⟩ = some (.string ⟨y.1.toArray⟩) ∧ w0.cell? ⟨g, j1 * 2 + 1, none⟩ = some (.slice y.2.1 y.2.2.1 y.2.2.2) ∧ Ext wr w0) → Ext w0 w1 → (w1.cell? ⟨g, j * 2, none⟩ = some (.string ⟨z.1.toArray⟩) ∧ w1.cell? ⟨g, j * 2 + 1, none⟩ = some (.slice z.2.1 z.2.2.1 z.2.2.2) ∧ w1.cell? ⟨g, j1 * 2, none⟩ = some (.string ⟨y.1.toArray⟩) ∧ w1.cell? ⟨g, j1 * 2 + 1, none⟩ = some (.slice y.2.1 y.2.2.1 y.2.2.2) ∧ Ext wr w1) := fun w0 w1 h1 h3 => ⟨h3.cell h1.1, h3.cell h1.2.1, h3.cell h1.2.2.1, h3.cell h1.2.2.2.1, h1.2.2.2.2.trans h3⟩
            have e0 := m0 _ _ g0 (Ext.refl wr).drew
            have j4 : j < dl := by have := t0.out; have := T.out.2.1.hk; have := J.out; omega
            have y3 : decide (a < j) = true := decide_eq_true (by omega)
            have b1 : (j : Int) < (dl : Int) := by omega
            have b2 : (j1 : Int) < (dl : Int) := by omega
            have b3 : (0 : Int) ≤ (j : Int) - 1 := by omega
            have b4 : IntKind.i64.wrap ((j : Int) - 1) = (j1 : Int) := by rw [IntWalk.i64_in _ (by omega)]; omega
            replace Z := Aa Z
            have fr := T.out.2.2.1.free
            replace g0 := Aa g0
            replace e0 := Aa e0
            replace m0 := Aa m0
            replace hy := Aa hy
            replace v0 := Aa v0
            replace U := Aa U
            replace O := Aa O
            clear o0 r0
            go_wp2_with fail
            go_region_held3 (fun x => x.cell? ⟨g, j * 2, none⟩ = some (.string ⟨z.1.toArray⟩) ∧ x.cell? ⟨g, j * 2 + 1, none⟩ = some (.slice z.2.1 z.2.2.1 z.2.2.2) ∧ x.cell? ⟨g, j1 * 2, none⟩ = some (.string ⟨y.1.toArray⟩) ∧ x.cell? ⟨g, j1 * 2 + 1, none⟩ = some (.slice y.2.1 y.2.2.1 y.2.2.2) ∧ Ext wr x) (first | exact e0.out | exact g0.out | exact ‹_› | exact m0.out _ _ ‹_› ‹_›) (first
              | (go_at_call 132; refine (G.out z y _).mono ?_; rintro e w5 ⟨zc, rfl, h0, g4, m4, f2⟩))
            have j2 := (Ext.refl wr).drew.trans f2
            have q0 := T.out.2.2.1.ext j2
            have i1 := T.out.2.2.2.trans (Chg.of_ext j2 (fun k => k = g)) fun _ _ h => h
            by_cases p0 : z.1 < y.1
            · have m1 := h0.2 p0
              have a3 : decide (zc < 0) = true := decide_eq_true m1
              have q1 := q0.at_ (i := j) (x := z) (by rw [Z.out, O.out, J.out]; exact U.out)
              have q2 := q0.at_ (i := j1) (x := y) (by rw [O.out, J.out]; exact hy.out)
              have x0 := q1.1
              have x1 := q1.2
              have y0 := q2.1
              have y1 := q2.2
              have fr5 := q0.free
              have o1 : j1 < j := by have := Z.out; omega
              have o2 : j ≤ j1 + 1 := by have := Z.out; omega
              replace h0 := Aa h0
              clear q1 q2 fr
              go_wp2_with fail
              refine AE (fun K T => ?_)
              go_wp2_with fail
              refine ⟨by kernel_rfl, ?_⟩
              go_wp2_with fail
              have p3 : P.length + (k1 + 1) = j := by have := Z.out; have := O.out; have := J.out; omega
              have q3 : P.length + k1 = j1 := by have := O.out; have := J.out; omega
              have hN := T.out.2.1.next v0.out p0
              rw [p3, q3] at hN
              have y2 := T.out.2.1.len
              have l3 := t0.out
              have h1 := q0.put (i := j) (by omega) y
              have h2 := h1.put (i := j1) (by rw [List.length_set]; omega) z
              have hc := (i1.trans (Cf w5 g j y) fun _ _ h => h).trans (Cf _ g j1 z) fun _ _ h => h
              go_roundw
              case rel => exact ⟨j1, k1, _, rfl, by omega, Aa ⟨O.out, hN, h2.drew, hc.trans (Chg.of_ext (Ext.refl _).drew _) fun _ _ h => h⟩⟩
              case measure => simp [intOf]; omega
            · have m1 : ¬ zc < 0 := fun h => p0 (h0.1 h)
              have a3 : decide (zc < 0) = false := decide_eq_false m1
              have Y := H.out E (k1 + 1) T.out.2.1 (.inr ⟨y, v0.out, p0⟩)
              replace h0 := Aa h0
              replace Y := Aa Y
              go_wp2_with fail
              go_roundw
              case rel => exact ⟨i + 1, E, by go_num, by omega, Aa ⟨by omega, Y.out, q0, i1⟩⟩
              case measure => simp [intOf]; omega
      · go_wp2_with fail
        go_end0
        obtain ⟨j3, ⟨hi1, S, hE, hS⟩, hT, hC⟩ := hJ.out
        have x2 : i - P.length = X.length := by have := hb.out; omega
        rw [x2, List.take_length] at hS
        rw [x2, List.drop_length, List.nil_append] at hE
        exact ⟨rfl, S, hS, hE ▸ hT, hC⟩
theorem I6 {α:Type} (y z:α) (B:List α):∀A:List α,((A++z::y::B).set A.length y).set (A.length+1) z=A++y::z::B
 | []=>rfl
 | a::A=>by simp[I6 y z B A]
theorem Hp {α:Type} {P A R:List α} (h:i<A.length):(P++(A++R))[P.length+i]? = A[i]? :=by
 rw[List.getElem?_append_right (by omega),show P.length+i - P.length=i by omega,List.getElem?_append_left h]
theorem FP {α:Type} {P A B R:List α} (h:i<B.length):(P++(A++(B++R)))[P.length+A.length+i]? = B[i]? :=by
 rw[List.getElem?_append_right (by omega),List.getElem?_append_right (by omega),show P.length+A.length+i - P.length - A.length=i by omega,List.getElem?_append_left h]
def SymP (g:Nat) (P A B Q:List TmV) (w:World) (e:Ending) (w':World):Prop:=e = .returned (.tuple #[])/\∃M,Mrg A B M/\TR w' g (P++(M++Q))/\Chg (fun k=>k=g) w w'
theorem Qc (g c a m b:Nat) (D P B Q:List TmV) (z:TmV) (w:World) (G:TR w g D) (hD:D=P++([z]++(B++Q))) (ha:a=P.length) (hm:m=a+1) (hb:b=m+B.length) (hB:Srt B) (q3:D.length<=1073741824) :
 Calls prog 202 #[.slice (some ⟨g,0,none⟩) D.length c,.int .i64 (a:Int),.int .i64 (m:Int),.int .i64 (b:Int),cmpV] w (SymP g P [z] B Q w):=by
 obtain⟨dl,I⟩:∃n,n=D.length:=⟨_,rfl⟩
 have a3:b<=dl:=by rw[I,hD];simp only[List.length_append,List.length_singleton];omega
 rw[<-I]at q3 ⊢;have hz:D[a]? = some z:=by rw[hD,ha];exact Hp (P:=P) (A:= [z]) (i:=0) (by simp)
 have hy:∀i,i<B.length->D[m+i]? = B[i]? :=fun i hi=>by rw[hD,hm,ha];exact FP (P:=P) (A:= [z]) hi
 have i3:(m:Int) - (a:Int)=1:=by omega
 have hab:a<b:=by omega
 have k3:m<=b:=by omega
 have J:=fun x y W=>Fs x y W;unfold tagg at J;unfold cmpV;replace J:=Aa J;replace G:=Aa G;replace hD:=Aa hD;replace I:=Aa I;replace hz:=Aa hz;replace hy:=Aa hy;replace hB:=Aa hB;replace ha:=Aa ha;replace hm:=Aa hm;replace hb:=Aa hb
 go_in
 go_wp2_with fail
 go_loopw [10,11] (fun s10 s11 wr=>∃i j:Nat,s10 = .int .i64 (i:Int)/\s11 = .int .i64 (j:Int)/\m<=i/\i<=j/\j<=b/\Hid ((∀y∈B.take (i - m),y.1<z.1)/\(∀y∈B.drop (j - m),¬ y.1<z.1)/\Ext w wr)) (fun s10 s11 _=>(intOf s11).toNat - (intOf s10).toNat)
 case atStart=>exact⟨m,b,rfl,rfl,Nat.le_refl _,k3,Nat.le_refl _,Aa ⟨by rw[Nat.sub_self];nofun,by rw[show b - m=B.length by have:=hb.out;omega,List.drop_length];nofun,Ext.refl _⟩⟩
 case round =>
  obtain⟨i,j,rfl,rfl,j3,e3,i2,hI⟩:=hrel;by_cases p3:i<j
  ·obtain⟨h,hh⟩:∃h:Nat,((i:Int)+(j:Int)) / 2=(h:Int):=⟨(i+j) / 2,by omega⟩
   have f2:i<=h:=by omega
   have b3:h<j:=by omega
   obtain⟨y,H⟩:∃y,B[h - m]? = some y:=⟨_,List.getElem?_eq_getElem (by have:=hb.out;omega)⟩
   have r0:D[h]? = some y:=by have:=hy.out (h - m) (by have:=hb.out;omega);rw[show m+(h - m)=h by omega]at this;rw[this];exact H
   have i0:=(G.out.ext hI.out.2.2).at_ r0;have l0:=(G.out.ext hI.out.2.2).at_ hz.out;have g0:wr.cell? ⟨g,h*2,none⟩=some (.string ⟨y.1.toArray⟩)/\wr.cell? ⟨g,h*2+1,none⟩=some (.slice y.2.1 y.2.2.1 y.2.2.2)/\wr.cell? ⟨g,a*2,none⟩=some (.string ⟨z.1.toArray⟩)/\wr.cell? ⟨g,a*2+1,none⟩=some (.slice z.2.1 z.2.2.1 z.2.2.2)/\Ext wr wr:=⟨i0.1,i0.2,l0.1,l0.2,Ext.refl wr⟩
   have t0:∀w0 w1:World,(w0.cell? ⟨g,h*2,none⟩=some (.string ⟨y.1.toArray⟩)/\w0.cell? ⟨g,h*2+1,none⟩=some (.slice y.2.1 y.2.2.1 y.2.2.2)/\w0.cell? ⟨g,a*2,none⟩=some (.string ⟨z.1.toArray⟩)/\w0.cell? ⟨g,a*2+1,none⟩=some (.slice z.2.1 z.2.2.1 z.2.2.2)/\Ext wr w0)->Ext w0 w1->(w1.cell? ⟨g,h*2,none⟩=some (.string ⟨y.1.toArray⟩)/\w1.cell? ⟨g,h*2+1,none⟩=some (.slice y.2.1 y.2.2.1 y.2.2.2)/\w1.cell? ⟨g,a*2,none⟩=some (.string ⟨z.1.toArray⟩)/\w1.cell? ⟨g,a*2+1,none⟩=some (.slice z.2.1 z.2.2.1 z.2.2.2)/\Ext wr w1):=fun w0 w1 h1 h3=>⟨h3.cell h1.1,h3.cell h1.2.1,h3.cell h1.2.2.1,h3.cell h1.2.2.2.1,h1.2.2.2.2.trans h3⟩
   have e0:=t0 _ _ g0 (Ext.refl wr).drew;have b1:(h:Int)<(dl:Int):=by omega
   have b2:(a:Int)<(dl:Int):=by omega
   replace g0:=Aa g0;replace e0:=Aa e0;replace t0:=Aa t0;replace H:=Aa H;replace r0:=Aa r0;replace hh:=Aa hh;clear i0 l0;go_upto_region 5 with (fail)
   rw[hh.out]
   go_region_held3 (fun x=>x.cell? ⟨g,h*2,none⟩=some (.string ⟨y.1.toArray⟩)/\x.cell? ⟨g,h*2+1,none⟩=some (.slice y.2.1 y.2.2.1 y.2.2.2)/\x.cell? ⟨g,a*2,none⟩=some (.string ⟨z.1.toArray⟩)/\x.cell? ⟨g,a*2+1,none⟩=some (.slice z.2.1 z.2.2.1 z.2.2.2)/\Ext wr x) (first | exact e0.out | exact g0.out | exact ‹_› | exact t0.out _ _ ‹_› ‹_›) (first
    | (go_at_call 132;refine(J.out y z _).mono ?_;rintro e w5 ⟨zc,rfl,Y,c0,l3,m2⟩))
   have d1:=hI.out.2.2.trans ((Ext.refl wr).drew.trans m2);by_cases q0:y.1<z.1
   ·have y3:decide (zc<0)=true:=decide_eq_true (Y.2 q0);have k2:=Y.2 q0;replace Y:=Aa Y;go_wp2_with fail;go_roundw
    case rel=>exact⟨h+1,j,by go_num,rfl,by omega,by omega,i2,Aa ⟨fun x hx=>PH (hB.out.take_le H.out x (by rw[show h - m+1=h+1 - m by omega];exact hx)) q0,hI.out.2.1,d1⟩⟩
    case measure=>simp[intOf];omega
   ·have k2:¬ zc<0:=fun hc=>q0 (Y.1 hc);have y3:decide (zc<0)=false:=decide_eq_false k2;replace Y:=Aa Y;go_wp2_with fail;go_roundw
    case rel=>exact⟨i,h,rfl,rfl,j3,f2,by omega,Aa ⟨hI.out.1,fun x hx=>C6 q0 (hB.out.drop_ge H.out x hx),d1⟩⟩
    case measure=>simp[intOf];omega
  ·obtain rfl:i=j:=by omega
   have d3:i<=dl:=by omega
   have i1:(i:Int) - 1=((i - 1:Nat):Int):=by have:=hm.out;omega
   have hM:Mrg [z] B (B.take (i - m)++z::B.drop (i - m)):=PI hB.out hI.out.1 hI.out.2.1;have hT:=G.out.ext hI.out.2.2;have hC:=Chg.of_ext hI.out.2.2 (fun k=>k=g);have f0:=hm.out;obtain⟨wo,rfl⟩:=Ab wr;replace hT:=Aa hT;replace hC:=Aa hC;replace hM:=Aa hM;replace i1:=Aa i1;replace f0:=Aa f0;go_wp2_with fail
   go_loopw [13] (fun s13 wr=>∃(k:Nat) (E:List TmV),s13 = .int .i64 (k:Int)/\a<=k/\k+1<=i/\Hid (E=P++(B.take (k - a)++z::(B.drop (k - a)++Q))/\TR wr g E/\Chg (fun k=>k=g) w wr)) (fun s13 _=>i - (intOf s13).toNat)
   case atStart=>exact⟨a,D,rfl,Nat.le_refl _,by have:=f0.out;omega,Aa ⟨by rw[Nat.sub_self];exact hD.out,hT.out,hC.out⟩⟩
   case round =>
    obtain⟨k,E,rfl,z3,f3,T⟩:=hrel;have j0:=ha.out;have v0:=hm.out;have m0:=hb.out;by_cases p3:k+1<i
    ·have o1:(k:Int)<(i:Int) - 1:=by omega
     obtain⟨y,H⟩:∃y,B[k - a]? = some y:=⟨_,List.getElem?_eq_getElem (by omega)⟩
     have hd:B.drop (k - a)=y::B.drop (k - a+1):=by
      obtain⟨hl,he⟩:=List.getElem?_eq_some_iff.1 H;rw[List.drop_eq_getElem_cons hl,he]
     have n0:B.take (k - a+1)=B.take (k - a) ++ [y]:=by
      obtain⟨hl,he⟩:=List.getElem?_eq_some_iff.1 H;rw[List.take_succ_eq_append_getElem hl,he]
     have Z:(P++B.take (k - a)).length=k:=by rw[List.length_append,List.length_take];omega
     have O:E=(P++B.take (k - a))++z::y::(B.drop (k - a+1)++Q):=by rw[T.out.1,hd];simp
     have p0:E.length=dl:=by rw[T.out.1,I.out,hD.out];simp only[List.length_append,List.length_cons,List.length_take,List.length_drop,List.length_nil];omega
     have c0:E[k]? = some z:=by rw[O,List.getElem?_append_right (by omega),Z,Nat.sub_self];rfl
     have o0:E[k+1]? = some y:=by rw[O,List.getElem?_append_right (by omega),Z,show k+1 - k=1 by omega];rfl
     have U:=I6 y z (B.drop (k - a+1)++Q) (P++B.take (k - a));rw[Z,<-O]at U;have q1:=T.out.2.1.at_ c0;have q2:=T.out.2.1.at_ o0;have x0:=q1.1;have x1:=q1.2;have y0:=q2.1;have y1:=q2.2;have fr:=T.out.2.1.free;replace U:=Aa U;replace O:=Aa O;replace p0:=Aa p0;replace hd:=Aa hd;replace n0:=Aa n0;replace Z:=Aa Z;replace c0:=Aa c0;replace o0:=Aa o0;replace H:=Aa H;replace j0:=Aa j0;replace v0:=Aa v0;replace m0:=Aa m0;clear q1 q2;go_wp2_with fail;refine AE (fun K T=>?_);go_wp2_with fail;refine⟨by kernel_rfl,?_⟩;go_wp2_with fail;have h1:=T.out.2.1.put (i:=k) (by have:=p0.out;omega) y;have h2:=h1.put (i:=k+1) (by rw[List.length_set];have:=p0.out;omega) z;have hc:=(T.out.2.2.trans (Cf wr g k y) fun _ _ h=>h).trans (Cf _ g (k+1) z) fun _ _ h=>h;rw[U.out]at h2;go_roundw
     case rel=>exact⟨k+1,_,by go_num,by omega,by omega,Aa ⟨by rw[show k+1 - a=k - a+1 by omega,n0.out];simp,h2.drew,hc.trans (Chg.of_ext (Ext.refl _).drew _) fun _ _ h=>h⟩⟩
     case measure=>simp[intOf];omega
    ·have o1:¬ (k:Int)<(i:Int) - 1:=by omega
     have h0:SymP g P [z] B Q w (.returned (.tuple #[])) wr:=by
      refine⟨rfl,_,hM.out,?_,T.out.2.2⟩;have he:=T.out.1;rw[show k - a=i - m by omega]at he;rw[show P++(B.take (i - m)++z::B.drop (i - m)++Q)=E by rw[he];simp];exact T.out.2.1
     replace h0:=Aa h0;replace j0:=Aa j0;replace v0:=Aa v0;replace m0:=Aa m0;go_wp2_with fail
     go_end0
     exact h0.out
end
end Go.Proofs.YtfifdilapbeiiaaGreat
