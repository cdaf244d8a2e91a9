/- Texts of one proof, joined. -/
import Derived.Test.YtkdcnhnaiknaaaaGreatPB04
import Derived.Test.YtkdcnhnaiknaaaaGreatPB07
import Derived.Test.YtkdcnhnaiknaaaaGreatPB13
import Derived.Deep.QuietTactic
import Derived.BigQuiet
import Derived.Test.YtkdcnhnaiknaaaaGreatPB11
import Derived.Test.YtkdcnhnaiknaaaaGreatPB12
import Derived.Deep.RegionHeld3
import Derived.Test.YtkdcnhnaiknaaaaGreatPB14
import Derived.Test.YtkdcnhnaiknaaaaGreatPB01
import Derived.Test.YtkdcnhnaiknaaaaGreatPB09
set_option linter.unusedSimpArgs false
set_option linter.unusedVariables false
set_option maxRecDepth 100000
set_option maxHeartbeats 16000000
namespace Go.Proofs.YtkdcnhnaiknaaaaGreat
section
open Go.RowKit Go.Maps
theorem ZGc (ds:List DocC) (A:Option Addr) (n c:Nat) (w:World) (hn:n=ds.length) (h:DocsOk w A ds) (f0:n<=1000000000) :
 Calls Tryz.prog 110 #[.slice A n c] w fun e w'=>e = .returned (.bool (okDs (dcs ds)))/\Ext w w':=by
 obtain⟨Z,hZ⟩:∃Z,Z=okDs (dcs ds):=⟨_,rfl⟩
 rw[<-hZ];have hlen:(dcs ds).length=n:=by unfold dcs;rw[List.length_map,hn]
 unfold okDs at hZ;rw[hlen]at hZ;by_cases x0:65536<n
 ·rw[decide_eq_false (by omega),Bool.false_and]at hZ;subst hZ;clear hlen;replace hn:=ZA hn;go_enter Tryz.func110,Tryz.ntmps110;go_wp2_with fail;go_ret;exact⟨rfl,Ext.refl _⟩
 ·rw[decide_eq_true (by omega),Bool.true_and]at hZ;have j0:Z=ckD 0 ((dcs ds).drop 0):=hZ;have y0:=ZA (fun(e:Ev) B d W h=>ZBm e B d W h);replace j0:=ZA j0;replace hn:=ZA hn;replace h:=ZA h;replace hlen:=ZA hlen;clear hZ;go_enter Tryz.func110,Tryz.ntmps110;go_wp2_with fail
  go_loopw [3,4] (fun s3 s4 wr=>∃(i:Nat) (la:Int),s3 = .int .i64 la/\s4 = .int .i64 (i:Int)/\i<=n/\0<=la/\la<=1099511627776/\Hid (Z=ckD la ((dcs ds).drop i))/\Hid (Ext w wr)) (fun _ s4 _=>n - (intOf s4).toNat)
  case atStart=>exact⟨0,0,rfl,rfl,by omega,by omega,by omega,j0,ZA (Ext.refl _)⟩
  case round =>
   clear j0;obtain⟨i,la,rfl,rfl,hi,a0,b0,hz,hE⟩:=hrel;by_cases z0:i<n
   ·obtain⟨x,hx⟩:∃x,ds[i]? = some x:=⟨_,List.getElem?_eq_getElem (by rw[<-hn.out];exact z0)⟩
    obtain⟨g,o,hA,l0,l1,l2⟩:=ZU (h.out.cells.ext hE.out) hx;obtain⟨m0,_,c0⟩:=h.out.each x (List.mem_of_getElem? hx);have v0:(dcs ds)[i]? = some x.dc:=by unfold dcs;rw[List.getElem?_map,hx];rfl
    have h0:=hz.out;obtain⟨hi2,p0⟩:=List.getElem?_eq_some_iff.1 v0;rw[List.drop_eq_getElem_cons hi2,p0,ZIS]at h0;obtain⟨sq,⟨at_,fs⟩,xA,xc⟩:=x;unfold DocC.dc at h0;simp only at l0 l1 l2 m0 c0 h0;have q0:=y0.out ⟨at_,fs⟩ xA xc wr (m0.ext hE.out);unfold Ev.val at q0;simp only at q0;obtain⟨fl,g0⟩:∃fl,fl=fs.length:=⟨_,rfl⟩
    obtain⟨q,hq⟩:∃q,q=checkE fs:=⟨_,rfl⟩
    rw[<-g0]at q0 l2;rw[<-hq]at q0 h0;subst hA;replace q0:=ZA q0;replace g0:=ZA g0;replace hq:=ZA hq;clear hx v0 p0 m0 hz;by_cases h1:la<sq
    ·rw[decide_eq_true h1,Bool.true_and]at h0;have q1:decide (sq<=la)=false:=decide_eq_false (by omega);by_cases h2:sq<1099511627777
     ·rw[decide_eq_true h2,Bool.true_and]at h0;have q2:decide (1099511627776<sq)=false:=decide_eq_false (by omega);by_cases h3:q=0
      ·rw[decide_eq_true h3,Bool.true_and]at h0;replace h0:=ZA h0;have e0:=ZA h3;subst h3;go_wp2_with fail;refine q0.out.mono ?_;rintro e w2 ⟨rfl,k0⟩;have l0:=k0.cell l0;have u0:=ZA (hE.out.trans k0);clear l1 l2;go_wp2_with fail;go_roundw
       case rel=>exact⟨i+1,sq,rfl,by go_num,by omega,by omega,by omega,h0,u0⟩
       case measure=>simp only[intOf];omega
      ·rw[decide_eq_false h3,Bool.false_and]at h0;have q3:((q:Int) != 0)=true:=by simp;omega
       subst h0;go_wp2_with fail;refine q0.out.mono ?_;rintro e w2 ⟨rfl,k0⟩;go_wp2_with fail;go_ret;exact⟨rfl,hE.out.trans k0⟩
     ·rw[decide_eq_false h2]at h0;simp only[Bool.false_and]at h0;have q2:decide (1099511627776<sq)=true:=decide_eq_true (by omega);subst h0;go_wp2_with fail;go_ret;exact⟨rfl,hE.out⟩
    ·rw[decide_eq_false h1]at h0;simp only[Bool.false_and]at h0;have q1:decide (sq<=la)=true:=decide_eq_true (by omega);subst h0;go_wp2_with fail;go_ret;exact⟨rfl,hE.out⟩
   ·have t0:=hz.out;rw[List.drop_of_length_le (by rw[hlen.out];omega)]at t0;have d0:Z=true:=t0;subst d0;clear t0;go_wp2_with fail;go_ret;exact⟨rfl,hE.out⟩
end
section
open Go.RowKit Go.Maps
theorem ZMI (x:PoC) (w:World) (hc:Cells w x.A (x.pos.map IV)) (hd:0<=x.doc) (y0:x.doc<65536) (g0:okPo x.po=true) :
 Calls Tryz.prog 163 #[.agg #[.int .i64 x.doc,.slice x.A x.pos.length x.c]] w fun e w'=>e = .returned (.bool true)/\Ext w w':=by
 obtain⟨doc,pos,A,c⟩:=x;unfold PoC.po okPo at g0;rw[Bool.and_eq_true]at g0;simp only at hc hd y0 g0 ⊢;obtain⟨t0,h0⟩:=g0;have t0:=of_decide_eq_true t0;have u0:=ZCH h0 (by omega);have x0:=ZA (fun i x (h:pos[i]? = some x)=>ZG3 h0 i x h);obtain⟨n,hn⟩:∃n,n=pos.length:=⟨_,rfl⟩
 rw[<-hn]at t0 u0 ⊢;have a0:n<=1048577:=by omega
 have q0:Ext w (w.alloc (.cells #[.int .i64 doc,.slice A n c] 107)):=(Ext.refl w).alloc _;have j0:Row (w.alloc (.cells #[.int .i64 doc,.slice A n c] 107)) w.heap.size 107 #[.int .i64 doc,.slice A n c]:=Row.new w _ _;have q1:decide (doc<0)=false:=decide_eq_false (by omega);have q2:decide (65535<doc)=false:=decide_eq_false (by omega);have q3:((n:Int)==0)=false:=by simp;omega
 replace hn:=ZA hn;replace hc:=ZA hc;clear h0 u0;go_enter Tryz.func163,Tryz.ntmps163;go_wp2_with fail;obtain⟨W1,m0⟩:∃W1,W1=w.alloc (.cells #[.int .i64 doc,.slice A n c] 107):=⟨_,rfl⟩
 rw[<-m0]at q0 j0 ⊢;obtain⟨g,hg⟩:∃g,g=w.heap.size:=⟨_,rfl⟩
 rw[<-hg]at j0 ⊢;replace m0:=ZA m0;replace j0:=ZA j0;replace hg:=ZA hg;replace q0:=ZA q0
 go_loopw [3] (fun s3 wr=>∃i:Nat,s3 = .int .i64 (i:Int)/\i<=n/\Hid (Ext W1 wr)) (fun s3 _=>n - (intOf s3).toNat)
 case atStart=>exact⟨0,rfl,by omega,ZA (Ext.refl _)⟩
 case round =>
  obtain⟨i,rfl,hi,hE⟩:=hrel;have y1:wr.cell? ⟨g,1,none⟩=some (.slice A n c):=(j0.out.ext hE.out).cell 1 rfl;by_cases z0:i<n
  ·obtain⟨x,hx⟩:∃x,pos[i]? = some x:=⟨_,List.getElem?_eq_getElem (by rw[<-hn.out];exact z0)⟩
   obtain⟨b0,c0,v0⟩:=x0.out i x hx;obtain⟨ga,oa,hA,p0⟩:=(hc.out.ext (q0.out.trans hE.out)).at_ (by rw[List.length_map,<-hn.out];omega);have r1:decide (x<0)=false:=decide_eq_false (by omega);have r2:decide (1048575<x)=false:=decide_eq_false (by omega);subst hA;cases i with
   | succ j =>
    have k0:wr.cell? ⟨ga,oa+(j+1),none⟩=some (.int .i64 x):=p0 (j+1) _ (by rw[List.getElem?_map,hx];rfl);obtain⟨y,hy⟩:∃y,pos[j]? = some y:=⟨_,List.getElem?_eq_getElem (by rw[<-hn.out];omega)⟩
    have d0:=v0 y (by omega) hy;have k1:wr.cell? ⟨ga,oa+j,none⟩=some (.int .i64 y):=p0 j _ (by rw[List.getElem?_map,hy];rfl);have r3:decide (x<=y)=false:=decide_eq_false (by omega);clear v0 p0 hx hy;go_wp2_with fail;refine ZPw (fun K hK=>?_);go_wp2_with fail;refine⟨by kernel_rfl,?_⟩;go_wp2_with fail;go_roundw
    case rel=>exact⟨j+1+1,by go_num,by omega,ZA (hE.out.trans (Ext.refl _).drew)⟩
    case measure=>simp only[intOf];omega
   | zero =>
    have k0:wr.cell? ⟨ga,oa,none⟩=some (.int .i64 x):=p0 0 _ (by rw[List.getElem?_map,hx];rfl);clear v0 p0 hx;go_wp2_with fail;refine ZPw (fun K hK=>?_);go_wp2_with fail;refine⟨by kernel_rfl,?_⟩;go_wp2_with fail;go_roundw
    case rel=>exact⟨1,by go_num,by omega,ZA (hE.out.trans (Ext.refl _).drew)⟩
    case measure=>simp only[intOf];omega
  ·go_wp2_with fail;go_ret;exact⟨rfl,q0.out.trans hE.out⟩
theorem ZLq (ps:List PoC) (A:Option Addr) (n c:Nat) (w:World) (hn:n=ps.length) (h:PosOk w A ps) (t0:okPs (psP ps)=true) (v1:n<=1000000000) :
 Calls Tryz.prog 113 #[.slice A n c] w fun e w'=>e = .returned (.bool true)/\Ext w w':=by
 rw[ZCU,Bool.and_eq_true]at t0;have r0:=ZA (fun i x (h:((psP ps).map (·.1))[i]? = some x)=>ZG3 t0.1 i x h);have z0:=ZA (List.all_eq_true.1 t0.2);have b0:=ZA (fun(x:PoC) W (hc:Cells W x.A (x.pos.map IV)) h1 h2 h3=>ZMI x W hc h1 h2 h3);replace hn:=ZA hn;replace h:=ZA h;clear t0;go_enter Tryz.func113,Tryz.ntmps113;go_wp2_with fail
 go_loopw [3] (fun s3 wr=>∃i:Nat,s3 = .int .i64 (i:Int)/\i<=n/\Hid (Ext w wr)) (fun s3 _=>n - (intOf s3).toNat)
 case atStart=>exact⟨0,rfl,by omega,ZA (Ext.refl _)⟩
 case round =>
  obtain⟨i,rfl,hi,hE⟩:=hrel;by_cases s0:i<n
  ·obtain⟨x,hx⟩:∃x,ps[i]? = some x:=⟨_,List.getElem?_eq_getElem (by rw[<-hn.out];exact s0)⟩
   have u0:=List.mem_of_getElem? hx;obtain⟨q1,i0,v0⟩:=r0.out i x.doc (by unfold psP;rw[List.map_map,List.getElem?_map,hx];rfl);have e0:=z0.out x.po (List.mem_map.2 ⟨x,u0,rfl⟩);obtain⟨c0,_⟩:=h.out.each x u0;obtain⟨g,o,hA,l0,l1⟩:=Z5 (h.out.cells.ext hE.out) hx;have h1:=fun W (hE:Ext w W)=>b0.out x W (c0.ext hE) (by omega) i0 e0;obtain⟨k,hk⟩:∃k,k=x.pos.length:=⟨_,rfl⟩
   obtain⟨d1,g0⟩:∃d1,d1=x.doc:=⟨_,rfl⟩
   obtain⟨B,hB⟩:∃B,B=x.A:=⟨_,rfl⟩
   obtain⟨d,hd⟩:∃d,d=x.c:=⟨_,rfl⟩
   rw[<-hk,<-g0,<-hB,<-hd]at h1;rw[<-g0]at l0 q1 i0 v0;rw[<-hk,<-hB,<-hd]at l1;subst hA;cases i with
   | succ j =>
    obtain⟨y,hy⟩:∃y,ps[j]? = some y:=⟨_,List.getElem?_eq_getElem (by rw[<-hn.out];omega)⟩
    have n0:=v0 y.doc (by omega) (by unfold psP;rw[List.map_map,List.getElem?_map,Nat.add_sub_cancel,hy];rfl);obtain⟨g2,o2,x0,m0,_⟩:=Z5 (h.out.cells.ext hE.out) hy;injection x0 with x0;injection x0 with e1 e2;subst e1 e2;obtain⟨d0,f0⟩:∃d0,d0=y.doc:=⟨_,rfl⟩
    rw[<-f0]at m0 n0;have r3:decide (d1<=d0)=false:=decide_eq_false (by omega);have p0:∀x,(x.cell? ⟨g,o+(j+1)*2,none⟩=some (.int .i64 d1)/\x.cell? ⟨g,o+(j+1)*2+1,none⟩=some (.slice B k d)/\x.cell? ⟨g,o+j*2,none⟩=some (.int .i64 d0)/\Ext w x)->Calls Tryz.prog 163 #[.agg #[.int .i64 d1,.slice B k d]] x fun e y=>e = .returned (.bool true)/\(y.cell? ⟨g,o+(j+1)*2,none⟩=some (.int .i64 d1)/\y.cell? ⟨g,o+(j+1)*2+1,none⟩=some (.slice B k d)/\y.cell? ⟨g,o+j*2,none⟩=some (.int .i64 d0)/\Ext w y):=fun x ⟨a0,a1,a2,hE⟩ =>
     (h1 x hE).mono fun e y ⟨he,h0⟩=>⟨he,h0.cell a0,h0.cell a1,h0.cell a2,hE.trans h0⟩
    have p1:(0:Int)<=j:=by omega
    have w0:(j:Int)<n:=by omega
    have k1:(0:Int)<=(j:Int)+1:=by omega
    have j1:(j:Int)+1<n:=by omega
    have g1:(0:Int)<(j:Int)+1:=by omega
    have m1:(j:Int)+1 - 1=j:=by omega
    have t1:IntKind.i64.wrap (j:Int)=(j:Int):=ZAK (by omega) (by omega);have j0:wr.cell? ⟨g,o+(j+1)*2,none⟩=some (.int .i64 d1)/\wr.cell? ⟨g,o+(j+1)*2+1,none⟩=some (.slice B k d)/\wr.cell? ⟨g,o+j*2,none⟩=some (.int .i64 d0)/\Ext w wr:=⟨l0,l1,m0,hE.out⟩
    have q0:wr.drew.cell? ⟨g,o+(j+1)*2,none⟩=some (.int .i64 d1)/\wr.drew.cell? ⟨g,o+(j+1)*2+1,none⟩=some (.slice B k d)/\wr.drew.cell? ⟨g,o+j*2,none⟩=some (.int .i64 d0)/\Ext w wr.drew:=⟨l0,l1,m0,hE.out.drew⟩
    have k0:∀x,(x.cell? ⟨g,o+(j+1)*2,none⟩=some (.int .i64 d1)/\x.cell? ⟨g,o+(j+1)*2+1,none⟩=some (.slice B k d)/\x.cell? ⟨g,o+j*2,none⟩=some (.int .i64 d0)/\Ext w x)->Ext w x:=fun x h=>h.2.2.2;replace p0:=ZA p0;replace j0:=ZA j0;replace q0:=ZA q0;replace k0:=ZA k0;clear hx hy u0 e0 c0 h1 hk g0 hB hd f0 v0 n0;go_wp2_with fail
    go_region_held3 (fun x=>x.cell? ⟨g,o+(j+1)*2,none⟩=some (.int .i64 d1)/\x.cell? ⟨g,o+(j+1)*2+1,none⟩=some (.slice B k d)/\x.cell? ⟨g,o+j*2,none⟩=some (.int .i64 d0)/\Ext w x) (first | exact q0.out | exact j0.out | exact ‹_›) (first | (go_at_call 163;refine(p0.out _ ‹_›).mono ?_;rintro e w3 ⟨rfl,o0⟩))
    go_wp2_with fail;have y0:=ZA (k0.out _ ‹_›);go_roundw
    case rel=>exact⟨j+1+1,by go_num,by omega,y0⟩
    case measure=>simp only[intOf];omega
   | zero =>
    rw[Nat.zero_mul,Nat.add_zero]at l0 l1;have p0:∀x,(x.cell? ⟨g,o,none⟩=some (.int .i64 d1)/\x.cell? ⟨g,o+1,none⟩=some (.slice B k d)/\Ext w x)->Calls Tryz.prog 163 #[.agg #[.int .i64 d1,.slice B k d]] x fun e y=>e = .returned (.bool true)/\(y.cell? ⟨g,o,none⟩=some (.int .i64 d1)/\y.cell? ⟨g,o+1,none⟩=some (.slice B k d)/\Ext w y):=fun x ⟨a0,a1,hE⟩ =>
     (h1 x hE).mono fun e y ⟨he,h0⟩=>⟨he,h0.cell a0,h0.cell a1,hE.trans h0⟩
    have w0:(0:Int)<n:=by omega
    have j0:wr.cell? ⟨g,o,none⟩=some (.int .i64 d1)/\wr.cell? ⟨g,o+1,none⟩=some (.slice B k d)/\Ext w wr:=⟨l0,l1,hE.out⟩
    have q0:wr.drew.cell? ⟨g,o,none⟩=some (.int .i64 d1)/\wr.drew.cell? ⟨g,o+1,none⟩=some (.slice B k d)/\Ext w wr.drew:=⟨l0,l1,hE.out.drew⟩
    have k0:∀x,(x.cell? ⟨g,o,none⟩=some (.int .i64 d1)/\x.cell? ⟨g,o+1,none⟩=some (.slice B k d)/\Ext w x)->Ext w x:=fun x h=>h.2.2;replace p0:=ZA p0;replace j0:=ZA j0;replace q0:=ZA q0;replace k0:=ZA k0;clear hx u0 e0 c0 h1 hk g0 hB hd v0;go_wp2_with fail;refine ZPw (fun K hK=>?_);go_wp2_with fail;refine(p0.out _ q0.out).mono ?_;rintro e w3 ⟨rfl,o0⟩;go_wp2_with fail;refine⟨by kernel_rfl,?_⟩;go_wp2_with fail;have y0:=ZA (k0.out _ ‹_›);go_roundw
    case rel=>exact⟨1,by go_num,by omega,y0⟩
    case measure=>simp only[intOf];omega
  ·go_wp2_with fail;go_ret;exact⟨rfl,hE.out⟩
end
section
open Go.RowKit Go.Maps
theorem ZDX (z lo:Int) (t:List Int):(z::t).getLast?.getD lo=t.getLast?.getD z:=by
 cases t with
 | nil=>rfl
 | cons y u =>
  rw[List.getLast?_cons_cons];cases h:(y::u).getLast? with
  | none=>simp at h
  | some v=>rfl
theorem ZB0 {n:Int}:∀ {l:List Int} {lo:Int},risB n lo l=true->∀(k:Nat) (x:Int),l[k]? = some x->(l.take k).getLast?.getD lo<x/\lo<=(l.take k).getLast?.getD lo/\x<n
 | [],lo,_,k,x,hx=>by simp at hx
 | z::t,lo,h,0,x,hx=>by
  obtain rfl:z=x:=by simpa using hx
  rw[risB,Bool.and_eq_true,Bool.and_eq_true]at h;exact⟨of_decide_eq_true h.1.1,Int.le_refl _,of_decide_eq_true h.1.2⟩
 | z::t,lo,h,k+1,x,hx=>by
  rw[risB,Bool.and_eq_true,Bool.and_eq_true]at h;have h1:=of_decide_eq_true h.1.1;obtain⟨h2,h3,h4⟩:=ZB0 h.2 k x (by simpa using hx);rw[List.take_succ_cons,ZDX];exact⟨h2,by omega,h4⟩
theorem ZCG {l:List Int} {k:Nat} {x lo:Int} (hx:l[k]? = some x):(l.take (k+1)).getLast?.getD lo=x:=by
 rw[List.take_add_one,hx,List.getLast?_append];rfl
theorem ZDC {l:List Int} {k:Nat} {x:Int} (hx:l[k]? = some x) (lo:Int):stepsL lo (l.take (k+1))=stepsL lo (l.take k)++vb (x - (l.take k).getLast?.getD lo - 1).toNat:=by
 rw[List.take_add_one,hx];exact ZEX _ x lo
theorem ZAz:∀(P:List Po) (lo:Int),lastPo lo P=(P.map (·.1)).getLast?.getD lo
 | [],lo=>rfl
 | p::t,lo=>by
  rw[List.map_cons,ZDX];exact ZAz t p.1
theorem ZGk {P:List Po} {k:Nat} {p:Po} (hp:P[k]? = some p) (lo:Int):blockPo lo (P.take (k+1))=blockPo lo (P.take k)++onePo (lastPo lo (P.take k)) p:=by
 rw[List.take_add_one,hp,Zn];show _++(onePo _ p ++ [])=_;rw[List.append_nil]
theorem ZJD (P:List Po) (k:Nat) (lo:Int):(blockPo lo (P.take k)).length<=(blockPo lo P).length:=by
 conv=>rhs;rw[<-List.take_append_drop k P,Zn,List.length_append]
 omega
theorem ZKM (l:List Int) (k:Nat) (lo:Int):(stepsL lo (l.take k)).length<=(stepsL lo l).length:=by
 rcases Nat.lt_or_ge k l.length with h | h
 ·have key:∀(d j:Nat),j+d=l.length->(stepsL lo (l.take j)).length<=(stepsL lo l).length:=by
   intro d
   induction d with
   | zero=>intro j hj;rw[List.take_of_length_le (by omega)];exact Nat.le_refl _
   | succ d ih =>
    intro j hj;have h1:=ih (j+1) (by omega);obtain⟨x,hx⟩:∃x,l[j]? = some x:=⟨_,List.getElem?_eq_getElem (by omega)⟩
    rw[ZDC hx,List.length_append]at h1;omega
  exact key (l.length - k) k (by omega)
 ·rw[List.take_of_length_le h];exact Nat.le_refl _
theorem ZGj (ps:List PoC) (A:Option Addr) (n c:Nat) (lo:Int) (w:World) (hn:n=ps.length) (h:PosOk w A ps) (i2 : -1<=lo) (f1:lo<65536) (z0:risB 65536 lo ((psP ps).map (·.1))=true) (p0:∀p∈psP ps,okPo p=true) (t2:(blockPo lo (psP ps)).length<=50000000) (v3:n<=1000000000) :
 Calls Tryz.prog 115 #[.slice A n c,.int .i64 lo] w fun e w'=>NewB w (blockPo lo (psP ps)) e w':=by
 obtain⟨P,hP⟩:∃P,P=psP ps:=⟨_,rfl⟩
 rw[<-hP]at z0 p0 t2 ⊢;have y0:=ZA (fun A n c l x base W (hn:n=l.length) (hb:Buf W base 5 A n c (l.map B8)) (i0:base<=W.heap.size) (hx:0<=x) (h3:x<=9223372036854775807) (f2:n<=1000000000)=>ZEL A n c l x base W hn hb i0 hx h3 f2);have n2:=ZA (fun k x (h:(P.map (·.1))[k]? = some x)=>ZB0 z0 k x h);have r2:=ZA (fun k=>Nat.le_trans (ZJD P k lo) t2);replace hn:=ZA hn;replace h:=ZA h;replace hP:=ZA hP;replace p0:=ZA p0;clear z0;go_enter Tryz.func115,Tryz.ntmps115;go_wp2_with fail
 go_loopw [1,5,6] (fun s1 s5 s6 wr=>∃(i m d:Nat) (B:Option Addr) (a:Int),s1 = .int .i64 a/\s5 = .slice B m d/\s6 = .int .i64 (i:Int)/\i<=n /\ -1<=a/\a<65536/\m<=50000000/\Hid (a=lastPo lo (P.take i))/\Hid (m=(blockPo lo (P.take i)).length)/\Hid (Buf wr w.heap.size 5 B m d ((blockPo lo (P.take i)).map B8))/\Hid (Ext w wr)) (fun _ _ s6 _=>n - (intOf s6).toNat)
 case atStart=>exact⟨0,0,0,none,lo,rfl,rfl,rfl,by omega,i2,f1,by omega,ZA rfl,ZA rfl,ZA (Buf.nil _ _ _),ZA (Ext.refl _)⟩
 case round =>
  obtain⟨i,m,d,B,a,rfl,rfl,rfl,hi,g3,t3,j2,ha,hm,hb,hE⟩:=hrel;by_cases y2:i<n
  ·obtain⟨x,hx⟩:∃x,ps[i]? = some x:=⟨_,List.getElem?_eq_getElem (by rw[<-hn.out];exact y2)⟩
   have p1:P[i]? = some x.po:=by rw[hP.out];unfold psP;rw[List.getElem?_map,hx];rfl
   have u2:=n2.out i x.doc (by rw[List.getElem?_map,p1];rfl);rw[<-List.map_take,<-ZAz,<-ha.out]at u2;obtain⟨s2,_,v2⟩:=u2;obtain⟨z1,k1⟩:=h.out.each x (List.mem_of_getElem? hx);have d0:=p0.out _ (List.mem_of_getElem? p1);obtain⟨g,o,hA,k0⟩:∃g o,A=some ⟨g,o,none⟩/\∀W,Ext w W->W.cell? ⟨g,o+i*2,none⟩=some (.int .i64 x.doc)/\W.cell? ⟨g,o+i*2+1,none⟩=some (.slice x.A x.pos.length x.c):=by
    obtain⟨g,o,hA,_,_⟩:=Z5 h.out.cells hx;refine⟨g,o,hA,fun W hE=>?_⟩;obtain⟨g2,o2,j1,l0,l1⟩:=Z5 (h.out.cells.ext hE) hx;rw[hA]at j1;injection j1 with j1;injection j1 with e1 e2;subst e1 e2;exact⟨l0,l1⟩
   have h0:=ZGk p1 lo;rw[<-ha.out]at h0;have h2:=r2.out (i+1);have u1:lastPo lo (P.take (i+1))=x.doc:=by
    rw[ZAz,List.map_take];exact ZCG (by rw[List.getElem?_map,p1];rfl)
   obtain⟨doc,pos,xA,xc⟩:=x;unfold okPo at d0;unfold PoC.po at h0 d0;unfold onePo at h0;rw[Bool.and_eq_true]at d0;simp only at s2 v2 z1 k1 k0 u1 h0 d0;have z2:=ZA (fun k x (h:pos[k]? = some x)=>ZB0 d0.2 k x h);obtain⟨L0,p2⟩:∃L0,L0=blockPo lo (P.take i):=⟨_,rfl⟩
   obtain⟨LT,v1⟩:∃LT,LT=blockPo lo (P.take (i+1)):=⟨_,rfl⟩
   obtain⟨np,c0⟩:∃np,np=pos.length:=⟨_,rfl⟩
   rw[<-p2]at hb hm h0;rw[<-v1]at h0 h2;rw[<-c0]at k0 h0 k1;have n0:LT.length=L0.length+((vb (doc - a - 1).toNat).length+(vb np).length+(stepsL (-1) pos).length):=by rw[h0];simp only[List.length_append]
   have a0:=ZKM pos;obtain⟨l0,l1⟩:=k0 wr hE.out;have j3:(0:Int)<=doc - a - 1:=by omega
   have y1:=y0.out B m d L0 (doc - a - 1) w.heap.size wr hm.out hb.out hE.out.size j3 (by omega) (by omega);have x0:=hm.out;subst hA;replace k0:=ZA k0;replace y1:=ZA y1;replace z1:=ZA z1;replace h0:=ZA h0;replace c0:=ZA c0;replace v1:=ZA v1;replace u1:=ZA u1;replace a0:=ZA a0;replace n0:=ZA n0;replace x0:=ZA x0;clear hx p1 d0 p2 ha hm;go_wp2_with fail;refine y1.out.mono ?_;rintro e w1 ⟨B1,m1,d1,rfl,o0,e0,w0⟩;have g1:=ZA (w0.ext hE.out hb.out.base);obtain⟨l0,l1⟩:=k0.out w1 g1.out;have i1:m1<=50000000:=by have:=n0.out;have:=x0.out;rw[o0,List.length_append];omega
   have r0:=y0.out B1 m1 d1 _ (np:Int) w.heap.size w1 o0 e0 g1.out.size (by omega) (by omega) (by omega);rw[Int.toNat_natCast]at r0;replace r0:=ZA r0;replace e0:=ZA e0;replace o0:=ZA o0;clear w0 y1;go_wp2_with fail;refine r0.out.mono ?_;rintro e w2 ⟨B2,m2,d2,rfl,b0,f0,h1⟩;have q2:=ZA (h1.ext g1.out e0.out.base);have n1:m2<=50000000:=by have:=n0.out;have:=x0.out;rw[b0];simp only[List.length_append];omega
   obtain⟨L2,t1⟩:∃L2,L2=L0++vb (doc - a - 1).toNat++vb np:=⟨_,rfl⟩
   rw[<-t1]at b0 f0;have g0:LT.length=L2.length+(stepsL (-1) pos).length:=by rw[n0.out,t1];simp only[List.length_append];omega
   have t0:LT=L2++stepsL (-1) pos:=by rw[h0.out,t1];simp only[List.append_assoc]
   replace t0:=ZA t0;replace g0:=ZA g0;replace f0:=ZA f0;replace b0:=ZA b0;clear h1 r0 l0 l1 t1 e0 o0 i1;go_wp2_with fail
   go_loopw [5,7,8] (fun s5 s7 s8 wr=>∃(k m d:Nat) (B:Option Addr) (la:Int),s5 = .slice B m d/\s7 = .int .i64 la/\s8 = .int .i64 (k:Int)/\k<=np /\ -1<=la/\la<1048576/\m<=50000000/\Hid (la=(pos.take k).getLast?.getD (-1))/\Hid (m=(L2++stepsL (-1) (pos.take k)).length)/\Hid (Buf wr w.heap.size 5 B m d ((L2++stepsL (-1) (pos.take k)).map B8))/\Hid (Ext w wr)) (fun _ _ s8 _=>np - (intOf s8).toNat)
   case atStart=>exact⟨0,m2,d2,B2,-1,rfl,rfl,rfl,by omega,by omega,by omega,n1,ZA rfl,ZA (by rw[List.take_zero];show _=(L2 ++ []).length;rw[List.append_nil];exact b0.out),ZA (by rw[List.take_zero];show Buf _ _ _ _ _ _ ((L2 ++ []).map B8);rw[List.append_nil];exact f0.out),q2⟩
   case round =>
    clear f0 b0 q2 hb hE g1;obtain⟨k,m,d,B,la,rfl,rfl,rfl,hk,b2,c2,j2,u0,hm,hb,hE⟩:=hrel;obtain⟨l0,l1⟩:=k0.out wr hE.out;by_cases a2:k<np
    ·obtain⟨y,hy⟩:∃y,pos[k]? = some y:=⟨_,List.getElem?_eq_getElem (by rw[<-c0.out];exact a2)⟩
     obtain⟨p3,_,k3⟩:=z2.out k y hy;rw[<-u0.out]at p3;obtain⟨ga,oa,q3,k2⟩:=(z1.out).at_ (by rw[List.length_map,<-c0.out];omega);have v0:w.cell? ⟨ga,oa+k,none⟩=some (.int .i64 y):=k2 k _ (by rw[List.getElem?_map,hy];rfl);have r1:=ZDC hy (-1);rw[<-u0.out]at r1;have c1:=ZCG (lo:= -1) hy;have u3:=a0.out (k+1) (-1);have m0:=g0.out;have x0:=hm.out;have s0:=y0.out B m d _ (y - la - 1) w.heap.size wr hm.out hb.out hE.out.size (by omega) (by omega) (by omega);rw[List.append_assoc,<-r1]at s0;have q0:=hE.out.cell v0;have x2:=ZA (fun W (hE:Ext w W)=>hE.cell v0);subst q3;replace s0:=ZA s0;replace c1:=ZA c1;replace x0:=ZA x0;replace m0:=ZA m0;clear k2 v0 r1 hy;go_wp2_with fail;refine s0.out.mono ?_;rintro e w3 ⟨B3,m3,d3,rfl,x1,b1,q1⟩;have a1:=ZA (q1.ext hE.out hb.out.base);obtain⟨l0,l1⟩:=k0.out w3 a1.out;have q0:=x2.out w3 a1.out;have o1:m3<=50000000:=by have:=m0.out;rw[x1,List.length_append];omega
     replace x1:=ZA x1;replace b1:=ZA b1;clear q1 s0;go_wp2_with fail;go_roundw
     case rel=>exact⟨k+1,m3,d3,B3,y,rfl,rfl,by go_num,by omega,by omega,k3,o1,ZA c1.out.symm,x1,b1,a1⟩
     case measure=>simp only[intOf];omega
    ·obtain rfl:k=np:=by omega
     have j0:pos.take k=pos:=List.take_of_length_le (by rw[<-c0.out];exact Nat.le_refl _);rw[j0]at hm hb;rw[<-t0.out,v1.out]at hm hb;clear u0;go_wp2_with fail;go_roundw
     case rel=>exact⟨i+1,m,d,B,doc,rfl,rfl,by go_num,by omega,by omega,v2,j2,ZA u1.out.symm,hm,hb,hE⟩
     case measure=>simp only[intOf];omega
  ·obtain rfl:i=n:=by omega
   have j0:P.take i=P:=List.take_of_length_le (by rw[hP.out];unfold psP;rw[List.length_map,hn.out];exact Nat.le_refl _);rw[j0]at hm hb;go_wp2_with fail;go_ret;have l2:=hm.out;subst l2;exact⟨B,d,rfl,hb.out,hE.out⟩
end
section
open Go.RowKit
section
variable {t e sz:Nat}
theorem ZHs (ht:Tryz.prog.underlying t=some (.slice e)) (hs:∀W:World,(sizeOf e).run Tryz.prog W = .ok sz W) {n c fr k:Nat} {A:Option Addr} (h:fr+k<=n) (hc:n<=c) (hA:∀a,A=some a->a.spot=none) {z0 z:Int} (k0:z0=(fr:Int)) (hz:z=(fr:Int)+(k:Int)) :
 ∃A' c',(∀W:World,(Instr.sliceAt t (.slice A n c) (some (.int .i64 z0)) (some (.int .i64 z)) none).run Tryz.prog W = .ok (.slice A' k c') W)/\(∀(w:World) (xs:List Value),xs.length=n*sz->Cells w A xs->Cells w A' ((xs.drop (fr*sz)).take (k*sz)))/\(∀a,A'=some a->a.spot=none)/\k<=c':=by
 subst k0 hz;have he:Tryz.prog.elem t=e:=by unfold Program.elem;rw[ht]
 have h0:∀W:World,(Instr.sliceAt t (.slice A n c) (some (.int .i64 fr)) (some (.int .i64 ((fr:Int)+k))) none).run Tryz.prog W = .ok (sliced A fr (fr+k) c sz) W:=by
  intro W;rw[run_sliceAt_slice W t _ _ _ _ (by rw[ht,he]),run_slice_lh W t A n c (by rw[ht,he]) .i64 .i64 fr ((fr:Int)+k) (by omega) (by omega) (by omega),he,hs];simp only[Result.andThen_ok];congr 1
 unfold sliced at h0;rw[Nat.add_sub_cancel_left]at h0;refine⟨_,_,h0,fun w xs hx p0=>?_,fun a ha=>?_,by omega⟩
 ·rcases p0 with hb | ⟨g,o,rfl,hb⟩
  ·left;rw[hb];simp
  ·by_cases q0:c=fr
   ·left;obtain rfl:k=0:=by omega
    simp
   ·refine .inr ⟨g,o+fr*sz,by rw[if_neg q0];simp[Addr.add_lit],fun i v hv=>?_⟩;rw[Nat.add_assoc];refine hb (fr*sz+i) v ?_;rw[List.getElem?_take]at hv;split at hv
    ·rw[List.getElem?_drop]at hv;exact hv
    ·cases hv
 ·cases A with
  | none=>split at ha <;> cases ha
  | some a0 =>
   obtain⟨b,o,sp⟩:=a0;obtain rfl:sp=none:=hA _ rfl;split at ha
   ·cases ha;rfl
   ·rw[Option.map_some,Addr.add_lit]at ha;cases ha;rfl
end
end
section
open Go.RowKit Go.Maps
theorem PosOk.sub {w:World} {A A':Option Addr} {ps:List PoC} {n fr k:Nat} (h:PosOk w A ps) (hn:n=ps.length) (hc:∀(w:World) (xs:List Value),xs.length=n*2->Cells w A xs->Cells w A' ((xs.drop (fr*2)).take (k*2))):PosOk w A' ((ps.drop fr).take k):=by
 refine⟨?_,fun x hx=>h.each x (List.mem_of_mem_drop (List.mem_of_mem_take hx))⟩;have h1:=hc w (pcells ps) (by rw[ZET,hn]) h.cells;unfold pcells at h1 ⊢;rw[Z4 (f:=PoC.cells) (k:=2) (fun _=>rfl),ZAE (f:=PoC.cells) (k:=2) (fun _=>rfl)];exact h1
theorem ZNb (ps:List PoC) (fr k:Nat):psP ((ps.drop fr).take k)=((psP ps).drop fr).take k:=by unfold psP;rw[List.map_take,List.map_drop]
theorem ZHQ (ps:List PoC):(psP ps).length=ps.length:=List.length_map ..
def Apart (A B:Option Addr):Prop:=∀a b,A=some a->B=some b->a.block≠b.block
theorem Apart.symm {A B:Option Addr} (h:Apart A B):Apart B A:=fun a b ha hb e=>h b a hb ha e.symm
theorem Push.apart {w w1:World} {A A1 B:Option Addr} (h:Push w A A1 w1) (hB:∀b,B=some b->b.block<w.heap.size) (hn:Apart A B):Apart A1 B:=fun a b ha hb=>by
 rcases h.new with rfl | ⟨q,hq,h0⟩
 ·exact hn a b ha hb
 ·rw[ha]at hq;cases hq;have:=hB b hb;omega
theorem Buf.below {w:World} {base:Nat} {e:TypeId} {A:Option Addr} {n c:Nat} {xs:List Value} (h:Buf w base e A n c xs):∀a,A=some a->a.block<w.heap.size:=fun a ha=>by
 obtain⟨_,_,⟨h1,_⟩ | ⟨g,cur,hB,_,hr,_⟩⟩:=h
 ·rw[h1]at ha;cases ha
 ·rw[hB]at ha;cases ha;exact hr.lt
theorem Buf.push {w w1:World} {base n c:Nat} {A A1 B:Option Addr} {e:TypeId} {xs:List Value} (hb:Buf w base e B n c xs) (h:Push w A A1 w1) (hn:Apart A B):Buf w1 base e B n c xs:=by
 obtain⟨h1,h2,⟨h3,h4⟩ | ⟨g,cur,hB,hg,hr,h5⟩⟩:=hb
 ·exact⟨h1,h2,.inl ⟨h3,h4⟩⟩
 ·exact⟨h1,h2,.inr ⟨g,cur,hB,hg,h.row hr fun a ha=>hn a _ ha hB,h5⟩⟩
theorem ZE8 (ps:List PoC) (A:Option Addr) (n c:Nat) (w:World) (hn:n=ps.length) (h:PosOk w A ps) (hA:∀a,A=some a->a.spot=none) (t4:n<=c) (q2:okPs (psP ps)=true) (z3:(blockPo (-1) (psP ps)).length<=50000000) :
 Calls Tryz.prog 62 #[.slice A n c] w fun e w'=>OkB w (encPs (psP ps)) e w':=by
 have e4:n<=65536:=by have:=ZCy q2;rw[ZHQ,<-hn]at this;exact this
 have u3:=ZA (ZLq ps A n c w hn h q2 (by omega));obtain⟨P,hP⟩:∃P,P=psP ps:=⟨_,rfl⟩
 have i0:P.length=n:=by rw[hP,ZHQ,hn]
 have x3:=ZA (fun r (hr:r*32<(psP ps).length)=>ZFP q2 z3 hr);have q1:=ZA (fun r (hr:(psP ps).length<=r*32)=>ZF5 (psP ps) r hr);have c2:=ZA (fun(qs:List PoC) B m d lo W (hm:m=qs.length) (hq:PosOk W B qs) h1 h2 h3 h4 h5 h6=>ZGj qs B m d lo W hm hq h1 h2 h3 h4 h5 h6);have d0:=ZA (fun A n c l x base W (hn:n=l.length) (hb:Buf W base 5 A n c (l.map B8)) (m1:base<=W.heap.size) (hx:0<=x) (z4:x<=9223372036854775807) (s3:n<=1000000000)=>ZEL A n c l x base W hn hb m1 hx z4 s3);have q3:=ZA (fun(fr k:Nat) (z0 z:Int) (h:fr+k<=n) (b4:z0=(fr:Int)) (hz:z=(fr:Int)+(k:Int))=>ZHs Tryz.underlying43 (fun W:World=>(by kernel_rfl:(sizeOf 107).run Tryz.prog W = .ok 2 W)) (n:=n) (c:=c) (fr:=fr) (k:=k) (A:=A) h t4 hA b4 hz);have y4:=ZD (n:=n) (by omega);rw[<-hP]at x3 q1 z3 ⊢;replace hP:=ZA hP;replace hn:=ZA hn;replace h:=ZA h;replace i0:=ZA i0;clear q2;go_enter Tryz.func62,Tryz.ntmps62;go_wp2_with fail;refine u3.out.mono ?_;rintro e w1 ⟨rfl,t2⟩;have u1:=d0.out none 0 0 [] (n:Int) w.heap.size w1 rfl (Buf.nil _ _ _) t2.size (by omega) (by omega) (by omega);rw[List.nil_append,Int.toNat_natCast]at u1;replace u1:=ZA u1;go_wp2_with fail;refine u1.out.mono ?_;rintro e w2 ⟨H2,m2,d2,rfl,t1,d1,y1⟩;have j3:=ZA (y1.ext t2 nofun);replace t1:=ZA t1;replace d1:=ZA d1;clear u1 u3 y1 t2;go_wp2_with fail
 go_loopw [4,5,6,7] (fun s4 s5 s6 s7 wr=>∃(r mh dh mb db:Nat) (Hd Bd:Option Addr) (a:Int),s4 = .slice Hd mh dh/\s5 = .slice Bd mb db/\s6 = .int .i64 a/\s7 = .int .i64 ((r*32:Nat):Int)/\r*32<=n+31/\mh<=10+20*r/\mb<=50000000/\Hid (a=lastPo (-1) (P.take (r*32)))/\Hid (mh=(vb n++headPo (-1) ((chunkL 32 P).take r)).length)/\Hid (Buf wr w.heap.size 5 Hd mh dh ((vb n++headPo (-1) ((chunkL 32 P).take r)).map B8))/\Hid (mb=(blockPo (-1) (P.take (r*32))).length)/\Hid (Buf wr w.heap.size 5 Bd mb db ((blockPo (-1) (P.take (r*32))).map B8))/\Hid (Apart Hd Bd)/\Hid (Ext w wr)) (fun _ _ _ s7 _=>n+31 - (intOf s7).toNat)
 case atStart =>
  refine⟨0,m2,d2,0,0,H2,none,-1,rfl,rfl,rfl,rfl,by omega,by rw[t1.out];omega,by omega,ZA rfl,ZA ?_,ZA ?_,ZA rfl,ZA (Buf.nil _ _ _),ZA nofun,j3⟩
  ·rw[List.take_zero];show m2=(vb n ++ []).length;rw[List.append_nil];exact t1.out
  ·rw[List.take_zero];show Buf _ _ _ _ _ _ ((vb n ++ []).map B8);rw[List.append_nil];exact d1.out
 case round =>
  clear t1 d1 j3;obtain⟨r,mh,dh,mb,db,Hd,Bd,a,rfl,rfl,rfl,rfl,hr,j4,k4,ha,s1,i1,r1,x2,g3,hE⟩:=hrel;by_cases v4:r*32<n
  ·have y3:=x3.out r (by rw[i0.out];exact v4);rw[<-ha.out]at y3;obtain⟨k,hk⟩:∃k,k=min (n - r*32) 32:=⟨_,rfl⟩
   obtain⟨f,hf⟩:∃f,f=r*32:=⟨_,rfl⟩
   have c4:0<k:=by omega
   have o3:k<=32:=by omega
   have n3:f+k<=n:=by omega
   obtain⟨z,hz⟩:∃z:Int,z=(f:Int)+(k:Int):=⟨_,rfl⟩
   have g4:=Zf (P:=Tryz.prog) #[3,3] 3 (x:=(n:Int)) (y:=((f:Nat):Int)+32) (m:=z) (by omega);obtain⟨A',c',f4,t3,_,_⟩:=q3.out f k (f:Int) z n3 rfl hz;have j2:k=((ps.drop f).take k).length:=by rw[List.length_take,List.length_drop,<-hn.out];omega
   have m3:psP ((ps.drop f).take k)=(P.drop (r*32)).take 32:=by
    rw[ZNb,<-hP.out,<-hf];have v3:(P.drop f).length=n - f:=by rw[List.length_drop,i0.out]
    rcases Nat.le_total (n - f) 32 with h3 | h3
    ·rw[List.take_of_length_le (by rw[v3];omega),List.take_of_length_le (by rw[v3];omega)]
    ·rw[show k=32 by omega]
   have c0:=(h.out.ext hE.out).sub (fr:=f) (k:=k) hn.out t3;obtain⟨h1,h2,h3,h4,h5,h6,h7,h8,h9,b3,f0,a1,c3⟩:=y3;rw[h1]at h4 h5 h6 h7 h8 h9 f0 a1;rw[<-m3]at h4 h5 h6 h7 h8 h9 f0 a1;obtain⟨X,hX⟩:∃X,X=blockPo a (psP ((ps.drop f).take k)):=⟨_,rfl⟩
   have e0:=c2.out ((ps.drop f).take k) A' k c' a wr j2 c0 h2 h3 h4 h5 (by omega) (by omega);rw[<-hX]at e0 h8 h9 a1;have e3:X.length<=50000000:=by omega
   obtain⟨x,hx⟩:∃x,((ps.drop f).take k)[k - 1]? = some x:=⟨_,List.getElem?_eq_getElem (by rw[<-j2];omega)⟩
   obtain⟨a2,v2⟩:∃a2,a2=lastPo a (psP ((ps.drop f).take k)):=⟨_,rfl⟩
   have a3:x.doc=a2:=by
    rw[v2,ZAz];have d3:((psP ((ps.drop f).take k)).map (·.1))[k - 1]? = some x.doc:=by unfold psP;rw[List.map_map,List.getElem?_map,hx];rfl
    have p3:=ZCG (lo:=a) d3;rw[List.take_of_length_le (by rw[List.length_map,ZHQ,<-j2];omega)]at p3;exact p3.symm
   rw[<-v2]at h6 h7 h8 f0;have s2:∀W,Ext wr W->∃g o,A'=some ⟨g,o,none⟩/\W.cell? ⟨g,o+(k - 1)*2,none⟩=some (.int .i64 a2):=fun W hE=>by
    obtain⟨g,o,hA,l0,_⟩:=Z5 (c0.cells.ext hE) hx;rw[a3]at l0;exact⟨g,o,hA,l0⟩
   obtain⟨g,o,k3,_⟩:=s2 wr (Ext.refl _);have k2:∀W,Ext wr W->W.cell? ⟨g,o+(k - 1)*2,none⟩=some (.int .i64 a2):=fun W hE=>by
    obtain⟨g2,o2,c1,l0⟩:=s2 W hE;rw[k3]at c1;injection c1 with c1;injection c1 with e1 e2;subst e1 e2;exact l0
   have p0:=i1.out.below;have h0:=x2.out.below;obtain⟨nx,v1⟩:∃nx,nx=X.length:=⟨_,rfl⟩
   have i4:=ZD (n:=a2.toNat) (by omega);have l4:=ZD (n:=nx) (by omega);obtain⟨kk,r3⟩:∃kk,k=kk+1:=⟨k - 1,by omega⟩
   rw[show k - 1=kk by omega]at k2;subst k3;have l2:r*32=f:=hf.symm;have i2:(r+1)*32=f+32:=by omega
   unfold NewB at e0;rw[<-v1]at e0 h8 a1 e3;rw[l2];subst r3;replace e0:=ZA e0;replace k2:=ZA k2;replace hz:=ZA hz;replace v1:=ZA v1;replace h8:=ZA h8;replace h9:=ZA h9;replace f0:=ZA f0;replace i2:=ZA i2;replace l2:=ZA l2;replace p0:=ZA p0;replace h0:=ZA h0;clear hf hk j2 m3 c0 h1 h2 h3 h4 h5 b3 c3 hX hx a3 v2 s2 t3 ha;go_wp2_with fail;refine e0.out.mono ?_;rintro e w3 ⟨X3,dx,rfl,b0,s0⟩;have q0:=k2.out w3 s0;have n0:=ZA (hE.out.trans s0);have p2:=d0.out Hd mh dh _ a2 w.heap.size w3 s1.out (i1.out.ext s0) n0.out.size h7 (by omega) (by omega);have k1:Apart Hd X3:=fun a b ha hb=>by
    have h1:=p0.out a ha;have h2:=b0.base b hb;omega
   have f3:Apart Bd X3:=fun a b ha hb=>by
    have h1:=h0.out a ha;have h2:=b0.base b hb;omega
   have j0:=x2.out.ext s0;have u0:=i1.out.ext s0;replace p2:=ZA p2;replace b0:=ZA b0;replace j0:=ZA j0;replace u0:=ZA u0;clear e0;go_wp2_with fail;refine p2.out.mono ?_;rintro e w4 ⟨H4,m4,d4,rfl,n1,g1,k0⟩;have o0:=ZA (k0.ext n0.out u0.out.base);have x0:=b0.out.push k0 k1;have g0:=j0.out.push k0 g3.out;have p1:=k0.apart j0.out.below g3.out;have j1:=k0.apart b0.out.below k1;have q4:m4<=mh+10:=by rw[n1,List.length_append,<-s1.out];omega
   have x1:=d0.out H4 m4 d4 _ (nx:Int) w.heap.size w4 n1 g1 o0.out.size (by omega) (by omega) (by omega);rw[Int.toNat_natCast,List.append_assoc,List.append_assoc,<-h8.out]at x1;replace x1:=ZA x1;replace x0:=ZA x0;replace g0:=ZA g0;replace g1:=ZA g1;replace n1:=ZA n1;clear k0 p2 q0 b0 j0 u0;go_wp2_with fail;refine x1.out.mono ?_;rintro e w5 ⟨H5,m5,d5,rfl,o1,f1,t0⟩;have r0:=ZA (t0.ext o0.out g1.out.base);have f2:=(x0.out.push t0 j1).cells;have y2:=g0.out.push t0 p1;have v0:=t0.apart g0.out.below p1;have p4:m5<=mh+20:=by
    have h1:=congrArg List.length h8.out;simp only[List.length_append]at h1;have h2:=s1.out;rw[List.length_append]at h2;rw[o1,List.length_append,h1];omega
   have u4:=r0.out.size;have a4:(X.map B8).length=nx:=by rw[List.length_map,v1.out]
   have r2:mb+nx<=50000000:=by have:=r1.out;omega
   replace o1:=ZA o1;replace f1:=ZA f1;replace v0:=ZA v0;clear t0 x1 x0 g0 g1;go_wp2_with (at_builtin;refine ZG ZV y2 f2 (.tmp 46) (.tmp 47) rfl rfl rfl rfl rfl a4 (ZF _) (by omega) u4 (fun B6 d6 w6 a0 l1 w0 b1=>?_);have z1:=Push.grow l1 b1;replace a0:=ZA a0;have y0:=ZA (w0 w r0.out (Nat.le_refl _));clear l1 w0 b1);have b2:=f1.out.push z1 v0.out.symm;have u2:=(z1.apart f1.out.below v0.out.symm).symm;have n2:mb+nx=(blockPo (-1) (P.take ((r+1)*32))).length:=by rw[h9.out,List.length_append,<-r1.out,<-v1.out]
   have z2:Buf w6 w.heap.size 5 B6 (mb+nx) d6 ((blockPo (-1) (P.take ((r+1)*32))).map B8):=by rw[h9.out,List.map_append];exact a0.out
   refine⟨⟨r+1,m5,d5,mb+nx,d6,H5,B6,a2,rfl,rfl,rfl,by rw[i2.out];go_num,by omega,by omega,r2,ZA f0.out.symm,o1,ZA b2,ZA n2,ZA z2,ZA u2,y0⟩,by simp only[intOf];omega⟩
  ·have m0:=q1.out r (by rw[i0.out];omega);rw[i0.out]at m0;have hlen:=congrArg List.length m0;rw[List.length_append,<-s1.out,<-r1.out]at hlen;have l3:=x2.out.cells;have x4:=hE.out.size;have i3:((blockPo (-1) (P.take (r*32))).map B8).length=mb:=by rw[List.length_map,r1.out]
   replace m0:=ZA m0;replace hlen:=ZA hlen;go_wp2_with (at_builtin;refine ZG ZV i1.out l3 (.tmp 49) (.tmp 50) rfl rfl rfl rfl rfl i3 (ZF _) (by omega) x4 (fun B6 d6 w6 a0 l1 w0 b1=>?_);replace a0:=ZA a0;have y0:=ZA (w0 w hE.out (Nat.le_refl _));clear l1 w0 b1);go_ret2;refine⟨B6,d6,by rw[hlen.out];rfl,⟨rfl,?_⟩,y0.out⟩;rw[hlen.out,m0.out,List.map_append];exact a0.out
end
section
open Go.RowKit Go.Maps
theorem ZCI:∀(P:List Dc) (lo:Int),lastD lo P=(P.map (·.1)).getLast?.getD lo
 | [],lo=>rfl
 | p::t,lo=>by
  rw[List.map_cons,ZDX];exact ZCI t p.1
theorem ZHi {P:List Dc} {k:Nat} {p:Dc} (hp:P[k]? = some p) (lo:Int):blockD lo (P.take (k+1))=blockD lo (P.take k)++oneD (lastD lo (P.take k)) p:=by
 rw[List.take_add_one,hp,Zs];show _++(oneD _ p ++ [])=_;rw[List.append_nil]
theorem ZJy (P:List Dc) (k:Nat) (lo:Int):(blockD lo (P.take k)).length<=(blockD lo P).length:=by
 conv=>rhs;rw[<-List.take_append_drop k P,Zs,List.length_append]
 omega
theorem Buf.own_base {w:World} {base:Nat} {e:TypeId} {A:Option Addr} {n c:Nat} {xs:List Value} (h:Buf w base e A n c xs):∀k,(Value.slice A n c).ownBlock=some k->base<=k:=fun k hk=>by
 cases A with
 | none=>simp[Value.ownBlock]at hk
 | some b =>
  have:=h.base b rfl;have h2:b.block=k:=by simpa [Value.ownBlock]using hk
  omega
theorem ZCj (ds:List DocC) (A:Option Addr) (n c:Nat) (w:World) (hn:n=ds.length) (h:DocsOk w A ds) (k0:n<=1000000000) (q0:okDs (dcs ds)=false) :
 Calls Tryz.prog 61 #[.slice A n c] w fun e w'=>e = .returned (.tuple #[.slice none 0 0,.int .i64 120])/\Ext w w':=by
 have h0:=ZGc ds A n c w hn h k0;rw[q0]at h0;replace h0:=ZA h0;replace hn:=ZA hn;clear h q0;go_enter Tryz.func61,Tryz.ntmps61;go_wp2_with fail;refine h0.out.mono ?_;rintro e w1 ⟨rfl,p0⟩;go_wp2_with fail;go_ret2;exact⟨rfl,p0⟩
theorem ZK4 (w:World) (g o k fl xc:Nat) (sq at_:Int) (xA:Option Addr) (hT:∀W,Ext w W->W.cell? ⟨g,o+k*3,none⟩=some (.int .i64 sq)/\W.cell? ⟨g,o+k*3+1,none⟩=some (.int .i64 at_)/\W.cell? ⟨g,o+k*3+2,none⟩=some (.slice xA fl xc)/\Ext w W) (bs:Nat) (k0:w.heap.size<=bs) (X:Option Addr) (m d:Nat) (L:List UInt8) (z:Int) (hm:m=L.length) (hz:0<=z) (m0:z<=9223372036854775807) (j0:m<=1000000000) (W:World) (hW:Ext w W) (hb:Buf W bs 5 X m d (L.map B8)) (p0:bs<=W.heap.size) :
 Calls Tryz.prog 111 #[.slice X m d,.int .i64 z] W fun e W'=>∃(X1:Option Addr) (m1 d1:Nat),e = .returned (.slice X1 m1 d1)/\m1=(L++vb z.toNat).length/\Buf W' bs 5 X1 m1 d1 ((L++vb z.toNat).map B8)/\(W'.cell? ⟨g,o+k*3,none⟩=some (.int .i64 sq)/\W'.cell? ⟨g,o+k*3+1,none⟩=some (.int .i64 at_)/\W'.cell? ⟨g,o+k*3+2,none⟩=some (.slice xA fl xc)/\Ext w W')/\Push W X X1 W':=by
 refine(ZEg X m d L z bs W hm hb p0 hz m0 j0).mono ?_;rintro e W' ⟨X1,m1,d1,rfl,g0,q0,h0⟩;have hE:=h0.ext hW fun a ha=>Nat.le_trans k0 (hb.base a ha);exact⟨X1,m1,d1,rfl,g0,q0,hT W' hE,h0⟩
theorem ZMh (w:World) (g o k fl xc:Nat) (sq at_:Int) (xA:Option Addr) (hT:∀W,Ext w W->W.cell? ⟨g,o+k*3,none⟩=some (.int .i64 sq)/\W.cell? ⟨g,o+k*3+1,none⟩=some (.int .i64 at_)/\W.cell? ⟨g,o+k*3+2,none⟩=some (.slice xA fl xc)/\Ext w W) (fs:List Fd) (h0:fl=fs.length) (hk:checkE fs=0) (ha:I64ok' at_) (q0:Ev.Ok ⟨at_,fs⟩ w xA) (W:World) (hW:Ext w W) :
 Calls Tryz.prog 112 #[.agg #[.int .i64 at_,.slice xA fl xc]] W fun e W'=>∃(E:Option Addr) (dE:Nat),e = .returned (.slice E (putE ⟨at_,fs⟩).length dE)/\Buf W' W.heap.size 5 E (putE ⟨at_,fs⟩).length dE ((putE ⟨at_,fs⟩).map B8)/\(W'.cell? ⟨g,o+k*3,none⟩=some (.int .i64 sq)/\W'.cell? ⟨g,o+k*3+1,none⟩=some (.int .i64 at_)/\W'.cell? ⟨g,o+k*3+2,none⟩=some (.slice xA fl xc)/\Ext w W')/\Ext W W':=by
 have h1:=ZJ0 ⟨at_,fs⟩ xA xc W (q0.ext hW) hk ha;unfold Ev.val at h1;simp only at h1;rw[<-h0]at h1;refine h1.mono ?_;rintro e W' ⟨E,dE,rfl,hb,hE⟩;exact⟨E,dE,rfl,hb,hT W' (hW.trans hE),hE⟩
end
section
open Go.RowKit
def kRv7 (b0:Nat) (A:Option Addr) (n c i g o dx:Nat) (X:Option Addr) (L t:List UInt8) (k:Nat):OwnK:=ownK [(kV (.slice X L.length dx),none),(kV (.int .i64 (k:Int)),none),(kB (b0) (vb k),some 3),(kB (b0) (L++vb k),some 12),(kV (.slice A n c),none),(kV (.int .i64 (i:Int)),none),(kV (.pointer (some ⟨g,o+i*4,none⟩)),none),(kV (.pointer (some ⟨g,o+i*4,none⟩)),none),(kV (.string ⟨t.toArray⟩),none),(kV (.int .i64 (k:Int)),none),(kV (.string ⟨(t.drop k).toArray⟩),none),(kB (b0) (txL (t.drop k)),some 12),(kB (b0) ((L++vb k)++txL (t.drop k)),some 13),(kB (b0) ((L++vb k)++txL (t.drop k)),none)] (fun w=>Buf w b0 5 X L.length dx (L.map B8)) (fun k=>(Value.slice X L.length dx).ownBlock=some k) 3
def kRv8 (b0:Nat) (A:Option Addr) (n c i g o dx:Nat) (X:Option Addr) (L:List UInt8) (x y z:Nat):OwnK:=ownK [(kV (.slice X L.length dx),none),(kV (.slice A n c),none),(kV (.int .i64 (i:Int)),none),(kV (.pointer (some ⟨g,o+i*4,none⟩)),none),(kV (.pointer (some ⟨g,o+i*4+1,none⟩)),none),(kV (.int .i64 (x:Int)),none),(kB (b0) (vb x),some 7),(kB (b0) (L++vb x),some 14),(kV (.slice A n c),none),(kV (.int .i64 (i:Int)),none),(kV (.pointer (some ⟨g,o+i*4,none⟩)),none),(kV (.pointer (some ⟨g,o+i*4+2,none⟩)),none),(kV (.int .i64 (y:Int)),none),(kB (b0) (vb y),some 14),(kB (b0) ((L++vb x)++vb y),some 21),(kV (.slice A n c),none),(kV (.int .i64 (i:Int)),none),(kV (.pointer (some ⟨g,o+i*4,none⟩)),none),(kV (.pointer (some ⟨g,o+i*4+3,none⟩)),none),(kV (.int .i64 (z:Int)),none),(kB (b0) (vb z),some 21),(kB (b0) (((L++vb x)++vb y)++vb z),some 22),(kB (b0) (((L++vb x)++vb y)++vb z),none)] (fun w=>Buf w b0 5 X L.length dx (L.map B8)) (fun k=>(Value.slice X L.length dx).ownBlock=some k) 7
theorem ZGf (l:List En) (A:Option Addr) (n c:Nat) (w:World) (hn:n=l.length) (h:Cells w A (encells l)) (p1:∀e∈l,okEn e) (x2:n<=262144) :
 Calls Tryz.prog 118 #[.slice A n c] w fun e w'=>NewB w (blockE [] l) e w':=by
 obtain⟨Z,hZ⟩:∃Z,Z=blockE [] l:=⟨_,rfl⟩
 rw[<-hZ];have m0:=ZA (fun k W (hk:k<=1000000000)=>ZIX k W hk);have r0:=ZA (fun s W (hk:s.length<=1000000000)=>ZDY s W hk);have m2:=ZA (fun a b W (h1:a.length<=1000000000) (h2:b.length<=1000000000)=>ZHB a b W h1 h2);replace hn:=ZA hn;replace h:=ZA h;replace p1:=ZA p1;replace hZ:=ZA hZ;go_enter Tryz.func118,Tryz.ntmps118;go_wp2_with fail
 go_loopw [3,4,5] (fun s3 s4 s5 wr=>∃(i dx:Nat) (X:Option Addr) (L la:List UInt8),s3 = .slice X L.length dx/\s4 = .string ⟨la.toArray⟩/\s5 = .int .i64 (i:Int)/\i<=n/\L.length<=200*i/\la.length<=65/\Hid (Z=L++blockE la (l.drop i))/\Hid (Buf wr w.heap.size 5 X L.length dx (L.map B8))/\Hid (Ext w wr)) (fun _ _ s5 _=>n - (intOf s5).toNat)
 case atStart=>exact⟨0,0,none,[],[],rfl,rfl,rfl,by omega,by simp,by simp,ZA (by rw[hZ.out];rfl),ZA (Buf.nil _ _ _),ZA (Ext.refl _)⟩
 case round =>
  obtain⟨i,dx,X,L,la,rfl,rfl,rfl,hi,t2,u2,hz,hb,hE⟩:=hrel;by_cases o0:i<n
  ·obtain⟨x,hx⟩:∃x,l[i]? = some x:=⟨_,List.getElem?_eq_getElem (by rw[<-hn.out];exact o0)⟩
   obtain⟨s1,p2,k2,j2⟩:=p1.out x (List.mem_of_getElem? hx);obtain⟨g,o,hA,x0,_,_,_⟩:=Z0 (h.out.ext hE.out) hx;have v0:∀W,Ext w W->W.cell? ⟨g,o+i*4,none⟩=some (.string ⟨x.t.toArray⟩)/\W.cell? ⟨g,o+i*4+1,none⟩=some (.int .i64 (x.off:Int))/\W.cell? ⟨g,o+i*4+2,none⟩=some (.int .i64 (x.len:Int))/\W.cell? ⟨g,o+i*4+3,none⟩=some (.int .i64 (x.n:Int)):=fun W hW=>by
    obtain⟨g2,o2,s0,l0,l1,l2,l3⟩:=Z0 (h.out.ext hW) hx;rw[hA]at s0;injection s0 with s0;injection s0 with e1 e2;subst e1 e2;exact⟨l0,l1,l2,l3⟩
   have o1:l.drop i=x::l.drop (i+1):=by
    rw[List.drop_eq_getElem_cons (List.getElem?_eq_some_iff.1 hx).1,(List.getElem?_eq_some_iff.1 hx).2]
   have q0:=hz.out;rw[o1]at q0;have r1:blockE la (x::l.drop (i+1))=enB la x++blockE x.t (l.drop (i+1)):=rfl;rw[r1]at q0;have i0:=ZKI (last:=la) (p1.out x (List.mem_of_getElem? hx));have k1:=m2.out la x.t;have u1:=(ZCp la x.t).2;obtain⟨t,x,y,z⟩:=x;unfold enB at q0 i0;simp only at s1 p2 k2 j2 x0 v0 q0 i0 k1 u1;obtain⟨k,v1⟩:∃k,k=cpl la t:=⟨_,rfl⟩
   rw[<-v1]at q0 i0 k1 u1;have j1:=k1 wr (by omega) (by omega);simp only[List.length_append]at i0;have v4:=ZD (n:=k) (by omega);subst hA;have hA:Hid ((some ⟨g,o,none⟩:Option Addr)=some ⟨g,o,none⟩):=ZA rfl;replace v0:=ZA v0;replace q0:=ZA q0;replace j1:=ZA j1;replace v1:=ZA v1;clear hx o1 k1 r1 hz;go_wp2_with fail;refine j1.out.mono ?_;rintro e w2 ⟨rfl,g1⟩;have q1:=hb.out.ext g1;have p0:=hE.out.trans g1;have j0:=ZA (show Buf w2.drew w.heap.size 5 X L.length dx (L.map B8)from q1.drew);have z0:=ZA p0.drew;replace q1:=ZA q1;replace p0:=ZA p0;clear g1 j1 x0;go_wp2_with fail;refine wp_region_held_drew (S:=fun _=>True) (by kernel_rfl) trivial (fun _=>?_);refine ZCe (base:=Array.replicate 14 false) (w0:=w) ⟨by kernel_rfl,of_decide_eq_true (by kernel_rfl),by kernel_rfl,by kernel_rfl⟩ (kRv7 (w.heap.size) (some ⟨g,o,none⟩) n c i g o dx X L t k) (ZDA ?mono) ?mono0 (fun _=>trivial) ?hstep ?fin _ _ (fun _ _=>False) _ _ (by kernel_rfl) (Nat.le_of_eq (by kernel_rfl)) (fun _ h=>h) ⟨rfl,rfl,fun _ _=>rfl,z0.out,fun j h1 h2=>absurd (h1.symm.trans h2) (by simp)⟩ (OwnI.start (fun _ h=>h) ⟨j0.out,fun k hk=>⟨j0.out.own_base k hk,ZLU j0.out k hk⟩⟩)
   case mono =>
    intro p hp;simp only[List.mem_cons,List.not_mem_nil,or_false]at hp;rcases hp with rfl | rfl | rfl | rfl | rfl | rfl | rfl | rfl | rfl | rfl | rfl | rfl | rfl | rfl <;> first | exact ZOo _ _ _ | exact ZOq _ _ _ _ | exact ZOs _ _ _ _ _ _ _
   case mono0=>exact fun _ _ _ h hC _ hO=>h.chg hC fun a ha=>hO a.block (by rw[ha];rfl)
   case hstep =>
    apply OSteps.all (K:=(kRv7 (w.heap.size) (some ⟨g,o,none⟩) n c i g o dx X L t k)) (l:= [0,1,2,3,4,5,6,7,8,9,10,11,12,13]);rotate_left
    ·kernel_rfl
    refine OSteps.cons rfl (fun F a wq ha hd=>?_) ?_
    ·exact ZH (ZP (v:= .slice X L.length dx) (.inl rfl) (ZI (ha.same 3))) rfl ⟨rfl,fun _ h=>h⟩
    refine OSteps.cons rfl (fun F a wq ha hd=>?_) ?_
    ·exact ZH (ZP (v:= .int .i64 (k:Int)) (.inl rfl) (ZI (ha.same 6))) rfl ⟨rfl,fun _ h=>h⟩
    refine OSteps.cons rfl (fun F a wq ha hd=>?_) ?_
    ·have qa:a.tmps.getD 21 undef = .int .i64 (k:Int):=(hd.one 1 21).1.1;exact ZDn rfl rfl (enters_of Tryz.func117 (by kernel_rfl) rfl) (ZBz qa) (ZFy ha.ext.size (m0.out k wq (by omega)))
    refine OSteps.cons rfl (fun F a wq ha hd=>?_) ?_
    ·have qs:a.eval (.tmp 20) = .slice X L.length dx:=(ZE (hd.one 0 20).1.1)
     have hb:=(hd.zero rfl).1;obtain⟨⟨Ax,cx,qx,hx,_⟩,z1⟩:(kB (w.heap.size) (vb k)) (a.tmps.getD 22 undef) (F 2) wq/\_:=hd.one 2 22;exact ZDb rfl hb hx (.tmp 20) (.tmp 22) rfl qs qx (by omega) ha.ext.size (fun k hk=>ZNE rfl hk) (fun _ _ _ h=>h)
    refine OSteps.cons rfl (fun F a wq ha hd=>?_) ?_
    ·exact ZH (ZP (v:= .slice (some ⟨g,o,none⟩) n c) (.inl rfl) (ZI (ha.same 0))) rfl ⟨rfl,fun _ h=>h⟩
    refine OSteps.cons rfl (fun F a wq ha hd=>?_) ?_
    ·exact ZH (ZP (v:= .int .i64 (i:Int)) (.inl rfl) (ZI (ha.same 5))) rfl ⟨rfl,fun _ h=>h⟩
    refine OSteps.cons rfl (fun F a wq ha hd=>?_) ?_
    ·exact ZH (ZCF (q:= .slice (some ⟨g,o,none⟩) n c) (z:= .int .i64 (i:Int)) (v:= .pointer (some ⟨g,o+i*4,none⟩)) rfl (ZE (hd.one 4 24).1.1) (ZE (hd.one 5 25).1.1) (ZMC wq g o n c i o0)) rfl ⟨rfl,fun _ h=>h⟩
    refine OSteps.cons rfl (fun F a wq ha hd=>?_) ?_
    ·exact ZH (ZL (q:= .pointer (some ⟨g,o+i*4,none⟩)) (v:= .pointer (some ⟨g,o+i*4,none⟩)) rfl (ZE (hd.one 6 26).1.1) ((ZMz wq g (o+i*4)).1)) rfl ⟨rfl,fun _ h=>h⟩
    refine OSteps.cons rfl (fun F a wq ha hd=>?_) ?_
    ·exact ZH (Zi (q:= .pointer (some ⟨g,o+i*4,none⟩)) (v:= .string ⟨t.toArray⟩) rfl (ZE (hd.one 7 27).1.1) (ZOU (v0.out wq ha.ext).1)) rfl ⟨rfl,fun _ h=>h⟩
    refine OSteps.cons rfl (fun F a wq ha hd=>?_) ?_
    ·exact ZH (ZP (v:= .int .i64 (k:Int)) (.inl rfl) (ZI (ha.same 6))) rfl ⟨rfl,fun _ h=>h⟩
    refine OSteps.cons rfl (fun F a wq ha hd=>?_) ?_
    ·exact ZH (ZFl (q:= .string ⟨t.toArray⟩) (v:= .string ⟨(t.drop k).toArray⟩) (l:=some (.int .i64 (k:Int))) (h:=none) (m:=none) rfl (ZE (hd.one 8 28).1.1) (congrArg some (ZE (hd.one 9 29).1.1)) rfl rfl (ZD2 t k u1 rfl wq)) rfl ⟨rfl,fun _ h=>h⟩
    refine OSteps.cons rfl (fun F a wq ha hd=>?_) ?_
    ·have qa:a.tmps.getD 30 undef = .string ⟨(t.drop k).toArray⟩:=(hd.one 10 30).1.1;exact ZDn rfl rfl (enters_of Tryz.func162 (by kernel_rfl) rfl) (ZBz qa) (ZFy ha.ext.size (r0.out (t.drop k) wq (by rw[List.length_drop];omega)))
    refine OSteps.cons rfl (fun F a wq ha hd=>?_) ?_
    ·obtain⟨⟨As,cs,qs,hb,hS⟩,a1⟩:(kB (w.heap.size) (L++vb k)) (a.tmps.getD 23 undef) (F 3) wq/\_:=hd.one 3 23;obtain⟨⟨Ax,cx,qx,hx,_⟩,b1⟩:(kB (w.heap.size) (txL (t.drop k))) (a.tmps.getD 31 undef) (F 11) wq/\_:=hd.one 11 31;exact ZDb rfl hb hx (.tmp 23) (.tmp 31) rfl qs qx (by rw[List.length_append];omega) ha.ext.size (fun k hk=>ZHD (j:=3) (d:=23) rfl (by kernel_rfl) (by kernel_rfl) (by kernel_rfl) (by kernel_rfl) ((hS k).2 (by rw[qs];exact hk))) (fun _ _ _ h=>h)
    refine OSteps.cons rfl (fun F a wq ha hd=>?_) ?_
    ·obtain⟨⟨As,cs,qs,hb,hS⟩,e0⟩:(kB (w.heap.size) ((L++vb k)++txL (t.drop k))) (a.tmps.getD 32 undef) (F 12) wq/\_:=hd.one 12 32;exact ZDZ (S:=F 12) (ZP (.inr rfl) qs) rfl ⟨As,cs,rfl,hb,fun k=>by rw[hS k,qs]⟩ (Ext.refl _) (fun k hk=> .inr ⟨(e0 k hk).2,ZHD (j:=12) (d:=32) rfl (by kernel_rfl) (by kernel_rfl) (by kernel_rfl) (by kernel_rfl) hk⟩)
    exact OSteps.nil
   case fin =>
    intro F a w9 ha hh;obtain⟨⟨A9,c9,q9,d0,v2⟩,t1⟩:(kB (w.heap.size) ((L++vb k)++txL (t.drop k))) (a.tmps.getD 3 undef) (F 13) w9/\_:=hh 13 3 (by kernel_rfl) (by kernel_rfl) (by kernel_rfl);have h0:=ha.act [20,21,22,23,24,25,26,27,28,29,30,31,32,3] (by kernel_rfl);have y1:=ZA ha.ext;simp only[List.foldl_cons,List.foldl_nil]at h0;rw[q9]at h0;replace d0:=ZA d0;clear ha hh q9;obtain⟨fv,n0⟩:∃f:Nat->Value,∀d,a.tmps.getD d undef=f d:=⟨_,fun _=>rfl⟩
    simp only[n0]at h0;clear n0;subst h0;simp only[pz0,pz1,pz2];obtain⟨L2,b0⟩:∃L2,L2=L++vb k++txL (t.drop k):=⟨_,rfl⟩
    rw[<-b0]at d0 ⊢;have w1:L2.length<=L.length+((vb k).length+(txL (t.drop k)).length):=by rw[b0];simp only[List.length_append];omega
    have u0:Z=L2++((vb x++vb y++vb z)++blockE t (l.drop (i+1))):=by rw[q0.out,b0];simp only[List.append_assoc]
    have g0:=ZA d0.out.drew;have a0:=ZA y1.out.drew;replace b0:=ZA b0;replace u0:=ZA u0;clear q1 j0 p0 z0 q0 hb;go_wp2_with fail;refine wp_region_held_drew (S:=fun _=>True) (by kernel_rfl) trivial (fun _=>?_);refine ZCe (base:=Array.replicate 23 false) (w0:=w) ⟨by kernel_rfl,of_decide_eq_true (by kernel_rfl),by kernel_rfl,by kernel_rfl⟩ (kRv8 (w.heap.size) (some ⟨g,o,none⟩) n c i g o c9 A9 L2 x y z) (ZDA ?mono) ?mono0 (fun _=>trivial) ?hstep ?fin _ _ (fun _ _=>False) _ _ (by kernel_rfl) (Nat.le_of_eq (by kernel_rfl)) (fun _ h=>h) ⟨rfl,rfl,fun _ _=>rfl,a0.out,fun j h1 h2=>absurd (h1.symm.trans h2) (by simp)⟩ (OwnI.start (fun _ h=>h) ⟨g0.out,fun k hk=>⟨g0.out.own_base k hk,ZLU g0.out k hk⟩⟩)
    case mono =>
     intro p hp;simp only[List.mem_cons,List.not_mem_nil,or_false]at hp;rcases hp with rfl | rfl | rfl | rfl | rfl | rfl | rfl | rfl | rfl | rfl | rfl | rfl | rfl | rfl | rfl | rfl | rfl | rfl | rfl | rfl | rfl | rfl | rfl <;> first | exact ZOo _ _ _ | exact ZOq _ _ _ _ | exact ZOs _ _ _ _ _ _ _
    case mono0=>exact fun _ _ _ h hC _ hO=>h.chg hC fun a ha=>hO a.block (by rw[ha];rfl)
    case hstep =>
     apply OSteps.all (K:=(kRv8 (w.heap.size) (some ⟨g,o,none⟩) n c i g o c9 A9 L2 x y z)) (l:= [0,1,2,3,4,5,6,7,8,9,10,11,12,13,14,15,16,17,18,19,20,21,22]);rotate_left
     ·kernel_rfl
     refine OSteps.cons rfl (fun F a wq ha hd=>?_) ?_
     ·exact ZH (ZP (v:= .slice A9 L2.length c9) (.inl rfl) (ZI (ha.same 3))) rfl ⟨rfl,fun _ h=>h⟩
     refine OSteps.cons rfl (fun F a wq ha hd=>?_) ?_
     ·exact ZH (ZP (v:= .slice (some ⟨g,o,none⟩) n c) (.inl rfl) (ZI (ha.same 0))) rfl ⟨rfl,fun _ h=>h⟩
     refine OSteps.cons rfl (fun F a wq ha hd=>?_) ?_
     ·exact ZH (ZP (v:= .int .i64 (i:Int)) (.inl rfl) (ZI (ha.same 5))) rfl ⟨rfl,fun _ h=>h⟩
     refine OSteps.cons rfl (fun F a wq ha hd=>?_) ?_
     ·exact ZH (ZCF (q:= .slice (some ⟨g,o,none⟩) n c) (z:= .int .i64 (i:Int)) (v:= .pointer (some ⟨g,o+i*4,none⟩)) rfl (ZE (hd.one 1 34).1.1) (ZE (hd.one 2 35).1.1) (ZMC wq g o n c i o0)) rfl ⟨rfl,fun _ h=>h⟩
     refine OSteps.cons rfl (fun F a wq ha hd=>?_) ?_
     ·exact ZH (ZL (q:= .pointer (some ⟨g,o+i*4,none⟩)) (v:= .pointer (some ⟨g,o+i*4+1,none⟩)) rfl (ZE (hd.one 3 36).1.1) ((ZMz wq g (o+i*4)).2.1)) rfl ⟨rfl,fun _ h=>h⟩
     refine OSteps.cons rfl (fun F a wq ha hd=>?_) ?_
     ·exact ZH (Zi (q:= .pointer (some ⟨g,o+i*4+1,none⟩)) (v:= .int .i64 (x:Int)) rfl (ZE (hd.one 4 37).1.1) (ZAJ (v0.out wq ha.ext).2.1)) rfl ⟨rfl,fun _ h=>h⟩
     refine OSteps.cons rfl (fun F a wq ha hd=>?_) ?_
     ·have qa:a.tmps.getD 38 undef = .int .i64 (x:Int):=(hd.one 5 38).1.1;exact ZDn rfl rfl (enters_of Tryz.func117 (by kernel_rfl) rfl) (ZBz qa) (ZFy ha.ext.size (m0.out x wq (by omega)))
     refine OSteps.cons rfl (fun F a wq ha hd=>?_) ?_
     ·have qs:a.eval (.tmp 33) = .slice A9 L2.length c9:=(ZE (hd.one 0 33).1.1)
      have hb:=(hd.zero rfl).1;obtain⟨⟨Ax,cx,qx,hx,_⟩,c1⟩:(kB (w.heap.size) (vb x)) (a.tmps.getD 39 undef) (F 6) wq/\_:=hd.one 6 39;exact ZDb rfl hb hx (.tmp 33) (.tmp 39) rfl qs qx (by omega) ha.ext.size (fun k hk=>ZNE rfl hk) (fun _ _ _ h=>h)
     refine OSteps.cons rfl (fun F a wq ha hd=>?_) ?_
     ·exact ZH (ZP (v:= .slice (some ⟨g,o,none⟩) n c) (.inl rfl) (ZI (ha.same 0))) rfl ⟨rfl,fun _ h=>h⟩
     refine OSteps.cons rfl (fun F a wq ha hd=>?_) ?_
     ·exact ZH (ZP (v:= .int .i64 (i:Int)) (.inl rfl) (ZI (ha.same 5))) rfl ⟨rfl,fun _ h=>h⟩
     refine OSteps.cons rfl (fun F a wq ha hd=>?_) ?_
     ·exact ZH (ZCF (q:= .slice (some ⟨g,o,none⟩) n c) (z:= .int .i64 (i:Int)) (v:= .pointer (some ⟨g,o+i*4,none⟩)) rfl (ZE (hd.one 8 41).1.1) (ZE (hd.one 9 42).1.1) (ZMC wq g o n c i o0)) rfl ⟨rfl,fun _ h=>h⟩
     refine OSteps.cons rfl (fun F a wq ha hd=>?_) ?_
     ·exact ZH (ZL (q:= .pointer (some ⟨g,o+i*4,none⟩)) (v:= .pointer (some ⟨g,o+i*4+2,none⟩)) rfl (ZE (hd.one 10 43).1.1) ((ZMz wq g (o+i*4)).2.2.1)) rfl ⟨rfl,fun _ h=>h⟩
     refine OSteps.cons rfl (fun F a wq ha hd=>?_) ?_
     ·exact ZH (Zi (q:= .pointer (some ⟨g,o+i*4+2,none⟩)) (v:= .int .i64 (y:Int)) rfl (ZE (hd.one 11 44).1.1) (ZAJ (v0.out wq ha.ext).2.2.1)) rfl ⟨rfl,fun _ h=>h⟩
     refine OSteps.cons rfl (fun F a wq ha hd=>?_) ?_
     ·have qa:a.tmps.getD 45 undef = .int .i64 (y:Int):=(hd.one 12 45).1.1;exact ZDn rfl rfl (enters_of Tryz.func117 (by kernel_rfl) rfl) (ZBz qa) (ZFy ha.ext.size (m0.out y wq (by omega)))
     refine OSteps.cons rfl (fun F a wq ha hd=>?_) ?_
     ·obtain⟨⟨As,cs,qs,hb,hS⟩,d1⟩:(kB (w.heap.size) (L2++vb x)) (a.tmps.getD 40 undef) (F 7) wq/\_:=hd.one 7 40;obtain⟨⟨Ax,cx,qx,hx,_⟩,f1⟩:(kB (w.heap.size) (vb y)) (a.tmps.getD 46 undef) (F 13) wq/\_:=hd.one 13 46;exact ZDb rfl hb hx (.tmp 40) (.tmp 46) rfl qs qx (by rw[List.length_append];omega) ha.ext.size (fun k hk=>ZHD (j:=7) (d:=40) rfl (by kernel_rfl) (by kernel_rfl) (by kernel_rfl) (by kernel_rfl) ((hS k).2 (by rw[qs];exact hk))) (fun _ _ _ h=>h)
     refine OSteps.cons rfl (fun F a wq ha hd=>?_) ?_
     ·exact ZH (ZP (v:= .slice (some ⟨g,o,none⟩) n c) (.inl rfl) (ZI (ha.same 0))) rfl ⟨rfl,fun _ h=>h⟩
     refine OSteps.cons rfl (fun F a wq ha hd=>?_) ?_
     ·exact ZH (ZP (v:= .int .i64 (i:Int)) (.inl rfl) (ZI (ha.same 5))) rfl ⟨rfl,fun _ h=>h⟩
     refine OSteps.cons rfl (fun F a wq ha hd=>?_) ?_
     ·exact ZH (ZCF (q:= .slice (some ⟨g,o,none⟩) n c) (z:= .int .i64 (i:Int)) (v:= .pointer (some ⟨g,o+i*4,none⟩)) rfl (ZE (hd.one 15 48).1.1) (ZE (hd.one 16 49).1.1) (ZMC wq g o n c i o0)) rfl ⟨rfl,fun _ h=>h⟩
     refine OSteps.cons rfl (fun F a wq ha hd=>?_) ?_
     ·exact ZH (ZL (q:= .pointer (some ⟨g,o+i*4,none⟩)) (v:= .pointer (some ⟨g,o+i*4+3,none⟩)) rfl (ZE (hd.one 17 50).1.1) ((ZMz wq g (o+i*4)).2.2.2)) rfl ⟨rfl,fun _ h=>h⟩
     refine OSteps.cons rfl (fun F a wq ha hd=>?_) ?_
     ·exact ZH (Zi (q:= .pointer (some ⟨g,o+i*4+3,none⟩)) (v:= .int .i64 (z:Int)) rfl (ZE (hd.one 18 51).1.1) (ZAJ (v0.out wq ha.ext).2.2.2)) rfl ⟨rfl,fun _ h=>h⟩
     refine OSteps.cons rfl (fun F a wq ha hd=>?_) ?_
     ·have qa:a.tmps.getD 52 undef = .int .i64 (z:Int):=(hd.one 19 52).1.1;exact ZDn rfl rfl (enters_of Tryz.func117 (by kernel_rfl) rfl) (ZBz qa) (ZFy ha.ext.size (m0.out z wq (by omega)))
     refine OSteps.cons rfl (fun F a wq ha hd=>?_) ?_
     ·obtain⟨⟨As,cs,qs,hb,hS⟩,i1⟩:(kB (w.heap.size) ((L2++vb x)++vb y)) (a.tmps.getD 47 undef) (F 14) wq/\_:=hd.one 14 47;obtain⟨⟨Ax,cx,qx,hx,_⟩,n1⟩:(kB (w.heap.size) (vb z)) (a.tmps.getD 53 undef) (F 20) wq/\_:=hd.one 20 53;exact ZDb rfl hb hx (.tmp 47) (.tmp 53) rfl qs qx (by rw[List.length_append,List.length_append];omega) ha.ext.size (fun k hk=>ZHD (j:=14) (d:=47) rfl (by kernel_rfl) (by kernel_rfl) (by kernel_rfl) (by kernel_rfl) ((hS k).2 (by rw[qs];exact hk))) (fun _ _ _ h=>h)
     refine OSteps.cons rfl (fun F a wq ha hd=>?_) ?_
     ·obtain⟨⟨As,cs,qs,hb,hS⟩,f0⟩:(kB (w.heap.size) (((L2++vb x)++vb y)++vb z)) (a.tmps.getD 54 undef) (F 21) wq/\_:=hd.one 21 54;exact ZDZ (S:=F 21) (ZP (.inr rfl) qs) rfl ⟨As,cs,rfl,hb,fun k=>by rw[hS k,qs]⟩ (Ext.refl _) (fun k hk=> .inr ⟨(f0 k hk).2,ZHD (j:=21) (d:=54) rfl (by kernel_rfl) (by kernel_rfl) (by kernel_rfl) (by kernel_rfl) hk⟩)
     exact OSteps.nil
    case fin =>
     intro F a w10 ha hh;obtain⟨⟨A10,c10,q10,k0,q2⟩,t1⟩:(kB (w.heap.size) (((L2++vb x)++vb y)++vb z)) (a.tmps.getD 3 undef) (F 22) w10/\_:=hh 22 3 (by kernel_rfl) (by kernel_rfl) (by kernel_rfl);have h0:=ha.act [33,34,35,36,37,38,39,40,41,42,43,44,45,46,47,48,49,50,51,52,53,54,3] (by kernel_rfl);have y0:=ZA ha.ext;simp only[List.foldl_cons,List.foldl_nil]at h0;rw[q10]at h0;replace k0:=ZA k0;clear ha hh q10;obtain⟨fv,n0⟩:∃f:Nat->Value,∀d,a.tmps.getD d undef=f d:=⟨_,fun _=>rfl⟩
     simp only[n0]at h0;clear n0;subst h0;simp only[pz0,pz1,pz2];obtain⟨L3,c0⟩:∃L3,L3=L2++vb x++vb y++vb z:=⟨_,rfl⟩
     rw[<-c0]at k0 ⊢;have m1:L3.length<=200*(i+1):=by rw[c0];simp only[List.length_append];omega
     have x1:Z=L3++blockE t (l.drop (i+1)):=by rw[u0.out,c0];simp only[List.append_assoc]
     replace c0:=ZA c0;replace x1:=ZA x1;have t0:w10.cell? ⟨g,o+i*4,none⟩=some (.string ⟨t.toArray⟩):=(v0.out w10 y0.out).1;clear d0 g0 y1 a0 u0 i0;go_wp2_with fail;go_roundw
     case rel=>exact⟨i+1,c10,A10,L3,t,rfl,rfl,by go_num,by omega,m1,s1,x1,k0,y0⟩
     case measure=>simp only[intOf];omega
  ·obtain rfl:i=n:=by omega
   have q0:=hz.out;rw[hn.out,List.drop_length]at q0;have u0:Z=L:=by rw[q0];exact List.append_nil _
   subst u0;go_wp2_with fail;go_ret;exact⟨X,dx,rfl,hb.out,hE.out⟩
end
section
open Go.RowKit Go.Maps
theorem ZG8 (l:List En) (i m:Nat):((encells l).drop (i*4)).take (m*4)=encells ((l.drop i).take m):=by
 unfold encells;rw[Z4 (f:=En.cells) (k:=4) (fun _=>rfl),ZAE (f:=En.cells) (k:=4) (fun _=>rfl)]
theorem ZFF (l:List En) (A:Option Addr) (n c:Nat) (w:World) (hn:n=l.length) (h:Cells w A (encells l)) (hA:∀a,A=some a->a.spot=none) (m2:n<=c) (p0:OkEs l) :
 Calls Tryz.prog 63 #[.slice A n c] w fun e w'=>OkB w (encEs l) e w':=by
 have e2:n<=262144:=by rw[hn];exact p0.few
 have m0:=ZA (ZM0 l A n c w hn h p0);have v0:=ZA (fun k W (hk:k<=1000000000)=>ZIX k W hk);have o0:=ZA (fun(q:List En) B m d W (h1:m=q.length) (h2:Cells W B (encells q)) h3 (h4:m<=262144)=>ZGf q B m d W h1 h2 h3 h4);have k1:=ZA (fun(fr k:Nat) (z0 z:Int) (h:fr+k<=n) (a2:z0=(fr:Int)) (hz:z=(fr:Int)+(k:Int))=>ZHs Tryz.underlying94 (fun W:World=>(by kernel_rfl:(sizeOf 97).run Tryz.prog W = .ok 4 W)) (n:=n) (c:=c) (fr:=fr) (k:=k) (A:=A) h m2 hA a2 hz);have t2:=ZA (fun r (hr:r*16<l.length)=>ZDk (l:=l) hr);have g0:=ZA (fun r (hr:l.length<=r*16)=>ZF6 l r hr);have y2:=ZA (fun r=>ZDa (fun e he=>(p0.each e he).1) p0.few r);have z2:=ZD (n:=n) (by omega);have u0:Hid (∀e∈l,okEn e):=ZA fun e he=>(p0.each e he).1;obtain⟨Z,hZ⟩:∃Z,Z=encEs l:=⟨_,rfl⟩
 rw[<-hZ]at g0 ⊢;replace hZ:=ZA hZ;replace hn:=ZA hn;replace h:=ZA h;clear p0;go_enter Tryz.func63,Tryz.ntmps63;go_wp2_with fail;refine m0.out.mono ?_;rintro e w1 ⟨rfl,f0⟩;have b1:=ZA (v0.out n w1 (by omega));go_wp2_with fail;refine b1.out.mono ?_;rintro e w2 ⟨X0,c0,rfl,a0,m1⟩;have a0:=ZA (a0.lower f0.size);have g1:=ZA (f0.trans m1);clear b1 m0 f0 m1;go_wp2_with fail
 go_loopw [4,5] (fun s4 s5 wr=>∃(r dx:Nat) (X:Option Addr) (L:List UInt8),s4 = .slice X L.length dx/\s5 = .int .i64 ((r*16:Nat):Int)/\r*16<=n+15/\L.length<=60000010/\Hid (L=vb n++partsE ((chunkL 16 l).take r))/\Hid (Buf wr w.heap.size 5 X L.length dx (L.map B8))/\Hid (Ext w wr)) (fun _ s5 _=>n+15 - (intOf s5).toNat)
 case atStart=>exact⟨0,c0,X0,vb n,rfl,rfl,by omega,by omega,ZA (by rw[List.take_zero];exact(List.append_nil _).symm),a0,g1⟩
 case round =>
  clear a0 g1;obtain⟨r,dx,X,L,rfl,rfl,hr,b2,hL,hb,hE⟩:=hrel;by_cases v2:r*16<n
  ·have h0:=t2.out r (by rw[<-hn.out];exact v2);obtain⟨k,hk⟩:∃k,k=min (n - r*16) 16:=⟨_,rfl⟩
   obtain⟨f,hf⟩:∃f,f=r*16:=⟨_,rfl⟩
   rw[<-hf]at h0;have d2:0<k:=by omega
   have j2:k<=16:=by omega
   have q2:f+k<=n:=by omega
   obtain⟨z,hz⟩:∃z:Int,z=(f:Int)+(k:Int):=⟨_,rfl⟩
   have g2:=Zf (P:=Tryz.prog) #[3,3] 3 (x:=(n:Int)) (y:=((f:Nat):Int)+16) (m:=z) (by omega);obtain⟨A',c',f2,y1,_,_⟩:=k1.out f k (f:Int) z q2 rfl hz;obtain⟨q,hq⟩:∃q,q=(l.drop f).take 16:=⟨_,rfl⟩
   have p1:(l.drop f).take k=q:=by
    rw[hq];have z1:(l.drop f).length=n - f:=by rw[List.length_drop,<-hn.out]
    rcases Nat.le_total (n - f) 16 with h3 | h3
    ·rw[List.take_of_length_le (by rw[z1];omega),List.take_of_length_le (by rw[z1];omega)]
    ·rw[show k=16 by omega]
   have d1:k=q.length:=by rw[<-p1,List.length_take,List.length_drop,<-hn.out];omega
   have q1:=y1 wr (encells l) (by rw[ZDv,hn.out]) (h.out.ext hE.out);rw[ZG8,p1]at q1;rw[<-hq]at h0;have t0:=o0.out q A' k c' wr d1 q1 (fun e he=>u0.out e (by rw[hq]at he;exact List.mem_of_mem_drop (List.mem_of_mem_take he))) (by omega);have u1:=ZBU (l:=q) (last:= []) fun e he=>u0.out e (by rw[hq]at he;exact List.mem_of_mem_drop (List.mem_of_mem_take he));obtain⟨Y,hY⟩:∃Y,Y=blockE [] q:=⟨_,rfl⟩
   rw[<-hY]at t0 h0 u1;have c2:Y.length<=3200:=by omega
   have y0:L++vb Y.length++Y=vb n++partsE ((chunkL 16 l).take (r+1)):=by rw[h0,hL.out];simp only[List.append_assoc]
   have s1:Hid ((r+1)*16=f+16):=ZA (by omega);have l2:=ZD (n:=Y.length) (by omega);have i2:=y2.out (r+1);have l0:L.length+(vb Y.length).length+Y.length<=60000010:=by rw[<-List.length_append,<-List.length_append,y0,List.length_append];omega
   rw[hf.symm];replace t0:=ZA t0;replace y0:=ZA y0;replace hz:=ZA hz;replace hq:=ZA hq;replace hY:=ZA hY;replace p2:Hid (r*16=f):=ZA hf.symm;clear hf hk p1 d1 q1 h0 y1 u1;go_wp2_with fail;refine t0.out.mono ?_;rintro e w3 ⟨Y3,d3,rfl,b0,i0⟩;have c1:=ZA (v0.out Y.length w3 (by omega));have d0:=ZA (hE.out.trans i0);have l1:=ZA (hb.out.ext i0);have f1:Hid (Apart X Y3):=ZA fun a b ha i1=>by
    have h1:=hb.out.below a ha;have h2:=b0.base_le b i1;omega
   replace b0:=ZA b0;clear i0 t0 hb;go_wp2_with fail;refine c1.out.mono ?_;rintro e w4 ⟨N4,d4,rfl,r1,x0⟩;have k0:=ZA (d0.out.trans x0);have n1:=l1.out.ext x0;have s0:=b0.out.ext x0;have r0:=r1.cells;have u2:=k0.out.size;clear c1 x0;go_wp2_with (at_builtin;first
    | (refine ZG ZV n1 r0 (.tmp 28) (.tmp 31) rfl rfl rfl rfl rfl (by rw[List.length_map]) (ZF _) (by omega) u2 (fun B5 d5 w5 o1 a1 t1 j1=>?_);have w0:=(s0.push (Push.grow a1 j1) f1.out).cells;have j0:=ZA (t1 w k0.out (Nat.le_refl _));have x2:=j0.out.size;clear a1 t1 j1)
    | (refine ZG ZV o1 w0 (.tmp 32) (.tmp 33) rfl rfl rfl rfl rfl (by rw[List.length_map]) (ZF _) (by omega) x2 (fun B6 d6 w6 n0 k2 v1 e1=>?_);have e0:=ZA (v1 w j0.out (Nat.le_refl _));replace n0:=ZA n0;clear k2 v1 e1))
   go_roundw
   case rel =>
    have x1:=n0.out;rw[<-List.map_append,<-List.map_append]at x1;exact⟨r+1,d6,B6,L++vb Y.length++Y,by rw[List.length_append,List.length_append],by rw[s1.out];go_num,by have:=p2.out;omega,by rw[List.length_append,List.length_append];exact l0,y0,ZA (by rw[List.length_append,List.length_append];exact x1),e0⟩
   case measure=>simp only[intOf];omega
  ·have q0:=g0.out r (by rw[<-hn.out];omega);rw[<-hn.out,<-hL.out]at q0;go_wp2_with fail;go_ret2;exact⟨X,dx,by rw[q0];rfl,⟨by rw[q0],by rw[q0];exact hb.out⟩,hE.out⟩
end
section
open Go.RowKit Go.Maps
theorem ZA2 (ds:List DocC) (A:Option Addr) (n c:Nat) (w:World) (hn:n=ds.length) (h:DocsOk w A ds) (j2:okDs (dcs ds)=true) (k5:(blockD 0 (dcs ds)).length<=50000000) :
 Calls Tryz.prog 61 #[.slice A n c] w fun e w'=>OkB w (encDs (dcs ds)) e w':=by
 have i0:(dcs ds).length=n:=by unfold dcs;rw[List.length_map,hn]
 have b6:n<=65536:=by
  have h1:=j2;unfold okDs at h1;rw[Bool.and_eq_true]at h1;have:=of_decide_eq_true h1.1;omega
 have r1:=ZGc ds A n c w hn h (by omega);rw[j2]at r1;obtain⟨P,hP⟩:∃P,P=dcs ds:=⟨_,rfl⟩
 rw[<-hP]at j2 k5 i0 ⊢;have p6:=ZA (fun r (hr:r*16<P.length)=>ZFX j2 k5 hr);have f3:=ZA (fun r (hr:P.length<=r*16)=>ZFr P r hr);have o0:=ZA (fun A n c l x base W (hn:n=l.length) (hb:Buf W base 5 A n c (l.map B8)) (i1:base<=W.heap.size) (hx:0<=x) (v6:x<=9223372036854775807) (i5:n<=1000000000)=>ZEg A n c l x base W hn hb i1 hx v6 i5);have t6:=ZD (n:=n) (by omega);replace r1:=ZA r1;replace hP:=ZA hP;replace hn:=ZA hn;replace h:=ZA h;replace i0:=ZA i0;clear j2;go_enter Tryz.func61,Tryz.ntmps61;go_wp2_with fail;refine r1.out.mono ?_;rintro e w1 ⟨rfl,c3⟩;have t2:=o0.out none 0 0 [] (n:Int) w.heap.size w1 rfl (Buf.nil _ _ _) c3.size (by omega) (by omega) (by omega);rw[List.nil_append,Int.toNat_natCast]at t2;replace t2:=ZA t2;go_wp2_with fail;refine t2.out.mono ?_;rintro e w2 ⟨H2,m2,d2,rfl,p2,q3,y2⟩;have t1:=ZA (y2.ext c3 nofun);replace p2:=ZA p2;replace q3:=ZA q3;clear t2 r1 y2 c3;go_wp2_with fail
 go_loopw [4,5,6,7] (fun s4 s5 s6 s7 wr=>∃(r mh dh mb db:Nat) (Hd Bd:Option Addr) (a:Int),s4 = .slice Hd mh dh/\s5 = .slice Bd mb db/\s6 = .int .i64 a/\s7 = .int .i64 ((r*16:Nat):Int)/\r*16<=n+15/\mh<=10+20*r/\mb<=50000000/\Hid (a=lastD 0 (P.take (r*16)))/\Hid (mh=(vb n++headD 0 ((chunkL 16 P).take r)).length)/\Hid (Buf wr w.heap.size 5 Hd mh dh ((vb n++headD 0 ((chunkL 16 P).take r)).map B8))/\Hid (mb=(blockD 0 (P.take (r*16))).length)/\Hid (Buf wr w.heap.size 5 Bd mb db ((blockD 0 (P.take (r*16))).map B8))/\Hid (Apart Hd Bd)/\Hid (Ext w wr)) (fun _ _ _ s7 _=>n+15 - (intOf s7).toNat)
 case atStart =>
  refine⟨0,m2,d2,0,0,H2,none,0,rfl,rfl,rfl,rfl,by omega,by rw[p2.out];omega,by omega,ZA rfl,ZA ?_,ZA ?_,ZA rfl,ZA (Buf.nil _ _ _),ZA nofun,t1⟩
  ·rw[List.take_zero];show m2=(vb n ++ []).length;rw[List.append_nil];exact p2.out
  ·rw[List.take_zero];show Buf _ _ _ _ _ _ ((vb n ++ []).map B8);rw[List.append_nil];exact q3.out
 case round =>
  clear p2 q3 t1;obtain⟨r,mh,dh,mb,db,Hd,Bd,a,rfl,rfl,rfl,rfl,hr,r5,o5,ha,y3,j3,x3,o3,l4,hE⟩:=hrel;by_cases p5:r*16<n
  ·have b4:=p6.out r (by rw[i0.out];exact p5);rw[<-ha.out]at b4;obtain⟨f,hf⟩:∃f,f=r*16:=⟨_,rfl⟩
   obtain⟨bP,f1⟩:∃bP,bP=(P.drop (r*16)).take 16:=⟨_,rfl⟩
   rw[<-f1]at b4;obtain⟨h1,h2,h3,h4,h5,h6,h7,h8,h9,g5,c2,t5,v5⟩:=b4;have r0:bP.length=min (n - f) 16:=by rw[f1,List.length_take,List.length_drop,i0.out,hf];omega
   have w3:∀j,j<bP.length->bP[j]? = P[f+j]? :=fun j hj=>by rw[f1,List.getElem?_take,if_pos (by omega),List.getElem?_drop,hf]
   have k6:=ZA (fun k x (h:(bP.map (·.1))[k]? = some x)=>ZB0 h4 k x h);have m6:=ZA (fun k=>ZJy bP k a);have o1:r*16=f:=hf.symm;have k4:(r+1)*16=f+16:=by omega
   have a5:f<=65536:=by omega
   have e0:=ZA j3.out.below;have k3:=ZA o3.out.below;obtain⟨a2,s2⟩:∃a2,a2=lastD a bP:=⟨_,rfl⟩
   obtain⟨XL,y1⟩:∃XL,XL=blockD a bP:=⟨_,rfl⟩
   rw[<-s2]at h6 h7 h8 c2;rw[<-y1]at h8 h9 t5;have u5:XL.length<=50000000:=by omega
   rw[o1];rw[o1]at p5;replace r0:=ZA r0;replace w3:=ZA w3;replace f1:=ZA f1;replace s2:=ZA s2;replace y1:=ZA y1;replace h5:=ZA h5;replace h8:=ZA h8;replace h9:=ZA h9;replace c2:=ZA c2;replace k4:=ZA k4;replace o1:=ZA o1;clear hf h1 h4 g5 v5 ha;go_wp2_with fail;obtain⟨wo,rfl⟩:∃wo,wo=wr:=⟨_,rfl⟩
   go_loopw [6,8,9] (fun s6 s8 s9 wr=>∃(j k mx dx:Nat) (X:Option Addr) (la:Int),s6 = .int .i64 la/\s8 = .slice X mx dx/\s9 = .int .i64 (k:Int)/\k<=n/\j<=16/\Hid (k=f+j)/\0<=la/\la<1099511627777/\mx<=50000000/\Hid (la=lastD a (bP.take j))/\Hid (mx=(blockD a (bP.take j)).length)/\Hid (Buf wr wo.heap.size 5 X mx dx ((blockD a (bP.take j)).map B8))/\Hid (Ext wo wr)) (fun _ _ s9 _=>n - (intOf s9).toNat)
   case atStart=>exact⟨0,f,0,0,none,a,rfl,rfl,rfl,by omega,by omega,ZA rfl,h2,h3,by omega,ZA rfl,ZA rfl,ZA (Buf.nil _ _ _),ZA (Ext.refl _)⟩
   case round =>
    obtain⟨j,k,mx,dx,X,la,rfl,rfl,rfl,z6,c5,v4,e5,f5,q6,w0,m0,s0,a0⟩:=hrel;have n0:=v4.out;by_cases b5:k<n/\k<f+16
    ·obtain⟨g4,y6⟩:=b5;have s1:j<bP.length:=by have:=r0.out;omega
     obtain⟨x,hx⟩:∃x,ds[k]? = some x:=⟨_,List.getElem?_eq_getElem (by rw[<-hn.out];exact g4)⟩
     have b2:bP[j]? = some x.dc:=by rw[w3.out j s1,<-n0,hP.out];unfold dcs;rw[List.getElem?_map,hx];rfl
     obtain⟨e4,j5,x6⟩:=h.out.each x (List.mem_of_getElem? hx);have a3:=of_decide_eq_true (h5.out _ (List.mem_of_getElem? b2));obtain⟨r4,_,q5⟩:=k6.out j x.seq (by rw[List.getElem?_map,b2];rfl);rw[<-List.map_take,<-ZCI,<-w0.out]at r4;have q0:=ZHi b2 a;rw[<-w0.out]at q0;have m3:lastD a (bP.take (j+1))=x.seq:=by
      rw[ZCI,List.map_take];exact ZCG (by rw[List.getElem?_map,b2];rfl)
     have x0:=m6.out (j+1);rw[<-y1.out]at x0;obtain⟨g,o,hA,_,_,_⟩:=ZU h.out.cells hx;have y0:∀W,Ext wo W->W.cell? ⟨g,o+k*3,none⟩=some (.int .i64 x.seq)/\W.cell? ⟨g,o+k*3+1,none⟩=some (.int .i64 x.e.at_)/\W.cell? ⟨g,o+k*3+2,none⟩=some (.slice x.A x.e.fs.length x.c)/\Ext wo W:=fun W t1=>by
      obtain⟨g2,o2,i2,l0,l1,l2⟩:=ZU (h.out.cells.ext (hE.out.trans t1)) hx;rw[hA]at i2;injection i2 with i2;injection i2 with e1 e2;subst e1 e2;exact⟨l0,l1,l2,t1⟩
     obtain⟨sq,⟨at_,fs⟩,xA,xc⟩:=x;unfold DocC.dc at q0 a3;unfold oneD at q0;simp only at e4 j5 x6 a3 r4 q5 q0 m3 y0;obtain⟨fl,j4⟩:∃fl,fl=fs.length:=⟨_,rfl⟩
     rw[<-j4]at y0;have u2:=fun x (hT:x.cell? ⟨g,o+k*3,none⟩=some (.int .i64 sq)/\x.cell? ⟨g,o+k*3+1,none⟩=some (.int .i64 at_)/\x.cell? ⟨g,o+k*3+2,none⟩=some (.slice xA fl xc)/\Ext wo x) (hb:Buf x wo.heap.size 5 X mx dx ((blockD a (bP.take j)).map B8))=>ZK4 wo g o k fl xc sq at_ xA y0 wo.heap.size (Nat.le_refl _) X mx dx _ (sq - la - 1) m0.out (by omega) (by omega) (by omega) x hT.2.2.2 hb hT.2.2.2.size;have x2:=fun x (hT:x.cell? ⟨g,o+k*3,none⟩=some (.int .i64 sq)/\x.cell? ⟨g,o+k*3+1,none⟩=some (.int .i64 at_)/\x.cell? ⟨g,o+k*3+2,none⟩=some (.slice xA fl xc)/\Ext wo x)=>ZMh wo g o k fl xc sq at_ xA y0 fs j4 a3 j5 (e4.ext hE.out) x hT.2.2.2;obtain⟨L0,i4⟩:∃L0,L0=blockD a (bP.take j):=⟨_,rfl⟩
     obtain⟨L2,u1⟩:∃L2,L2=blockD a (bP.take (j+1)):=⟨_,rfl⟩
     obtain⟨V,hV⟩:∃V,V=vb (sq - la - 1).toNat:=⟨_,rfl⟩
     obtain⟨EB,f4⟩:∃EB,EB=putE ⟨at_,fs⟩:=⟨_,rfl⟩
     obtain⟨ne,p1⟩:∃ne,ne=EB.length:=⟨_,rfl⟩
     rw[<-i4]at u2 m0 s0 q0;rw[<-u1]at q0 x0;rw[<-hV]at u2 q0;rw[<-f4]at x2 q0;rw[<-p1]at x2;have j0:L2.length=L0.length+(V.length+ne):=by rw[q0,List.length_append,List.length_append,<-p1]
     have k2:=m0.out;have n2:wr.cell? ⟨g,o+k*3,none⟩=some (.int .i64 sq)/\wr.cell? ⟨g,o+k*3+1,none⟩=some (.int .i64 at_)/\wr.cell? ⟨g,o+k*3+2,none⟩=some (.slice xA fl xc)/\Ext wo wr:=y0 wr a0.out;have r2:wr.drew.cell? ⟨g,o+k*3,none⟩=some (.int .i64 sq)/\wr.drew.cell? ⟨g,o+k*3+1,none⟩=some (.int .i64 at_)/\wr.drew.cell? ⟨g,o+k*3+2,none⟩=some (.slice xA fl xc)/\Ext wo wr.drew:=y0 wr.drew a0.out.drew;have b3:∀x,(x.cell? ⟨g,o+k*3,none⟩=some (.int .i64 sq)/\x.cell? ⟨g,o+k*3+1,none⟩=some (.int .i64 at_)/\x.cell? ⟨g,o+k*3+2,none⟩=some (.slice xA fl xc)/\Ext wo x)->Ext wo x:=fun x h=>h.2.2.2;have hX:Hid (Ext wr wr):=ZA (Ext.refl _);have a4:=ZA y0;have x5:L2.length<=50000000:=Nat.le_trans x0 u5;have c6:wo.heap.size<=wr.heap.size:=a0.out.size;have n1:=ZA (fun W (hE:Ext wr W)=>s0.out.ext hE);have z5:(EB.map B8).length=ne:=by rw[List.length_map,p1]
     subst hA;replace u2:=ZA u2;replace x2:=ZA x2;replace q0:=ZA q0;replace m3:=ZA m3;replace j0:=ZA j0;replace n2:=ZA n2;replace r2:=ZA r2;replace b3:=ZA b3;replace p1:=ZA p1;replace u1:=ZA u1;replace k2:=ZA k2;have t4:(k:Int)<(f:Int)+16:=by omega
     have i6:IntKind.i64.wrap (sq - la)=sq - la:=ZAK (by omega) (by omega);have l6:IntKind.i64.wrap (sq - la - 1)=sq - la - 1:=ZAK (by omega) (by omega);clear hx b2 e4 a3 j4 i4 hV f4 y0 w0 x0 n0;go_wp2_with fail
     go_region_held3 (fun x=>x.cell? ⟨g,o+k*3,none⟩=some (.int .i64 sq)/\x.cell? ⟨g,o+k*3+1,none⟩=some (.int .i64 at_)/\x.cell? ⟨g,o+k*3+2,none⟩=some (.slice xA fl xc)/\Ext wo x) (first | exact r2.out | exact n2.out | exact x1 | exact ‹_›)
      (first
      | (go_at_call 111;refine(u2.out _ ‹_› (n1.out _ (hX.out.trans (by(first | with_reducible exact Ext.refl _ | with_reducible exact Ext.drew (Ext.refl _) | with_reducible exact Ext.alloc (Ext.refl _) _ | with_reducible exact Ext.drew (Ext.alloc (Ext.refl _) _) | with_reducible exact Ext.alloc (Ext.drew (Ext.refl _)) _))))).mono ?_;rintro e w9 ⟨X1,m1,d1,rfl,t3,b0,x1,o4⟩;(try replace d0:=ZA ((d0.out.ext (by(first | with_reducible exact Ext.refl _ | with_reducible exact Ext.drew (Ext.refl _) | with_reducible exact Ext.alloc (Ext.refl _) _ | with_reducible exact Ext.drew (Ext.alloc (Ext.refl _) _) | with_reducible exact Ext.alloc (Ext.drew (Ext.refl _)) _))).push o4 l3.out));have x4:m1+ne<=50000000:=(by have:=j0.out;rw[t3,List.length_append];omega);replace b0:=ZA b0;replace t3:=ZA t3;clear o4)
      | (go_at_call 112;refine(x2.out _ ‹_›).mono ?_;rintro e w9 ⟨E1,dE,rfl,d0,x1,e3⟩;(try (have l3:Hid (Apart X E1):=ZA (fun a b ha hb=>(by have q1:=(n1.out _ (hX.out.trans (by(first | with_reducible exact Ext.refl _ | with_reducible exact Ext.drew (Ext.refl _) | with_reducible exact Ext.alloc (Ext.refl _) _ | with_reducible exact Ext.drew (Ext.alloc (Ext.refl _) _) | with_reducible exact Ext.alloc (Ext.drew (Ext.refl _)) _)))).below a ha;have q2:=d0.base b hb;omega))));(try replace hX:=ZA (hX.out.trans (Ext.trans (by(first | with_reducible exact Ext.refl _ | with_reducible exact Ext.drew (Ext.refl _) | with_reducible exact Ext.alloc (Ext.refl _) _ | with_reducible exact Ext.drew (Ext.alloc (Ext.refl _) _) | with_reducible exact Ext.alloc (Ext.drew (Ext.refl _)) _)) e3)));(try replace b0:=ZA (b0.out.ext (Ext.trans (by(first | with_reducible exact Ext.refl _ | with_reducible exact Ext.drew (Ext.refl _) | with_reducible exact Ext.alloc (Ext.refl _) _ | with_reducible exact Ext.drew (Ext.alloc (Ext.refl _) _) | with_reducible exact Ext.alloc (Ext.drew (Ext.refl _)) _)) e3)));replace d0:=ZA d0;clear e3)
      | (refine ZFh ZV rfl (b0.out.ext (by(first | with_reducible exact Ext.refl _ | with_reducible exact Ext.drew (Ext.refl _) | with_reducible exact Ext.alloc (Ext.refl _) _ | with_reducible exact Ext.drew (Ext.alloc (Ext.refl _) _) | with_reducible exact Ext.alloc (Ext.drew (Ext.refl _)) _))) (Buf.cells (d0.out.ext (by(first | with_reducible exact Ext.refl _ | with_reducible exact Ext.drew (Ext.refl _) | with_reducible exact Ext.alloc (Ext.refl _) _ | with_reducible exact Ext.drew (Ext.alloc (Ext.refl _) _) | with_reducible exact Ext.alloc (Ext.drew (Ext.refl _)) _)))) (.tmp 44) (.tmp 50) rfl rfl rfl z5 (ZF _) (by omega) (Ext.size (b3.out _ ‹_›)) (fun A8 c8 w8 n3 n4=>?_);have x1:=a4.out w8 ((b3.out _ x1).grown n4 (Buf.own_base (b0.out.ext (by(first | with_reducible exact Ext.refl _ | with_reducible exact Ext.drew (Ext.refl _) | with_reducible exact Ext.alloc (Ext.refl _) _ | with_reducible exact Ext.drew (Ext.alloc (Ext.refl _) _) | with_reducible exact Ext.alloc (Ext.drew (Ext.refl _)) _)))));replace n3:=ZA n3;clear n4))
     obtain⟨l0,_,_,d3⟩:=x1;have d3:=ZA d3;clear n2 r2 hX b0 d0;go_wp2_with fail;go_roundw
     case rel =>
      refine⟨j+1,k+1,m1+ne,c8,A8,sq,rfl,rfl,by go_num,by omega,by have:=v4.out;omega,ZA (by rw[v4.out,Nat.add_assoc]),by omega,q5,x4,ZA m3.out.symm,ZA ?_,ZA ?_,d3⟩
      ·rw[<-u1.out,q0.out,t3.out];simp only[List.length_append];rw[<-p1.out];omega
      ·rw[<-u1.out,q0.out,<-List.append_assoc,List.map_append];exact n3.out
     case measure=>simp only[intOf];omega
    ·have s1:j=bP.length:=by have:=r0.out;omega
     have c4:bP.take j=bP:=by rw[s1,List.take_length]
     rw[c4,<-s2.out]at w0;rw[c4,<-y1.out]at m0 s0;have u4:=w0.out;subst u4;have g1:=ZA (hE.out.trans a0.out);have e6:=ZD (n:=la.toNat) (by omega);have f6:=ZD (n:=mx) (by omega);have a1:Apart Hd X:=fun p q hp hq=>by
      have h1:=e0.out p hp;have h2:=s0.out.base q hq;omega
     have z3:=o0.out Hd mh dh _ la w.heap.size wr y3.out (j3.out.ext a0.out) g1.out.size h7 (by omega) (by omega);have v0:=o3.out.ext a0.out;have f0:=j3.out.ext a0.out;replace z3:=ZA z3;replace v0:=ZA v0;replace f0:=ZA f0;clear c4 w0;by_cases a6:k<n
     case' pos=>have t4:¬ (k:Int)<(f:Int)+16:=by omega
     all_goals
      replace s1:=ZA s1;clear n0;go_wp2_with fail;refine z3.out.mono ?_;rintro e w4 ⟨H4,m4,d4,rfl,v3,c1,h0⟩;have k1:=ZA (h0.ext g1.out f0.out.base);have u0:=s0.out.push h0 a1;have p0:=v0.out.push h0 l4.out;have z1:=h0.apart v0.out.below l4.out;have b1:=h0.apart s0.out.below a1;have l5:m4<=mh+10:=by rw[v3,List.length_append,<-y3.out];omega
      have v2:=o0.out H4 m4 d4 _ (mx:Int) w.heap.size w4 v3 c1 k1.out.size (by omega) (by omega) (by omega);rw[Int.toNat_natCast,m0.out,List.append_assoc,List.append_assoc,<-h8.out,<-m0.out]at v2;replace v2:=ZA v2;replace u0:=ZA u0;replace p0:=ZA p0;replace c1:=ZA c1;replace v3:=ZA v3;clear h0 z3;go_wp2_with fail;refine v2.out.mono ?_;rintro e w5 ⟨H5,m5,d5,rfl,u3,p3,g0⟩;have j1:=ZA (g0.ext k1.out c1.out.base);have p4:=(u0.out.push g0 b1).cells;have r3:=p0.out.push g0 z1;have t0:=g0.apart p0.out.below z1;have n5:m5<=mh+20:=by
       have h1:=congrArg List.length h8.out;simp only[List.length_append]at h1;have h2:=y3.out;rw[List.length_append]at h2;rw[u3,List.length_append,h1,<-m0.out];omega
      have j6:=j1.out.size;have u6:(XL.map B8).length=mx:=by rw[List.length_map,m0.out]
      have z4:mb+mx<=50000000:=by have:=x3.out;have:=m0.out;omega
      replace u3:=ZA u3;replace p3:=ZA p3;replace t0:=ZA t0;clear g0 v2 u0 p0 c1;go_wp2_with (at_builtin;refine ZG ZV r3 p4 (.tmp 63) (.tmp 64) rfl rfl rfl rfl rfl u6 (ZF _) (by omega) j6 (fun B6 d6 w6 c0 g3 v1 f2=>?_);have z2:=Push.grow g3 f2;replace c0:=ZA c0;have z0:=ZA (v1 w j1.out (Nat.le_refl _));clear g3 v1 f2);have q4:=p3.out.push z2 t0.out.symm;have i3:=(z2.apart p3.out.below t0.out.symm).symm;have y4:mb+mx=(blockD 0 (P.take ((r+1)*16))).length:=by rw[h9.out,List.length_append,<-x3.out,<-m0.out]
      have s3:Buf w6 w.heap.size 5 B6 (mb+mx) d6 ((blockD 0 (P.take ((r+1)*16))).map B8):=by rw[h9.out,List.map_append];exact c0.out
      go_roundw
      case rel=>exact⟨r+1,m5,d5,mb+mx,d6,H5,B6,la,rfl,rfl,rfl,by rw[k4.out];go_num,by have:=o1.out;omega,by omega,z4,ZA c2.out.symm,u3,ZA q4,ZA y4,ZA s3,ZA i3,z0⟩
      case measure=>simp only[intOf];omega
  ·have k0:=f3.out r (by rw[i0.out];omega);rw[i0.out]at k0;have hlen:=congrArg List.length k0;rw[List.length_append,<-y3.out,<-x3.out]at hlen;have y5:=o3.out.cells;have g6:=hE.out.size;have r0:((blockD 0 (P.take (r*16))).map B8).length=mb:=by rw[List.length_map,x3.out]
   replace k0:=ZA k0;replace hlen:=ZA hlen;go_wp2_with (at_builtin;refine ZG ZV j3.out y5 (.tmp 66) (.tmp 67) rfl rfl rfl rfl rfl r0 (ZF _) (by omega) g6 (fun B6 d6 w6 c0 g3 v1 f2=>?_);replace c0:=ZA c0;have z0:=ZA (v1 w hE.out (Nat.le_refl _));clear g3 v1 f2);go_ret2;refine⟨B6,d6,by rw[hlen.out];rfl,⟨rfl,?_⟩,z0.out⟩;rw[hlen.out,k0.out,List.map_append];exact c0.out
end
section
open Go.RowKit
theorem ZI6 (B:Option Addr) (m d:Nat) (p:List UInt8) (w:World) (hp:In8 w B m d p) (hm:m<=16777216) :
 Calls Tryz.prog 120 #[.slice B m d] w fun e w'=>NewB w (frameL p) e w':=by
 have s0:=ZA (rbytes m w (by omega));have h0:=hp.len;have g1:=ZD (n:=m) (by omega);have f1:=ZBK (m:=m) (by omega);obtain⟨V,hV⟩:∃V,V=vb m:=⟨_,rfl⟩
 rw[<-hV]at s0 g1;have a0:frameL p=V++be4 (cnext 0 (V++p))++p:=by unfold frameL;rw[<-h0,<-hV]
 have h1:=ZCt 0 (V++p);have g0:=fun A n c (w0 w:World) (h:In8 w0 A n c (V++p)) hw y1=>ZNB A n c (V++p) w0 w h hw y1;obtain⟨s,hs⟩:∃s,s=cnext 0 (V++p):=⟨_,rfl⟩
 rw[<-hs]at a0 h1 g0;rw[a0];have j0:=ZNA h1;have q0:(be4 s).length=4:=rfl;obtain⟨F4,v0⟩:∃F4,F4=be4 s:=⟨_,rfl⟩
 rw[<-v0]at j0 q0 ⊢;replace h0:=ZA h0;replace hV:=ZA hV;replace g0:=ZA g0;replace v0:=ZA v0;replace j0:=ZA j0;replace q0:=ZA q0;clear hs a0;go_enter Tryz.func120,Tryz.ntmps120;go_wp2_with fail;refine s0.out.mono ?_;rintro e w1 ⟨A1,c1,rfl,r0,c0⟩;obtain⟨w2,m0⟩:∃w2,w2=w1.alloc (.cells #[] 5):=⟨_,rfl⟩
 have t0:Ext w1 w2:=by rw[m0];exact(Ext.refl w1).alloc _
 have o0:Buf w2 w1.heap.size 5 (some ⟨w1.heap.size,0,none⟩) 0 0 []:=by rw[m0];exact ZCT w1 [] 5 (by simp)
 have p1:w1.heap.size<=w2.heap.size:=t0.size;have j1:=(r0.ext t0).cells;have z1:=hp.ext c0;have b0:=ZA m0;clear m0;go_wp2_with (first | (at_builtin;rw[<-b0.out];refine ZG ZV o0 j1 (.tmp 9) (.tmp 10) rfl rfl rfl rfl rfl (by rw[List.length_map]) (ZF _) (by omega) p1 (fun A3 c3 w3 x0 u1 d0 _=>?_);rw[Nat.zero_add,List.nil_append]at x0;have k0:=d0 w1 t0 (Nat.le_refl _);have k1:=k0.size;have q1:=(z1.ext k0).bytes;clear d0) | (at_builtin;refine ZG ZV x0 q1 (.tmp 11) (.tmp 12) rfl rfl rfl rfl rfl (by rw[List.length_map];exact h0.out.symm) (ZF _) (by omega) k1 (fun A4 c4 w4 y0 x1 e0 _=>?_);have n0:=e0 w1 k0 (Nat.le_refl _);clear e0));have p0:In8 w4 A4 (V.length+m) c4 (V++p):=by
  refine Buf.in8 (base:=w1.heap.size) (e:=5) ?_;rw[List.map_append];simpa using y0
 refine(g0.out A4 (V.length+m) c4 w4 w4 p0 (Ext.refl _) (by omega)).mono ?_;rintro e w5 ⟨rfl,rfl⟩;have t1:=r0.ext n0;have f0:=c0.trans n0;have b1:=f0.size;clear x0 u1 x1 k0 k1 q1 p0 o0 j1 p1;go_wp2_with (first | (at_builtin;refine ZM (us:= [.int .u8 ((s:Int) / 16777216),.int .u8 ((s:Int) / 65536%256),.int .u8 ((s:Int) / 256%256),.int .u8 ((s:Int)%256)]) ZV t1 (.tmp 15) (.tmp 27) rfl rfl rfl rfl (by simp[Value.oneCell']) (by simp;omega) b1 (fun A6 c6 w6 v1 i0=>?_);have u0:=i0 w f0 (Nat.le_refl _);have d1:=u0.size;have a1:=(hp.ext u0).bytes;clear i0) | (at_builtin;refine ZG ZV v1 a1 (.tmp 29) (.tmp 30) rfl rfl rfl rfl rfl (by rw[List.length_map];exact h0.out.symm) (ZF _) (by simp;omega) d1 (fun A7 c7 w7 z0 e1 l0 _=>?_);have m1:=l0 w u0 (Nat.le_refl _);clear l0));go_ret;rw[j0.out]at z0;refine⟨A7,c7,ZAn (by have:=q0.out;have:=h0.out;simp;omega),?_,m1⟩;have e:(V++F4++p).length=V.length+4+m:=by rw[List.length_append,List.length_append,q0.out,<-h0.out]
 rw[e,List.map_append,List.map_append];rw[List.length_map,q0.out]at z0;exact z0
end
section
open Go.RowKit Go.Maps
theorem ZJn (B:Option Addr) (k c2:Nat) (ps:List (Option Addr×Nat×List UInt8)) (w:World) (hk:k=ps.length) (hB:Cells w B (ps.map fun p=> .slice p.1 p.2.2.length p.2.1)) (g0:∀p∈ps,In8 w p.1 p.2.2.length p.2.1 p.2.2/\p.2.2.length<=16777216) (j1:k<=50) :
 Calls Tryz.prog 65 #[.slice B k c2] w fun e w'=>OkB' w (joinL (ps.map (·.2.2))) e w':=by
 have s0:=ZA (fun A n c l W (h:In8 W A n c l) (hm:n<=16777216)=>ZI6 A n c l W h hm);obtain⟨P,hP⟩:∃P,P=ps.map (·.2.2):=⟨_,rfl⟩
 rw[<-hP];have e0:∀p∈P,p.length<=16777216:=fun p hp=>by
  rw[hP]at hp;obtain⟨q,hq,rfl⟩:=List.mem_map.1 hp;exact(g0 q hq).2
 have v0:P.length=k:=by rw[hP,List.length_map,hk]
 replace hk:=ZA hk;replace hB:=ZA hB;replace g0:=ZA g0;replace hP:=ZA hP;replace e0:=ZA e0;replace v0:=ZA v0;go_enter Tryz.func65,Tryz.ntmps65;go_wp2_with fail
 go_loopw [4,5] (fun s4 s5 wr=>∃(i n c:Nat) (A:Option Addr),s4 = .slice A n c/\s5 = .int .i64 (i:Int)/\i<=k/\n<=16777236*i/\Hid (n=(joinL (P.take i)).length)/\Hid (Buf wr w.heap.size 5 A n c ((joinL (P.take i)).map B8))/\Hid (Ext w wr)) (fun _ s5 _=>k - (intOf s5).toNat)
 case atStart=>exact⟨0,0,0,none,rfl,rfl,by omega,by omega,ZA rfl,ZA (Buf.nil _ _ _),ZA (Ext.refl w)⟩
 case round =>
  obtain⟨i,n,c,A,rfl,rfl,hi,hn,a0,hb,hE⟩:=hrel;by_cases h1:i<k
  ·obtain⟨x,hx⟩:∃x,ps[i]? = some x:=⟨_,List.getElem?_eq_getElem (by rw[<-hk.out];exact h1)⟩
   obtain⟨g,o,hA,f0⟩:=hB.out.at_ (by rw[List.length_map,<-hk.out];omega);subst hA;have z0:=hE.out.cell (f0 i _ (by rw[List.getElem?_map,hx];rfl));have q0:=g0.out x (List.mem_of_getElem? hx);have u0:P[i]? = some x.2.2:=by rw[hP.out,List.getElem?_map,hx];rfl
   have p0:=ZER u0;obtain⟨XA,xc,xl⟩:=x;simp only at z0 q0 p0;have y0:=ZCN q0.2;obtain⟨m,hm⟩:∃m,m=xl.length:=⟨_,rfl⟩
   have h0:=s0.out XA xl.length xc xl wr (q0.1.ext hE.out) q0.2;have p1:=q0.2;rw[<-hm]at h0 z0 p1;obtain⟨F,hF⟩:∃F,F=frameL xl:=⟨_,rfl⟩
   rw[<-hF]at h0 p0 y0;have q1:decide (16777216<(m:Int))=false:=decide_eq_false (by omega);unfold NewB at h0;obtain⟨nf,j0⟩:∃nf,nf=F.length:=⟨_,rfl⟩
   rw[<-j0]at h0 y0;have r0:nf<=16777236:=by omega
   have l0:(F.map B8).length=nf:=by rw[List.length_map,j0]
   replace h0:=ZA h0;replace hm:=ZA hm;replace hx:=ZA hx;replace q0:=ZA q0;replace u0:=ZA u0;replace p0:=ZA p0;replace hF:=ZA hF;replace j0:=ZA j0;clear f0 y0;go_wp2_with fail;refine h0.out.mono ?_;rintro e w2 ⟨A2,c3,rfl,c0,t0⟩;have k0:=ZA (hE.out.trans t0);have b0:=k0.out.size;have n0:=hb.out.ext t0;have o0:=c0.cells;clear z0 t0 c0;go_wp2_with (at_builtin;refine ZG ZV n0 o0 (.tmp 18) (.tmp 23) rfl rfl rfl rfl rfl l0 (ZF _) (by omega) b0 (fun B6 d6 w6 x0 w0 d0 i0=>?_);replace x0:=ZA x0;have m0:=ZA (d0 w k0.out (Nat.le_refl _));clear w0 d0 i0);exact⟨⟨i+1,n+nf,d6,B6,rfl,by go_num,by omega,by omega,ZA (by rw[p0.out,List.length_append,<-a0.out,<-j0.out]),ZA (by rw[p0.out,List.map_append];exact x0.out),m0⟩,by simp only[intOf];omega⟩
  ·obtain rfl:i=k:=by omega
   have k1:P.take i=P:=List.take_of_length_le (by rw[v0.out];exact Nat.le_refl _);rw[k1]at a0 hb;go_wp2_with fail;go_ret2;have hl:=a0.out;subst hl;exact⟨A,c,rfl,⟨rfl,hb.out⟩,hE.out⟩
end
end Go.Proofs.YtkdcnhnaiknaaaaGreat
