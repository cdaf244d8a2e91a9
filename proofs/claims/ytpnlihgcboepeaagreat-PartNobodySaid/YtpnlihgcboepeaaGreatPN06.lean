/- Texts of one proof, joined. -/
import Derived.Test.YtpnlihgcboepeaaGreatPN05
import Derived.RegionTactic
import Derived.ChangeAlike
import Derived.StringKeys
import Derived.BigRegion
set_option linter.unusedSimpArgs false
set_option linter.unusedVariables false
set_option maxRecDepth 100000
set_option maxHeartbeats 16000000
namespace Go.Proofs.YtpnlihgcboepeaaGreat
open _root_.Go.Proofs.Tryz
variable {a:Act} {cs lb:Array Value} {Q:Exit → Act → World → Prop} {L l nm r r1 r2 s tx:List UInt8} {xs ys:List Value} {B M b base c c2 g g1 g2 g3 gf i j k m n n2 x:Nat} {S:Nat → Prop} {A A1:Option Addr} {P:Program} {T e t tp tq tr ty:TypeId} {V1 v v1 v2 v3:Value} {W W1 w w' w0 w1 w8 w9:World}
section
open Go.RowKit
def GotE (w0 w:World) (res:Option (Ev×List UInt8)) (e:Ending) (w':World):Prop:=Ext w w'/\match res with
 | some (ev,r)=>∃B d A c,e = .returned (.tuple #[ev.val B d,.slice A r.length c,.int .i64 0])/\ev.Own w' w.heap.size B d/\In8 w0 A r.length c r/\I64ok' ev.at_
 | none=>e = .returned (.tuple #[.agg #[.int .i64 0,.slice none 0 0],.slice none 0 0,.int .i64 100])
theorem GotE.no {res:Option (Ev×List UInt8)} (d:Ext w w') (h:res=none):GotE w0 w res (.returned (.tuple #[.agg #[.int .i64 0,.slice none 0 0],.slice none 0 0,.int .i64 100])) w':=by
 subst h;exact⟨d,rfl⟩
def aheadF (read:List Fd):Option (List Fd×List UInt8)->Option (List Fd×List UInt8)
 | none=>none
 | some (fs,r)=>some (read++fs,r)
theorem Le (x:Option (List Fd×List UInt8)):aheadF [] x=x:=by cases x <;> rfl
theorem LI {read:List Fd} (h:getFs k L=aheadF read (getFs (k - i) r)) (hi:i<k) (h1:getT 32 r = .ok (nm,r1)) (h2:getT 4096 r1 = .ok (tx,r2)):getFs k L=aheadF (read ++ [(nm,tx)]) (getFs (k - (i+1)) r2):=by
 obtain⟨j,d⟩:∃j,k - i=j+1:=⟨k - i - 1,by omega⟩
 rw[h,d,show k - (i+1)=j by omega]
 conv=>lhs;unfold getFs
 rw[h1];simp only;rw[h2];simp only;cases getFs j r2 with
 | none=>rfl
 | some p=>obtain⟨fs,r3⟩:=p;simp[aheadF]
theorem NS {read:List Fd} (h:getFs k L=aheadF read (getFs (k - i) r)) (hi:i<k) (h1:getT 32 r = .error x):getFs k L=none:=by
 obtain⟨j,d⟩:∃j,k - i=j+1:=⟨k - i - 1,by omega⟩
 rw[h,d];unfold getFs;rw[h1];rfl
theorem NT {read:List Fd} (h:getFs k L=aheadF read (getFs (k - i) r)) (hi:i<k) (h1:getT 32 r = .ok (nm,r1)) (h2:getT 4096 r1 = .error x):getFs k L=none:=by
 obtain⟨j,d⟩:∃j,k - i=j+1:=⟨k - i - 1,by omega⟩
 rw[h,d];unfold getFs;rw[h1];simp only;rw[h2];rfl
theorem NR {read:List Fd} (h:getFs k L=aheadF read (getFs (k - i) r)) (hi:k<=i):getFs k L=some (read,r):=by
 rw[h,show k - i=0 by omega];unfold getFs aheadF;simp
theorem Kf {most k:Nat} (h:getT most l = .error k):0<k:=by
 unfold getT at h;split at h
 ·rename_i d;injection h with h;rw[<-h];exact BK _ _ _ d
 ·split at h
  ·injection h with h;omega
  ·split at h
   ·injection h with h;omega
   ·cases h
def setEv (w:World) (g:Nat) (at_:Int) (A:Option Addr) (n c:Nat):World:=(w.setCell ⟨g,0,none⟩ (.int .i64 at_)).setCell ⟨g,1,none⟩ (.slice A n c)
theorem B9 {x y:Value} (h:Row w g T #[x,y]) (at_:Int) (A:Option Addr) (n c:Nat):Row (setEv w g at_ A n c) g T #[.int .i64 at_,.slice A n c]:=(h.put 0 _).put 1 _
theorem I5 (w:World) (g:Nat) (at_:Int) (A:Option Addr) (n c:Nat):Chg (fun k=>k=g) w (setEv w g at_ A n c):=(Chg.of_set (S:=fun k=>k=g) w _ rfl).trans (Chg.of_set (S:=fun k=>k=g) _ _ rfl) fun _ _ h=>h
theorem BZ (h:Ext w0 w) (H:w0.heap.size<=g) (at_:Int) (A:Option Addr) (n c:Nat):Ext w0 (setEv w g at_ A n c):=h.chg (I5 w g at_ A n c) fun i hi d=>by omega
theorem NF (A:Option Addr) (n c:Nat) (l:List UInt8) (w0 w:World) (h:In8 w0 A n c l) (hw:Ext w0 w) (q4:n<=1000000000) :
 Calls prog 127 #[.slice A n c] w fun e w'=>GotE w0 w (getE l) e w':=by
 obtain⟨W,hW⟩:=Ab (w.alloc (.cells #[.int .i64 0,.slice none 0 0] 93));have h1:Ext w W:=by rw[hW];exact(Ext.refl w).alloc _
 obtain⟨b,hb⟩:=Ab w.heap.size;have hr:Row W b 93 #[.int .i64 0,.slice none 0 0]:=by rw[hW,hb];exact Row.new w _ _
 have I:=Aa (Nat.le_of_eq hb.symm);have n1:=LJ A n c l w0 W h (hw.trans h1) q4;have q5:l.length<=1000000000:=by rw[<-h.len];exact q4
 obtain⟨Z,hZ⟩:=Ab (getE l);rw[<-hZ];unfold getE at hZ;replace hW:=Aa hW;replace hb:=Aa hb;clear h;cases e1:getV 0 l with
 | error k =>
  rw[e1]at n1 hZ;have hk:=BK l 0 k e1;have x3:((k:Int) != 0)=true:=by simp;omega
  have hg:=Aa n1;clear e1 hk n1
  go_in
  go_wp2_with fail;rw[<-hW.out,<-hb.out];refine hg.out.mono ?_;rintro e w1 ⟨j0,rfl⟩;have Y:=hr.ext j0;have f1:=fun i=>Y.free i;have d0:=Y.cell 0 rfl;have d1:=Y.cell 1 rfl;replace Y:=Aa Y;have t0:=Aa (h1.trans j0);replace hZ:=Aa hZ;go_wp2_with fail;obtain⟨wz,H⟩:∃wz,wz=setEv w1 b 0 none 0 0:=⟨_,rfl⟩;have hk:=B9 Y.out 0 none 0 0;rw[<-H]at hk;have U:=BZ t0.out I.out 0 none 0 0;rw[<-H]at U;unfold setEv at H;rw[<-H];have k0:wz.cell? ⟨b,0,none⟩=some (.int .i64 0):=hk.cell 0 rfl;have k1:wz.cell? ⟨b,1,none⟩=some (.slice none 0 0):=hk.cell 1 rfl;clear H hk;exact bodyPost_ret (v:= .tuple #[.agg #[.int .i64 0,.slice none 0 0],.slice none 0 0,.int .i64 100]) (by simp[results,Tryz.results127,go_sem,k0,k1]) rfl (GotE.no U hZ.out)
 | ok p =>
  obtain⟨u,r⟩:=p;have hu:=Ct e1;have b3:r.length<=1000000000:=by
   obtain⟨_,_,q,hq,_⟩:=Ck l 0 u r e1;rw[hq,List.length_append]at q5;omega
  rw[e1]at n1 hZ;simp only at hZ;have hg:=Aa n1;have e4:=K6 hu;obtain⟨at_,o3⟩:=Ab (unzig u);unfold GotI at hg;simp only at hg;rw[<-o3]at hg hZ e4;clear e1 n1 o3 hu;cases l0:getV 0 r with
  | error k =>
   rw[l0]at hZ;have hk:=BK r 0 k l0;have x3:((k:Int) != 0)=true:=by simp;omega
   have m0:=fun A c W h hE=>Cl A r.length c r w0 W h hE b3;rw[l0]at m0;replace m0:=Aa m0;replace hZ:=Aa hZ;clear l0 hk
   go_in
   go_wp2_with fail;rw[<-hW.out,<-hb.out];refine hg.out.mono ?_;rintro e w1 ⟨j0,A1,c1,rfl,o1⟩;have e0:=Aa (m0.out A1 c1 w1 o1 ((hw.trans h1).trans j0));go_wp2_with fail;refine e0.out.mono ?_;rintro e w2 ⟨o0,rfl⟩;have Y:=hr.ext (j0.trans o0);have f1:=fun i=>Y.free i;have d0:=Y.cell 0 rfl;have d1:=Y.cell 1 rfl;replace Y:=Aa Y;have t0:=Aa (h1.trans (j0.trans o0));go_wp2_with fail;obtain⟨wz,H⟩:∃wz,wz=setEv w2 b 0 none 0 0:=⟨_,rfl⟩;have hk:=B9 Y.out 0 none 0 0;rw[<-H]at hk;have U:=BZ t0.out I.out 0 none 0 0;rw[<-H]at U;unfold setEv at H;rw[<-H];have k0:wz.cell? ⟨b,0,none⟩=some (.int .i64 0):=hk.cell 0 rfl;have k1:wz.cell? ⟨b,1,none⟩=some (.slice none 0 0):=hk.cell 1 rfl;clear H hk;exact bodyPost_ret (v:= .tuple #[.agg #[.int .i64 0,.slice none 0 0],.slice none 0 0,.int .i64 100]) (by simp[results,Tryz.results127,go_sem,k0,k1]) rfl (GotE.no U hZ.out)
  | ok p =>
   obtain⟨m,r2⟩:=p;have y4:r2.length<=1000000000:=by
    obtain⟨_,_,q,hq,_⟩:=Ck r 0 m r2 l0;rw[hq,List.length_append]at b3;omega
   have y5:=Ct l0;rw[l0]at hZ;simp only at hZ;have m0:=fun A c W h hE=>Cl A r.length c r w0 W h hE b3;rw[l0]at m0;unfold Got at m0;simp only at m0;replace m0:=Aa m0;clear l0;by_cases o2:16<m
   ·rw[if_pos o2]at hZ;have p5:(16:Int)<m:=by omega
    replace hZ:=Aa hZ
    go_in
    go_wp2_with fail;rw[<-hW.out,<-hb.out];refine hg.out.mono ?_;rintro e w1 ⟨j0,A1,c1,rfl,o1⟩;have e0:=Aa (m0.out A1 c1 w1 o1 ((hw.trans h1).trans j0));go_wp2_with fail;refine e0.out.mono ?_;rintro e w2 ⟨o0,A2,c2,rfl,hi2⟩;have Y:=hr.ext (j0.trans o0);have f1:=fun i=>Y.free i;have d0:=Y.cell 0 rfl;have d1:=Y.cell 1 rfl;replace Y:=Aa Y;have t0:=Aa (h1.trans (j0.trans o0));go_wp2_with fail;obtain⟨wz,H⟩:∃wz,wz=setEv w2 b 0 none 0 0:=⟨_,rfl⟩;have hk:=B9 Y.out 0 none 0 0;rw[<-H]at hk;have U:=BZ t0.out I.out 0 none 0 0;rw[<-H]at U;unfold setEv at H;rw[<-H];have k0:wz.cell? ⟨b,0,none⟩=some (.int .i64 0):=hk.cell 0 rfl;have k1:wz.cell? ⟨b,1,none⟩=some (.slice none 0 0):=hk.cell 1 rfl;clear H hk;exact bodyPost_ret (v:= .tuple #[.agg #[.int .i64 0,.slice none 0 0],.slice none 0 0,.int .i64 100]) (by simp[results,Tryz.results127,go_sem,k0,k1]) rfl (GotE.no U hZ.out)
   ·rw[if_neg o2]at hZ;have p5:¬ (16:Int)<m:=by omega
    replace hZ:=Aa hZ
    go_in
    go_wp2_with fail;rw[<-hW.out,<-hb.out];refine hg.out.mono ?_;rintro e w1 ⟨j0,A1,c1,rfl,o1⟩;have e0:=Aa (m0.out A1 c1 w1 o1 ((hw.trans h1).trans j0));go_wp2_with fail;refine e0.out.mono ?_;rintro e w2 ⟨o0,A2,c2,rfl,hi2⟩;have Y:=hr.ext (j0.trans o0);have f1:=fun i=>Y.free i;have d0:=Y.cell 0 rfl;have d1:=Y.cell 1 rfl;replace Y:=Aa Y;have t0:=Aa (h1.trans (j0.trans o0));go_wp2_with fail;have a4:=Y.out.put 0 (.int .i64 at_);obtain⟨W3,a2⟩:=Ab (w2.setCell ⟨b,0,none⟩ (.int .i64 at_));have i3:Ext w W3:=by rw[a2];exact t0.out.setCell I.out _
    have t5:Row W3 b 93 #[.int .i64 at_,.slice none 0 0]:=by rw[a2];exact a4
    rw[<-a2];clear a4 Y t0 f1 d0 d1 e0 hg m0 a2
    go_loopw [3,33] (fun s3 s33 wr=>∃(i:Nat) (read:List Fd) (rr:List UInt8) (B A3:Option Addr) (d c3:Nat),s33 = .int .u64 (i:Int)/\s3 = .slice A3 rr.length c3/\i<=m/\rr.length<=1000000000/\Hid (i=read.length)/\Hid (getFs m r2=aheadF read (getFs (m - i) rr))/\Hid (∀f∈read,f.1.length<=1000000000/\f.2.length<=1000000000)/\Hid (Row wr b 93 #[.int .i64 at_,.slice B i d])/\Hid (wr.ownsRow (b+1) 90 2 (.slice B i d) i (fcells read))/\Hid (In8 w0 A3 rr.length c3 rr)/\Hid (Ext w wr)) (fun _ s33 _=>m - (intOf s33).toNat)
    case atStart=>exact⟨0,[],r2,none,A2,0,c2,rfl,rfl,by omega,y4,Aa rfl,Aa (by rw[Le];rfl),Aa nofun,Aa t5,Aa ⟨rfl,.inl ⟨rfl,rfl⟩⟩,Aa hi2,Aa i3⟩
    case round =>
     obtain⟨i,read,rr,B,A3,d,c3,rfl,rfl,hi,v5,m2,e2,p4,x0,x2,l2,hE⟩:=hrel;have q0:wr.cell? ⟨b,0,none⟩=some (.int .i64 at_):=x0.out.cell 0 rfl;have q1:wr.cell? ⟨b,1,none⟩=some (.slice B i d):=x0.out.cell 1 rfl;by_cases him:i<m
     ·have o1:(i:Int)<m:=by omega
      obtain⟨fb,j1⟩:=Ab wr.heap.size;obtain⟨Wf,y1⟩:=Ab (wr.alloc (.cells #[.string ⟨#[]⟩,.string ⟨#[]⟩] 90));have l1:Ext wr Wf:=by rw[y1];exact(Ext.refl wr).alloc _
      have a3:Row Wf fb 90 #[.string ⟨#[]⟩,.string ⟨#[]⟩]:=by rw[y1,j1];exact Row.new wr _ _
      have a5:b<fb:=by rw[j1];exact x0.out.lt
      have m3:=fun A c W h hE=>DG A rr.length c 32 rr w0 W h hE v5 (by omega);have G:=m3 A3 c3 Wf l2.out (hw.trans (hE.out.trans l1));have j2:=Aa (hE.out.trans l1);replace y1:=Aa y1;replace j1:=Aa j1;cases f0:getT 32 rr with
      | error k =>
       have hk:=Kf f0;have x3:((k:Int) != 0)=true:=by simp;omega
       have a1:=Aa (NS e2.out him f0);rw[f0]at G;replace G:=Aa G;clear f0 hk m3;go_wp2_with fail;rw[<-y1.out,<-j1.out];refine G.out.mono ?_;rintro e w4 ⟨J,rfl⟩;have h0:=a3.ext J;have O:=(x0.out.ext l1).ext J;have f4:=fun i=>h0.free i;have d4:=h0.cell 0 rfl;have b0:=O.away (p:=⟨fb,0,none⟩) (by simp only;omega) (.string ⟨#[]⟩);have f5:=fun i=>b0.free i;have e5:=b0.cell 0 rfl;have e6:=b0.cell 1 rfl;have p0:=Aa ((j2.out.trans J).setCell (p:=⟨fb,0,none⟩) (by simp only;have:=I.out;omega) (.string ⟨#[]⟩));have y2:Hid (Z=none):=Aa (by rw[hZ.out,a1.out]);replace b0:=Aa b0;go_wp2_with fail;obtain⟨wz,H⟩:∃wz,wz=setEv (w4.setCell ⟨fb,0,none⟩ (.string ⟨#[]⟩)) b 0 none 0 0:=⟨_,rfl⟩;have hk:=B9 b0.out 0 none 0 0;rw[<-H]at hk;have U:=BZ p0.out I.out 0 none 0 0;rw[<-H]at U;unfold setEv at H;rw[<-H];have k0:wz.cell? ⟨b,0,none⟩=some (.int .i64 0):=hk.cell 0 rfl;have k1:wz.cell? ⟨b,1,none⟩=some (.slice none 0 0):=hk.cell 1 rfl;clear H hk;exact bodyPost_ret (v:= .tuple #[.agg #[.int .i64 0,.slice none 0 0],.slice none 0 0,.int .i64 100]) (by simp[results,Tryz.results127,go_sem,k0,k1]) rfl (GotE.no U y2.out)
      | ok p =>
       obtain⟨nm,rn⟩:=p;obtain⟨b5,c5,_⟩:=Gu f0;rw[f0]at G;unfold GotT at G;simp only at G;replace G:=Aa G;have z4:rn.length<=1000000000:=by omega
       have v0:=Aa (fun A c W h hE=>DG A rn.length c 4096 rn w0 W h hE z4 (by omega));clear m3;cases x1:getT 4096 rn with
       | error k =>
        have hk:=Kf x1;have x3:((k:Int) != 0)=true:=by simp;omega
        have a1:=Aa (NT e2.out him f0 x1);rw[x1]at v0;clear f0 x1 hk;go_wp2_with fail;rw[<-y1.out,<-j1.out];refine G.out.mono ?_;rintro e w4 ⟨J,A4,c4,rfl,t3⟩;have h0:=a3.ext J;have O:=(x0.out.ext l1).ext J;have f4:=fun i=>h0.free i;have d4:=h0.cell 0 rfl;obtain⟨w5,n0⟩:=Ab (w4.setCell ⟨fb,0,none⟩ (.string ⟨nm.toArray⟩));have p0:=(j2.out.trans J).setCell (p:=⟨fb,0,none⟩) (by simp only;have:=I.out;omega) (.string ⟨nm.toArray⟩);have m1:=h0.put 0 (.string ⟨nm.toArray⟩);have b0:=O.away (p:=⟨fb,0,none⟩) (by simp only;omega) (.string ⟨nm.toArray⟩);rw[<-n0]at p0 m1 b0;have e0:=Aa (v0.out A4 c4 w5 t3 (hw.trans p0));replace n0:=Aa n0;go_wp2_with fail;rw[<-n0.out];refine e0.out.mono ?_;rintro e w6 ⟨r0,rfl⟩;have i0:=m1.ext r0;have z3:=b0.ext r0;have f6:=fun i=>i0.free i;have d6:=i0.cell 1 rfl;have c0:=z3.away (p:=⟨fb,1,none⟩) (by simp only;omega) (.string ⟨#[]⟩);have f7:=fun i=>c0.free i;have e5:=c0.cell 0 rfl;have e6:=c0.cell 1 rfl;have k2:=Aa ((p0.trans r0).setCell (p:=⟨fb,1,none⟩) (by simp only;have:=I.out;omega) (.string ⟨#[]⟩));have y2:Hid (Z=none):=Aa (by rw[hZ.out,a1.out]);replace c0:=Aa c0;go_wp2_with fail;obtain⟨wz,H⟩:∃wz,wz=setEv (w6.setCell ⟨fb,1,none⟩ (.string ⟨#[]⟩)) b 0 none 0 0:=⟨_,rfl⟩;have hk:=B9 c0.out 0 none 0 0;rw[<-H]at hk;have U:=BZ k2.out I.out 0 none 0 0;rw[<-H]at U;unfold setEv at H;rw[<-H];have k0:wz.cell? ⟨b,0,none⟩=some (.int .i64 0):=hk.cell 0 rfl;have k1:wz.cell? ⟨b,1,none⟩=some (.slice none 0 0):=hk.cell 1 rfl;clear H hk;exact bodyPost_ret (v:= .tuple #[.agg #[.int .i64 0,.slice none 0 0],.slice none 0 0,.int .i64 100]) (by simp[results,Tryz.results127,go_sem,k0,k1]) rfl (GotE.no U y2.out)
       | ok p =>
        obtain⟨tx,rt⟩:=p;obtain⟨i5,d5,_⟩:=Gu x1;rw[x1]at v0;unfold GotT at v0;simp only at v0;replace v0:=Aa v0;have e3:=Aa (LI e2.out him f0 x1);clear f0 x1;go_wp2_with fail;rw[<-y1.out,<-j1.out];refine G.out.mono ?_;rintro e w4 ⟨J,A4,c4,rfl,t3⟩;have h0:=a3.ext J;have O:=(x0.out.ext l1).ext J;have j5:=J.owns (l1.owns x2.out);have f4:=fun i=>h0.free i;have d4:=h0.cell 0 rfl;obtain⟨w5,n0⟩:=Ab (w4.setCell ⟨fb,0,none⟩ (.string ⟨nm.toArray⟩));have p0:=(j2.out.trans J).setCell (p:=⟨fb,0,none⟩) (by simp only;have:=I.out;omega) (.string ⟨nm.toArray⟩);have m1:=h0.put 0 (.string ⟨nm.toArray⟩);have b0:=O.away (p:=⟨fb,0,none⟩) (by simp only;omega) (.string ⟨nm.toArray⟩);have v4:(Value.slice B i d).ownBlock≠some fb:=by
         have y3:=x2.out;intro n4;obtain⟨_,d3,_⟩:=Ae y3 n4;have:=d3.lt;have:=j1.out;omega
        have g4:=G2 j5 (a:=⟨fb,0,none⟩) v4 (.string ⟨nm.toArray⟩);rw[<-n0]at p0 m1 b0 g4;have e0:=Aa (v0.out A4 c4 w5 t3 (hw.trans p0));replace n0:=Aa n0;go_wp2_with fail;rw[<-n0.out];refine e0.out.mono ?_;rintro e w6 ⟨r0,A6,c6,rfl,o4⟩;have i0:=m1.ext r0;have z3:=b0.ext r0;have g5:=r0.owns g4;have f6:=fun i=>i0.free i;have d6:=i0.cell 1 rfl;obtain⟨w7,l5⟩:=Ab (w6.setCell ⟨fb,1,none⟩ (.string ⟨tx.toArray⟩));have c0:=z3.away (p:=⟨fb,1,none⟩) (by simp only;omega) (.string ⟨tx.toArray⟩);have p3:Row (w6.setCell ⟨fb,1,none⟩ (.string ⟨tx.toArray⟩)) fb 90 #[.string ⟨nm.toArray⟩,.string ⟨tx.toArray⟩]:=i0.put 1 (.string ⟨tx.toArray⟩);have m4:=G2 g5 (a:=⟨fb,1,none⟩) v4 (.string ⟨tx.toArray⟩);have k2:=(p0.trans r0).setCell (p:=⟨fb,1,none⟩) (by simp only;have:=I.out;omega) (.string ⟨tx.toArray⟩);have f7:=c0.free 1;have e6:=c0.cell 1 rfl;have g0:=p3.cell 0 rfl;have g1:=p3.cell 1 rfl;have b4:b+1<=(w6.setCell ⟨fb,1,none⟩ (.string ⟨tx.toArray⟩)).heap.size:=c0.lt;go_wp2_with (at_builtin;refine AS (us:= [.string ⟨nm.toArray⟩,.string ⟨tx.toArray⟩]) (m:=1) Lu m4 (by simp[World.setCell]) (.tmp 56) (.tmp 58) rfl rfl rfl rfl rfl (Az rfl) (by omega) b4 (fun A8 c8 w8 t4 j3 h5=>?_);have h3:∀k,(Value.slice B i d).ownBlock=some k->b+1<=k:=(fun k hk=>by obtain⟨_,_,hb⟩:=Ae m4 hk;exact hb);have f2:=Row.grown c0 j3 (fun e=>by have:=h3 _ e.symm;omega);have f8:=f2.free 1;have e8:w8.cell? ⟨b,1,none⟩=some (.slice B i d):=f2.cell 1 rfl;have x4:=Aa f2;have q3:=Aa t4;have l3:=Aa (k2.grown j3 fun k hk=>by have:=h3 k hk;have:=I.out;omega);clear f2 t4 j3 h5);have j4:(Value.slice A8 (i+1) c8).ownBlock≠some b:=fun e=>by
         obtain⟨_,_,hb⟩:=Ae q3.out e;omega
        refine⟨⟨i+1,read ++ [(nm,tx)],rt,A8,A6,c8,c6,by go_num,rfl,by omega,by omega,Aa (by rw[List.length_append,<-m2.out];rfl),e3,Aa ?_,Aa (x4.out.put 1 _),Aa (by rw[F0];exact G2 q3.out j4 _),Aa o4,Aa (l3.out.setCell I.out _)⟩,?_⟩
        ·intro f hf;rcases List.mem_append.1 hf with hf | hf
         ·exact p4.out f hf
         ·rw[List.mem_singleton.1 hf];simp only;omega
        ·simp[intOf];omega
     ·obtain rfl:i=m:=by omega
      have w3:=NR e2.out (Nat.le_refl _);have i1:=hZ.out;rw[w3]at i1;simp only at i1;have h2:Ev.Own ⟨at_,read⟩ wr (b+1) B d:=⟨by simp only;rw[<-m2.out];exact x2.out,fun f hf=>by have:=p4.out f hf;omega,by simp only;have:=m2.out;omega⟩
      have p1:=Dj ⟨at_,read⟩ B d wr h2.ok;unfold Ev.val at p1;simp only at p1;rw[<-m2.out]at p1;obtain⟨j,hj⟩:=Ab (checkE read);rw[<-hj]at p1 i1;replace hj:=Aa hj;replace p1:=Aa p1;replace h2:=Aa h2;replace i1:=Aa i1;by_cases h4:j=0
      ·subst h4;go_wp2_with fail;refine p1.out.mono ?_;rintro e w4 ⟨rfl,J⟩;have O:=x0.out.ext J;have f4:=fun k=>O.free k;have g0:=O.cell 0 rfl;have g1:=O.cell 1 rfl;replace O:=Aa O;have p2:=Aa (hE.out.trans J);clear q0 q1;go_wp2_with fail;obtain⟨wz,H⟩:=Ab (setEv w4 b at_ B i d);have hk:=B9 O.out at_ B i d;have r3:=(I5 w4 b at_ B i d).owns (J.owns h2.out.1) (fun k hk h=>by obtain⟨_,_,hb⟩:=Ae (J.owns h2.out.1) hk;omega);have U:=BZ p2.out I.out at_ B i d;rw[<-H]at hk r3 U;unfold setEv at H;rw[<-H];have k0:wz.cell? ⟨b,0,none⟩=some (.int .i64 at_):=hk.cell 0 rfl;have k1:wz.cell? ⟨b,1,none⟩=some (.slice B i d):=hk.cell 1 rfl;clear H hk;have i4:=i1.out;rw[if_pos trivial]at i4;exact bodyPost_ret (v:= .tuple #[.agg #[.int .i64 at_,.slice B i d],.slice A3 rr.length c3,.int .i64 0]) (by simp[results,Tryz.results127,go_sem,k0,k1]) rfl (by rw[i4];exact⟨U,B,d,A3,c3,by unfold Ev.val;simp only;rw[<-m2.out],⟨AD r3 (by have:=I.out;omega),h2.out.2⟩,l2.out,e4⟩)
      ·have x5:¬ (j:Int)=0:=by omega
       have y2:Hid (Z=none):=Aa (by rw[i1.out,if_neg h4]);go_wp2_with fail;refine p1.out.mono ?_;rintro e w4 ⟨rfl,J⟩;have O:=x0.out.ext J;have f4:=fun k=>O.free k;have g0:=O.cell 0 rfl;have g1:=O.cell 1 rfl;replace O:=Aa O;have p2:=Aa (hE.out.trans J);clear q0 q1;go_wp2_with fail;obtain⟨wz,H⟩:∃wz,wz=setEv w4 b 0 none 0 0:=⟨_,rfl⟩;have hk:=B9 O.out 0 none 0 0;rw[<-H]at hk;have U:=BZ p2.out I.out 0 none 0 0;rw[<-H]at U;unfold setEv at H;rw[<-H];have k0:wz.cell? ⟨b,0,none⟩=some (.int .i64 0):=hk.cell 0 rfl;have k1:wz.cell? ⟨b,1,none⟩=some (.slice none 0 0):=hk.cell 1 rfl;clear H hk;exact bodyPost_ret (v:= .tuple #[.agg #[.int .i64 0,.slice none 0 0],.slice none 0 0,.int .i64 100]) (by simp[results,Tryz.results127,go_sem,k0,k1]) rfl (GotE.no U y2.out)
theorem GP:∀ {k:Nat} {l r:List UInt8} {fs:List Fd},getFs k l=some (fs,r)->r.length<=l.length
 | 0,l,r,fs,h=>by unfold getFs at h;cases h;exact Nat.le_refl _
 | k+1,l,r,fs,h=>by
  unfold getFs at h;split at h
  ·cases h
  ·rename_i nm r1 h1;split at h
   ·cases h
   ·rename_i tx r2 h2;split at h
    ·cases h
    ·rename_i fs' r3 d;cases h;have a1:=(Gu h1).2.1;have a2:=(Gu h2).2.1;have a3:=GP d;omega
theorem Cs (h:getV 0 l = .ok (n,r)):r.length<l.length:=by
 obtain⟨_,_,q,H,d⟩:=Ck l 0 n r h;have:=List.length_pos_iff.2 d;rw[H,List.length_append];omega
theorem NP {e:Ev} (h:getE l=some (e,r)):r.length<l.length:=by
 unfold getE at h;split at h
 ·cases h
 ·rename_i u r1 h1;split at h
  ·cases h
  ·rename_i n r2 h2;split at h
   ·cases h
   ·split at h
    ·cases h
    ·rename_i fs r3 d;split at h
     ·cases h;have a1:=Cs h1;have a2:=Cs h2;have a3:=GP d;omega
     ·cases h
theorem IB:∀(l:List UInt8) (i k:Nat),getV i l = .error k->k=6\/k=20
 | [],i,k,h=>by unfold getV at h;injection h with h;omega
 | x::l,i,k,h=>by
  unfold getV at h;split at h
  ·injection h with h;omega
  ·split at h
   ·injection h with h;omega
   ·split at h
    ·cases h
    ·split at h
     ·cases h
     ·rename_i e d;injection h with h;subst h;exact IB l (i+1) _ d
theorem Qx (l:List UInt8) (x:UInt8):be (l ++ [x])=be l*256+x.toNat:=by
 unfold be;rw[List.foldl_append];rfl
def GotFB (w0 w:World) (res:Except Nat (List UInt8×List UInt8)) (e:Ending) (w':World):Prop:=Ext w w'/\match res with
 | .ok (p,r)=>∃P cp A c base,e = .returned (.tuple #[.slice P p.length cp,.slice A r.length c,.int .i64 0])/\Buf w' base 5 P p.length cp (p.map B8)/\In8 w0 A r.length c r
 | .error k=>e = .returned (.tuple #[.slice none 0 0,.slice none 0 0,.int .i64 k])
theorem GotFB.no {res:Except Nat (List UInt8×List UInt8)} (d:Ext w w') (h:res = .error k):GotFB w0 w res (.returned (.tuple #[.slice none 0 0,.slice none 0 0,.int .i64 k])) w':=by
 subst h;exact⟨d,rfl⟩
theorem NK (A:Option Addr) (n c:Nat) (l:List UInt8) (w0 w:World) (h:In8 w0 A n c l) (hw:Ext w0 w) (f2:n<=1000000000) :
 Calls prog 177 #[.slice A n c] w fun e w'=>GotFB w0 w (getF l) e w':=by
 have G:=Cl A n c l w0 w h hw f2;have f0:=Aa h.len;obtain⟨Z,d⟩:=Ab (getF l);rw[<-d];unfold getF at d;cases hv:getV 0 l with
 | error k =>
  rw[hv]at G d;simp only at d;rcases IB l 0 k hv with rfl | rfl
  ·rw[if_pos rfl]at d;replace d:=Aa d;replace G:=Aa G;clear h hv
   go_in
   go_wp2_with fail;refine G.out.mono ?_;rintro e w1 ⟨H,rfl⟩;go_wp2_with fail;go_ret3;exact GotFB.no H d.out
  ·rw[if_neg (by omega)]at d;replace d:=Aa d;replace G:=Aa G;clear h hv
   go_in
   go_wp2_with fail;refine G.out.mono ?_;rintro e w1 ⟨H,rfl⟩;go_wp2_with fail;go_ret3;exact GotFB.no H d.out
 | ok p =>
  obtain⟨m,r⟩:=p;have k3:=Ct hv;have l2:=Cs hv;obtain⟨hd,d0,y2⟩:=Eu l 0 m r [] hv;have O:l.length - r.length=hd.length:=by rw[d0,List.length_append];omega
  rw[hv]at G d;simp only at d;unfold Got at G;simp only at G;replace G:=Aa G;clear hv y2;by_cases o0:16777216<m
  ·rw[if_pos o0]at d;replace d:=Aa d;have m2:(16777216:Int)<m:=by omega
   clear h
   go_in
   go_wp2_with fail;refine G.out.mono ?_;rintro e w1 ⟨H,A1,c1,rfl,I⟩;go_wp2_with fail;go_ret3;exact GotFB.no H d.out
  ·rw[if_neg o0]at d;have m2:¬ (16777216:Int)<m:=by omega
   have e3:IntKind.i64.wrap (m:Int)=(m:Int):=by
    simp[IntKind.wrap,IntKind.bits,IntKind.signed];omega
   by_cases q2:r.length<4+m
   ·rw[if_pos q2]at d;replace d:=Aa d;have o2:(r.length:Int)<4+(m:Int):=by omega
    clear h
    go_in
    go_wp2_with fail;refine G.out.mono ?_;rintro e w1 ⟨H,A1,c1,rfl,I⟩;go_wp2_with fail;go_ret3;exact GotFB.no H d.out
   ·rw[if_neg q2]at d;have o2:¬ (r.length:Int)<4+(m:Int):=by omega
    obtain⟨a2,e0⟩:=h.headk .i64 (k:=l.length - r.length) (by have:=f0.out;omega) (z:=(n:Int) - (r.length:Int)) (by have:=f0.out;omega);rw[O]at a2 e0;have b3:r.length<=n:=by have:=f0.out;omega
    have j3:r.length<=1000000000:=by omega
    replace d:=Aa d;replace e0:=Aa e0;replace O:=Aa O;replace d0:=Aa d0;clear h l2
    go_in
    go_wp2_with fail;refine G.out.mono ?_;rintro e w1 ⟨H,A1,c1,rfl,I⟩;obtain⟨y3,r0⟩:=I.headk .i64 (k:=4) (by omega) (z:=4) rfl;obtain⟨A2,c2,z3,y1⟩:=I.subk .i64 .i64 (fr:=4) (k:=m) (by omega) (z0:=4) (z:=4+(m:Int)) rfl rfl;obtain⟨A3,c3,d3,d1⟩:=I.fromk .i64 (fr:=4+m) (by omega) (z:=4+(m:Int)) (by omega);replace r0:=Aa r0;replace y1:=Aa y1;replace d1:=Aa d1;replace I:=Aa I;go_wp2_with fail
    go_loopw [7,9,43] (fun s7 _ s43 wr=>∃(i v:Nat),s43 = .int .i64 (i:Int)/\i<=4/\s7 = .int .u32 (v:Int)/\v<256^i/\Hid (v=be (r.take i))/\wr=w1) (fun _ _ s43 _=>4 - (intOf s43).toNat)
    case atStart=>exact⟨0,0,rfl,by omega,rfl,by decide,Aa (by simp[be]),rfl⟩
    case round =>
     obtain⟨i,v,rfl,hi,rfl,hv,k2,rfl⟩:=hrel;by_cases d2:i<4
     ·obtain⟨x,hx⟩:∃x,r[i]? = some x:=⟨_,List.getElem?_eq_getElem (by omega)⟩
      have i0:be (r.take (i+1))=v*256+x.toNat:=by rw[Ei hx,Qx,k2.out]
      have f3:=x.toNat_lt;have a3:(256:Nat)^i<=256^3:=Nat.pow_le_pow_right (by omega) (by omega);have t3:v<16777216:=by omega
      have i2:bits .or .u32 ((v:Int)*256) (x.toNat:Int)=((v*256+x.toNat:Nat):Int):=by
       have h1:=u32_or_nat (v*256) x.toNat (by omega) (by omega);have h2:=Nat.shiftLeft_add_eq_or_of_lt (show x.toNat<2^8 by omega) v;rw[Nat.shiftLeft_eq]at h2;rw[show (2:Nat)^8=256 from rfl]at h2;rw[h2,<-h1];simp
      have Y:v*256+x.toNat<256^(i+1):=by rw[Nat.pow_succ];omega
      obtain⟨g,o,j2,hc⟩:=Cells.at_ (xs:=(r.take 4).map B8) (r0.out.bytes.ext (hw.trans H)) (by rw[List.length_map,List.length_take];omega);have j1:=hc i (B8 x) (by rw[List.getElem?_map,List.getElem?_take,if_pos d2,hx];rfl);unfold B8 at j1;subst j2;replace i0:=Aa i0;replace Y:=Aa Y;obtain⟨nx,x1⟩:=Ab (v*256+x.toNat);rw[<-x1]at i2 i0 Y;replace x1:=Aa x1;clear hx hc;go_wp2_with fail;refine⟨⟨i+1,nx,by go_num,by omega,rfl,Y.out,Aa i0.out.symm,trivial⟩,?_⟩;simp[intOf];omega
     ·obtain rfl:i=4:=by omega
      have J:((r.drop 4).take m).length=m:=by rw[List.length_take,List.length_drop];omega
      have k0:(l.take hd.length).length=hd.length:=by rw[List.length_take,d0.out,List.length_append];omega
      have c0:(r.drop (4+m)).length=r.length - (4+m):=List.length_drop;have q1:=hw.trans H;have q0:=y1.out.ext q1;obtain⟨pl,p0⟩:=Ab ((r.drop 4).take m);obtain⟨hh,h0⟩:=Ab (l.take hd.length);rw[<-p0]at J q0;have x0:=e0.out;rw[<-h0]at k0 x0;have x2:=Aa (Cr A2 m c2 pl wr J.symm q0.bytes q0.nil_ (by omega));have l0:=d.out;rw[O.out,<-h0,<-p0,<-k2.out]at l0;replace l0:=Aa l0;replace p0:=Aa p0;replace h0:=Aa h0;replace J:=Aa J;replace k0:=Aa k0;replace c0:=Aa c0;have x3:v<4294967296:=hv;clear q0;go_wp2_with fail;refine x2.out.mono ?_;rintro e w3 ⟨P,cp,rfl,p1,f1⟩;have y0:=p1.in8;have i1:=Aa p1;obtain⟨w4,m0⟩:=Ab (w3.alloc (.cells #[.slice A hd.length c,.slice P m cp] 25));have v0:Ext w3 w4:=by rw[m0];exact(Ext.refl w3).alloc _
      have o1:Row w4 w3.heap.size 25 #[.slice A hd.length c,.slice P m cp]:=by rw[m0];exact Row.new w3 _ _
      have j0:=Ng (some ⟨w3.heap.size,0,none⟩) 2 2 [(A,c,hh),(P,cp,pl)] w4 rfl (.inr ⟨w3.heap.size,0,rfl,fun i v hv=>by
       rw[Nat.zero_add];refine o1.cell i ?_;have e1:=k0.out;have e2:=J.out;simpa [e1,e2]using hv⟩) (fun q hq=>by
       rcases List.mem_cons.1 hq with rfl | hq
       ·have h:=(x0.ext q1).ext (f1.trans v0);simp only;rw[k0.out];exact h
       ·rw[List.mem_singleton.1 hq];have h:=y0.ext v0;simp only;rw[J.out];exact h) (fun q hq=>by
       rcases List.mem_cons.1 hq with rfl | hq
       ·simp only;rw[k0.out];have:=f0.out;have:=O.out;omega
       ·rw[List.mem_singleton.1 hq];simp only;rw[J.out];omega) (by omega)
      rw[show ([(A,c,hh),(P,cp,pl)].map fun p:Option Addr×Nat×List UInt8=>p.2.2) = [hh,pl] from rfl,show csum 0 [hh,pl]=cnext 0 (hh++pl)from Io hh pl]at j0;obtain⟨s,hs⟩:=Ab (cnext 0 (hh++pl));have U:=l0.out;rw[<-hs]at j0 U;have n0:=Aa (H.trans (f1.trans v0));replace j0:=Aa j0;replace m0:=Aa m0;replace y0:=Aa (y0.ext v0);have l1:=Aa (i1.out.ext v0);replace hs:=Aa hs;clear p1 o1 q1 x0;by_cases p2:s=v
      ·subst p2;rw[if_pos rfl]at U;replace U:=Aa U;go_wp2_with fail;rw[<-m0.out];refine j0.out.mono ?_;rintro e w5 ⟨rfl,b0⟩;have t0:=Aa (n0.out.trans b0);have n1:=Aa (l1.out.ext b0);go_wp2_with fail;refine AE (fun K hK=>?_);go_wp2_with fail;refine⟨by kernel_rfl,?_⟩;go_wp2_with fail;go_ret3;rw[U.out];exact⟨t0.out.drew,P,cp,A3,c3,_,by rw[J.out,c0.out];rfl,by rw[J.out];exact n1.out.drew,by rw[c0.out];exact d1.out⟩
      ·have m3:¬ (s:Int)=v:=by omega
       rw[if_neg p2]at U;replace U:=Aa U;go_wp2_with fail;rw[<-m0.out];refine j0.out.mono ?_;rintro e w5 ⟨rfl,b0⟩;have t0:=Aa (n0.out.trans b0);go_wp2_with fail;go_ret3;exact GotFB.no t0.out U.out
end
section
open Go.RowKit
attribute [local go_sem] Oper.semAt_some AP Cp
def KeepS (B:Nat) (S:Nat->Prop) (W W':World):Prop:=(∀w0:World,w0.heap.size<=B->Ext w0 W->Ext w0 W')/\∀k,S k->∀o,W.heap[k]? = some o->W'.heap[k]? = some o
theorem KeepS.trans (B:Nat) (S:Nat->Prop) (A C D:World) (h:KeepS B S A C) (k:KeepS B S C D):KeepS B S A D:=⟨fun w0 d H=>k.1 w0 d (h.1 w0 d H),fun i hi o Y=>k.2 i hi o (h.2 i hi o Y)⟩
theorem KeepS.refl (B:Nat) (S:Nat->Prop) (A:World):KeepS B S A A:=⟨fun _ _ h=>h,fun _ _ _ h=>h⟩
theorem KeepS.alike {H B:Nat} (U:H<=B) (h1:∀k,S k->k<B) (A C:World) (h:Alike B A C):KeepS H S A C :=
 ⟨fun _ hs Y=>h.ext Y (by omega),fun k hk _ d=>(h.block k (Array.getElem?_eq_some_iff.1 d).1 (fun J=>by have:=J.1;have:=h1 k hk;omega)).trans d⟩
theorem KeepS.ext {A C:World} (h:Ext A C):KeepS B S A C :=
 ⟨fun _ _ H=>H.trans h,fun k _ _ d=>(Below.block h k (Array.getElem?_eq_some_iff.1 d).1).trans d⟩
theorem KeepS.row {A C:World} (h:KeepS B S A C) (hk:S k) (d:Row A k t cs):Row C k t cs:=h.2 k hk _ d
abbrev Pay:=Option Addr×Nat×List UInt8×Int
def Pay.val (x:Pay):Value:= .slice x.1 x.2.2.1.length x.2.1
def PayOk (W:World) (x:Pay):Prop:=∃base,Buf W base 5 x.1 x.2.2.1.length x.2.1 (x.2.2.1.map B8)
def pays (l:List Pay):List (List UInt8):=l.map fun x=>x.2.2.1
def NxF (b:List UInt8) (pre:List Pay) (x:Pay) (W:World):Prop:=PayOk W x/\∃r,splitF b=(pays (pre ++ [x])++(splitF r).1,(splitF r).2)
def FinF (b:List UInt8) (ew:Nat) (xs:List Pay) (W W':World):Prop:=(splitF b=(pays xs,0)/\Ext W W')\/∃k W3,k≠0/\splitF b=(pays xs,k)/\Ext W W3/\W'=W3.setCell ⟨ew,0,none⟩ (.int .i64 (k:Int))
def FrIter (b:List UInt8) (B b1 b2 ew:Nat) (w:World):Prop :=
 Iter prog 176 #[.pointer (some ⟨b1,0,none⟩),.pointer (some ⟨b2,0,none⟩)] (fun x:Pay=>#[.int .i64 x.2.2.2,x.val]) Ext (NxF b) (KeepS B fun k=>k=b1\/k=b2\/k=ew) (FinF b ew) w
theorem Kd (A:Option Addr) (n c:Nat) (b:List UInt8) (B b1 b2 ew:Nat) (w0 w:World) (h:In8 w0 A n c b) (hB:w0.heap.size<=B) (hw:Ext w0 w) (f0:n<=1000000000)
 (I:Row w b1 25 #[.slice A n c]) (v0:Row w b2 221 #[.pointer (some ⟨ew,0,none⟩)]) (x0:Row w ew 28 #[.int .i64 0]):FrIter b B b1 b2 ew w:=by
 intro l J W hE j0 hY h0;replace I:=Aa (I.ext hE);replace v0:=Aa (v0.ext hE);replace x0:=Aa (x0.ext hE);replace hw:=Aa (hw.trans hE);clear hE;replace hY:=Aa hY;replace j0:=Aa j0;replace h0:=Aa h0;have f1:=Aa h.len;replace h:=Aa h;have t0:=Aa (fun A n c r W (h:In8 w0 A n c r) (hw:Ext w0 W) (f0:n<=1000000000)=>NK A n c r w0 W h hw f0);refine(callsIn_wide (n:=0)).1 ?_;refine callsIn_of_wp func176 rfl trivial ?_;simp only[ntmps176,List.size_toArray,List.length_cons,List.length_nil,Nat.reduceAdd,Nat.reduceSub,Array.replicate_succ,Array.replicate_zero,List.push_toArray,List.append_toArray,List.nil_append,List.cons_append];have k10:=I.out.cell 0 rfl;gi_wp2_with fail
 gi_loopw [4] (fun s4 wr=>∃(A4:Option Addr) (n4 c4:Nat) (r:List UInt8) (pre:List Pay),s4 = .slice A4 n4 c4/\n4<=n/\Hid (In8 w0 A4 n4 c4 r)/\Hid (splitF b=(pays pre++(splitF r).1,(splitF r).2))/\Hid (J pre wr)/\Hid (Ext w0 wr)/\Hid (Row wr b1 25 #[.slice A n c])/\Hid (Row wr b2 221 #[.pointer (some ⟨ew,0,none⟩)])/\Hid (Row wr ew 28 #[.int .i64 0])) (fun s4 _=>match s4 with | .slice _ k _=>k | _=>0)
 case atStart=>exact⟨A,n,c,b,[],rfl,Nat.le_refl _,h,Aa rfl,h0,hw,I,v0,x0⟩
 case round =>
  obtain⟨A4,n4,c4,r,pre,rfl,i1,hi,i0,hJ,hE,r1,r2,r3⟩:=hrel;have k1:=r1.out.cell 0 rfl;have k2:=r2.out.cell 0 rfl;have c0:=Aa hi.out.len;by_cases hz:n4=0
  ·have y1:¬ (0:Int)<n4:=by omega
   have j1:r = []:=List.length_eq_zero_iff.1 (by rw[<-c0.out];exact hz);subst j1;clear hY t0;gi_wp2_with fail
   go_end0
   refine⟨⟨_,rfl⟩,pre,_,hJ.out,.inl ⟨?_,Ext.refl _⟩⟩;have:=i0.out;rw[Mx,List.append_nil]at this;exact this
  ·have y1:(0:Int)<n4:=by omega
   have Z:r ≠ []:=fun e=>by have:=c0.out;rw[e]at this;exact hz this
   have hg:=t0.out A4 n4 c4 r wr hi.out hE.out (by omega);have H:=i0.out;cases Y:getF r with
   | error k =>
    rw[Mw Z Y,List.append_nil]at H;rw[Y]at hg;have p1:k≠0:=by rcases NQ Y with h | h <;> omega
    have e1:¬ (k:Int)=0:=by omega
    replace H:=Aa H;replace hg:=Aa hg;clear Y hY Z;gi_wp2_with fail;refine(callsIn_wide.2 hg.out).mono ?_;rintro e w2 ⟨d,rfl⟩;have k22:=(r2.out.ext d).cell 0 rfl;have k32:=(r3.out.ext d).cell 0 rfl;have k3f:=(r3.out.ext d).free 0;have e0:=Aa (j0.out _ _ _ hJ.out d);replace d:=Aa d;gi_wp2_with fail;exact bodyPost_ret (results_none rfl _ _ _) rfl ⟨⟨_,rfl⟩,pre,_,hJ.out,.inr ⟨k,_,p1,H.out,d.out,rfl⟩⟩
   | ok q =>
    obtain⟨p,r'⟩:=q;rw[I9 Z Y]at H;rw[Y]at hg;have O:=(C1 Y).1;have G:splitF b=(pays (pre ++ [(none,0,p,0)])++(splitF r').1,(splitF r').2):=by
     rw[H];simp[pays]
    replace H:=Aa H;replace G:=Aa G;replace hg:=Aa hg;clear Y Z;gi_wp2_with fail;refine(callsIn_wide.2 hg.out).mono ?_;rintro e w2 ⟨d,P,cp,A5,c5,base,rfl,q0,p0⟩;have r12:=Aa (r1.out.ext d);have r22:=Aa (r2.out.ext d);have r32:=Aa (r3.out.ext d);have k12:=r12.out.cell 0 rfl;have e0:=Aa (j0.out _ _ _ hJ.out d);have U:splitF b=(pays (pre ++ [(P,cp,p,((n:Int) - r'.length))])++(splitF r').1,(splitF r').2):=by
     have:=G.out;simp only[pays,List.map_append,List.map_cons,List.map_nil]at this ⊢;exact this
    have x1:=hY.out pre (P,cp,p,((n:Int) - r'.length)) w2 e0.out ⟨⟨base,q0⟩,r',U⟩;obtain⟨fn,tmps,assign,body,hy,hR⟩:=x1;simp only[Pay.val]at hy hR;obtain⟨n5,y0⟩:=Ab r'.length;rw[<-y0]at p0 hy hR U O ⊢;replace O:=Nat.lt_of_lt_of_eq O c0.out.symm;obtain⟨pl,b0⟩:=Ab p.length;rw[<-b0]at q0 hy ⊢;replace p0:=Aa p0;replace d:=Aa (hE.out.trans d);replace U:=Aa U;replace q0:=Aa q0;replace y0:=Aa y0;replace b0:=Aa b0;clear hY;gi_wp2_with fail;refine hR.mono ?_;rintro e W3 ⟨rfl,h1,k0⟩;have r13:=Aa (show Row W3 b1 25 #[.slice A n c] from k0.row (.inl rfl) r12.out);have r23:=Aa (show Row W3 b2 221 #[.pointer (some ⟨ew,0,none⟩)] from k0.row (.inr (.inl rfl)) r22.out);have r0:=Aa (k0.1 w0 hB d.out);have r33:=Aa (k0.row (.inr (.inr rfl)) r32.out);gi_wp2_with fail;exact⟨⟨A5,n5,c5,r',_,rfl,by omega,p0,U,Aa h1,r0,r13,r23,r33⟩,by omega⟩
end
section
open Go.RowKit
attribute [local go_sem] Oper.semAt_some AP Cp
theorem BX {d:TypeDesc} (h:w.cell? ⟨g,0,none⟩=some v) (H:P.underlying ty=some d) (hd:(match d with | .struct _ | .array _ _=>false | _=>true)=true):(loadVar ty ⟨g,0,none⟩).run P w = .ok v w:=by
 have hi:(isAgg ty).run P w = .ok false w:=by
  unfold isAgg;simp only[Sem.run_bind,run_underlying H,Result.andThen_ok];cases d <;> first | rfl | (cases hd)
 unfold loadVar;simp only[Sem.run_bind,hi,Result.andThen_ok];simp[h]
theorem Row.same (h:Row w g t cs) (Y:cs[i]? = some v):w.setCell ⟨g,i,none⟩ v=w:=by
 have H:=h.put i v;have J:cs.setIfInBounds i v=cs:=by
  apply Array.ext_getElem?;intro j;rw[Array.getElem?_setIfInBounds];split
  ·rename_i e;subst e;rw[Y,if_pos (Array.getElem?_eq_some_iff.1 Y).1]
  ·rfl
 rw[J]at H;have d:(w.setCell ⟨g,i,none⟩ v).heap=w.heap:=by
  apply Array.ext_getElem?;intro k;by_cases e:k=g
  ·subst e;exact H.trans (Eq.symm h)
  ·exact Below.heap_setCell w ⟨g,i,none⟩ v k e
 obtain⟨heap,os,tape,output⟩:=w;simp only[World.setCell]at d ⊢;rw[d]
theorem Hg {fn:Func} {p q r:Tmp} (d:fn.results=#[.cell p tp,.cell q tq,.cell r tr]) (tmps:Array Value) (w:World)
 (h1:tmps.getD p undef = .pointer (some ⟨g1,0,none⟩)) (h2:tmps.getD q undef = .pointer (some ⟨g2,0,none⟩)) (h:tmps.getD r undef = .pointer (some ⟨g3,0,none⟩))
 (l1:(loadVar tp ⟨g1,0,none⟩).run P w = .ok v1 w) (l2:(loadVar tq ⟨g2,0,none⟩).run P w = .ok v2 w) (l3:(loadVar tr ⟨g3,0,none⟩).run P w = .ok v3 w) :
 (results fn tmps).run P w = .ok (.tuple #[v1,v2,v3]) w:=by
 rw[Array.getD_eq_getD_getElem?]at h1 h2 h;simp only[results,d];simp[Sem.run_bind,Result.andThen,h1,h2,h,asAddr,l1,l2,l3]
theorem Rw:Elem prog 148 25 1 24:=⟨underlying148,⟨_,_,rfl,rfl,rfl,rfl,rfl⟩,by omega,by omega⟩
theorem LG (A:Option Addr) (n c:Nat) (ew:Nat) (w:World) :
 Calls prog 125 #[.slice A n c,.pointer (some ⟨ew,0,none⟩)] w fun e w'=>∃b1 b2,e = .returned (.func (.func 176) #[] #[.pointer (some ⟨b1,0,none⟩),.pointer (some ⟨b2,0,none⟩)])/\Row w' b1 25 #[.slice A n c]/\Row w' b2 221 #[.pointer (some ⟨ew,0,none⟩)]/\w.heap.size<=b1/\w.heap.size<=b2/\b1<b2/\Ext w w':=by
 go_in
 go_wp2_with fail;go_ret;have h1:=Row.new w 25 #[.slice A n c];have h2:=Row.new (w.alloc (.cells #[.slice A n c] 25)) 221 #[.pointer (some ⟨ew,0,none⟩)];rw[World.size_alloc]at h2;exact⟨w.heap.size,w.heap.size+1,rfl,h1.alloc _,h2,Nat.le_refl _,by omega,by omega,((Ext.refl w).alloc _).alloc _⟩
theorem NU (hb:Buf w base e A n c xs) (H:w.grownBy w1 (Value.slice A n c).ownBlock) (hk:k<base) (d:k<w.heap.size):w1.heap[k]? = w.heap[k]? :=
 H.block k d fun h=>by
  cases A with
  | none=>simp[Value.ownBlock]at h
  | some a =>
   have:=hb.base_le a rfl;simp[Value.ownBlock]at h;omega
theorem PayOk.grown {x:Pay} (h:PayOk w x) (hb:Buf w base e A n c xs) (Z:w.grownBy w1 (Value.slice A n c).ownBlock) (O:5≠e):PayOk w1 x:=by
 obtain⟨b,Y⟩:=h;refine⟨b,Y.grown Z fun a U d=>?_⟩;rcases hb.2.2 with ⟨J,_⟩ | ⟨g',cur,H,_,G,_⟩
 ·subst J;simp[Value.ownBlock]at d
 ·subst H;simp[Value.ownBlock]at d;exact Y.unlike G O a U d.symm
theorem PayOk.set {x:Pay} (h:PayOk w x) (H:Row w g t cs) (ht:5≠t) (i:Nat) (u:Value):PayOk (w.setCell ⟨g,i,none⟩ u) x:=by
 obtain⟨b,d⟩:=h;exact⟨b,d.setCell (d.unlike H ht) u⟩
def SpI (h bs b1 b2:Nat) (V1:Value) (w:World) (pre:List Pay) (W:World):Prop :=
 ∃L c z,Row W h 148 #[.slice L pre.length c]/\Row W (h+1) 3 #[.int .i64 z]/\Row W (h+2) 28 #[.int .i64 0]/\Buf W bs 25 L pre.length c (pre.map Pay.val)/\(∀x∈pre,PayOk W x)/\Row W b1 25 #[V1]/\Row W b2 221 #[.pointer (some ⟨h+2,0,none⟩)]/\Ext w W/\bs<=W.heap.size
theorem PayOk.ext {x:Pay} (h:PayOk W x) (d:Ext W W1):PayOk W1 x:=by obtain⟨b,hb⟩:=h;exact⟨b,hb.ext d⟩
theorem PayOk.alike {x:Pay} (h:PayOk W x) (d:Alike B W W1):PayOk W1 x:=by obtain⟨b,hb⟩:=h;exact⟨b,d.buf hb⟩
theorem SpI.ext {h bs b1 b2:Nat} {pre:List Pay} (hi:SpI h bs b1 b2 V1 w pre W) (d:Ext W W1):SpI h bs b1 b2 V1 w pre W1:=by
 obtain⟨L,c,z,r1,r2,r3,hb,Y,q1,q2,H,hs⟩:=hi;exact⟨L,c,z,r1.ext d,r2.ext d,r3.ext d,hb.ext d,fun x J=>(Y x J).ext d,q1.ext d,q2.ext d,H.trans d,Nat.le_trans hs d.size⟩
theorem SpI.alike {h bs b1 b2 B:Nat} {pre:List Pay} (hi:SpI h bs b1 b2 V1 w pre W) (d:Alike B W W1) (H:w.heap.size<=B):SpI h bs b1 b2 V1 w pre W1:=by
 obtain⟨L,c,z,r1,r2,r3,hb,J,q1,q2,Y,hs⟩:=hi;exact⟨L,c,z,d.row r1,d.row r2,d.row r3,d.buf hb,fun x U=>(J x U).alike d,d.row q1,d.row q2,d.ext Y H,Nat.le_trans hs d.size⟩
def SplitW (w:World) (b:List UInt8) (e:Ending) (w':World):Prop:=∃L c z,∃ps:List Pay,e = .returned (.tuple #[.slice L ps.length c,.int .i64 z,.int .i64 ((splitF b).2:Int)])/\Cells w' L (ps.map Pay.val)/\pays ps=(splitF b).1/\(∀x∈ps,PayOk w' x)/\Ext w w'
theorem OC (A:Option Addr) (n c:Nat) (b:List UInt8) (w:World) (h:In8 w A n c b) (y2:n<=1000000000) :
 Calls prog 72 #[.slice A n c] w fun e w'=>SplitW w b e w':=by
 replace h:=Aa h;refine(callsIn_wide (n:=0)).1 ?_;refine callsIn_of_wp_marks func72 rfl trivial ?_;simp only[ntmps72,List.size_toArray,List.length_cons,List.length_nil,Nat.reduceAdd,Nat.reduceSub,Array.replicate_succ,Array.replicate_zero,List.push_toArray,List.append_toArray,List.nil_append,List.cons_append];gi_wp2_with fail;obtain⟨W3,J⟩:=Ab (((w.alloc (Obj.cells #[Value.slice none 0 0] 148)).alloc (Obj.cells #[Value.int IntKind.i64 0] 3)).alloc (Obj.cells #[Value.int IntKind.i64 0] 28));rw[<-J];obtain⟨h1,Y⟩:=Ab w.heap.size;have q1:Row W3 h1 148 #[.slice none 0 0]:=by rw[J,Y];exact((Row.new w _ _).alloc _).alloc _
 have q2:Row W3 (h1+1) 3 #[.int .i64 0]:=by
  have:=Row.new (w.alloc (Obj.cells #[Value.slice none 0 0] 148)) 3 #[.int .i64 0];rw[World.size_alloc,<-Y]at this;rw[J];exact this.alloc _
 have q3:Row W3 (h1+2) 28 #[.int .i64 0]:=by
  have:=Row.new ((w.alloc (Obj.cells #[Value.slice none 0 0] 148)).alloc (Obj.cells #[Value.int IntKind.i64 0] 3)) 28 #[.int .i64 0];rw[World.size_alloc,World.size_alloc,<-Y]at this;rw[J];exact this
 have g0:Ext w W3:=by rw[J];exact(((Ext.refl w).alloc _).alloc _).alloc _
 have f0:W3.heap.size=h1+3:=by rw[J,Y];simp
 rw[<-Y];refine(callsIn_wide.2 (LG A n c (h1+2) W3)).mono ?_;rintro e w4 ⟨b1,b2,rfl,rb1,rb2,h2,p2,i2,H⟩;obtain⟨bs,j3⟩:=Ab w4.heap.size;have l0:SpI h1 bs b1 b2 (.slice A n c) w [] w4:=⟨none,0,0,q1.ext H,q2.ext H,q3.ext H,Buf.nil _ _ _,nofun,rb1,rb2,g0.trans H,by omega⟩
 have y0:=Kd A n c b h1 b1 b2 (h1+2) w w4 h.out (by omega) (g0.trans H) y2 rb1 rb2 (q3.ext H);rw[f0]at h2 p2;have d:w.heap.size<=w4.heap.size:=(g0.trans H).size;have l2:=rb2.lt;have h3:=(q3.ext H).lt;have o2:w.heap.size<=bs:=by omega
 replace l0:=Aa l0;replace y0:=Aa y0;replace J:=Aa J;replace Y:=Aa Y;clear q1 q2 q3 g0 H rb1 rb2 f0;gi_wp2_with fail;unfold FrIter at y0;refine C8 (gf:=176) (lb:=#[.pointer (some ⟨b1,0,none⟩),.pointer (some ⟨b2,0,none⟩)]) rfl (enters_of func176 (by kernel_rfl) rfl) y0.out (fun _=>rfl) (fun _ _ h=>h.others) ?fin (KeepS.trans h1 _) ?kb
  (fun pre W=>SpI h1 bs b1 b2 (.slice A n c) w pre W) (fun pre A B h ha=>h.alike ha d) (fun pre A B h G=>h.ext G) ?h0 ?hround ?hdone
 case fin =>
  rintro xs A B (⟨_,G⟩ | ⟨k,W3,_,_,G,rfl⟩)
  ·exact G.others
  ·exact G.others.trans (KeepsOthers.setCell _ _ _)
 case kb=>exact KeepS.alike (by omega) (fun k hk=>by omega)
 case h0=>exact fun W ha=>l0.out.alike ha d
 case hround =>
  rintro l pre ⟨P,cp,p,z⟩ W hI ⟨b0,r,o0⟩;unfold Pay.val;simp only;obtain⟨pl,c0⟩:=Ab p.length;rw[<-c0];replace c0:=Aa c0;replace hI:=Aa hI;replace b0:=Aa b0;replace o0:=Aa o0;gi_wp2_with fail;refine⟨KeepsOthers.refl _,KeepS.refl _ _ _,fun W2 i0=>?_⟩;have l1:=hI.out.alike i0 d;have j1:=Aa (b0.out.alike i0);clear i0 hI b0;obtain⟨L,cl,z0,r1,r2,r3,hb,hp,g1,g2,he,x1⟩:=l1;have m1:pre.length<=4000000000:=by
   have h1:=JC b;rw[o0.out]at h1;simp only[pays,List.length_append,List.length_map,List.length_cons]at h1;have:=h.out.len;omega
  have k1:=r1.cell 0 rfl;have U:=Aa (hb.alloc (.cells #[.slice P pl cp] 25));have d1:=Aa (AN W2 [.slice P pl cp] 25);have y1:bs<=(W2.alloc (.cells #[.slice P pl cp] 25)).heap.size:=by rw[World.size_alloc];omega
  obtain⟨m,hm⟩:=Ab pre.length;rw[<-hm]at m1 k1 U r1 hb;replace hm:=Aa hm;replace r1:=Aa r1;replace r2:=Aa r2;replace r3:=Aa r3;replace hb:=Aa hb;replace hp:=Aa hp;replace g1:=Aa g1;replace g2:=Aa g2;replace he:=Aa he;obtain⟨Wa,I⟩:=Ab (W2.alloc (.cells #[.slice P pl cp] 25));have m0:Ext W2 Wa:=by rw[I];exact(Ext.refl W2).alloc _
  have v0:=Aa m0;have ra1:=Aa (r1.out.ext m0);have ra2:=Aa (r2.out.ext m0);rw[<-I]at U d1 y1;replace I:=Aa I;clear m0;gi_wp2_with (gi_at_builtin;rw[<-I.out];refine Bu Rw U.out d1.out (.tmp 11) (.tmp 13) rfl rfl rfl rfl rfl rfl (by simp[Value.oneCell']) (by omega) y1 (fun A6 c6 w6 t0 O r0 p1=>?_);have r16:=Cu U.out O ra1.out (by decide);have r26:=Cu U.out O ra2.out (by decide);have u1:=r16.cell 0 rfl;have u2:=r16.free 0;have r27:=r26.away (p:=⟨h1,0,none⟩) (by simp) (.slice A6 (m+1) c6);have u3:=r27.cell 0 rfl;have u4:=r27.free 0;replace r16:=Aa r16;replace r26:=Aa r26;replace r27:=Aa r27;replace t0:=Aa t0;replace O:=Aa O;replace r0:=Aa r0;replace p1:=Aa p1);have Z:∀k,k<h1+3\/k=b1\/k=b2->k≠h1->k≠h1+1->((w6.setCell ⟨h1,0,none⟩ (.slice A6 (m+1) c6)).setCell ⟨h1+1,0,none⟩ (.int .i64 z)).heap[k]? = W2.heap[k]? :=fun k hk n1 n2=>by
   have x2:k<bs:=by omega
   rw[Below.heap_setCell _ _ _ k n2,Below.heap_setCell _ _ _ k n1,NU U.out O.out x2 (by omega)];exact Below.block v0.out k (by omega)
  have e1:∀w0:World,w0.heap.size<=h1->Ext w0 W2->Ext w0 ((w6.setCell ⟨h1,0,none⟩ (.slice A6 (m+1) c6)).setCell ⟨h1+1,0,none⟩ (.int .i64 z)):=fun w0 h0 G=>((r0.out w0 (G.trans v0.out) (by omega)).setCell (p:=⟨h1,0,none⟩) h0 _).setCell (p:=⟨h1+1,0,none⟩) (by show w0.heap.size<=h1+1;omega) _;have x3:=O.out.size;have j2:Buf ((w6.setCell ⟨h1,0,none⟩ (.slice A6 (m+1) c6)).setCell ⟨h1+1,0,none⟩ (.int .i64 z)) bs 25 A6 (m+1) c6 (pre.map Pay.val ++ [.slice P pl cp]):=by
   have q:=t0.out.setCell (p:=⟨h1,0,none⟩) (t0.out.unlike r16.out (by decide)) (.slice A6 (m+1) c6);exact q.setCell (p:=⟨h1+1,0,none⟩) (q.unlike r27.out (by decide)) _
  have a2:∀x∈pre ++ [(P,cp,p,z)],PayOk ((w6.setCell ⟨h1,0,none⟩ (.slice A6 (m+1) c6)).setCell ⟨h1+1,0,none⟩ (.int .i64 z)) x:=fun x hx=>by
   have d2:PayOk W2 x:=by
    rcases List.mem_append.1 hx with h | h
    ·exact hp.out x h
    ·rw[List.mem_singleton.1 h];exact j1.out
   exact(((d2.ext v0.out).grown U.out O.out (by decide)).set r16.out (by decide) 0 _).set r27.out (by decide) 0 _
  refine⟨((v0.out.others.trans (BL U.out O.out)).trans (KeepsOthers.setCell _ _ _)).trans (KeepsOthers.setCell _ _ _),⟨e1,fun k hk o ho=>?_⟩,A6,c6,z,?_,?_,?_,?_,a2,?_,?_,e1 w (by have:=Y.out;omega) he.out,?_⟩
  ·rw[Z k (by omega) (by omega) (by omega)];exact ho
  ·rw[List.length_append,<-hm.out];exact(r16.out.put 0 _).away (by simp) _
  ·exact r27.out.put 0 _
  ·unfold Row;rw[Z _ (by omega) (by omega) (by omega)];exact r3.out
  ·rw[List.length_append,<-hm.out,List.map_append];unfold Pay.val;simp only[List.map_cons,List.map_nil];rw[<-c0.out];exact j2
  ·unfold Row;rw[Z _ (by omega) (by omega) (by omega)];exact g1.out
  ·unfold Row;rw[Z _ (by omega) (by omega) (by omega)];exact g2.out
  ·simp;omega
 case hdone =>
  rintro D xs W2 W3 W4 hD hI hF hA hk;have o1:∃L c z,Row W4 h1 148 #[.slice L xs.length c]/\Row W4 (h1+1) 3 #[.int .i64 z]/\Row W4 (h1+2) 28 #[.int .i64 ((splitF b).2:Int)]/\Buf W4 bs 25 L xs.length c (xs.map Pay.val)/\(∀x∈xs,PayOk W4 x)/\Ext w W4/\pays xs=(splitF b).1:=by
   rcases hF with ⟨hs,G⟩ | ⟨k,W5,m3,hs,G,rfl⟩
   ·obtain⟨L,c,z,r1,r2,r3,hb,hp,q1,q2,he,x1⟩:=(hI.ext G).alike hA d;rw[hs];exact⟨L,c,z,r1,r2,r3,hb,hp,he,rfl⟩
   ·obtain⟨L,c,z,r1,r2,r3,hb,hp,q1,q2,he,x1⟩:=hI.ext G;rw[hs];refine⟨L,c,z,hA.row (r1.away (by simp) _),hA.row (r2.away (by simp) _),hA.row (r3.put 0 _),hA.buf (hb.setCell (hb.unlike r3 (by decide)) _),fun x hx=>((hp x hx).set r3 (by decide) 0 _).alike hA,hA.ext (he.setCell (by show w.heap.size<=h1+2;have:=Y.out;omega) _) d,rfl⟩
  obtain⟨L,cl,z,r1,r2,r3,hb,hp,he,n0⟩:=o1;have k1:=r1.cell 0 rfl;have k2:=r2.cell 0 rfl;have k3:=r3.cell 0 rfl;have f1:=r1.free 0;have f2:=r2.free 0;have f3:=r3.free 0;obtain⟨m,hm⟩:=Ab xs.length;rw[<-hm]at r1 k1 hb;obtain⟨ec,x0⟩:=Ab ((splitF b).2);rw[<-x0]at r3 k3;replace r1:=Aa r1;replace r2:=Aa r2;replace r3:=Aa r3;replace hb:=Aa hb;replace hp:=Aa hp;replace he:=Aa he;replace hm:=Aa hm;replace x0:=Aa x0;replace n0:=Aa n0;replace hk:=Aa hk;clear hI hF hA;gi_wp2_with fail;refine wpIn_wide.2 ?_;go_region;rw[show h1+1+1=h1+2 from rfl,r1.out.same rfl,r2.out.same rfl,r3.out.same rfl];gi_wp2_with fail;have m2:W4.drew.heap[D]? = some (.deferred (some [])):=hk.out;refine BR (B:=w4.heap.size) rfl m2 hD fun W ha=>⟨_,Hg rfl _ _ rfl rfl rfl (BX ((ha.row r1.out).cell 0 rfl) underlying148 rfl) (BX ((ha.row r2.out).cell 0 rfl) underlying3 rfl) (BX ((ha.row r3.out).cell 0 rfl) underlying28 rfl),L,cl,z,xs,?_,?_,n0.out,?_,?_⟩
  ·rw[<-hm.out,<-x0.out];rfl
  ·exact(ha.buf hb.out.drew).cells
  ·exact fun x hx=>((hp.out x hx).ext (Ext.refl W4).drew).alike ha
  ·exact ha.ext he.out.drew d
end
section
open Go.RowKit
attribute [local go_sem] Oper.semAt_some AP Cp
theorem Jg (a b:List UInt8):(ByteArray.mk a.toArray++ByteArray.mk b.toArray)=⟨(a++b).toArray⟩:=by
 apply ByteArray.ext;rw[ByteArray.data_append];simp
theorem Lx:Elem prog 122 125 2 40:=⟨underlying122,⟨_,_,rfl,rfl,rfl,rfl,rfl⟩,by omega,by omega⟩
theorem DX (D:List TmV) (x:TmV):tcs (D ++ [x])=tcs D++tcell x:=by
 unfold tcs;rw[List.flatMap_append];simp
def oneT (l:List (List UInt8×Int)):List (List UInt8×List Int):=l.map fun p=>(p.1,[p.2])
theorem N2 (l:List (List UInt8×Int)) (p:List UInt8×Int):oneT (l ++ [p])=oneT l ++ [(p.1,[p.2])]:=by unfold oneT;rw[List.map_append];rfl
section
variable {w w1 w0:World} {base n:Nat} {e:TypeId} {size:Nat} {v:Value} {xs:List Value}
theorem Jn (J:w.ownsRow base e size v n xs) (Y:w.grownBy w1 v.ownBlock) (d:Row w g t cs) (ht:t≠e):Row w1 g t cs :=
 d.grown Y fun h=>by
  obtain⟨cur,H,_⟩:=Ae J h.symm;exact d.unlike H ht rfl
theorem FH (J:w.ownsRow base e size v n xs) (H:w.grownBy w1 v.ownBlock):KeepsOthers w w1 :=
 KeepsOthers.of_grownBy H fun j o Y h=>by
  obtain⟨cur,d,_⟩:=Ae J Y;unfold Row at d;rw[d]at h;injection h with h;subst h;rfl
theorem CX (H:w.ownsRow base e size v n xs) (d:w.grownBy w1 v.ownBlock) (h:Ext w0 w) (hb:w0.heap.size<=base):Ext w0 w1 :=
 h.grown d fun k hk=>by obtain⟨_,_,Y⟩:=Ae H hk;omega
theorem Ci (J:w.ownsRow base e size v n xs) (Y:w.grownBy w1 v.ownBlock) (hb:Buf w b t A m c ys) (ht:t≠e):Buf w1 b t A m c ys :=
 hb.grown Y fun a d h=>by
  obtain⟨cur,H,_⟩:=Ae J h;exact hb.unlike H ht a d rfl
end
theorem FU {l x:List UInt8} (h:x∈tokL l):x.length<=32:=by
 unfold tokL at h;obtain⟨y,_,rfl⟩:=List.mem_map.1 h;exact JZ y [] (by simp)
theorem Iv {f:Fd} {x:List UInt8} (h:(tokL f.2)[i]? = some x):(fieldT base f)[i]? = some (f.1++58::x,((base+i:Nat):Int)):=by
 unfold fieldT;rw[List.getElem?_map,List.getElem?_zipIdx,h];simp
theorem CH:∀(fs:List Fd) (b:Nat),(∀f∈fs,f.2.length<=k)->(rawT b fs).length<=k*fs.length
 | [],b,_=>by simp[rawT]
 | f::fs,b,h=>by
  have h1:=CH fs (nextT b f) fun g d=>h g (List.mem_cons_of_mem _ d);have h2:=CK f.2;have H:=h f (List.mem_cons_self ..);unfold rawT;rw[List.length_append,CB,List.length_cons,Nat.mul_add];omega
theorem EN:∀(fs:List Fd) (b:Nat),(∀f∈fs,f.2.length<=k)->baseT b fs<=b+(64+k)*fs.length
 | [],b,_=>by simp[baseT]
 | f::fs,b,h=>by
  have h1:=EN fs (nextT b f) fun g d=>h g (List.mem_cons_of_mem _ d);have h2:=CK f.2;have H:=h f (List.mem_cons_self ..);unfold baseT;unfold nextT at h1 ⊢;rw[List.length_cons,Nat.mul_add];omega
theorem JF {l:List (List UInt8)} {x:List UInt8} (d:l[i]? = some x) (h:j<2):(tkV l)[i*2+j]? = [Value.string ⟨x.toArray⟩,.int .i64 (i:Int)][j]? :=by
 unfold tkV;refine AW (cellsA:=fun p:List UInt8×Nat=> [Value.string ⟨p.1.toArray⟩,.int .i64 (p.2:Int)]) (k:=2) (fun _=>rfl) l.zipIdx i (x,i) j ?_ h;rw[List.getElem?_zipIdx,d];simp
theorem Si {l:List (List UInt8)} (h:w.ownsRow base 185 2 (.slice A n c) n (tkV l)) (hk:∀g cs,Row w g 185 cs->Row w1 g 185 cs) {x:List UInt8} (H:l[i]? = some x) :
 ∃g o,A=some ⟨g,o,none⟩/\w1.cell? ⟨g,o+i*2,none⟩=some (.string ⟨x.toArray⟩)/\w1.cell? ⟨g,o+i*2+1,none⟩=some (.int .i64 (i:Int)):=by
 have Y:=JF H (j:=0) (by omega);have h1:=JF H (j:=1) (by omega);rcases h with ⟨G,⟨_,h2⟩ | ⟨g,cap,cur,U,hb,J,I,O,hs,ht⟩⟩
 ·have:=(List.getElem?_eq_some_iff.1 H).1;have Z:(tkV l).length=l.length*2:=by unfold tkV;rw[AU (cellsA:=fun p:List UInt8×Nat=> [Value.string ⟨p.1.toArray⟩,.int .i64 (p.2:Int)]) (k:=2) (fun _=>rfl),List.length_zipIdx]
  omega
 ·cases U;have key:∀(j:Nat) (v:Value),(tkV l)[j]? = some v->w1.cell? ⟨g,j,none⟩=some v:=fun j v d=>by
   rw[(hk g cur J).get];rw[<-ht,List.getElem?_take]at d;split at d
   ·simpa using d
   ·cases d
  exact⟨g,0,rfl,by rw[Nat.zero_add];exact key _ _ Y,by rw[Nat.zero_add];exact key _ _ h1⟩
def TI (base h:Nat) (Z:List (List UInt8×Int)) (w W:World):Prop :=
 ∃L c D,Row W h 122 #[.slice L D.length c]/\W.ownsRow base 125 2 (.slice L D.length c) D.length (tcs D)/\TmsOk W base D (oneT Z)/\Ext w W
theorem TI.ext {base h:Nat} {Z:List (List UInt8×Int)} (hi:TI base h Z w W) (d:Ext W W1):TI base h Z w W1:=by
 obtain⟨L,c,D,r,o,t,e⟩:=hi;exact⟨L,c,D,r.ext d,d.owns o,t.ext d,e.trans d⟩
theorem TI.alike {base h B:Nat} {Z:List (List UInt8×Int)} (hi:TI base h Z w W) (d:Alike B W W1) (H:w.heap.size<=B):TI base h Z w W1:=by
 obtain⟨L,c,D,r,o,t,e⟩:=hi;exact⟨L,c,D,d.row r,d.owns o,t.keep fun _ _ _ _ hb=>d.buf hb,d.ext e H⟩
def ptsOf (w:World) (x:Option Addr×Nat×Nat):List Int:=match x.1 with
 | none=> []
 | some a=>(List.range x.2.1).map fun i=>match w.cell? ⟨a.block,a.off+i,none⟩with
  | some (.int _ z)=>z
  | _=>0
theorem N6 {l:List Int} (h:Buf w base t A n c (l.map IV)):ptsOf w (A,n,c)=l:=by
 have d:=h.cells;have Y:=h.1;rw[List.length_map]at Y;unfold ptsOf;rcases d with d | ⟨g,o,rfl,d⟩
 ·have:l = []:=List.map_eq_nil_iff.1 d;subst this;cases A with
  | none=>rfl
  | some a =>
   simp only;simp at Y;rw[<-Y];rfl
 ·simp only;apply List.ext_getElem?;intro i;rw[List.getElem?_map];show Option.map _ ((List.range n)[i]?)=_;by_cases hi:i<n
  ·rw[List.getElem?_range hi];have H:i<l.length:=by omega
   have:=d i (IV l[i]) (by rw[List.getElem?_map,List.getElem?_eq_getElem H];rfl);simp only[Option.map_some,this,IV];rw[List.getElem?_eq_getElem H]
  ·rw[List.getElem?_eq_none (by rw[List.length_range];omega),List.getElem?_eq_none (by omega)];rfl
end
section
open Go.RowKit
theorem HX (w:World):Calls prog 210 #[.slice none 0 0,.int .i64 0,.int .i64 0,cmpV] w fun e w'=>e = .returned (.tuple #[])/\w'=w:=by
 unfold cmpV
 go_in
 go_wp2_with fail
 go_loopw [8] (fun s8 wr=>s8 = .int .i64 1/\wr=w) (fun _ _=>0)
 case atStart=>exact⟨rfl,rfl⟩
 case round =>
  obtain⟨rfl,rfl⟩:=hrel;go_wp2_with fail
  go_end0
  exact⟨rfl,rfl⟩
theorem MB (w:World):Calls prog 154 #[.slice none 0 0,.int .i64 0,cmpV] w fun e w'=>e = .returned (.tuple #[])/\w'=w:=by
 have h:=Aa (HX w);unfold cmpV at h ⊢
 go_in
 go_wp2_with fail
 go_loopw [7,8] (fun s7 s8 wr=>s7 = .int .i64 0/\s8 = .int .i64 20/\wr=w) (fun _ _ _=>0)
 case atStart=>exact⟨rfl,rfl,rfl⟩
 case round =>
  obtain⟨rfl,rfl,rfl⟩:=hrel;go_wp2_with fail;refine h.out.mono ?_;rintro e w1 ⟨rfl,rfl⟩;go_wp2_with fail
  go_loopw [6] (fun s6 wr2=>s6 = .int .i64 20/\wr2=w1) (fun _ _=>0)
  case atStart=>exact⟨rfl,rfl⟩
  case round =>
   obtain⟨rfl,rfl⟩:=hrel;go_wp2_with fail
   go_end0
   exact⟨rfl,rfl⟩
theorem Hx (w:World):Calls prog 100 #[.slice none 0 0,cmpV] w fun e w'=>e = .returned (.tuple #[])/\w'=w:=by
 have h:=Aa (MB w);unfold cmpV at h ⊢
 go_in
 go_wp2_with fail;refine h.out.mono ?_;rintro e w1 ⟨rfl,rfl⟩;go_wp2_with fail
 go_end0
 exact⟨rfl,rfl⟩
theorem Mv (base:Nat) (L:Option Addr) (n c:Nat) (D:List TmV) (w:World) (h:w.ownsRow base 125 2 (.slice L n c) n (tcs D)) (Y:n=D.length) (d:n<=268435456) :
 Calls prog 100 #[.slice L n c,cmpV] w fun e w'=>e = .returned (.tuple #[])/\∃E,Std D E/\(n≠0->∃g,L=some ⟨g,0,none⟩/\base<=g/\TR w' g E)/\Chg (fun k=>(Value.slice L n c).ownBlock=some k) w w':=by
 rcases h with ⟨hl,⟨H,I⟩ | ⟨g,cap,cur,H,hb,Z,G,O,hs,ht⟩⟩
 ·cases H;obtain rfl:D = []:=List.length_eq_zero_iff.1 Y.symm;exact(Hx w).mono fun e w' ⟨h1,h2⟩=>⟨h1,[],⟨List.Pairwise.nil,Stb.refl _⟩,fun h=>absurd rfl h,by rw[h2];exact Chg.refl _ _⟩
 ·cases H;subst Y;refine(Hw g c D w ⟨cur,Z,fun i v hi=>?_⟩ d).mono ?_
  ·rw[<-ht,List.getElem?_take]at hi;split at hi
   ·simpa using hi
   ·cases hi
  ·rintro e w' ⟨h1,E,h2,J,U⟩;exact⟨h1,E,h2,fun _=>⟨g,rfl,hb,J⟩,U.mono fun k _ hk=>by rw[hk];rfl⟩
abbrev TmP:=TmV×(List UInt8×List Int)
def TmP.far (x y:TmP):Prop:=∀a b,x.1.2.1=some a->y.1.2.1=some b->a.block≠b.block
theorem TmP.far_symm {x y:TmP} (h:TmP.far x y):TmP.far y x:=fun a b d hb e=>h b a hb d e.symm
def TmP.ok (w:World) (base:Nat) (z:TmP):Prop:=z.1.1=z.2.1/\Buf w base 3 z.1.2.1 z.1.2.2.1 z.1.2.2.2 (z.2.2.map IV)
structure TZ (w:World) (base:Nat) (l:List TmP):Prop where
  each:∀z∈l,TmP.ok w base z
  apart:l.Pairwise TmP.far
theorem TZ.perm {l m:List TmP} (h:TZ w base l) (d:m.Perm l):TZ w base m :=
 ⟨fun z H=>h.each z (d.mem_iff.1 H),(d.symm.pairwise_iff (fun {x y} h=>TmP.far_symm h)).1 h.apart⟩
theorem TZ.keep {l:List TmP} (h:TZ w base l) (hk:∀A n c xs,Buf w base 3 A n c xs->Buf w1 base 3 A n c xs):TZ w1 base l :=
 ⟨fun z d=>⟨(h.each z d).1,hk _ _ _ _ (h.each z d).2⟩,h.apart⟩
theorem TmsOk.tz {D:List TmV} {Z:List (List UInt8×Int)} (h:TmsOk w base D (oneT Z)) :
 TZ w base (D.map fun x=>(x,(x.1,ptsOf w x.2)))/\(∀x∈D,ptsOf w x.2 = [(ptsOf w x.2).headD 0])/\D.map (fun x=>(x.1,(ptsOf w x.2).headD 0))=Z:=by
 have hl:D.length=Z.length:=by have:=h.len;unfold oneT at this;rwa [List.length_map]at this
 have H:∀(i:Nat) (x:TmV),D[i]? = some x->∃p,Z[i]? = some p/\x.1=p.1/\Buf w base 3 x.2.1 x.2.2.1 x.2.2.2 ([p.2].map IV)/\ptsOf w x.2 = [p.2]:=fun i x d=>by
  have hi:=(List.getElem?_eq_some_iff.1 d).1;obtain⟨p,Y⟩:∃p,Z[i]? = some p:=⟨_,List.getElem?_eq_getElem (by omega)⟩
  have:=h.each i x (p.1,[p.2]) d (by unfold oneT;rw[List.getElem?_map,Y];rfl);exact⟨p,Y,this.1,this.2,N6 this.2⟩
 refine⟨⟨fun z I=>?_,?_⟩,fun x d=>?_,?_⟩
 ·obtain⟨x,d,rfl⟩:=List.mem_map.1 I;obtain⟨i,hi⟩:=List.mem_iff_getElem?.1 d;obtain⟨p,Y,h1,h2,J⟩:=H i x hi;exact⟨rfl,by simp only[J];exact h2⟩
 ·rw[List.pairwise_map,List.pairwise_iff_getElem];intro i j hi G O a b U hb;exact h.apart i j _ _ (List.getElem?_eq_getElem hi) (List.getElem?_eq_getElem G) (by omega) a b U hb
 ·obtain⟨i,hi⟩:=List.mem_iff_getElem?.1 d;obtain⟨p,Y,h1,h2,J⟩:=H i x hi;rw[J];rfl
 ·apply List.ext_getElem?;intro i;rw[List.getElem?_map];cases d:D[i]? with
  | none=>rw[List.getElem?_eq_none_iff]at d;rw[List.getElem?_eq_none (by omega)];rfl
  | some x =>
   obtain⟨p,Y,h1,h2,J⟩:=H i x d;rw[Y,Option.map_some,J,h1];rfl
theorem TZ.tms {l:List TmP} (h:TZ w base l):TmsOk w base (l.map Prod.fst) (l.map Prod.snd):=by
 refine⟨by rw[List.length_map,List.length_map],fun i x p H U=>?_,fun i j x y H G J a b O hb=>?_⟩
 ·rw[List.getElem?_map]at H U;obtain⟨z,Y,rfl⟩:=Option.map_eq_some_iff.1 H;rw[Y]at U;cases U;exact h.each z (List.mem_of_getElem? Y)
 ·rw[List.getElem?_map]at H G;obtain⟨z,Y,rfl⟩:=Option.map_eq_some_iff.1 H;obtain⟨u,I,rfl⟩:=Option.map_eq_some_iff.1 G;obtain⟨hi,rfl⟩:=List.getElem?_eq_some_iff.1 Y;obtain⟨Z,rfl⟩:=List.getElem?_eq_some_iff.1 I;rcases Nat.lt_or_gt_of_ne J with d | d
  ·exact List.pairwise_iff_getElem.1 h.apart i j hi Z d a b O hb
  ·exact(List.pairwise_iff_getElem.1 h.apart j i Z hi d b a hb O).symm
theorem TZ.join {a r:List TmP} {x y:TmP} (h:TZ w base (a++x::y::r)) (x':TmP) (hk:∀z∈a++r,TmP.far z x->TmP.ok w base z->TmP.ok w1 base z) (hx:TmP.ok w1 base x') (Z:x'.1.2.1=x.1.2.1\/∃b,x'.1.2.1=some b/\w.heap.size<=b.block):TZ w1 base (a++x'::r):=by
 have U:∀z∈a++r,z∈a++x::y::r:=fun z d=>by
  rcases List.mem_append.1 d with h | h
  ·exact List.mem_append_left _ h
  ·exact List.mem_append_right _ (List.mem_cons_of_mem _ (List.mem_cons_of_mem _ h))
 have H:∀z∈a++r,(TmP.far z x->TmP.far z x'):=fun z d hf p q Y O=>by
  rcases Z with Z | ⟨b,hb,q0⟩
  ·rw[Z]at O;exact hf p q Y O
  ·rw[hb]at O;cases O;have:=(h.each z (U z d)).2.lt p Y;omega
 have Y:=List.pairwise_append.1 h.apart;have J:=List.pairwise_cons.1 Y.2.1;have G:=List.pairwise_cons.1 J.2;refine⟨fun z d=>?_,List.pairwise_append.2 ⟨Y.1,List.pairwise_cons.2 ⟨fun z d=>?_,G.2⟩,fun z d u I=>?_⟩⟩
 ·rcases List.mem_append.1 d with d | d
  ·exact hk z (List.mem_append_left _ d) (Y.2.2 z d x (List.mem_cons_self ..)) (h.each z (List.mem_append_left _ d))
  ·rcases List.mem_cons.1 d with rfl | d
   ·exact hx
   ·exact hk z (List.mem_append_right _ d) (TmP.far_symm (J.1 z (List.mem_cons_of_mem _ d))) (h.each z (U z (List.mem_append_right _ d)))
 ·exact TmP.far_symm (H z (List.mem_append_right _ d) (TmP.far_symm (J.1 z (List.mem_cons_of_mem _ d))))
 ·rcases List.mem_cons.1 I with rfl | I
  ·exact H z (List.mem_append_left _ d) (Y.2.2 z d x (List.mem_cons_self ..))
  ·exact Y.2.2 z d u (List.mem_cons_of_mem _ (List.mem_cons_of_mem _ I))
theorem M7 {base g n c size:Nat} (h:w.ownsRow base e size (.slice (some ⟨g,0,none⟩) n c) n xs) (j:Nat) (u:Value) :
 (w.setCell ⟨g,j,none⟩ u).ownsRow base e size (.slice (some ⟨g,0,none⟩) n c) n (xs.set j u):=by
 rcases h with ⟨Y,⟨h2,_⟩ | ⟨g',cap,cur,U,hb,H,J,d,hs,ht⟩⟩
 ·cases h2
 ·cases U;refine⟨by rw[List.length_set];exact Y,.inr ⟨g,_,cur.setIfInBounds j u,rfl,hb,Row.put (w:=w) H j u,J,d,by rw[Array.size_setIfInBounds];exact hs,?_⟩⟩;rw[Array.toList_setIfInBounds,List.take_set,ht]
theorem Qf (D:List TmV) (x:TmV) (y:Option Addr×Nat×Nat):(tcs (D ++ [x])).set (D.length*2+1) (.slice y.1 y.2.1 y.2.2)=tcs (D ++ [(x.1,y)]):=by
 rw[DX,DX,List.set_append_right _ _ (by rw[Ft];omega),Ft,show D.length*2+1 - D.length*2=1 by omega];rfl
theorem GU {β:Type} (r:List (List UInt8×List β)) (x:List UInt8×List β) (p:List UInt8×β):joinS (r ++ [x]) p=if x.1=p.1 then r ++ [(x.1,x.2 ++ [p.2])] else r ++ [x] ++ [(p.1,[p.2])]:=by
 unfold joinS;rw[List.getLast?_concat,List.dropLast_concat]
theorem Qe {D:List TmV} (h:w.ownsRow base 125 2 (.slice A n c) n (tcs D)) {x:TmV} (Y:D[i]? = some x) :
 ∃g cur,A=some ⟨g,0,none⟩/\base<=g/\Row w g 125 cur/\w.cell? ⟨g,i*2,none⟩=some (.string ⟨x.1.toArray⟩)/\w.cell? ⟨g,i*2+1,none⟩=some (.slice x.2.1 x.2.2.1 x.2.2.2):=by
 have hi:=(List.getElem?_eq_some_iff.1 Y).1;rcases h with ⟨U,⟨_,h2⟩ | ⟨g,cap,cur,O,hb,H,G,Z,hs,ht⟩⟩
 ·rw[Ft]at U;omega
 ·cases O;have J:TR w g D:=⟨cur,H,fun j v d=>by
   rw[<-ht,List.getElem?_take]at d;split at d
   ·simpa using d
   ·cases d⟩
  have:=J.at_ Y;exact⟨g,cur,rfl,hb,H,this.1,this.2⟩
theorem Pu {β:Type} {r:List (List UInt8×List β)} (h:∀z∈r,z.2.length<=k) (p:List UInt8×β):∀z∈joinS r p,z.2.length<=k+1:=by
 intro z d;rcases List.eq_nil_or_concat r with rfl | ⟨r0,x,H⟩
 ·unfold joinS at d;simp only[List.getLast?_nil,List.mem_singleton]at d;rw[d];simp
 ·rw[List.concat_eq_append]at H;subst H;rw[GU]at d;have Y:=h x (by simp);split at d
  ·rcases List.mem_append.1 d with d | d
   ·have:=h z (List.mem_append_left _ d);omega
   ·rw[List.mem_singleton.1 d,List.length_append];simp;omega
  ·rcases List.mem_append.1 d with d | d
   ·have:=h z d;omega
   ·rw[List.mem_singleton.1 d];simp
theorem Kc {β:Type}:∀(l:List (List UInt8×β)) (r:List (List UInt8×List β)) (k:Nat),(∀z∈r,z.2.length<=k)->∀z∈l.foldl joinS r,z.2.length<=k+l.length
 | [],r,k,h=>h
 | p::l,r,k,h=>fun z d=>by
  have:=Kc l (joinS r p) (k+1) (Pu h p) z d;rw[List.length_cons];omega
theorem Gr {base n c b m size:Nat} (hb:Buf w base e A n c xs) (H:w.grownBy w1 (Value.slice A n c).ownBlock) (Y:w.ownsRow b t size v m ys) (ht:t≠e):w1.ownsRow b t size v m ys :=
 (Chg.of_grown (S:=fun j=>(Value.slice A n c).ownBlock=some j) H (fun k _ h=>h)).owns Y fun g H d=>by
  obtain⟨cur,J,_⟩:=Ae Y H;cases A with
  | none=>simp[Value.ownBlock]at d
  | some a =>
   simp[Value.ownBlock]at d;exact hb.unlike J (fun h=>ht h.symm) a rfl d
theorem Rs {A B:Option Addr} (J:w.grownBy w1 (Value.slice A n c).ownBlock) (h:Buf w b t B n2 c2 ys) (Y:∀p q,B=some p->A=some q->p.block≠q.block):Buf w1 b t B n2 c2 ys :=
 h.grown J fun a H d=>by
  cases A with
  | none=>simp[Value.ownBlock]at d
  | some q =>
   simp[Value.ownBlock]at d;exact Y a q H rfl d.symm
end
section
open Go.RowKit Go.Maps
structure IdE where
  s:List UInt8
  ps:List PoC
  A:Option Addr
  c:Nat
def IdE.val (x:IdE):Value:= .slice x.A x.ps.length x.c
def IdE.own (x:IdE) (base:Nat) (W:World):Prop:=W.ownsRow base 127 2 (.slice x.A x.ps.length x.c) x.ps.length (pcells x.ps)
def IdE.far (x y:IdE):Prop:=∀a b,x.A=some a->y.A=some b->a.block≠b.block
def posAt (base:Nat) (W:World) (y:PoC):Prop:=Buf W base 3 y.A y.pos.length y.c (y.pos.map IV)/\y.pos.length<=1000000000
structure IX (base M:Nat) (done:List (List UInt8×Po)) (E:List IdE) (W:World):Prop where
  map:∃L,MapL prog 9 W M L/\∀p,p∈L↔∃x∈E,p=(strV x.s,x.val)
  own:∀x∈E,x.own base W/\psP x.ps=valsOf done x.s/\x.ps ≠ []
  pos:∀x∈E,∀y∈x.ps,posAt base W y
  uniq:∀x∈E,∀y∈E,x.s=y.s->x=y
  apart:∀x∈E,∀y∈E,x.s≠y.s->IdE.far x y
  all:∀p∈done,∃x∈E,x.s=p.1
theorem HG {a b:List UInt8} (h:strV a=strV b):a=b:=by
 unfold strV at h;injection h with h;injection h with h;simpa using h
theorem IX.new:IX base w.heap.size [] [] (w.alloc (.map #[] 0)) :=
 ⟨⟨[],MapL.made w,fun p=>by simp⟩,nofun,nofun,nofun,nofun,nofun⟩
theorem IX.ext {done:List (List UInt8×Po)} {E:List IdE} (h:IX base M done E W) (Y:Ext W W1):IX base M done E W1:=by
 obtain⟨⟨L,Z,I⟩,J,U,hu,G,d⟩:=h;exact⟨⟨L,Z.ext Y,I⟩,fun x H=>⟨Y.owns (J x H).1,(J x H).2⟩,fun x H y O=>⟨(U x H y O).1.ext Y,(U x H y O).2⟩,hu,G,d⟩
theorem Kk:Keyed prog 9:=string_keyed underlying9
theorem DJ (hs:s.length<=9223372036854775807):keyOf prog 9 (strV s)=some (.string s):=by
 have h:=WideMaps.keyOf_string_mk (P:=prog) underlying9 (s:=⟨s.toArray⟩) (by show s.toArray.size<=9223372036854775807;simpa using hs);simpa [strV]using h
def IdG (E:List IdE) (s:List UInt8) (x:IdE):Prop:=x.s=s/\(x∈E\/(x.A=none/\x.c=0/\x.ps = []/\∀y∈E,y.s≠s))
theorem IX.get {done:List (List UInt8×Po)} {E:List IdE} (h:IX base M done E W) (s:List UInt8) (hs:s.length<=9223372036854775807) :
 ∃x,IdG E s x/\x.own base W/\psP x.ps=valsOf done s/\∀W1,Ext W W1->(Instr.lookup 54 (.map (some M)) (strV s) false).run prog W1 = .ok (.slice x.A x.ps.length x.c) W1:=by
 obtain⟨L,Y,hm⟩:=h.map;have hz:∀W,(zeroValue 66).run prog W = .ok (.slice none 0 0) W:=fun W=>by kernel_rfl
 rcases Y.look Kk underlying54 (DJ hs) (hz W) false with ⟨v,Z,_⟩ | ⟨d,_⟩
 ·obtain⟨x,hx,he⟩:=(hm _).1 Z;injection he with h1 h2;have G:=HG h1;subst G;have:=h.own x hx;refine⟨x,⟨rfl,.inl hx⟩,this.1,this.2.1,fun W1 J=>?_⟩;rcases (Y.ext J).look Kk underlying54 (DJ hs) (hz W1) false with ⟨u,O,U⟩ | ⟨d,_⟩
  ·rw[U,Y.unique O Z,h2];rfl
  ·exact absurd rfl (d _ Z)
 ·have H:∀y∈E,y.s≠s:=fun y I e=>d (strV y.s,y.val) ((hm _).2 ⟨y,I,rfl⟩) (by rw[e]);refine⟨⟨s,[],none,0⟩,⟨rfl,.inr ⟨rfl,rfl,rfl,H⟩⟩,World.ownsRow_nil _ _ _ _,?_,fun W1 J=>?_⟩
  ·show []=_;exact(Df fun p hp e=>by
    obtain⟨y,I,h0⟩:=h.all p hp;exact H y I (h0.trans e)).symm
  ·rcases (Y.ext J).look Kk underlying54 (DJ hs) (hz W1) false with ⟨u,O,_⟩ | ⟨_,U⟩
   ·exact absurd rfl (d _ O)
   ·exact U
theorem DK {L:List (Value×Value)} (h:MapL prog 9 W M L) {e size n:Nat} (Y:W.ownsRow base e size v n xs):v.ownBlock≠some M:=fun H=>by
 obtain⟨cur,d,_⟩:=Ae Y H;obtain⟨⟨es,cl,h1,_⟩,_⟩:=h;unfold Row at d;rw[h1]at d;cases d
theorem DL {L:List (Value×Value)} (h:MapL prog 9 W M L) {g t:Nat} (d:Row W g t cs):g≠M:=fun H=>by
 obtain⟨⟨es,cl,h1,_⟩,_⟩:=h;unfold Row at d;rw[H,h1]at d;cases d
theorem MapL.same {k:TypeId} {L L':List (Value×Value)} (h:MapL prog k w m L) (Y:MapL prog k w m L'):L=L':=by
 obtain⟨⟨es,cl,h1,h2,_⟩,_⟩:=h;obtain⟨⟨es',cl',d,H,_⟩,_⟩:=Y;rw[h1]at d;cases d;exact h2.symm.trans H
theorem Kw (l:List PoC) (x:PoC):psP (l ++ [x])=psP l ++ [x.po]:=by unfold psP;rw[List.map_append];rfl
theorem F9 (l:List PoC) (x:PoC):pcells (l ++ [x])=pcells l++x.cells:=by
 unfold pcells;rw[List.flatMap_append];simp
theorem IX.put {done:List (List UInt8×Po)} {E:List IdE} (h:IX base M done E W) {x:IdE} (hx:IdG E s x) (e0:x.own base W) (a1:psP x.ps=valsOf done s)
 {y:PoC} {c1:Nat} (hg:W.grownBy w8 (Value.slice x.A x.ps.length x.c).ownBlock) (ho:w8.ownsRow base 127 2 (.slice A1 (x.ps.length+1) c1) (x.ps.length+1) (pcells x.ps++y.cells))
 (G:(Value.slice A1 (x.ps.length+1) c1).ownBlock=(Value.slice x.A x.ps.length x.c).ownBlock\/∃k,(Value.slice A1 (x.ps.length+1) c1).ownBlock=some k/\W.heap.size<=k) (hy:posAt base W y)
 (h9:∀L,MapL prog 9 w8 M L->(∀p,p∈L↔∃x∈E,p=(strV x.s,x.val))->∃L',MapL prog 9 w9 M L'/\Put L (strV s) (.slice A1 (x.ps.length+1) c1) L'/\w8.grownBy w9 (some M)) :
 IX base M (done ++ [(s,y.po)]) (⟨s,x.ps ++ [y],A1,c1⟩::E.filter fun z=>decide (z.s≠s)) w9:=by
 obtain⟨L,hL,hm⟩:=h.map;have m0:MapL prog 9 w8 M L:=hL.grown hg (DK hL e0);obtain⟨L',n0,d0,x0⟩:=h9 L m0 hm;have hlen:(x.ps ++ [y]).length=x.ps.length+1:=by rw[List.length_append];rfl
 have d:∀z,z∈(E.filter fun z=>decide (z.s≠s))↔z∈E/\z.s≠s:=fun z=>by rw[List.mem_filter];simp
 have j1:∀g t cs,Row w8 g t cs->Row w9 g t cs:=fun g t cs hr=>hr.grown x0 fun e=>DL m0 hr (by injection e);have j0:∀ {b e size n:Nat} {v:Value} {xs:List Value},w8.ownsRow b e size v n xs->w9.ownsRow b e size v n xs:=fun hh =>
  (Chg.of_grown (S:=fun k=>k=M) x0 (fun k _ e=>by injection e with e;exact e.symm)).owns hh fun g r0 e=>DK m0 hh (by rw[r0,e])
 have q0:∀z∈E,z.s≠s->∀a,x.A=some a->∀b,z.A=some b->b.block≠a.block:=fun z H U a J b hb=>by
  rcases hx.2 with b0 | ⟨hn,_⟩
  ·exact h.apart z H x b0 (fun e=>U (e.trans hx.1)) b a hb J
  ·rw[hn]at J;cases J
 have t0:∀z∈E,z.s≠s->z.own base w9:=fun z H U=>by
  refine j0 ?_;refine(Chg.of_grown (S:=fun k=>(Value.slice x.A x.ps.length x.c).ownBlock=some k) hg (fun k _ e=>e)).owns (h.own z H).1 fun g k0 p0=>?_;cases c0:z.A with
  | none=>rw[c0]at k0;simp[Value.ownBlock]at k0
  | some b =>
   cases Z:x.A with
   | none=>rw[Z]at p0;simp[Value.ownBlock]at p0
   | some a =>
    rw[c0]at k0;rw[Z]at p0;simp[Value.ownBlock]at k0 p0;exact q0 z H U a Z b c0 (k0.trans p0.symm)
 have O:∀u,posAt base W u->posAt base w9 u:=fun u Y=>by
  have q:=Ci e0 hg Y.1 (by decide);exact⟨q.grown x0 fun a J e=>by
   injection e with e;rcases q.2.2 with ⟨h0,_⟩ | ⟨g',cur,l0,_,hr,_⟩
   ·rw[h0]at J;cases J
   ·rw[l0]at J;cases J;exact DL m0 hr e.symm,Y.2⟩
 have m1:valsOf (done ++ [(s,y.po)]) s=valsOf done s ++ [y.po]:=by rw[AK,Dz,if_pos rfl]
 have x1:∀t,t≠s->valsOf (done ++ [(s,y.po)]) t=valsOf done t:=fun t ht=>by rw[AK,Dz,if_neg (fun e=>ht e.symm),List.append_nil]
 refine⟨⟨L',n0,fun p=>?_⟩,fun z H=>?_,fun z H u Y=>?_,fun z H u Y I=>?_,fun z H u Y I=>?_,fun p hp=>?_⟩
 ·rw[d0.mem];constructor
  ·rintro(rfl | ⟨hp,U⟩)
   ·exact⟨_,List.mem_cons_self ..,by unfold IdE.val;simp only[hlen]⟩
   ·obtain⟨z,H,rfl⟩:=(hm _).1 hp;exact⟨z,List.mem_cons_of_mem _ ((d z).2 ⟨H,fun e=>U (by rw[e])⟩),rfl⟩
  ·rintro⟨z,H,rfl⟩;rcases List.mem_cons.1 H with rfl | H
   ·exact .inl (by unfold IdE.val;simp only[hlen])
   ·obtain⟨g0,v0⟩:=(d z).1 H;exact .inr ⟨(hm _).2 ⟨z,g0,rfl⟩,fun e=>v0 (HG e)⟩
 ·rcases List.mem_cons.1 H with rfl | H
  ·refine⟨?_,?_,by simp⟩
   ·show w9.ownsRow base _ 2 (.slice A1 (x.ps ++ [y]).length c1) (x.ps ++ [y]).length (pcells (x.ps ++ [y]));rw[hlen,F9];exact j0 ho
   ·show psP (x.ps ++ [y])=valsOf _ s;rw[Kw,a1,m1]
  ·obtain⟨g0,v0⟩:=(d z).1 H;exact⟨t0 z g0 v0,by rw[x1 _ v0];exact(h.own z g0).2.1,(h.own z g0).2.2⟩
 ·rcases List.mem_cons.1 H with rfl | H
  ·rcases List.mem_append.1 Y with Y | Y
   ·rcases hx.2 with b0 | ⟨_,_,hn,_⟩
    ·exact O u (h.pos x b0 u Y)
    ·rw[hn]at Y;cases Y
   ·rw[List.mem_singleton.1 Y];exact O y hy
  ·exact O u (h.pos z ((d z).1 H).1 u Y)
 ·rcases List.mem_cons.1 H with rfl | H <;> rcases List.mem_cons.1 Y with rfl | Y
  ·rfl
  ·exact absurd I.symm ((d u).1 Y).2
  ·exact absurd I ((d z).1 H).2
  ·exact h.uniq z ((d z).1 H).1 u ((d u).1 Y).1 I
 ·have key:∀z∈E,z.s≠s->∀a b,A1=some a->z.A=some b->b.block≠a.block:=fun z H U a b J hb e=>by
   rcases G with G | G
   ·rw[J]at G;cases Z:x.A with
    | none=>rw[Z]at G;simp[Value.ownBlock]at G
    | some a' =>
     rw[Z]at G;simp[Value.ownBlock]at G;exact q0 z H U a' Z b hb (e.trans G)
   ·obtain⟨k,G,h1⟩:=G;rw[J]at G;simp[Value.ownBlock]at G;obtain⟨cur,hc,_⟩:=Ae (h.own z H).1 (g:=b.block) (by rw[hb];rfl);have:=hc.lt;omega
  rcases List.mem_cons.1 H with rfl | H <;> rcases List.mem_cons.1 Y with rfl | Y
  ·exact absurd rfl I
  ·exact fun a b J hb e=>key u ((d u).1 Y).1 ((d u).1 Y).2 a b J hb e.symm
  ·exact fun a b J hb=>key z ((d z).1 H).1 ((d z).1 H).2 b a hb J
  ·exact h.apart z ((d z).1 H).1 u ((d u).1 Y).1 I
 ·rcases List.mem_append.1 hp with hp | hp
  ·obtain⟨z,H,f0⟩:=h.all p hp;by_cases hs:p.1=s
   ·exact⟨_,List.mem_cons_self ..,hs.symm⟩
   ·exact⟨z,List.mem_cons_of_mem _ ((d z).2 ⟨H,by rw[f0];exact hs⟩),f0⟩
  ·rw[List.mem_singleton.1 hp];exact⟨_,List.mem_cons_self ..,rfl⟩
end
section
open Go.RowKit
theorem Dw {e:Ev} {p:List UInt8×List Int} (h:p∈termsL e):checkE e.fs=0/\p.2=valsOf (rawT 0 e.fs) p.1/\p.2 ≠ []:=by
 unfold termsL at h;split at h
 ·rename_i d;exact⟨d,((BM _).mem p).1 h⟩
 ·cases h
theorem Ky:∀(fs:List Fd) (b:Nat) (q:List UInt8×Int),q∈rawT b fs->∃f∈fs,∃w∈tokL f.2,q.1=f.1++58::w
 | [],b,q,h=>by cases h
 | f::fs,b,q,h=>by
  unfold rawT at h;rcases List.mem_append.1 h with h | h
  ·unfold fieldT at h;obtain⟨p,Y,rfl⟩:=List.mem_map.1 h;obtain⟨w,i⟩:=p;have:=List.mem_zipIdx Y;exact⟨f,List.mem_cons_self ..,w,by rw[this.2.2];exact List.getElem_mem _,rfl⟩
  ·obtain⟨g,H,w,J,d⟩:=Ky fs _ q h;exact⟨g,List.mem_cons_of_mem _ H,w,J,d⟩
theorem Fv {β:Type} {ps:List (List UInt8×β)} (h:valsOf ps s ≠ []):∃p∈ps,p.1=s:=Decidable.byContradiction fun d=>h (Df fun p H e=>d ⟨p,H,e⟩)
theorem HM {β:Type} (ps:List (List UInt8×β)) (s:List UInt8):(valsOf ps s).length<=ps.length:=by
 unfold valsOf;rw[List.length_map];exact List.length_filter_le ..
theorem EH {e:Ev} {p:List UInt8×List Int} (h:p∈termsL e):1<=p.1.length/\p.1.length<=65:=by
 obtain⟨H,h1,h2⟩:=Dw h;rw[h1]at h2;obtain⟨q,O,d⟩:=Fv h2;obtain⟨f,J,w,Z,Y⟩:=Ky _ _ q O;have U:=(AM H).2 f J;have G:=FU Z;rw[<-d,Y,List.length_append,List.length_cons];omega
theorem Jd {e:Ev} {p:List UInt8×List Int} (h:p∈termsL e):p.2.length<=65536:=by
 obtain⟨d,h1,h2⟩:=Dw h;have Y:=HM (rawT 0 e.fs) p.1;have J:=CH (k:=4096) e.fs 0 fun f H=>((AM d).2 f H).2;have U:=(AM d).1;rw[h1];omega
theorem JI {β:Type} (p:List UInt8×β):∀(l:List (List UInt8×List β)),(addG p l).length<=l.length+1
 | []=>by simp[addG]
 | x::xs=>by
  have:=JI p xs;unfold addG;split
  ·simp only[List.length_cons];omega
  ·split
   ·simp only[List.length_cons];omega
   ·simp only[List.length_cons];omega
theorem Iy {β:Type}:∀(ps:List (List UInt8×β)) (l:List (List UInt8×List β)),(ps.foldl (fun l p=>addG p l) l).length<=l.length+ps.length
 | [],l=>by simp
 | p::ps,l=>by
  have h1:=Iy ps (addG p l);have h2:=JI p l;rw[List.foldl_cons,List.length_cons];omega
theorem EX {β:Type} (ps:List (List UInt8×β)):(grp ps).length<=ps.length:=by
 have:=Iy ps [];unfold grp;simpa using this
theorem MD (e:Ev):(termsL e).length<=65536:=by
 unfold termsL;split
 ·rename_i h;have H:=EX (rawT 0 e.fs);have Y:=CH (k:=4096) e.fs 0 fun f d=>((AM h).2 f d).2;have J:=(AM h).1;omega
 ·simp
structure DocC where
  seq:Int
  e:Ev
  A:Option Addr
  c:Nat
def DocC.cells (x:DocC):List Value:= [.int .i64 x.seq,.int .i64 x.e.at_,.slice x.A x.e.fs.length x.c]
def DocC.val (x:DocC):Value:= .agg #[.int .i64 x.seq,.int .i64 x.e.at_,.slice x.A x.e.fs.length x.c]
def DocC.dc (x:DocC):Dc:=(x.seq,x.e)
def dcells (l:List DocC):List Value:=l.flatMap DocC.cells
def dcs (l:List DocC):List Dc:=l.map DocC.dc
theorem Er (l:List DocC):(dcells l).length=l.length*3:=AU (cellsA:=DocC.cells) (k:=3) (fun _=>rfl) l
theorem Ep {l:List DocC} {x:DocC} (h:l[i]? = some x) (d:j<3):(dcells l)[i*3+j]? = x.cells[j]? :=AW (cellsA:=DocC.cells) (k:=3) (fun _=>rfl) l i x j h d
theorem AR {l:List DocC} (h:Cells w A (dcells l)) {x:DocC} (d:l[i]? = some x):∃g o,A=some ⟨g,o,none⟩/\w.cell? ⟨g,o+i*3,none⟩=some (.int .i64 x.seq)/\w.cell? ⟨g,o+i*3+1,none⟩=some (.int .i64 x.e.at_)/\w.cell? ⟨g,o+i*3+2,none⟩=some (.slice x.A x.e.fs.length x.c):=by
 obtain⟨g,o,Y,H⟩:=h.at_ (by rw[Er];have:=(List.getElem?_eq_some_iff.1 d).1;omega);refine⟨g,o,Y,?_,?_,?_⟩
 ·have:=H (i*3+0) _ (by rw[Ep d (by omega)];rfl);exact this
 ·have:=H (i*3+1) _ (by rw[Ep d (by omega)];rfl);exact this
 ·have:=H (i*3+2) _ (by rw[Ep d (by omega)];rfl);exact this
structure DocsOk (w:World) (A:Option Addr) (l:List DocC):Prop where
  cells:Cells w A (dcells l)
  each:∀x∈l,x.e.Ok w x.A/\I64ok' x.e.at_/\I64ok' x.seq
theorem DocsOk.ext {l:List DocC} (h:DocsOk w A l) (d:Ext w w1):DocsOk w1 A l:=⟨h.cells.ext d,fun x H=>⟨(h.each x H).1.ext d,(h.each x H).2⟩⟩
theorem DocsOk.nil (w:World) (A:Option Addr):DocsOk w A []:=⟨.inl rfl,nofun⟩
theorem DocsOk.part {ps:List DocC} (h:DocsOk w A ps) (d:∀a,A=some a->a.spot=none) (i m:Nat):DocsOk w (A.map fun a=>a.add (i*3)) ((ps.drop i).take m):=by
 refine⟨?_,fun x H=>h.each x (List.mem_of_mem_drop (List.mem_of_mem_take H))⟩;unfold dcells;rw[Bh (f:=DocC.cells) (k:=3) (fun _=>rfl),Bo (f:=DocC.cells) (k:=3) (fun _=>rfl)];exact h.cells.part d _ _
def ckD (lo:Int) (l:List Dc):Bool:=risB 1099511627777 lo (l.map (·.1))&&l.all okD
theorem JW (lo:Int) (x:Dc) (t:List Dc):ckD lo (x::t)=(decide (lo<x.1)&&decide (x.1<1099511627777)&&decide (checkE x.2.fs=0)&&ckD x.1 t):=by
 unfold ckD;rw[List.map_cons,risB,List.all_cons];unfold okD;cases decide (lo<x.1) <;> cases decide (x.1<1099511627777) <;> cases decide (checkE x.2.fs=0) <;> simp
theorem Gg (ds:List DocC) (A:Option Addr) (m c:Nat) (w:World) (hm:m=ds.length) (h:DocsOk w A ds) (q1:m<=1000000000) :
 Calls prog 156 #[.slice A m c] w fun e w'=>e = .returned (.int .i64 (if okDs (dcs ds) then 0 else 120))/\Ext w w':=by
 have m0:=Aa (fun(e:Ev) B d W h=>Dj e B d W h);obtain⟨Z,hZ⟩:=Ab (okDs (dcs ds));rw[<-hZ];have hlen:(dcs ds).length=m:=by unfold dcs;rw[List.length_map,hm]
 by_cases l0:65536<m
 ·have b0:Z=false:=by
   rw[hZ];unfold okDs;rw[hlen,decide_eq_false (by omega)];rfl
  subst b0;have c0:(65536:Int)<m:=by omega
  clear hZ m0 h
  go_in
  go_wp2_with fail;go_ret;exact⟨rfl,Ext.refl _⟩
 ·have c0:¬ (65536:Int)<m:=by omega
  have j0:Z=ckD 0 (dcs ds):=by
   rw[hZ];unfold okDs;rw[hlen,decide_eq_true (by omega)];rfl
  replace hZ:=Aa j0;clear j0;replace hm:=Aa hm;replace h:=Aa h;replace hlen:=Aa hlen
  go_in
  go_wp2_with fail
  go_loopw [3,11] (fun s3 s11 wr=>∃(i:Nat) (la:Int),s3 = .int .i64 la/\s11 = .int .i64 (i:Int)/\i<=m/\Hid (Z=ckD la (dcs (ds.drop i)))/\Hid (Ext w wr)) (fun _ s11 _=>m - (intOf s11).toNat)
  case atStart=>exact⟨0,0,rfl,rfl,by omega,Aa (by rw[hZ.out];rfl),Aa (Ext.refl w)⟩
  case round =>
   obtain⟨i,la,rfl,rfl,hi,hb,hE⟩:=hrel;by_cases f0:i<m
   ·obtain⟨x,I⟩:∃x,ds[i]? = some x:=⟨_,List.getElem?_eq_getElem (by rw[<-hm.out];exact f0)⟩
    obtain⟨g,o,hA,d0,e0,g0⟩:=AR (h.out.cells.ext hE.out) I;subst hA;have hx:=h.out.each x (List.mem_of_getElem? I);have H:=hb.out;rw[AY I]at H;unfold dcs at H;rw[List.map_cons,JW]at H;obtain⟨W2,Y⟩:=Ab (wr.alloc (.cells #[.int .i64 x.seq,.int .i64 x.e.at_,.slice x.A x.e.fs.length x.c] 109));have O:Ext w W2:=by rw[Y];exact hE.out.alloc _
    have J:=m0.out x.e x.A x.c W2 (hx.1.ext O);have U:Row W2 wr.heap.size 109 #[.int .i64 x.seq,.int .i64 x.e.at_,.slice x.A x.e.fs.length x.c]:=by rw[Y];exact Row.new wr _ _
    obtain⟨g2,G⟩:=Ab wr.heap.size;rw[<-G]at U;have r0:=U.cell 0 rfl;have r1:=U.cell 1 rfl;have r2:=U.cell 2 rfl;unfold Ev.val at J;obtain⟨seq,⟨at_,fs⟩,B,cB⟩:=x;change Z=(decide (la<seq)&&decide (seq<1099511627777)&&decide (checkE fs=0)&&ckD seq (dcs (ds.drop (i+1))))at H;simp only at d0 e0 g0 J Y r0 r1 r2;obtain⟨fl,p0⟩:=Ab fs.length;rw[<-p0]at g0 J Y U r2;replace J:=Aa J;replace U:=Aa U;replace G:=Aa G;replace O:=Aa O;replace Y:=Aa Y;replace p0:=Aa p0;replace hx:=Aa hx;replace I:=Aa I;clear hb;by_cases h1:seq<=la
    ·rw[decide_eq_false (by omega),Bool.false_and,Bool.false_and,Bool.false_and]at H;subst H;go_upto_region 7 with fail;rw[<-Y.out,<-G.out];go_wp2_with fail;go_ret;exact⟨rfl,O.out⟩
    ·by_cases h2:1099511627776<seq
     ·rw[decide_eq_false (p:=seq<1099511627777) (by omega),Bool.and_false,Bool.false_and,Bool.false_and]at H;subst H;go_upto_region 7 with fail;rw[<-Y.out,<-G.out];go_wp2_with fail;go_ret;exact⟨rfl,O.out⟩
     ·rw[decide_eq_true (p:=la<seq) (by omega),decide_eq_true (p:=seq<1099511627777) (by omega),Bool.true_and,Bool.true_and]at H;by_cases h3:checkE fs=0
      ·rw[decide_eq_true h3,Bool.true_and]at H;rw[h3]at J;replace H:=Aa H;go_upto_region 7 with fail;rw[<-Y.out,<-G.out];go_wp2_with fail;refine J.out.mono ?_;rintro e w3 ⟨rfl,h0⟩;have q0:=(U.out.ext h0).cell 0 rfl;go_wp2_with fail;exact⟨⟨i+1,seq,rfl,rfl,by omega,H,Aa (O.out.trans h0)⟩,by simp only[intOf];omega⟩
      ·rw[decide_eq_false h3,Bool.false_and]at H;subst H;obtain⟨k,hk⟩:=Ab (checkE fs);rw[<-hk]at J h3;have n0:¬ (k:Int)=0:=by omega
       replace hk:=Aa hk;go_upto_region 7 with fail;rw[<-Y.out,<-G.out];go_wp2_with fail;refine J.out.mono ?_;rintro e w3 ⟨rfl,h0⟩;go_wp2_with fail;go_ret;exact⟨rfl,O.out.trans h0⟩
   ·obtain rfl:i=m:=by omega
    have y0:Z=true:=by rw[hb.out,List.drop_eq_nil_of_le (by rw[<-hm.out];exact Nat.le_refl _)];rfl
    subst y0;go_wp2_with fail;go_ret;exact⟨rfl,hE.out⟩
theorem MN (h:Buf w base e A n c xs):A=none->c=0:=fun d=>by
 rcases h.2.2 with ⟨_,h⟩ | ⟨g,_,h,_⟩
 ·exact h
 ·rw[h]at d;cases d
theorem OQ (ds:List DocC) (A:Option Addr) (m c:Nat) (w:World) (hm:m=ds.length) (h:DocsOk w A ds) (p1:m<=1000000) :
 Calls prog 108 #[.slice A m c] w fun e w'=>NewB w (timesD 0 (dcs ds)) e w':=by
 have f0:=Aa (fun A n c x l W h1 h2 h3 h4 h5 h6=>EF A n c x l W h1 h2 h3 h4 h5 h6);have k0:∀i,(timesD 0 (dcs (ds.take i))).length<=10*i:=fun i=>by
  have:=Dx (dcs (ds.take i)) 0;have h2:(dcs (ds.take i)).length<=i:=by unfold dcs;rw[List.length_map,List.length_take];omega
  omega
 replace k0:=Aa k0;replace h:=Aa h;replace hm:=Aa hm
 go_in
 go_wp2_with fail
 go_loopw [3,4,9] (fun s3 s4 s9 wr=>∃(i n:Nat) (B:Option Addr) (k:Nat) (a:Int),s9 = .int .i64 (i:Int)/\s3 = .slice B n k/\s4 = .int .i64 a/\i<=m/\n<=10*i/\Hid (a=lastAt 0 (dcs (ds.take i)))/\Hid (n=(timesD 0 (dcs (ds.take i))).length)/\Hid (Buf wr w.heap.size 5 B n k ((timesD 0 (dcs (ds.take i))).map B8))/\Hid (Ext w wr)) (fun _ _ s9 _=>m - (intOf s9).toNat)
 case atStart=>exact⟨0,0,none,0,0,rfl,rfl,rfl,by omega,by omega,Aa rfl,Aa rfl,Aa (Buf.nil _ _ _),Aa (Ext.refl w)⟩
 case round =>
  obtain⟨i,n,B,k,a,rfl,rfl,rfl,hi,hn,ha,O,hB,hE⟩:=hrel;by_cases e0:i<m
  ·obtain⟨x,hx⟩:∃x,ds[i]? = some x:=⟨_,List.getElem?_eq_getElem (by rw[<-hm.out];exact e0)⟩
   have t0:=h.out.ext hE.out;obtain⟨g,o,hA,x0,x1,x2⟩:=AR t0.cells hx;subst hA;have Z:dcs (ds.take (i+1))=dcs (ds.take i) ++ [x.dc]:=by rw[List.take_add_one,hx];unfold dcs;rw[List.map_append];rfl
   have p0:lastAt 0 (dcs (ds.take (i+1)))=x.e.at_:=by rw[Z,Ez];rfl
   have G:timesD 0 (dcs (ds.take (i+1)))=timesD 0 (dcs (ds.take i))++vb (zig (wrap64 (x.e.at_ - a))):=by
    rw[Z,EI,<-ha.out];show _++(_ ++ [])=_;rw[List.append_nil];rfl
   obtain⟨d,hd⟩:=Ab (wrap64 (x.e.at_ - a));have h0:=Fw (x.e.at_ - a);rw[<-hd]at G h0;have m0:=k0.out (i+1);replace Z:=Aa Z;replace p0:=Aa p0;replace G:=Aa G;replace hx:=Aa hx;clear t0;go_wp2_with fail;obtain⟨W5,J⟩:=Ab (wr.alloc (Obj.cells #[Value.int IntKind.i64 x.seq,Value.int IntKind.i64 x.e.at_,Value.slice x.A x.e.fs.length x.c] 109));have I:Ext wr W5:=by rw[J];exact(Ext.refl wr).alloc _
   have r5:Row W5 wr.heap.size 109 #[Value.int IntKind.i64 x.seq,Value.int IntKind.i64 x.e.at_,Value.slice x.A x.e.fs.length x.c]:=by rw[J];exact Row.new wr _ _
   obtain⟨g5,q0⟩:=Ab wr.heap.size;rw[<-J,<-q0,<-hd];rw[<-q0]at r5;have j0:=hB.out.ext I;refine(f0.out B n k d _ W5 O.out j0.cells (MN j0) (by omega) h0.1 h0.2).mono ?_;rintro e w6 ⟨A6,c6,rfl,H,Y⟩;rw[<-G.out]at H ⊢;have r6:=r5.ext Y;have y1:=r6.cell 1 rfl;have v0:w.heap.size<=W5.heap.size:=(hE.out.trans I).size;obtain⟨n6,U⟩:=Ab ((timesD 0 (dcs (ds.take (i+1)))).length);rw[<-U]at H m0 ⊢;replace U:=Aa U;replace H:=Aa (H.lower v0);replace Y:=Aa (I.trans Y);clear J q0 hd r5 r6;go_wp2_with fail;go_roundw
   case rel=>exact⟨i+1,n6,A6,c6,_,rfl,rfl,rfl,by omega,m0,Aa p0.out.symm,U,H,Aa (hE.out.trans Y.out)⟩
   case measure=>simp only[intOf];omega
  ·have j1:m=i:=by omega
   have g0:ds.take i=ds:=List.take_of_length_le (by rw[<-hm.out];omega);rw[g0]at hB O;go_wp2_with fail;go_ret;exact⟨B,k,by rw[O.out];rfl,by rw[<-O.out];exact hB.out,hE.out⟩
def prtA:List Int->Array Value
 | [a,b,c,d,e]=>#[.int .i64 0,.int .i64 0,.int .i64 a,.int .i64 b,.int .i64 c,.int .i64 d,.int .i64 e]
 | _=>#[]
theorem E5:∀(l:List Dc) (m:Int),I64ok' m->(∀d∈l,I64ok' d.2.at_)->I64ok' (lowD m l)
 | [],m,H,_=>H
 | d::t,m,H,h=>by
  have h1:=h d (List.mem_cons_self ..);refine E5 t _ ?_ fun x Y=>h x (List.mem_cons_of_mem _ Y);unfold I64ok' at *;omega
theorem Ea:∀(l:List Dc) (m:Int),I64ok' m->(∀d∈l,I64ok' d.2.at_)->I64ok' (highD m l)
 | [],m,H,_=>H
 | d::t,m,H,h=>by
  have h1:=h d (List.mem_cons_self ..);refine Ea t _ ?_ fun x Y=>h x (List.mem_cons_of_mem _ Y);unfold I64ok' at *;omega
theorem IH:∀(l:List Dc) (d:Dc),lastD d.1 l=((d::l)[l.length]?.map (·.1)).getD 0
 | [],d=>rfl
 | p::t,d=>by
  show lastD p.1 t=_;rw[IH t p];rfl
theorem C7 {ds:List DocC} {x0 xl:DocC} (H:m=ds.length) (h:ds[0]? = some x0) (d:ds[m - 1]? = some xl):partD (dcs ds) = [lowD x0.e.at_ (dcs ds),highD x0.e.at_ (dcs ds),x0.seq,xl.seq,(m:Int)]:=by
 cases ds with
 | nil=>simp at h
 | cons y t =>
  obtain rfl:y=x0:=by simpa using h
  have h1:=IH (dcs t) y.dc;have hk:(dcs t).length=t.length:=by unfold dcs;rw[List.length_map]
  have h2:(y.dc::dcs t)[t.length]? = some xl.dc:=by
   show (dcs (y::t))[t.length]? = _;unfold dcs;rw[List.getElem?_map];rw[H,List.length_cons,Nat.add_sub_cancel]at d;rw[d];rfl
  rw[hk,h2]at h1;show [lowD y.e.at_ (dcs (y::t)),highD y.e.at_ (dcs (y::t)),y.seq,lastD y.dc.1 (dcs t),((dcs (y::t)).length:Int)]=_;rw[h1];have Y:(dcs (y::t)).length=m:=by rw[H];unfold dcs;rw[List.length_map]
  rw[Y];rfl
theorem Fa {fn:Func} {p:Tmp} (h:fn.results=#[.cell p ty]) (tmps:Array Value) (w:World) (g:Nat) (cs:Array Value)
 (d:tmps.getD p undef = .pointer (some ⟨g,0,none⟩)) (H:(loadVar ty ⟨g,0,none⟩).run P w = .ok (.agg cs) w) :
 (results fn tmps).run P w = .ok (.agg cs) w:=by
 rw[Array.getD_eq_getD_getElem?]at d;simp only[results,h];simp[Sem.run_bind,Result.andThen,d,asAddr,H]
theorem K4 (ds:List DocC) (A:Option Addr) (m c:Nat) (w:World) (hm:m=ds.length) (h:DocsOk w A ds) (m2:m<=1000000) (h0:0<m) :
 Calls prog 74 #[.slice A m c] w fun e w'=>e = .returned (.agg (prtA (partD (dcs ds))))/\Ext w w':=by
 obtain⟨x0,j0⟩:∃x,ds[0]? = some x:=⟨_,List.getElem?_eq_getElem (by omega)⟩
 obtain⟨xl,g0⟩:∃x,ds[m - 1]? = some x:=⟨_,List.getElem?_eq_getElem (by omega)⟩
 obtain⟨g,o,hA,a0,a1,a2⟩:=AR h.cells j0;obtain⟨g',o',Y,b0,b1,b2⟩:=AR h.cells g0;rw[hA]at Y;injection Y with Y;injection Y with hg ho;subst hg;subst ho;rw[Nat.zero_mul,Nat.add_zero]at a0 a1 a2;have J:partD (dcs ds) = [lowD x0.e.at_ (dcs ds),highD x0.e.at_ (dcs ds),x0.seq,xl.seq,(m:Int)]:=C7 hm j0 g0;subst hA;replace h:=Aa h;replace hm:=Aa hm;replace j0:=Aa j0;replace g0:=Aa g0;obtain⟨k,hk⟩:∃k,m=k+1:=⟨m - 1,by omega⟩
 subst hk;rw[show k+1 - 1=k by omega]at b0 b1 b2;have m0:∀d∈dcs ds,I64ok' d.2.at_:=fun d hd=>by
  unfold dcs at hd;obtain⟨x,hx,rfl⟩:=List.mem_map.1 hd;exact(h.out.each x hx).2.1
 replace m0:=Aa m0;replace J:=Aa J
 go_in
 go_wp2_with fail;obtain⟨W1,O⟩:=Ab (w.alloc (Obj.cells #[Value.int IntKind.i64 0,Value.int IntKind.i64 0,Value.int IntKind.i64 0,Value.int IntKind.i64 0,Value.int IntKind.i64 0,Value.int IntKind.i64 0,Value.int IntKind.i64 0] 24));rw[<-O];have U:Ext w W1:=by rw[O];exact(Ext.refl w).alloc _
 have r1:Row W1 w.heap.size 24 #[Value.int IntKind.i64 0,Value.int IntKind.i64 0,Value.int IntKind.i64 0,Value.int IntKind.i64 0,Value.int IntKind.i64 0,Value.int IntKind.i64 0,Value.int IntKind.i64 0]:=by rw[O];exact Row.new w _ _
 have c1:=U.cell a1;have c0:=U.cell a0;have d0:=U.cell b0;replace O:=Aa O;refine AE (fun K hK=>?_);go_wp2_with fail;refine⟨by kernel_rfl,?_⟩;go_wp2_with fail;obtain⟨W2,Z⟩:=Ab ((W1.alloc (Obj.cells #[Value.int IntKind.i64 0,Value.int IntKind.i64 0,Value.int IntKind.i64 x0.e.at_,Value.int IntKind.i64 x0.e.at_,Value.int IntKind.i64 x0.seq,Value.int IntKind.i64 xl.seq,Value.int IntKind.i64 ((k:Int)+1)] 24)).drew);rw[<-Z];obtain⟨b1,I⟩:=Ab w.heap.size;obtain⟨b2,q0⟩:=Ab W1.heap.size;have h1:Ext W1 W2:=by rw[Z];exact((Ext.refl W1).alloc _).drew
 have r2:Row W2 b2 24 #[Value.int IntKind.i64 0,Value.int IntKind.i64 0,Value.int IntKind.i64 x0.e.at_,Value.int IntKind.i64 x0.e.at_,Value.int IntKind.i64 x0.seq,Value.int IntKind.i64 xl.seq,Value.int IntKind.i64 ((k:Int)+1)]:=by rw[Z,q0];exact Row.new W1 _ _
 have r12:=r1.ext h1;rw[<-I]at r12;have k2:b1<b2:=by have:=r1.lt;omega
 rw[<-I,<-q0];have hE:=Aa (U.trans h1);replace r2:=Aa r2;replace r12:=Aa r12;replace Z:=Aa Z;replace I:=Aa I;replace q0:=Aa q0;clear r1 c0 c1 d0
 go_loopw [32] (fun s32 wr=>∃(i:Nat) (lo hi:Int),s32 = .int .i64 (i:Int)/\i<=k+1/\Hid (lo=lowD x0.e.at_ (dcs (ds.take i)))/\Hid (hi=highD x0.e.at_ (dcs (ds.take i)))/\Hid (Row wr b2 24 #[Value.int IntKind.i64 0,Value.int IntKind.i64 0,Value.int IntKind.i64 lo,Value.int IntKind.i64 hi,Value.int IntKind.i64 x0.seq,Value.int IntKind.i64 xl.seq,Value.int IntKind.i64 ((k:Int)+1)])/\Hid (Row wr b1 24 #[Value.int IntKind.i64 0,Value.int IntKind.i64 0,Value.int IntKind.i64 0,Value.int IntKind.i64 0,Value.int IntKind.i64 0,Value.int IntKind.i64 0,Value.int IntKind.i64 0])/\Hid (Ext w wr)) (fun s32 _=>k+1 - (intOf s32).toNat)
 case atStart=>exact⟨0,x0.e.at_,x0.e.at_,rfl,by omega,Aa rfl,Aa rfl,r2,r12,hE⟩
 case round =>
  obtain⟨i,lo,hi,rfl,j2,l0,i0,q2,q1,hE⟩:=hrel;by_cases n1:i<k+1
  ·obtain⟨x,hx⟩:∃x,ds[i]? = some x:=⟨_,List.getElem?_eq_getElem (by rw[<-hm.out];exact n1)⟩
   obtain⟨g',o',Y,x0',x1',x2'⟩:=AR (h.out.ext hE.out).cells hx;injection Y with Y;injection Y with hg ho;subst hg;subst ho;have k0:dcs (ds.take (i+1))=dcs (ds.take i) ++ [x.dc]:=by rw[List.take_add_one,hx];unfold dcs;rw[List.map_append];rfl
   have x1:Hid (min lo x.e.at_=lowD x0.e.at_ (dcs (ds.take (i+1)))):=Aa (by rw[k0,GY,<-l0.out];rfl);have m1:Hid (max hi x.e.at_=highD x0.e.at_ (dcs (ds.take (i+1)))):=Aa (by rw[k0,FE,<-i0.out];rfl);replace k0:=Aa k0;replace hx:=Aa hx;have d1:=q2.out.lt;have y1:=q1.out.lt;go_wp2_with fail;obtain⟨W5,G⟩:=Ab (wr.alloc (Obj.cells #[Value.int IntKind.i64 x.seq,Value.int IntKind.i64 x.e.at_,Value.slice x.A x.e.fs.length x.c] 109));have y0:Ext wr W5:=by rw[G];exact(Ext.refl wr).alloc _
   have r5:Row W5 wr.heap.size 109 #[Value.int IntKind.i64 x.seq,Value.int IntKind.i64 x.e.at_,Value.slice x.A x.e.fs.length x.c]:=by rw[G];exact Row.new wr _ _
   obtain⟨g5,p0⟩:=Ab wr.heap.size;rw[<-G,<-p0];rw[<-p0]at r5;have p2:=q2.out.ext y0;have v2:=p2.cell 2 rfl;have v3:=p2.cell 3 rfl;have f2:=p2.free 2;have f3:=p2.free 3;have u1:=r5.cell 1 rfl;have x2:g5≠b2:=by omega
   replace p2:=Aa p2;replace r5:=Aa r5;replace G:=Aa G;replace p0:=Aa p0;clear x0' x1' x2' y1 d1;go_region;have l1:∀g t cs,g≠b2->Row W5 g t cs->Row (((W5.setCell ⟨b2,2,none⟩ (.int .i64 (min lo x.e.at_))).setCell ⟨b2,3,none⟩ (.int .i64 (max hi x.e.at_))).drew) g t cs:=fun g t cs hg hr=>(hr.away (p:=⟨b2,2,none⟩) hg _).away (p:=⟨b2,3,none⟩) hg _;have j1:w.heap.size<=b2:=by rw[q0.out];exact U.size
   have e0:Ext w (((W5.setCell ⟨b2,2,none⟩ (.int .i64 (min lo x.e.at_))).setCell ⟨b2,3,none⟩ (.int .i64 (max hi x.e.at_))).drew):=(((hE.out.trans y0).setCell (p:=⟨b2,2,none⟩) j1 _).setCell (p:=⟨b2,3,none⟩) j1 _).drew;have p9:Row (((W5.setCell ⟨b2,2,none⟩ (.int .i64 (min lo x.e.at_))).setCell ⟨b2,3,none⟩ (.int .i64 (max hi x.e.at_))).drew) b2 24 #[Value.int IntKind.i64 0,Value.int IntKind.i64 0,Value.int IntKind.i64 (min lo x.e.at_),Value.int IntKind.i64 (max hi x.e.at_),Value.int IntKind.i64 x0.seq,Value.int IntKind.i64 xl.seq,Value.int IntKind.i64 ((k:Int)+1)]:=(p2.out.put 2 _).put 3 _;have q19:=l1 b1 _ _ (by omega) (q1.out.ext y0);replace e0:=Aa e0;replace p9:=Aa p9;replace q19:=Aa q19;go_wp2_with fail;go_roundw
   case rel=>exact⟨i+1,_,_,rfl,by omega,x1,m1,p9,q19,e0⟩
   case measure=>simp only[intOf];omega
  ·have p1:ds.take i=ds:=List.take_of_length_le (by rw[<-hm.out];omega);rw[p1]at l0 i0;have v0:=q2.out.cell 0 rfl;have v1:=q2.out.cell 1 rfl;have v2:=q2.out.cell 2 rfl;have v3:=q2.out.cell 3 rfl;have v4:=q2.out.cell 4 rfl;have v5:=q2.out.cell 5 rfl;have v6:=q2.out.cell 6 rfl;have f0:=q1.out.free 0;have f1:=q1.out.free 1;have f2:=q1.out.free 2;have f3:=q1.out.free 3;have f4:=q1.out.free 4;have f5:=q1.out.free 5;have f6:=q1.out.free 6;have t0:=q1.out.cell 0 rfl;have t1:=q1.out.cell 1 rfl;have t2:=q1.out.cell 2 rfl;have t3:=q1.out.cell 3 rfl;have t4:=q1.out.cell 4 rfl;have t5:=q1.out.cell 5 rfl;have t6:=q1.out.cell 6 rfl;go_wp2_with fail;have H:w.heap.size<=b1:=by rw[I.out];exact Nat.le_refl _
   have o1:=((((((q1.out.put 0 (.int .i64 0)).put 1 (.int .i64 0)).put 2 (.int .i64 lo)).put 3 (.int .i64 hi)).put 4 (.int .i64 x0.seq)).put 5 (.int .i64 xl.seq)).put 6 (.int .i64 ((k:Int)+1));have i1:=((((((hE.out.setCell (p:=⟨b1,0,none⟩) H (.int .i64 0)).setCell (p:=⟨b1,1,none⟩) H (.int .i64 0)).setCell (p:=⟨b1,2,none⟩) H (.int .i64 lo)).setCell (p:=⟨b1,3,none⟩) H (.int .i64 hi)).setCell (p:=⟨b1,4,none⟩) H (.int .i64 x0.seq)).setCell (p:=⟨b1,5,none⟩) H (.int .i64 xl.seq)).setCell (p:=⟨b1,6,none⟩) H (.int .i64 ((k:Int)+1));refine bodyPost_ret (Fa rfl _ _ b1 #[.int .i64 0,.int .i64 0,.int .i64 lo,.int .i64 hi,.int .i64 x0.seq,.int .i64 xl.seq,.int .i64 ((k:Int)+1)] rfl (run_loadVar_row _ b1 24 24 _ (0,0) _ o1 underlying24 rfl (by kernel_rfl))) rfl ⟨?_,i1⟩;rw[J.out,<-l0.out,<-i0.out];rfl
def IterS {α:Type} (P:Program) (gf:Nat) (lb:Array Value) (encs:α->Array Value) (St:World->World->World->Prop) (Nx:List α->α->World->Prop) (Kp:World->World->Prop) (Fin:List α->World->World->Prop) (w:World):Prop :=
 ∀(l:Nat) (J:List α->World->Prop) (W:World),Ext w W->(∀pre A B,J pre A->St W A B->J pre B) ->
  (∀pre x W1,J pre W1->Nx pre x W1->YieldAt Fence.wide 0 P l (encs x) W1 fun e W'=>e = .returned (.bool true)/\J (pre ++ [x]) W'/\Kp W1 W'/\KeepsOthers W1 W')->J [] W ->
  Calls P gf (#[.func (.yield l) #[] #[]]++lb) W fun e W'=>(∃v,e = .returned v)/\∃xs W2,J xs W2/\Fin xs W2 W'
theorem Md {α:Type} {g:Operand} {ps:Array Tmp} {assign body:Code}
 (hg:a.eval g = .func (.func gf) #[] lb) (eg:∀args w,(callFunc gf args).run P w = .ok (.enter gf args) w)
 {encs:α->Array Value} {St:World->World->World->Prop} {Nx:List α->α->World->Prop} {Kp:World->World->Prop} {Fin:List α->World->World->Prop} (h1:IterS P gf lb encs St Nx Kp Fin w)
 (d1:∀x,(encs x).size=ps.size) (d0:∀W A B,St W A B->∀k o,k<W.heap.size->A.heap[k]? = some o->o.isCells=false->B.heap[k]? = some o) (p0:∀xs A B,Fin xs A B->KeepsOthers A B)
 (j0:∀A B C,Kp A B->Kp B C->Kp A C) (b0:∀A B,Alike w.heap.size A B->Kp A B)
 (I:List α->World->Prop) (hI:∀pre A B,I pre A->Alike w.heap.size A B->I pre B) (i0:∀W pre A B,Ext w W->I pre A->St W A B->I pre B) (h0:∀W,Alike w.heap.size w W->I [] W)
 (q0:∀(l:Nat) (pre:List α) (x:α) (W:World),I pre W->Nx pre x W->assign.wpIn (Fence.wide.inRound l) 0 P (Exit.then (roundGo w.heap.size P l body Kp I (pre ++ [x]) W) (fun _ _ _=>False)) { tmps:=(ps.zip (encs x)).foldl (fun t (p,v)=>t.setIfInBounds p v) a.tmps,defers:= [] } W)
 (m0:∀(D:Nat) (xs:List α) (W2 W3 W4:World),w.heap.size<=D->I xs W2->Fin xs W2 W3->Alike w.heap.size W3 W4->W4.heap[D]? = some (.deferred (some []))->Q .normal { a with defers:= { target:= .collected D,args:=#[] }::a.defers } W4) :
 (Code.rangeFunc g ps assign body).wpIn Fence.wide 0 P Q a w:=by
 refine wpIn_rangeFunc ?_;intro fn o0;show ∃_,_;obtain⟨rec,d⟩:=Ab (fun st pe=> { state:=st,pending:=pe,fn,tmps:=a.tmps,params:=ps,assign,body,defers:=w.heap.size }:LoopState->Option Code->Loop);obtain⟨W1,U⟩:∃W1,(w.alloc (.deferred (some []))).alloc (.loop (rec .ready none))=W1:=⟨_,rfl⟩
 have c0:W1.heap[w.heap.size+1]? = some (.loop (rec .ready none)):=by
  rw[<-U];have:=World.alloc_heap_new (w.alloc (.deferred (some []))) (.loop (rec .ready none));rwa [World.size_alloc]at this
 have y0:W1.heap[w.heap.size]? = some (.deferred (some [])):=by
  rw[<-U];exact(Below.heap_alloc _ _ _ (by simp)).trans (World.alloc_heap_new w _)
 have k0:Ext w W1:=by rw[<-U];exact((Ext.refl w).alloc _).alloc _
 refine⟨w.heap.size+1,[{ target:= .collected w.heap.size,args:=#[] }],W1,{ target:= .fn (.func gf) lb,args:=#[.func (.yield (w.heap.size+1)) #[] #[]] },W1,gf,
  #[.func (.yield (w.heap.size+1)) #[] #[]]++lb,W1,?_,?_,?_,?_,fun h=>(by cases h),?_⟩
 ·rw[<-U,d];exact run_enterLoop_outer _ _ _ _ _
 ·simp only[resolve,hg];simp[go_sem]
 ·intro f' _;trivial
 ·simp[invoke,go_sem,eg]
 ·refine callsIn_wide.2 ((h1 (w.heap.size+1)
   (fun pre W=>I pre W/\W.heap[w.heap.size+1]? = some (.loop (rec .ready none))/\W.heap[w.heap.size]? = some (.deferred (some [])))
   W1 k0 (fun pre A B h hs=>⟨i0 W1 pre A B k0 h.1 hs,d0 W1 A B hs _ _ (Array.getElem?_eq_some_iff.1 c0).1 h.2.1 rfl,d0 W1 A B hs _ _ (Array.getElem?_eq_some_iff.1 y0).1 h.2.2 rfl⟩)
   ?_ ⟨h0 W1 (Chg.of_ext k0 _),c0,y0⟩).mono ?_)
  ·rintro pre x W ⟨hi,hl,hk⟩ x1;have h2:w.heap.size+1<W.heap.size:=(Array.getElem?_eq_some_iff.1 hl).1;have hy:=run_yield (P:=P) (args:=encs x) hl (by rw[d];exact d1 x);rw[d]at hy;refine⟨fn,_,assign,body,hy,roundIn_of_wpIn o0 ?_⟩;refine wpIn_mono (q0 _ pre x W hi x1) ?_;rintro e a1 W2 J;cases e with
   | normal =>
    obtain⟨Z,j1,g0⟩:=J;have H:=Z.same _ _ hl rfl;have t0:=Z.same _ _ hk rfl;have f0:w.heap.size+1<W2.heap.size:=(Array.getElem?_eq_some_iff.1 H).1;refine⟨W2.putObj (w.heap.size+1) (.loop { rec .ready none with state:= .busy }),run_beginRound H (by rw[d]),?_⟩;have ha:=Alike.others (B:=w.heap.size) H rfl (by omega) (.loop { rec .ready none with state:= .busy });have m1:(W2.putObj (w.heap.size+1) (.loop { rec .ready none with state:= .busy })).heap[w.heap.size+1]? = some (.loop { rec .ready none with state:= .busy }):=World.putObj_heap_same f0;have q1:(W2.putObj (w.heap.size+1) (.loop { rec .ready none with state:= .busy })).heap[w.heap.size]? = some (.deferred (some [])):=(World.putObj_heap_other (by omega)).trans t0;refine wpIn_mono (g0 _ ha) ?_;rintro e a3 W3 hp;cases e with
    | normal =>
     obtain⟨Y,e0,r0⟩:=hp;have G:=Y.same _ _ m1 rfl;have p1:=Y.same _ _ q1 rfl;have hr:=run_endRound (P:=P) none G;rw[d]at hr;have O:=Alike.others (B:=w.heap.size) G rfl (by omega) (.loop (rec .ready none));rw[d]at O;refine⟨_,_,hr,rfl,⟨hI _ _ _ r0 O,?_,?_⟩,j0 _ _ _ (j0 _ _ _ j1 (b0 _ _ ha)) (j0 _ _ _ e0 (b0 _ _ O)),?_⟩
     ·rw[d];exact World.putObj_heap_same (Array.getElem?_eq_some_iff.1 G).1
     ·exact(World.putObj_heap_other (by omega)).trans p1
     ·refine⟨Nat.le_trans Z.size (Nat.le_trans ha.size (Nat.le_trans Y.size O.size)),fun q o ho hc=>?_⟩;by_cases J:q=w.heap.size+1
      ·subst J;rw[hl,d]at ho;rw[<-ho];exact World.putObj_heap_same (Array.getElem?_eq_some_iff.1 G).1
      ·refine(World.putObj_heap_other J).trans (Y.same q o ?_ hc);exact(World.putObj_heap_other J).trans (Z.same q o ho hc)
    | ret=>exact hp.elim
    | exit id=>exact hp.elim
    | goto t=>exact hp.elim
    | panic ch=>exact hp.elim
    | outgrown=>exact hp.elim
   | ret=>exact J.elim
   | exit id=>exact J.elim
   | goto t=>exact J.elim
   | panic ch=>exact J.elim
   | outgrown=>exact J.elim
  ·rintro e W2 ⟨⟨v,rfl⟩,xs,W3,⟨hi,hl,hk⟩,hf⟩;have H:=(p0 _ _ _ hf).same _ _ hl rfl;have t0:=(p0 _ _ _ hf).same _ _ hk rfl;refine⟨none,_,by have:=run_endLoop (P:=P) H (by rw[d];simp);rw[d]at this;exact this,m0 _ xs W3 W2 _ (Nat.le_refl _) hi hf ?_ ((World.putObj_heap_other (by omega)).trans t0)⟩;rw[d]at H;exact Alike.others H rfl (by omega) _
end
end Go.Proofs.YtpnlihgcboepeaaGreat
