/- Texts of one proof, joined. -/
import Derived.Test.YtkdcnhnaiknaaaaGreatPB13
import Derived.Test.YtkdcnhnaiknaaaaGreatPB14
import Derived.Test.YtkdcnhnaiknaaaaGreatPB15
import Derived.Test.YtkdcnhnaiknaaaaGreatPB10
import Derived.Test.YtkdcnhnaiknaaaaGreatPB09
import Derived.Test.YtkdcnhnaiknaaaaGreatPB11
import Derived.Test.YtkdcnhnaiknaaaaGreatPB12
import Derived.Test.YtkdcnhnaiknaaaaGreatPB02
import Derived.Test.YtkdcnhnaiknaaaaGreatPB03
import Derived.Test.YtkdcnhnaiknaaaaGreatPB07
import Derived.ChangeSame
set_option linter.unusedSimpArgs false
set_option linter.unusedVariables false
set_option maxRecDepth 100000
set_option maxHeartbeats 16000000
namespace Go.Proofs.YtkdcnhnaiknaaaaGreat
section
open Go.RowKit Go.Maps
theorem ZLD {w w1:World} {b1 b2 e1 e2 s1 s2 n1 n2:Nat} {v1 v2:Value} {xs1 xs2:List Value} (h1:w.ownsRow b1 e1 s1 v1 n1 xs1) (hg:w.grownBy w1 v1.ownBlock) (h2:w.ownsRow b2 e2 s2 v2 n2 xs2) (h0:e2≠e1):w1.ownsRow b2 e2 s2 v2 n2 xs2 :=
 (Chg.of_grown (S:=fun q=>v1.ownBlock=some q) hg (fun _ _ e=>e)).owns h2 fun q hq e=>by
  obtain⟨cu,hr,_⟩:=ZC h1 e;exact ZJ h2 hr h0 hq
theorem ZNs (A:Option Addr) (n c:Nat) (W:World):(Instr.field 61 (.agg #[.slice A n c]) 0).run Tryz.prog W = .ok (.slice A n c) W:=by
 unfold Instr.field;simp only[Sem.run_bind,run_underlying Tryz.underlying61,Result.andThen_ok]
 kernel_rfl
theorem ZKm {ds:List DocC} {m:Nat} {A:Option Addr} {w:World} (hm:m=ds.length) (h:DocsOk w A ds) (h0:0<m) (g0:m<=1000000):∀x∈partD (dcs ds),I64ok' x:=by
 obtain⟨x0,k0⟩:∃x,ds[0]? = some x:=⟨_,List.getElem?_eq_getElem (by omega)⟩
 obtain⟨xl,j0⟩:∃x,ds[m - 1]? = some x:=⟨_,List.getElem?_eq_getElem (by omega)⟩
 have p0:∀d∈dcs ds,I64ok' d.2.at_:=fun d hd=>by
  unfold dcs at hd;obtain⟨x,hx,rfl⟩:=List.mem_map.1 hd;exact(h.each x hx).2.1
 have q0:=(h.each x0 (List.mem_of_getElem? k0)).2;have ql:=(h.each xl (List.mem_of_getElem? j0)).2;rw[ZBa hm k0 j0];intro x hx;simp only[List.mem_cons,List.not_mem_nil,or_false]at hx;rcases hx with rfl | rfl | rfl | rfl | rfl
 ·exact ZCr _ _ q0.1 p0
 ·exact ZCB _ _ q0.1 p0
 ·exact q0.2
 ·exact ql.2
 ·unfold I64ok';omega
theorem ZCl (ds:List DocC) (A:Option Addr) (m c:Nat) (w:World) (hm:m=ds.length) (h:DocsOk w A ds) (j0:m<=1000000000) (p0:okDs (dcs ds)=false\/m=0) :
 Calls Tryz.prog 18 #[.slice A m c] w fun e w'=>e = .returned (.tuple #[.slice none 0 0,.int .i64 130])/\Ext w w':=by
 by_cases hk:okDs (dcs ds)=false
 ·have q0:=ZA (ZCj ds A m c w hm h j0 hk);clear hk p0 hm h;go_enter Tryz.func18,Tryz.ntmps18;go_wp2_with fail;refine q0.out.mono ?_;rintro e w1 ⟨rfl,h0⟩;go_wp2_with fail;go_ret2;exact⟨rfl,h0⟩
 ·have k0:m=0:=by
   rcases p0 with h1 | h1
   ·exact absurd h1 hk
   ·exact h1
  subst k0;obtain rfl:ds = []:=List.length_eq_zero_iff.1 hm.symm;have q0:=ZA (ZA2 [] A 0 c w rfl h rfl (by simp[dcs,blockD]));clear hk p0 hm h;go_enter Tryz.func18,Tryz.ntmps18;go_wp2_with fail;refine q0.out.mono ?_;rintro e w1 ⟨B1,c1,rfl,_,h0⟩;go_wp2_with fail;go_ret2;exact⟨rfl,h0⟩
theorem ZB2 (ds:List DocC) (A:Option Addr) (m c:Nat) (w:World) (hm:m=ds.length) (h:DocsOk w A ds) (hs:SmP (dcs ds)) (h0:0<m) :
 Calls Tryz.prog 18 #[.slice A m c] w fun e w'=>OkB w (segL (dcs ds)) e w':=by
 have hB:=hs.seg;have k4:(dcs ds).length=m:=by unfold dcs;rw[List.length_map,hm]
 have q7:m<=65536:=by rw[<-k4];exact hB.n
 have d3:=ZA2 ds A m c w hm h hs.ok (by have:=hs.sz;omega);have j5:=ZA (fun W (hE:Ext w W)=>ZLd ds A m c W hm (h.ext hE) (by omega) (by have:=hB.pairs;omega));have y5:=ZA (fun W (hE:Ext w W)=>ZHk ds A m c W hm (h.ext hE) (by omega) h0);have z5:=ZA (fun W (hE:Ext w W)=>ZJb ds A m c W hm (h.ext hE) (by omega));have c3:=ZKm hm h h0 (by omega);obtain⟨P,hP⟩:∃P,P=dcs ds:=⟨_,rfl⟩
 rw[<-hP]at hB d3 j5 y5 z5 c3;obtain⟨R,hR⟩:∃R,R=rowsD P:=⟨_,rfl⟩
 have s4:=hB.rows;have m3:=hB.each;have w4:=hB.posts;rw[<-hR]at s4 m3 w4;have t3:∀r∈R,1<=r.1.length/\r.1.length<=65:=fun r hr=>ZCq (P:=P) (by rw[<-hR];exact hr);replace hB:=ZA hB;replace hP:=ZA hP;replace hR:=ZA hR;replace k4:=ZA k4;replace d3:=ZA d3;replace m3:=ZA m3;replace t3:=ZA t3;replace hm:=ZA hm;replace h:=ZA h;replace hs:=ZA hs;replace c3:=ZA c3;have h7:(m:Int)≠0:=by omega
 go_enter Tryz.func18,Tryz.ntmps18;go_wp2_with fail;refine d3.out.mono ?_;rintro e w1 ⟨B1,c1,rfl,g3,i4⟩;have y4:(encDs P).length<=16777216:=hB.out.docs;obtain⟨n1,y3⟩:∃n1,n1=(encDs P).length:=⟨_,rfl⟩
 rw[<-y3]at g3 y4 ⊢;replace y3:=ZA y3;replace g3:=ZA g3;go_wp2_with fail;refine(j5.out w1 i4).mono ?_;rintro e w2 ⟨E,B2,n2,c2,rfl,z0,q3⟩;have g1:n2=R.length:=by rw[z0.len,<-ZDe,z0.rows,hR.out];rfl
 have o3:idR E=R:=by rw[z0.rows,hR.out];rfl
 have f5:=ZA z0.len;rw[<-g1]at s4;replace g1:=ZA g1;replace o3:=ZA o3;have j6:=ZA (Cells.of_own z0.own);have f6:=ZA (fun x (hx:x∈E)=>And.intro (z0.each x hx) (z0.pos x hx));clear z0;have z1:=ZA (i4.trans q3);replace q3:=ZA q3;have b6:decide (262144<n2)=false:=decide_eq_false (by omega);go_wp2_with fail;obtain⟨b2,j0⟩:∃b2,b2=w2.heap.size:=⟨_,rfl⟩
 have s5:w.heap.size<=b2:=by rw[j0];exact z1.out.size
 have o1:=Nat.le_of_eq j0;replace j0:=ZA j0
 go_loopw [7,8,9,10] (fun s7 s8 s9 s10 wr=>∃(i nB cB cE cT:Nat) (BA EA TA:Option Addr),s10 = .int .i64 (i:Int)/\s7 = .slice BA nB cB/\s8 = .slice EA i cE/\s9 = .slice TA i cT/\i<=n2/\nB<=5000000/\Hid (nB=(postB (R.take i)).length)/\Hid (Buf wr b2 5 BA nB cB ((postB (R.take i)).map B8))/\Hid (wr.ownsRow b2 97 4 (.slice EA i cE) i (encells (enOf 0 (R.take i))))/\Hid (wr.ownsRow b2 9 1 (.slice TA i cT) i (((R.take i).map (·.1)).map strV))/\Hid (Ext w2 wr)/\b2<=wr.heap.size) (fun _ _ _ s10 _=>n2 - (intOf s10).toNat)
 case atStart=>exact⟨0,0,0,0,0,none,none,none,rfl,rfl,rfl,rfl,by omega,by omega,ZA rfl,ZA (Buf.nil _ _ _),ZA (World.ownsRow_nil _ _ _ _),ZA (World.ownsRow_nil _ _ _ _),ZA (Ext.refl _),o1⟩
 case round =>
  obtain⟨i,nB,cB,cE,cT,BA,EA,TA,rfl,rfl,rfl,rfl,hi,t2,j2,u1,q1,f1,p1,k6⟩:=hrel;by_cases u6:i<n2
  ·obtain⟨x,hx⟩:∃x,E[i]? = some x:=⟨_,List.getElem?_eq_getElem (by rw[<-f5.out];exact u6)⟩
   have hr:R[i]? = some (x.s,psP x.ps):=by rw[<-o3.out];exact ZFi hx
   have d4:=List.mem_of_getElem? hr;have y0:=m3.out _ d4;have v5:=t3.out _ d4;simp only at y0 v5;obtain⟨g2,o2,v6,e0⟩:=ZBT j6.out hx;obtain⟨f3,i3⟩:=f6.out x (List.mem_of_getElem? hx);have e2:=ZAL f3;have c4:PosOk w2 x.A x.ps:=⟨Cells.of_own f3,fun y hy=>⟨(i3 y hy).1.cells,(i3 y hy).2⟩⟩
   have i0:x.ps.length=(psP x.ps).length:=by unfold psP;rw[List.length_map]
   obtain⟨l0,l1⟩:=e0 wr p1.out;obtain⟨rt,ps,xA,xc⟩:=x;simp only at hr y0 v5 e0 f3 i3 e2 c4 i0 l0 l1;obtain⟨rl,x2⟩:∃rl,rl=psP ps:=⟨_,rfl⟩
   rw[<-x2]at hr y0 i0;obtain⟨np,z3⟩:∃np,np=ps.length:=⟨_,rfl⟩
   rw[<-z3]at e0 e2 i0 l1;have b3:=ZE8 ps xA np xc wr z3 (c4.ext p1.out) e2.2 e2.1 (by rw[<-x2];exact y0.1) (by rw[<-x2];exact y0.2.2.2.1);rw[<-x2]at b3;have y2:postB (R.take (i+1))=postB (R.take i)++encPs rl:=by
    rw[List.take_add_one,hr,ZAm];unfold postB;simp
   have x4:enOf 0 (R.take (i+1))=enOf 0 (R.take i) ++ [⟨rt,nB,(encPs rl).length,rl.length⟩]:=by
    rw[List.take_add_one,hr,ZFd,<-j2.out,Nat.zero_add];rfl
   have e4:((R.take (i+1)).map (·.1)).map strV=((R.take i).map (·.1)).map strV ++ [.string ⟨rt.toArray⟩]:=by
    rw[List.take_add_one,hr,List.map_append,List.map_append];rfl
   have o0:(postB (R.take (i+1))).length<=5000000:=by
    refine Nat.le_trans ?_ w4;have h1:=ZAm (R.take (i+1)) (R.drop (i+1));rw[List.take_append_drop]at h1;rw[h1,List.length_append];omega
   have m6:=y0.2.2.2.2;have i6:=y0.2.2.1;rw[y2,List.length_append,<-j2.out]at o0;subst v6;replace y2:=ZA y2;replace x4:=ZA x4;replace e4:=ZA e4;replace b3:=ZA b3;replace z3:=ZA z3;replace hr:=ZA hr;replace i0:=ZA i0;replace e0:=ZA e0;clear d4 c4 y0 f3 i3 e2 x2;go_wp2_with fail;refine b3.out.mono ?_;rintro e w5 ⟨B5,c5,rfl,s3,s0⟩;obtain⟨n5,m1⟩:∃n5,n5=(encPs rl).length:=⟨_,rfl⟩
   rw[<-m1]at s3 m6 o0 ⊢;have c0:=p1.out.trans s0;obtain⟨l0,l1⟩:=e0.out w5.drew c0.drew;have k0:=ZA ((s0.drew).owns q1.out);have j4:=ZA ((s0.drew).owns f1.out);have l3:=ZA (u1.out.ext s0.drew);have o6:=ZA (s3.2.drew);have a2:b2<=w5.drew.heap.size:=Nat.le_trans k6 s0.drew.size;have a1:=ZA c0.drew;replace m1:=ZA m1;have f0:((encPs rl).map B8).length=n5:=by rw[List.length_map];exact m1.out.symm
   have d6:np<=70000:=by have:=i0.out;omega
   have r0:w2.heap.size<=b2:=by rw[j0.out];exact Nat.le_refl _
   replace f0:=ZA f0;clear c0 s3 s0 q1 f1 u1 p1;go_wp2_with fail;refine ZPw (fun K hK=>?_);go_wp2_with (at_builtin;refine ZR (us:= [.string ⟨rt.toArray⟩,.int .i64 (nB:Int),.int .i64 (n5:Int),.int .i64 (np:Int)]) (m:=1) ZLO k0.out rfl (.tmp 51) (.tmp 68) rfl rfl rfl rfl rfl (by simp[Value.oneCell']) (by omega) a2 (fun A8 c8 w8 a4 k1 x6=>?_);have q6:=ZA (ZA7 k0.out k1 l3.out (by decide));have e1:=ZA (ZLD k0.out k1 j4.out (by decide));have r6:=ZA (ZA7 k0.out k1 o6.out (by decide));have w0:=ZDw k0.out k1 a1.out r0;have u5:=Nat.le_trans a2 k1.size;obtain⟨l0,l1⟩:=e0.out w8 w0;replace w0:=ZA w0;replace a4:=ZA a4;clear k1 x6);refine⟨by kernel_rfl,?_⟩;go_wp2_with (first
    | (at_builtin;refine ZR (us:= [.string ⟨rt.toArray⟩]) (m:=1) ZLF e1.out rfl (.tmp 70) (.tmp 76) rfl rfl rfl rfl rfl (by simp[Value.oneCell']) (by omega) u5 (fun A9 c9 w9 b4 j1 y6=>?_);have m4:=ZA (ZA7 e1.out j1 q6.out (by decide));have o5:=ZA (ZLD e1.out j1 a4.out (by decide));have f4:=(ZA7 e1.out j1 r6.out (by decide)).cells;have d0:=ZDw e1.out j1 w0.out r0;have x5:=Nat.le_trans u5 j1.size;replace d0:=ZA d0;replace b4:=ZA b4;replace f4:=ZA f4;clear j1 y6)
    | (at_builtin;refine ZG ZV m4.out f4.out (.tmp 78) (.tmp 79) rfl rfl rfl rfl rfl f0.out (ZF _) (by omega) x5 (fun AA cA wA t4 x3 a5 z6=>?_);have e6:=ZA (ZFN m4.out x3 b4.out (by decide));have r5:=ZA (ZFN m4.out x3 o5.out (by decide));have g6:=ZA (a5 _ d0.out r0);have l6:b2<=wA.heap.size:=Nat.le_trans x5 x3.size;replace t4:=ZA t4;clear x3 a5 z6))
   refine⟨⟨i+1,nB+n5,cA,c8,c9,AA,A8,A9,by go_num,rfl,rfl,rfl,by omega,o0,ZA ?_,ZA ?_,ZA ?_,ZA ?_,g6,l6⟩,by simp only[intOf];omega⟩
   ·rw[y2.out,List.length_append,<-j2.out,<-m1.out]
   ·rw[y2.out,List.map_append];exact t4.out
   ·rw[x4.out,ZCg];rw[show (⟨rt,nB,(encPs rl).length,rl.length⟩:En).cells = [.string ⟨rt.toArray⟩,.int .i64 (nB:Int),.int .i64 (n5:Int),.int .i64 (np:Int)] by rw[<-m1.out,<-i0.out];rfl];exact r5.out
   ·rw[e4.out];exact e6.out
  ·obtain rfl:i=n2:=by omega
   have i1:R.take i=R:=List.take_of_length_le (by rw[<-g1.out];exact Nat.le_refl _);rw[i1]at j2 u1 q1 f1;obtain⟨w3,n6⟩:∃w3,w3=wr:=⟨_,rfl⟩
   subst n6;have u4:=ZAL q1.out;have r1:=ZFF (enOf 0 R) EA i cE w3 (by rw[ZA5];exact g1.out) (Cells.of_own q1.out) u4.2 u4.1 (by rw[hR.out];exact hB.out.ens);have n3:=ZA (z1.out.trans p1.out);have k5:(encEs (enOf 0 R)).length<=16777216:=by rw[hR.out];exact hB.out.dic
   obtain⟨D6,i2⟩:∃D6,D6=encEs (enOf 0 R):=⟨_,rfl⟩
   rw[<-i2]at r1 k5;have m2:decide (16777216<nB)=false:=decide_eq_false (by omega);replace i2:=ZA i2;replace r1:=ZA r1;clear u4 i1;go_wp2_with fail;refine r1.out.mono ?_;rintro e w6 ⟨B6,c6,rfl,r4,k3⟩;have b0:=ZA (n3.out.trans k3);have d2:=y5.out w6 b0.out;obtain⟨lo,t0,fi,la,nn,a3⟩:=ZNC P;have g0:=c3.out;rw[a3]at d2 g0;have t5:prtA [lo,t0,fi,la,nn]=#[.int .i64 0,.int .i64 0,.int .i64 lo,.int .i64 t0,.int .i64 fi,.int .i64 la,.int .i64 nn]:=rfl;rw[t5]at d2;have h4:=ZA r4.2;have t1:=ZA (g3.out.2.ext (q3.out.trans (p1.out.trans k3)));have v1:=ZA (u1.out.ext k3);have g4:=ZA ((Cells.of_own f1.out).ext k3);replace d2:=ZA d2;replace a3:=ZA a3;replace g0:=ZA g0;clear t5 r4 u1 f1 q1 r1;go_wp2_with fail;refine d2.out.mono ?_;rintro e w7 ⟨rfl,l4⟩;obtain⟨wx,m0⟩:∃wx,wx=w7.alloc (Obj.cells #[Value.int IntKind.i64 0,Value.int IntKind.i64 0,Value.int IntKind.i64 lo,Value.int IntKind.i64 t0,Value.int IntKind.i64 fi,Value.int IntKind.i64 la,Value.int IntKind.i64 nn] 74):=⟨_,rfl⟩
   obtain⟨bp,u3⟩:∃bp,bp=w7.heap.size:=⟨_,rfl⟩
   have d1:Ext w7 wx:=by rw[m0];exact(Ext.refl w7).alloc _
   have n0:Row wx bp 74 #[Value.int IntKind.i64 0,Value.int IntKind.i64 0,Value.int IntKind.i64 lo,Value.int IntKind.i64 t0,Value.int IntKind.i64 fi,Value.int IntKind.i64 la,Value.int IntKind.i64 nn]:=by rw[m0,u3];exact Row.new w7 _ _
   have p2:=n0.cell 2 rfl;have p3:=n0.cell 3 rfl;have p4:=n0.cell 4 rfl;have p5:=n0.cell 5 rfl;have p6:=n0.cell 6 rfl;have b1:=ZA (l4.trans d1);have d5:=ZA (b0.out.trans b1.out);have v3:=ZLv (some ⟨wx.heap.size,0,none⟩) 5 5 [lo,t0,fi,la,nn] (wx.alloc (.cells #[.int .i64 lo,.int .i64 t0,.int .i64 fi,.int .i64 la,.int .i64 nn] 3)) rfl (Zg wx [.int .i64 lo,.int .i64 t0,.int .i64 fi,.int .i64 la,.int .i64 nn] _) (by decide) g0.out;obtain⟨DV,h3⟩:∃D,D=vall [lo,t0,fi,la,nn]:=⟨_,rfl⟩
   have k2:(vall [lo,t0,fi,la,nn]).length<=16777216:=Nat.le_trans (ZBE [lo,t0,fi,la,nn] g0.out 5) (by decide);rw[<-h3]at v3 k2;replace v3:=ZA v3;replace h3:=ZA h3;replace n0:=ZA n0;replace m0:=ZA m0;replace u3:=ZA u3;clear l4 d1;go_upto_region 21 with fail;rw[<-m0.out,<-u3.out];go_wp2_with fail;refine v3.out.mono ?_;rintro e w8 ⟨BV,cV,rfl,q5,w0⟩;have p0:=ZA (b1.out.trans (((Ext.refl wx).alloc _).trans w0));have y1:=ZA (b0.out.trans p0.out);obtain rfl:=y3.out;obtain rfl:=j2.out;have q2:(timesD 0 P).length<=16777216:=hB.out.times;have h2:8<=(ofB (R.map (·.1))).length/\(ofB (R.map (·.1))).length<=131072:=by rw[hR.out];exact hB.out.bits
   have e3:=z5.out w8 y1.out;have u2:=ZA (fun W (hE:Ext w8 W)=>ZN1 (R.map (·.1)) TA i cT W (by rw[List.length_map];exact g1.out) (g4.out.ext (p0.out.trans hE)) (fun s hs=>by obtain⟨r,hr,rfl⟩:=List.mem_map.1 hs;have:=(t3.out r hr).2;omega) (by omega));obtain⟨DT,s2⟩:∃D,D=timesD 0 P:=⟨_,rfl⟩
   obtain⟨D7,l2⟩:∃D,D=ofB (R.map (·.1)):=⟨_,rfl⟩
   obtain⟨D1,f2⟩:∃D,D=encDs P:=⟨_,rfl⟩
   obtain⟨DP,r2⟩:∃D,D=postB R:=⟨_,rfl⟩
   rw[<-s2]at q2 e3;rw[<-l2]at h2 u2;rw[<-f2]at t1 y4 ⊢;rw[<-r2]at v1 t2 m2 ⊢;obtain⟨JN,j3⟩:∃JN,JN=joinL (framesD P):=⟨_,rfl⟩
   have v0:joinL [D1,DT,DP,D6,D7,DV]=JN:=by rw[j3,f2,s2,r2,i2.out,l2,h3.out,<-a3.out,hR.out];rfl
   have u0:segL P = [76,83,69,71]++JN:=by rw[j3];rfl
   have l5:JN.length<=100663416:=by
    rw[<-v0];exact ZB3 (ps:= [D1,DT,DP,D6,D7,DV]) (fun p hp=>by
     simp only[List.mem_cons,List.not_mem_nil,or_false]at hp;rcases hp with rfl | rfl | rfl | rfl | rfl | rfl <;> omega)
   replace e3:=ZA e3;replace j3:=ZA j3;replace v0:=ZA v0;replace u0:=ZA u0;replace s2:=ZA s2;replace l2:=ZA l2;replace f2:=ZA f2;replace r2:=ZA r2;clear p2 p3 p4 p5 p6;go_wp2_with fail;refine e3.out.mono ?_;rintro e w9 ⟨BT,cT2,rfl,h5,d0⟩;have m5:=ZA (u2.out w9 d0);go_wp2_with fail;refine m5.out.mono ?_;rintro e w10 ⟨AF,nF,cF,rfl,hF,a0⟩;obtain rfl:=hF.len;have q0:=d0.trans a0;have s1:=ZJn (some ⟨w10.heap.size,0,none⟩) 6 6 [(B1,c1,D1),(BT,cT2,DT),(BA,cB,DP),(B6,c6,D6),(AF,cF,D7),(BV,cV,DV)] (w10.alloc (.cells #[.slice B1 D1.length c1,.slice BT DT.length cT2,.slice BA DP.length cB,.slice B6 D6.length c6,.slice AF D7.length cF,.slice BV DV.length cV] 25)) rfl (Zg w10 [.slice B1 D1.length c1,.slice BT DT.length cT2,.slice BA DP.length cB,.slice B6 D6.length c6,.slice AF D7.length cF,.slice BV DV.length cV] _) (ZOE ⟨((t1.out.ext (p0.out.trans q0)).ext ((Ext.refl _).alloc _)).in8,y4⟩ ⟨((h5.ext a0).ext ((Ext.refl _).alloc _)).in8,q2⟩ ⟨((v1.out.ext (p0.out.trans q0)).ext ((Ext.refl _).alloc _)).in8,Nat.le_trans t2 (by decide)⟩ ⟨((h4.out.ext (p0.out.trans q0)).ext ((Ext.refl _).alloc _)).in8,k5⟩ ⟨hF.ext ((Ext.refl _).alloc _),Nat.le_trans h2.2 (by decide)⟩ ⟨((q5.ext q0).ext ((Ext.refl _).alloc _)).in8,k2⟩) (by decide);have o4:joinL (List.map (fun(x:Option Addr×Nat×List UInt8)=>x.2.2) [(B1,c1,D1),(BT,cT2,DT),(BA,cB,DP),(B6,c6,D6),(AF,cF,D7),(BV,cV,DV)])=JN:=v0.out;rw[o4]at s1;have x1:=ZA (y1.out.trans q0);replace s1:=ZA s1;have s6:=ZNs AF D7.length cF w10;clear h5 hF d0 a0 q0 q5 o4 m5;go_wp2_with fail;refine s1.out.mono ?_;rintro e w11 ⟨AJ,cJ,rfl,q4,n4⟩;obtain⟨nJ,v2⟩:∃nJ,nJ=JN.length:=⟨_,rfl⟩
   rw[<-v2]at q4 l5 ⊢;have h6:Buf (w11.alloc (.cells #[.int .u8 76,.int .u8 83,.int .u8 69,.int .u8 71] 5)) w11.heap.size 5 (some ⟨w11.heap.size,0,none⟩) 4 4 [.int .u8 76,.int .u8 83,.int .u8 69,.int .u8 71] :=
    Buf.of_own ⟨rfl,.inr ⟨w11.heap.size,4,#[.int .u8 76,.int .u8 83,.int .u8 69,.int .u8 71],rfl,Nat.le_refl _,heap_alloc_new w11 _,Nat.le_refl _,by unfold maxLen;omega,rfl,rfl⟩⟩
   have i5:=(q4.2.ext ((Ext.refl w11).alloc (.cells #[.int .u8 76,.int .u8 83,.int .u8 69,.int .u8 71] 5))).cells;have r3:(JN.map B8).length=nJ:=by rw[List.length_map,v2]
   have x0:=ZA (x1.out.trans (((Ext.refl w10).alloc _).trans n4));have z2:w11.heap.size<=(w11.alloc (.cells #[.int .u8 76,.int .u8 83,.int .u8 69,.int .u8 71] 5)).heap.size:=((Ext.refl w11).alloc _).size;replace v2:=ZA v2;clear q4 n4 s1;go_wp2_with (at_builtin;refine ZG ZV h6 i5 (.tmp 119) (.tmp 120) rfl rfl rfl rfl rfl r3 (ZF _) (by omega) z2 (fun AZ cZ wZ v4 t6 b5 a6=>?_);have e5:=ZA (b5 w11 ((Ext.refl w11).alloc _) (Nat.le_refl _));replace v4:=ZA v4;clear t6 b5 a6);go_ret2;have z4:(segL P).length=4+nJ:=by rw[u0.out,List.length_append,v2.out];rfl
   have g5:(segL P).map B8 = [.int .u8 76,.int .u8 83,.int .u8 69,.int .u8 71]++JN.map B8:=by rw[u0.out,List.map_append];rfl
   rw[hP.out]at z4 g5;refine⟨AZ,cZ,by rw[z4];rfl,⟨rfl,?_⟩,x0.out.trans e5.out⟩;rw[z4,g5];exact v4.out.lower x0.out.size
end
section
open Go.RowKit
section
variable {P:Program} {ops:Array Oper} {Q:Exit->Act->World->Prop} {o:Oper} {a:Act} {w:World} {H:Value->World->Prop} {E0:Prop}
theorem ZO7 {i d:Nat} {b:Bool} (hg:o.guard=some (i,b)) (hd:dstOf ops i=some d) (hv:a.tmps.getD d undef = .bool b):Region.wanted o (yielded ops a.tmps)=true:=by
 unfold Region.wanted yielded;rw[hg];unfold dstOf at hd;simp only;rw[hd];rw[Array.getD_eq_getD_getElem?]at hv;cases h:a.tmps[d]? with
 | none=>rw[h]at hv;cases hv
 | some v =>
  rw[h]at hv;simp only[Option.getD_some]at hv;subst hv;simp[h]
theorem ZO8 (hg:o.guard=none):Region.wanted o (yielded ops a.tmps)=true:=by simp[Region.wanted,hg]
theorem ZPA {f:Nat} {xs:Array Operand} {ts:Array TypeId} {vs:Array Value} (ho:o.op = .call { callee:= .value (.func f),args:=xs,argTypes:=ts }) (hw:Region.wanted o (yielded ops a.tmps)=true) (eg:∀args w,(callFunc f args).run P w = .ok (.enter f args) w) (hx:xs.map a.eval=vs)
 (hc:Calls P f vs w fun e w'=>∃u,e = .returned u/\H u w'/\Ext w w'):if Region.wanted o (yielded ops a.tmps)=true then Oper.wp P o a w (fun a' w'=>∃v,a'=a.put o.dst v/\H v w'/\Ext w w') Q else E0:=by
 rw[if_pos hw];have hr:(execOp a.eval o).run P w = .ok (.enter f vs) w:=by
  unfold execOp;simp[ho,resolve,invoke,go_sem,eg,hx]
 unfold Oper.wp;rw[hr,Oper.upon_enter];refine hc.mono ?_;rintro e w' ⟨u,rfl,h,hE⟩;exact⟨u,rfl,h,hE⟩
theorem ZO6 {v:Value} {w':World} (hr:(execOp a.eval o).run P w = .ok (.value v) w') (hw:Region.wanted o (yielded ops a.tmps)=true) (h:H v w') (hE:Ext w w'):if Region.wanted o (yielded ops a.tmps)=true then Oper.wp P o a w (fun a' w'=>∃v,a'=a.put o.dst v/\H v w'/\Ext w w') Q else E0:=by
 rw[if_pos hw];unfold Oper.wp;rw[hr,Oper.upon_value];exact⟨v,rfl,h,hE⟩
theorem ZPa {t:TypeId} {x:Operand} {b:Bool} (ho:o.op = .unOp .not t x) (hx:a.eval x = .bool b):(execOp a.eval o).run P w = .ok (.value (.bool !b)) w:=by
 unfold execOp;simp only[ho,hx];rfl
theorem ZPG {x y z:Operand} {b:Bool} {v:Value} (ho:o.op = .pick x y z) (hx:a.eval x = .bool b) (hv:(if b then a.eval y else a.eval z)=v):(execOp a.eval o).run P w = .ok (.value v) w:=by
 unfold execOp;simp[ho,hx,asBool,hv]
theorem ZPZ {t t2:TypeId} {x y:Operand} {b:Bool} (ho:o.op = .binOp .neq t x y t2) (hx:a.eval x = .bool b) (hy:a.eval y = .bool b) (hr:(do eqGuard .neq t x y (.bool b) (.bool b);binOp .neq t (.bool b) (.bool b):Sem Value).run P w = .ok (.bool false) w):(execOp a.eval o).run P w = .ok (.value (.bool false)) w:=by
 unfold execOp;simp only[ho,hx,hy];rw[Sem.run_bind,hr];rfl
end
end
section
open Go.RowKit Go.Maps
def kPs (R:List Po) (v:Value) (w:World):Prop:=∃(A:Option Addr) (c:Nat) (ps:List PoC),v = .slice A ps.length c/\psP ps=R/\PosOk w A ps
def kTx (L:List (List UInt8)) (v:Value) (w:World):Prop:=∃(A:Option Addr) (n c:Nat),v = .slice A n c/\n=L.length/\Cells w A (L.map strV)
theorem ZPs (R:List Po) (v:Value) (w w':World) (h:kPs R v w) (hE:Ext w w'):kPs R v w':=by obtain⟨A,c,ps,h1,h2,h3⟩:=h;exact⟨A,c,ps,h1,h2,h3.ext hE⟩
theorem ZPt (L:List (List UInt8)) (v:Value) (w w':World) (h:kTx L v w) (hE:Ext w w'):kTx L v w':=by obtain⟨A,n,c,h1,h2,h3⟩:=h;exact⟨A,n,c,h1,h2,h3.ext hE⟩
theorem ZPc {P:List Dc} {t:List UInt8} {r:List UInt8×List Po} (hr:r∈rowsD P) (h:r.1=t):r.2=valsOf (pairsD 0 P) t:=by
 have:=(((ZA6 (pairsD 0 P)).mem r).1 hr).1;rw[<-h];exact this
theorem ZPb {P:List Dc} {t:List UInt8} (h:∀r∈rowsD P,r.1≠t):valsOf (pairsD 0 P) t = []:=by
 apply Decidable.byContradiction;intro h0;exact h (t,valsOf (pairsD 0 P) t) (((ZA6 (pairsD 0 P)).mem (t,valsOf (pairsD 0 P) t)).2 ⟨rfl,h0⟩) rfl
theorem ZPj (g:Nat) (P:List Dc) (t:List UInt8) (w:World) (h:SegR w g P) (hP:SegP P):Calls Tryz.prog 14 #[.pointer (some ⟨g,0,none⟩),.string ⟨t.toArray⟩] w fun e w'=>∃u,e = .returned u/\kPs (valsOf (pairsD 0 P) t) u w'/\Ext w w':=(ZJA g P t w h hP).mono fun e w' hr=>by
 obtain⟨hE,⟨r,hr,ht,ps,A,c,h1,rfl,h2⟩ | ⟨h0,rfl⟩⟩:=hr
 ·refine⟨_,rfl,⟨A,c,ps,?_,by rw[h1];exact ZPc hr ht,h2⟩,hE⟩;rw[<-h1];unfold psP;rw[List.length_map]
 ·exact⟨_,rfl,⟨none,0,[],rfl,by rw[ZPb h0];rfl,PosOk.nil _ _⟩,hE⟩
theorem ZPd (E:List IdE) (B:Option Addr) (n c base:Nat) (P:List Dc) (t:List UInt8) (w0 w:World) (h:RowsO base w0 B n c E (pairsD 0 P)) (hw:Ext w0 w) (hn:n<=1000000000):Calls Tryz.prog 25 #[.slice B n c,.string ⟨t.toArray⟩] w fun e w'=>∃u,e = .returned u/\kPs (valsOf (pairsD 0 P) t) u w'/\Ext w w':=by
 have h0:idR E=rowsD P:=h.rows;refine(ZPM E B n c t w h.len ((Cells.of_own h.own).ext hw) (by rw[h0];exact ZNn P) hn).mono fun e w' hr=>?_;obtain⟨hE,⟨x,hx,ht,rfl⟩ | ⟨p0,rfl⟩⟩:=hr
 ·have hm:x.rw'∈rowsD P:=by rw[<-h0];exact List.mem_map.2 ⟨x,hx,rfl⟩
  have q0:=hw.trans hE;exact⟨_,rfl,⟨x.A,x.c,x.ps,rfl,ZPc (r:=x.rw') hm ht,⟨(Cells.of_own (h.each x hx)).ext q0,fun y hy=>⟨((h.pos x hx y hy).1.cells).ext q0,(h.pos x hx y hy).2⟩⟩⟩,hE⟩
 ·refine⟨_,rfl,⟨none,0,[],rfl,?_,PosOk.nil _ _⟩,hE⟩;rw[ZPb]
  ·rfl
  ·intro r hr e;rw[<-h0]at hr;obtain⟨x,hx,rfl⟩:=List.mem_map.1 hr;exact p0 x hx e
theorem ZPv {w:World} {f:Nat} {vs:Array Value} {L:List (List UInt8)} (h:Calls Tryz.prog f vs w fun e w'=>NewTx w L e w'):Calls Tryz.prog f vs w fun e w'=>∃u,e = .returned u/\kTx L u w'/\Ext w w':=h.mono fun e w' hr=>by
 obtain⟨A,n,c,h1,h2,h3,h4⟩:=hr;exact⟨_,h1,⟨A,n,c,rfl,h2,h3⟩,h4⟩
theorem ZPK {w:World} {f:Nat} {vs:Array Value} {b:Bool} (h:Calls Tryz.prog f vs w fun e w'=>e = .returned (.bool b)/\Ext w w'):Calls Tryz.prog f vs w fun e w'=>∃u,e = .returned u/\kEq (.bool b) u w'/\Ext w w':=h.mono fun e w' hr=>⟨_,hr.1,rfl,hr.2⟩
end
section
open Go.RowKit Go.Maps
def kDc (x:DocC) (fl:Nat) (v:Value) (w:World):Prop:=∃g,v = .slice (some ⟨g,0,none⟩) 1 1/\Cells w (some ⟨g,0,none⟩) [.int .i64 x.seq,.int .i64 x.e.at_,.slice x.A fl x.c]
theorem ZPr (x:DocC) (fl:Nat) (v:Value) (w w':World) (h:kDc x fl v w) (hE:Ext w w'):kDc x fl v w':=by obtain⟨g,h1,h2⟩:=h;exact⟨g,h1,h2.ext hE⟩
theorem ZPu {w:World} {b:Nat} {sq at_:Int} {A:Option Addr} {n c:Nat} (h:Row w b 39 #[.int .i64 sq,.int .i64 at_,.slice A n c]):(Instr.loadAt 39 (.pointer (some ⟨b,0,none⟩))).run Tryz.prog w = .ok (.agg #[.int .i64 sq,.int .i64 at_,.slice A n c]) w:=by
 have h0:=h.cell 0 rfl;have h1:=h.cell 1 rfl;have h2:=h.cell 2 rfl;go_simp
theorem ZPm (w:World) (sq at_:Int) (A:Option Addr) (n c:Nat):(Instr.buildSlice 22 1 #[(0,.agg #[.int .i64 sq,.int .i64 at_,.slice A n c])]).run Tryz.prog w = .ok (.slice (some ⟨w.heap.size,0,none⟩) 1 1) (w.alloc (.cells #[.int .i64 sq,.int .i64 at_,.slice A n c] 39)):=by
 go_simp
theorem ZPn {P:Program} {o:Oper} {a:Act} {w:World} {b:BinOp} {t t2:TypeId} {x y:Operand} {q r v:Value} (ho:o.op = .binOp b t x y t2) (hx:a.eval x=q) (hy:a.eval y=r) (hr:(do eqGuard b t x y q r;binOp b t q r:Sem Value).run P w = .ok v w):(execOp a.eval o).run P w = .ok (.value v) w:=by
 unfold execOp;simp only[ho,hx,hy];rw[Sem.run_bind,hr];rfl
theorem ZPi (j:Nat) (hj:j<=1000000000) (x y:Operand) (w:World):(do eqGuard .add 3 x y (.int .i64 (j:Int)) (.int .i64 1);binOp .add 3 (.int .i64 (j:Int)) (.int .i64 1):Sem Value).run Tryz.prog w = .ok (.int .i64 ((j:Int)+1)) w:=by
 have h1:IntKind.i64.wrap ((j:Int)+1)=(j:Int)+1:=ZAK (by omega) (by omega);go_simp
theorem ZPe (b:Bool) (x y:Operand) (w:World):(do eqGuard .neq 4 x y (.bool b) (.bool b);binOp .neq 4 (.bool b) (.bool b):Sem Value).run Tryz.prog w = .ok (.bool false) w:=by
 cases b <;> go_simp
theorem ZPg (l:List DocC) (x:DocC) (A A1:Option Addr) (m c1 j fl gq:Nat) (w W:World) (hm:m=l.length) (q0:DocsOk w A l) (p0:∀(w:World) (xs:List Value),xs.length=m*3->Cells w A xs->Cells w A1 ((xs.drop (j*3)).take (1*3))) (hx:(dcs l)[j]? = some x.dc) (k0:fl=x.e.fs.length) (g0:x.e.Ok w x.A) (j0:I64ok' x.e.at_/\I64ok' x.seq) (hW:Ext w W) (hc:Cells W (some ⟨gq,0,none⟩) [.int .i64 x.seq,.int .i64 x.e.at_,.slice x.A fl x.c]) :
 Calls Tryz.prog 20 #[.slice (some ⟨gq,0,none⟩) 1 1,.slice A1 1 c1] W fun en w'=>en = .returned (.bool true)/\Ext W w':=by
 have h0:j<l.length:=by have:=(List.getElem?_eq_some_iff.1 hx).1;unfold dcs at this;rwa [List.length_map]at this
 have h1:DocsOk W (some ⟨gq,0,none⟩) [x]:=by
  refine⟨?_,fun y hy=>?_⟩
  ·have e:dcells [x] = [.int .i64 x.seq,.int .i64 x.e.at_,.slice x.A fl x.c]:=by unfold dcells;simp[DocC.cells,k0]
   rw[e];exact hc
  ·rw[List.mem_singleton.1 hy];exact⟨g0.ext hW,j0⟩
 have h2:DocsOk W A1 ((l.drop j).take 1):=by
  refine⟨?_,fun y hy=>(q0.ext hW).each y (List.mem_of_mem_drop (List.mem_of_mem_take hy))⟩;unfold dcells;rw[Z4 (f:=DocC.cells) (k:=3) (fun _=>rfl),ZAE (f:=DocC.cells) (k:=3) (fun _=>rfl)];exact p0 W _ (by show (dcells l).length=_;rw[ZEc,hm]) (q0.ext hW).cells
 have h3:dcs [x]=dcs ((l.drop j).take 1):=by
  unfold dcs at hx ⊢;rw[List.map_take,List.map_drop,List.drop_eq_getElem_cons (by rw[List.length_map];exact h0)];rw[List.getElem?_eq_getElem (by rw[List.length_map];exact h0)]at hx;rw[Option.some.inj hx];rfl
 have h4:((l.drop j).take 1).length=1:=by rw[List.length_take,List.length_drop];omega
 have h5:=ZGe [x] ((l.drop j).take 1) (some ⟨gq,0,none⟩) A1 1 c1 W h1 h2 h3 (by simp);rw[h4]at h5;exact h5
end
section
open Go.RowKit Go.Maps
theorem ZPp {w:World} {b:Nat} {v:Value} (h:w.cell? ⟨b,0,none⟩=some v):(Instr.loadAt 61 (.pointer (some ⟨b,0,none⟩))).run Tryz.prog w = .ok (.agg #[v]) w:=by
 go_simp
theorem ZPk (b:Bool) (w:World):(do eqGuard .neq 4 (.const (.bool b)) (.const (.bool b)) (.bool b) (.bool b);binOp .neq 4 (.bool b) (.bool b):Sem Value).run Tryz.prog w = .ok (.bool false) w:=by
 cases b <;> go_simp
theorem ZPl {P:List Dc} (hP:SegP P) (t:List UInt8):(valsOf (pairsD 0 P) t).length<=1000000000:=by
 have h1:=hP.sm.seg.pairs;have h2:(valsOf (pairsD 0 P) t).length<=(pairsD 0 P).length:=by
  unfold valsOf;rw[List.length_map];exact List.length_filter_le ..
 omega
theorem ZPq {P:List Dc} (hP:SegP P) (t:List UInt8):(((rowsD P).map (·.1)).filter fun t'=>begB t t').length<=1000000000:=by
 have h1:=hP.sm.seg.rows;have h2:(((rowsD P).map (·.1)).filter fun t'=>begB t t').length<=((rowsD P).map (·.1)).length:=List.length_filter_le ..;rw[List.length_map]at h2;omega
theorem ZPQ (A0 A1:Option Addr) (n0 c0 n1 c1:Nat) (fr tt i:Int) (ds:List DocC) (ss:List (List UInt8)) (w:World) (hn:n0=ds.length) (hc:n0<=c0) (h:DocsOk w A0 ds) (f4:ds ≠ []->∀a,A0=some a->a.spot=none)
 (z2:n1=ss.length) (r3:Cells w A1 (ss.map strV)) (q4:∀s∈ss,s.length<=9223372036854775807) :
 Calls Tryz.prog 6 #[.slice A0 n0 c0,.slice A1 n1 c1,.int .i64 fr,.int .i64 tt,.int .i64 i] w fun e w'=>e = .returned (.bool true)/\Ext w w':=by
 have s1:=ZA (ZKG A0 n0 c0 ds w hn hc h f4);have h8:=ZNP (P:=dcs ds) fun d hd=>by
  unfold dcs at hd;obtain⟨x,hx,rfl⟩:=List.mem_map.1 hd;exact(h.each x hx).2.1
 obtain⟨PF,m4⟩:∃PF,PF=fewD ((dcs ds).take 25):=⟨_,rfl⟩
 rw[<-m4]at s1 h8;have t4:=ZA (fun W=>ZHq W);replace z2:=ZA z2;replace r3:=ZA r3;replace q4:=ZA q4;clear m4 h hn hc f4;go_enter Tryz.func6,Tryz.ntmps6;go_wp2_with fail;refine s1.out.mono ?_;rintro e w1 ⟨n2,l,A,c,hl,rfl,j1⟩;have x0:=j1.ok;have q1:=j1.cap;obtain⟨m,hm⟩:∃m,m=l.length:=⟨_,rfl⟩
 rw[<-hm]at q1 ⊢;have u3:PF.length=m:=by rw[<-hl,hm];exact List.length_map ..
 have a5:m<=25:=by rw[<-u3];exact h8.n
 replace hm:=ZA hm;replace x0:=ZA x0;by_cases v1:okDs PF=true/\0<m
 ·obtain⟨hk,h0⟩:=v1;have k4:SmP (dcs l):=by rw[hl];exact h8.sm hk
  have hP:SegP PF:=⟨h8.sm hk,by omega⟩
  have q2:=ZGV x0.out hm.out h0 k4;rw[hl]at q2;have c3:(segL PF).length<=1000000000:=by
   have h1:=ZB3 q2;have h2:(segL PF).length=4+(joinL (framesD PF)).length:=by unfold segL;rw[List.length_append];rfl
   have h3:(framesD PF).length=6:=rfl;omega
  have p1:=ZB2 l A m c w1 hm.out x0.out k4 h0;rw[hl]at p1;have z1:=ZA n2;replace p1:=ZA p1;replace hP:=ZA hP;replace q2:=ZA q2;replace hl:=ZA hl;clear k4 n2 j1;go_wp2_with fail;refine p1.out.mono ?_;rintro e w2 ⟨Ax,cx,rfl,t3,m2⟩;obtain⟨nx,b3⟩:∃nx,nx=(segL PF).length:=⟨_,rfl⟩
  have k2:=ZPF PF hP.out q2.out (fun d hd=>(h8.each d hd).1) Ax (segL PF).length cx w2 t3.2.in8;have b4:=t3.2;rw[<-b3]at k2 b4 c3 ⊢;obtain⟨_,c5,⟨j6,k6⟩ | ⟨qb,cur,r4,f5,c2,u2,_⟩⟩:=b4
  ·have:4<=(segL PF).length:=by unfold segL;simp
   omega
  subst r4;have p6:nx<=cur.size:=by omega
  replace k2:=ZA k2;replace b3:=ZA b3;replace c2:=ZA c2;clear t3 p1;go_wp2_with fail;refine k2.out.mono ?_;rintro e w3 ⟨g,rfl,hs,q3⟩;have n3:=ZA (c2.out.ext q3);have f3:=c2.out.lt;have r2:=ZA (m2.trans q3);have n5:=ZA hs;clear hs m2 q3 k2;go_wp2_with fail
  go_loopw [15] (fun s15 wr=>∃(j:Nat) (cu:Array Value),s15 = .int .i64 (j:Int)/\j<=nx/\nx<=cu.size/\Hid (Row wr qb 5 cu)/\Hid (SegRB w2.heap.size wr g PF)/\Hid (Ext w1 wr)) (fun s15 _=>nx - (intOf s15).toNat)
  case atStart=>exact⟨0,cur,rfl,by omega,p6,n3,n5,r2⟩
  case round =>
   obtain⟨j,cu,rfl,hj,m5,e2,i4,hE⟩:=hrel;by_cases t6:j<nx
   ·obtain⟨v,hv⟩:∃v,cu[j]? = some v:=⟨_,Array.getElem?_eq_getElem (by omega)⟩
    have y0:wr.cell? ⟨qb,j,none⟩=some v:=e2.out.cell j hv;have u0:=e2.out.free j;have l3:=ZA (e2.out.put j (.int .u8 0));have h4:=ZA (i4.out.chg (Chg.of_set (S:=fun k=>k=qb) wr (a:=⟨qb,j,none⟩) (.int .u8 0) rfl) e2.out f3);have v3:=ZA (hE.out.setCell (p:=⟨qb,j,none⟩) f5 (.int .u8 0));clear hv;go_wp2_with fail;exact⟨⟨j+1,_,by go_num,by omega,by simpa using m5,l3,h4,v3⟩,by simp only[intOf];omega⟩
   ·obtain rfl:j=nx:=by omega
    obtain⟨w4,r5⟩:∃w4,w4=wr:=⟨_,rfl⟩
    subst r5;have e0:=ZA (ZLd l A m c w4 hm.out (x0.out.ext hE.out) (by omega) (by rw[hl.out];have:=hP.out.sm.seg.pairs;omega));go_wp2_with fail;refine e0.out.mono ?_;rintro e w5 ⟨E,B,nr,cr,rfl,m1,a1⟩;have e1:idR E=rowsD PF:=by rw[m1.rows,hl.out];rfl
    have u1:E.map (·.s)=(rowsD PF).map (·.1):=by
     rw[<-e1];unfold idR;rw[List.map_map];rfl
    have b2:nr=(rowsD PF).length:=by rw[m1.len,<-ZDe,e1]
    have e5:nr<=70000:=by rw[b2];exact hP.out.sm.seg.rows
    have f2:∀x∈E,x.s.length<=1000000000:=fun x hx=>by
     have h1:x.s∈E.map (·.s):=List.mem_map.2 ⟨x,hx,rfl⟩;rw[u1]at h1;obtain⟨r,hr,he⟩:=List.mem_map.1 h1;have:=ZCq hr;rw[<-he];omega
    have x4:=ZA (ZPH E B nr cr w5 m1.len (Cells.of_own m1.own) f2 (by omega));have s2:=ZA (hE.out.trans a1);have e4:=ZA (i4.out.seg.ext a1);replace e1:=ZA e1;replace u1:=ZA u1;replace b2:=ZA b2;replace m1:=ZA m1;replace f2:=ZA f2;clear a1 e0;go_wp2_with fail;refine x4.out.mono ?_;rintro e w6 ⟨AF,nF,cF,rfl,hF,t2⟩;obtain⟨w7,g2⟩:∃w7,w7=w6.alloc (.cells #[.slice AF nF cF] 61):=⟨_,rfl⟩
    obtain⟨gF,x2⟩:∃gF,gF=w6.heap.size:=⟨_,rfl⟩
    have o0:Ext w6 w7:=by rw[g2];exact(Ext.refl w6).alloc _
    have i3:Row w7 gF 61 #[.slice AF nF cF]:=by rw[g2,x2];exact Row.new w6 _ _
    have m0:=t2.trans o0;have k5:=ZA (hF.ext o0);have f0:=ZA (e4.out.ext m0);have a0:=ZA (m1.out.ext m0);have p0:=ZA (s2.out.trans m0);have v2:=hF.len;have d0:=hP.out.sm.seg.bits;rw[<-u1.out]at d0;rw[<-v2]at d0;have j2:Ris (idR E):=by rw[e1.out];exact ZNn PF
    have cM:=ZA (fun t W (hE:Ext w7 W) (ht:t.length<=1000000000)=>ZIB g PF t W (f0.out.ext hE) hP.out ht);have cN:=ZA (fun t W (hE:Ext w7 W) (ht:t.length<=1000000000)=>ZPf (ofB (E.map (·.s))) t AF nF cF W v2 ((k5.out.ext hE).bytes) (by omega) (by omega) (by omega));have cX:=ZA (fun t W (hE:Ext w7 W)=>ZPR g PF t W (f0.out.ext hE) hP.out);have cY:=ZA (fun t W (hE:Ext w7 W) (ht:t.length<=1000000000)=>ZPI E B nr cr t W (a0.out.len) ((Cells.of_own a0.out.own).ext hE) f2.out ht (by omega));have s3:=ZA (r3.out.ext (z1.out.trans p0.out));replace g2:=ZA g2;replace x2:=ZA x2;replace i3:=ZA i3;replace j2:=ZA j2;replace v2:=ZA v2;clear o0 m0 hF t2 e4 x4;go_upto_region 14 with fail;rw[<-g2.out,<-x2.out];go_wp2_with fail
    go_loopw [18] (fun s18 wr=>∃k:Nat,s18 = .int .i64 (k:Int)/\k<=n1/\k<=20/\Hid (Ext w7 wr)) (fun s18 _=>20 - (intOf s18).toNat)
    case atStart=>exact⟨0,rfl,by omega,by omega,ZA (Ext.refl _)⟩
    case round =>
     obtain⟨k,rfl,hk,x5,hE⟩:=hrel;by_cases y4:k<n1/\k<20
     ·obtain⟨y5,v6⟩:=y4;have z5:(k:Int)<20:=by omega
      obtain⟨s0,o3⟩:∃s0,ss[k]? = some s0:=⟨_,List.getElem?_eq_getElem (by rw[<-z2.out];exact y5)⟩
      obtain⟨gs,os,o4,o1⟩:=(s3.out.ext hE.out).at_ (by rw[List.length_map,<-z2.out];omega);have l0:=o1 k (strV s0) (by rw[List.getElem?_map,o3];rfl);unfold strV at l0;have l0d:wr.drew.cell? ⟨gs,os+k,none⟩=some (.string ⟨s0.toArray⟩):=(Ext.refl wr).drew.cell l0;have i5:=q4.out s0 (List.mem_of_getElem? o3);obtain⟨mn,x3⟩:∃mn:Nat,(mn:Int)=min (s0.length:Int) 100:=⟨min s0.length 100,by omega⟩
      have b5:=fun(W:World)=>Zf (P:=Tryz.prog) #[3,3] 3 x3 W;have y3:mn<=s0.length/\mn<=100:=by omega
      have p4:=ZDK s0 mn y3.1;obtain⟨t,ht⟩:∃t,t=s0.take mn:=⟨_,rfl⟩
      have j4:t.length<=1000000000:=by rw[ht,List.length_take];omega
      rw[<-ht]at p4;subst o4;replace x3:=ZA x3;replace ht:=ZA ht;clear o1 o3;go_wp2_with fail;refine ZPw (fun K hK=>?_);go_wp2_with fail;refine⟨by kernel_rfl,?_⟩;go_wp2_with fail;obtain⟨wk,i2⟩:∃wk,wk=wr.drew:=⟨_,rfl⟩
      have q5:=ZA (show Ext w7 wk by rw[i2];exact hE.out.drew);rw[<-i2];replace i2:=ZA i2;have j0:=ZA q5.out.drew;have o5:=ZA (ZPl hP.out t);have g4:=ZA (ZPq hP.out t);have cP:=ZA (fun W (hE:Ext w7 W)=>ZPj g PF t W (f0.out.ext hE) hP.out);have cQ:=ZA (fun W (hE:Ext w7 W)=>ZPd E B nr cr _ PF t w7 W (by rw[hl.out]at a0;exact a0.out) hE (by omega));have cM:=ZA (fun W (hE:Ext w7 W)=>cM.out t W hE j4);have cN:=ZA (fun W (hE:Ext w7 W)=>cN.out t W hE j4);have cX:=ZA (fun W (hE:Ext w7 W)=>cX.out t W hE);have cY:=ZA (fun W (hE:Ext w7 W)=>cY.out t W hE j4);obtain⟨mb,y2⟩:∃mb,mb=mayB (ofB ((rowsD PF).map (·.1))) t:=⟨_,rfl⟩
      rw[<-y2]at cM;rw[u1.out,<-y2]at cN;rw[u1.out]at cY;replace y2:=ZA y2;obtain⟨LX,m3⟩:∃LX,LX=((rowsD PF).map (·.1)).filter fun t'=>begB t t':=⟨_,rfl⟩
      rw[<-m3]at cX cY g4;replace m3:=ZA m3;clear l0 l0d
      go_cut [104] from 78 to 104 (fun s104 wy=>s104 = .bool false/\Hid (Ext w7 wy))
      case first =>
       refine wp_region_held_drew (S:=fun _=>True) (by kernel_rfl) trivial (fun _=>?_);refine ZHI (base:=Array.replicate 27 false) (wx:=wk.drew) ⟨by kernel_rfl,of_decide_eq_true (by kernel_rfl),by kernel_rfl,by kernel_rfl⟩ (fun j v w=>([kEq (.pointer (some ⟨g,0,none⟩)),kEq (.string ⟨t.toArray⟩),kPs (valsOf (pairsD 0 PF) t),kEq (.slice B nr cr),kEq (.string ⟨t.toArray⟩),kPs (valsOf (pairsD 0 PF) t),kEq (.bool true),kEq (.bool false),kEq (.bool false),kEq (.pointer (some ⟨g,0,none⟩)),kEq (.string ⟨t.toArray⟩),kEq (.bool mb),kEq (.agg #[.slice AF nF cF]),kEq (.string ⟨t.toArray⟩),kEq (.bool mb),kEq (.bool false),kEq (.bool false),kEq (.bool false),kEq (.pointer (some ⟨g,0,none⟩)),kEq (.string ⟨t.toArray⟩),kTx LX,kEq (.slice B nr cr),kEq (.string ⟨t.toArray⟩),kTx LX,kEq (.bool true),kEq (.bool false),kEq (.bool false)].getD j fun _ _=>True) v w) (ZKQ ?mono) (fun _ _=>trivial) ?hstep ?fin _ _ _ _ (by kernel_rfl) (Nat.le_of_eq (by kernel_rfl)) (fun _ h=>h) ⟨rfl,rfl,fun _ _=>rfl,Ext.refl _⟩ (fun j d h1 h2 _=>absurd (h1.symm.trans h2) (by simp))
       case mono =>
        intro p hp;simp only[List.mem_cons,List.not_mem_nil,or_false]at hp;rcases hp with rfl | rfl | rfl | rfl | rfl | rfl | rfl | rfl | rfl | rfl | rfl | rfl | rfl | rfl | rfl | rfl | rfl | rfl | rfl | rfl | rfl | rfl | rfl | rfl | rfl | rfl | rfl <;> first | exact ZOv _ | exact ZPs _ | exact ZPt _
       case hstep =>
        apply KSteps.all (H:=(fun j v w=>([kEq (.pointer (some ⟨g,0,none⟩)),kEq (.string ⟨t.toArray⟩),kPs (valsOf (pairsD 0 PF) t),kEq (.slice B nr cr),kEq (.string ⟨t.toArray⟩),kPs (valsOf (pairsD 0 PF) t),kEq (.bool true),kEq (.bool false),kEq (.bool false),kEq (.pointer (some ⟨g,0,none⟩)),kEq (.string ⟨t.toArray⟩),kEq (.bool mb),kEq (.agg #[.slice AF nF cF]),kEq (.string ⟨t.toArray⟩),kEq (.bool mb),kEq (.bool false),kEq (.bool false),kEq (.bool false),kEq (.pointer (some ⟨g,0,none⟩)),kEq (.string ⟨t.toArray⟩),kTx LX,kEq (.slice B nr cr),kEq (.string ⟨t.toArray⟩),kTx LX,kEq (.bool true),kEq (.bool false),kEq (.bool false)].getD j fun _ _=>True) v w)) (l:= [0,1,2,3,4,5,6,7,8,9,10,11,12,13,14,15,16,17,18,19,20,21,22,23,24,25,26]);rotate_left
        ·kernel_rfl
        refine KSteps.cons rfl (fun a wq ha hd=>?_) ?_
        ·exact ZO6 (ZP (v:=(.pointer (some ⟨g,0,none⟩))) (.inl rfl) (ZI (ha.same 13))) (ZO8 rfl) rfl (Ext.refl _)
        refine KSteps.cons rfl (fun a wq ha hd=>?_) ?_
        ·exact ZO6 (ZP (v:=(.string ⟨t.toArray⟩)) (.inl rfl) (ZI (ha.same 19))) (ZO8 rfl) rfl (Ext.refl _)
        refine KSteps.cons rfl (fun a wq ha hd=>?_) ?_
        ·exact ZPA (vs:=#[(.pointer (some ⟨g,0,none⟩)),(.string ⟨t.toArray⟩)]) rfl (ZO8 rfl) (enters_of Tryz.func14 (by kernel_rfl) rfl) (by simp only[List.map_toArray,List.map_cons,List.map_nil,ZE (show a.tmps.getD 78 undef=(.pointer (some ⟨g,0,none⟩))from(hd 0 78)),ZE (show a.tmps.getD 79 undef=(.string ⟨t.toArray⟩)from(hd 1 79))]) (cP.out wq (j0.out.trans ha.ext))
        refine KSteps.cons rfl (fun a wq ha hd=>?_) ?_
        ·exact ZO6 (ZP (v:=(.slice B nr cr)) (.inl rfl) (ZI (ha.same 16))) (ZO8 rfl) rfl (Ext.refl _)
        refine KSteps.cons rfl (fun a wq ha hd=>?_) ?_
        ·exact ZO6 (ZP (v:=(.string ⟨t.toArray⟩)) (.inl rfl) (ZI (ha.same 19))) (ZO8 rfl) rfl (Ext.refl _)
        refine KSteps.cons rfl (fun a wq ha hd=>?_) ?_
        ·exact ZPA (vs:=#[(.slice B nr cr),(.string ⟨t.toArray⟩)]) rfl (ZO8 rfl) (enters_of Tryz.func25 (by kernel_rfl) rfl) (by simp only[List.map_toArray,List.map_cons,List.map_nil,ZE (show a.tmps.getD 81 undef=(.slice B nr cr)from(hd 3 81)),ZE (show a.tmps.getD 82 undef=(.string ⟨t.toArray⟩)from(hd 4 82))]) (cQ.out wq (j0.out.trans ha.ext))
        refine KSteps.cons rfl (fun a wq ha hd=>?_) ?_
        ·obtain⟨A8,c8,p8,q8,r8,s8⟩:kPs (valsOf (pairsD 0 PF) t) (a.tmps.getD 80 undef) wq:=(hd 2 80)
         obtain⟨A9,c9,p9,q9,r9,s9⟩:kPs (valsOf (pairsD 0 PF) t) (a.tmps.getD 83 undef) wq:=(hd 5 83)
         have z4:p8.length=p9.length:=by rw[<-ZHQ p8,<-ZHQ p9,r8,r9]
         rw[<-z4]at q9;have j5:p8.length<=1000000000:=by rw[<-ZHQ p8,r8];exact o5.out
         exact ZPA (vs:=#[.slice A8 p8.length c8,.slice A9 p8.length c9]) rfl (ZO8 rfl) (enters_of Tryz.func24 (by kernel_rfl) rfl) (by simp only[List.map_toArray,List.map_cons,List.map_nil,ZE q8,ZE q9]) (ZPK (ZPV p8 p9 A8 A9 p8.length c8 c9 wq rfl z4 s8 s9 (r8.trans r9.symm) j5))
        refine KSteps.cons rfl (fun a wq ha hd=>?_) ?_
        ·exact ZO6 (ZPa (b:=true) rfl (ZE (hd 6 84))) (ZO8 rfl) rfl (Ext.refl _)
        refine KSteps.cons rfl (fun a wq ha hd=>?_) ?_
        ·exact ZO6 (ZP (v:=(.bool false)) (.inl rfl) (ZE (hd 7 85))) (ZO8 rfl) rfl (Ext.refl _)
        refine KSteps.cons rfl (fun a wq ha hd=>?_) ?_
        ·exact ZO6 (ZP (v:=(.pointer (some ⟨g,0,none⟩))) (.inl rfl) (ZI (ha.same 13))) (ZO7 rfl rfl (hd 8 86)) rfl (Ext.refl _)
        refine KSteps.cons rfl (fun a wq ha hd=>?_) ?_
        ·exact ZO6 (ZP (v:=(.string ⟨t.toArray⟩)) (.inl rfl) (ZI (ha.same 19))) (ZO7 rfl rfl (hd 8 86)) rfl (Ext.refl _)
        refine KSteps.cons rfl (fun a wq ha hd=>?_) ?_
        ·exact ZPA (vs:=#[(.pointer (some ⟨g,0,none⟩)),(.string ⟨t.toArray⟩)]) rfl (ZO7 rfl rfl (hd 8 86)) (enters_of Tryz.func16 (by kernel_rfl) rfl) (by simp only[List.map_toArray,List.map_cons,List.map_nil,ZE (show a.tmps.getD 87 undef=(.pointer (some ⟨g,0,none⟩))from(hd 9 87)),ZE (show a.tmps.getD 88 undef=(.string ⟨t.toArray⟩)from(hd 10 88))]) (ZPK (cM.out wq (j0.out.trans ha.ext)))
        refine KSteps.cons rfl (fun a wq ha hd=>?_) ?_
        ·exact ZO6 (Zi (q:= .pointer (some ⟨gF,0,none⟩)) rfl (ZI (ha.same 17)) (ZPp ((i3.out.ext (j0.out.trans ha.ext)).cell 0 rfl))) (ZO7 rfl rfl (hd 8 86)) rfl (Ext.refl _)
        refine KSteps.cons rfl (fun a wq ha hd=>?_) ?_
        ·exact ZO6 (ZP (v:=(.string ⟨t.toArray⟩)) (.inl rfl) (ZI (ha.same 19))) (ZO7 rfl rfl (hd 8 86)) rfl (Ext.refl _)
        refine KSteps.cons rfl (fun a wq ha hd=>?_) ?_
        ·exact ZPA (vs:=#[(.agg #[.slice AF nF cF]),(.string ⟨t.toArray⟩)]) rfl (ZO7 rfl rfl (hd 8 86)) (enters_of Tryz.func26 (by kernel_rfl) rfl) (by simp only[List.map_toArray,List.map_cons,List.map_nil,ZE (show a.tmps.getD 90 undef=(.agg #[.slice AF nF cF])from(hd 12 90)),ZE (show a.tmps.getD 91 undef=(.string ⟨t.toArray⟩)from(hd 13 91))]) (ZPK (cN.out wq (j0.out.trans ha.ext)))
        refine KSteps.cons rfl (fun a wq ha hd=>?_) ?_
        ·exact ZO6 (ZPZ (b:=mb) rfl (ZE (hd 11 89)) (ZE (hd 14 92)) (ZPk mb wq)) (ZO7 rfl rfl (hd 8 86)) rfl (Ext.refl _)
        refine KSteps.cons rfl (fun a wq ha hd=>?_) ?_
        ·exact ZO6 (ZPG (b:=false) (v:= .bool false) rfl (ZE (hd 8 86)) (by rw[if_neg (by decide)];exact(ZE (hd 15 93)))) (ZO8 rfl) rfl (Ext.refl _)
        refine KSteps.cons rfl (fun a wq ha hd=>?_) ?_
        ·exact ZO6 (ZP (v:=(.bool false)) (.inl rfl) (ZE (hd 16 94))) (ZO8 rfl) rfl (Ext.refl _)
        refine KSteps.cons rfl (fun a wq ha hd=>?_) ?_
        ·exact ZO6 (ZP (v:=(.pointer (some ⟨g,0,none⟩))) (.inl rfl) (ZI (ha.same 13))) (ZO7 rfl rfl (hd 17 95)) rfl (Ext.refl _)
        refine KSteps.cons rfl (fun a wq ha hd=>?_) ?_
        ·exact ZO6 (ZP (v:=(.string ⟨t.toArray⟩)) (.inl rfl) (ZI (ha.same 19))) (ZO7 rfl rfl (hd 17 95)) rfl (Ext.refl _)
        refine KSteps.cons rfl (fun a wq ha hd=>?_) ?_
        ·exact ZPA (vs:=#[(.pointer (some ⟨g,0,none⟩)),(.string ⟨t.toArray⟩)]) rfl (ZO7 rfl rfl (hd 17 95)) (enters_of Tryz.func28 (by kernel_rfl) rfl) (by simp only[List.map_toArray,List.map_cons,List.map_nil,ZE (show a.tmps.getD 96 undef=(.pointer (some ⟨g,0,none⟩))from(hd 18 96)),ZE (show a.tmps.getD 97 undef=(.string ⟨t.toArray⟩)from(hd 19 97))]) (ZPv (cX.out wq (j0.out.trans ha.ext)))
        refine KSteps.cons rfl (fun a wq ha hd=>?_) ?_
        ·exact ZO6 (ZP (v:=(.slice B nr cr)) (.inl rfl) (ZI (ha.same 16))) (ZO7 rfl rfl (hd 17 95)) rfl (Ext.refl _)
        refine KSteps.cons rfl (fun a wq ha hd=>?_) ?_
        ·exact ZO6 (ZP (v:=(.string ⟨t.toArray⟩)) (.inl rfl) (ZI (ha.same 19))) (ZO7 rfl rfl (hd 17 95)) rfl (Ext.refl _)
        refine KSteps.cons rfl (fun a wq ha hd=>?_) ?_
        ·exact ZPA (vs:=#[(.slice B nr cr),(.string ⟨t.toArray⟩)]) rfl (ZO7 rfl rfl (hd 17 95)) (enters_of Tryz.func29 (by kernel_rfl) rfl) (by simp only[List.map_toArray,List.map_cons,List.map_nil,ZE (show a.tmps.getD 99 undef=(.slice B nr cr)from(hd 21 99)),ZE (show a.tmps.getD 100 undef=(.string ⟨t.toArray⟩)from(hd 22 100))]) (ZPv (cY.out wq (j0.out.trans ha.ext)))
        refine KSteps.cons rfl (fun a wq ha hd=>?_) ?_
        ·obtain⟨A8,n8,c8,q8,r8,s8⟩:kTx LX (a.tmps.getD 98 undef) wq:=(hd 20 98)
         obtain⟨A9,n9,c9,q9,r9,s9⟩:kTx LX (a.tmps.getD 101 undef) wq:=(hd 23 101)
         have l4:=ZPJ A8 A9 n8 n9 c8 c9 _ _ wq r8 r9 s8 s9 (by rw[r8];exact g4.out) (by rw[r9];exact g4.out);rw[decide_eq_true rfl]at l4;exact ZPA (vs:=#[.slice A8 n8 c8,.slice A9 n9 c9]) rfl (ZO7 rfl rfl (hd 17 95)) (enters_of Tryz.func27 (by kernel_rfl) rfl) (by simp only[List.map_toArray,List.map_cons,List.map_nil,ZE q8,ZE q9]) (ZPK l4)
        refine KSteps.cons rfl (fun a wq ha hd=>?_) ?_
        ·exact ZO6 (ZPa (b:=true) rfl (ZE (hd 24 102))) (ZO7 rfl rfl (hd 17 95)) rfl (Ext.refl _)
        refine KSteps.cons rfl (fun a wq ha hd=>?_) ?_
        ·exact ZO6 (ZPG (b:=false) (v:= .bool false) rfl (ZE (hd 17 95)) (by rw[if_neg (by decide)];exact(ZE (hd 25 103)))) (ZO8 rfl) rfl (Ext.refl _)
        exact KSteps.nil
       case fin =>
        intro a w9 ha hh;have q104:a.tmps.getD 104 undef = .bool false:=hh 26 104 (by kernel_rfl) (by kernel_rfl);have q0:=ha.act [78,79,80,81,82,83,84,85,86,87,88,89,90,91,92,93,94,95,96,97,98,99,100,101,102,103,104] (by kernel_rfl);have s4:=ZA (j0.out.trans ha.ext);simp only[List.foldl_cons,List.foldl_nil]at q0;rw[q104]at q0;clear ha hh q104;obtain⟨fv,p2⟩:∃f:Nat->Value,∀d,a.tmps.getD d undef=f d:=⟨_,fun _=>rfl⟩
        simp only[p2]at q0;clear p2;subst q0;simp only[pz0,pz1,pz2];go_wp2_with fail
        go_meet
        case rel=>exact⟨rfl,s4⟩
      case rest =>
       obtain⟨rfl,m2⟩:=hcut;go_wp2_with fail;go_roundw
       case rel=>exact⟨k+1,by go_num,by omega,by omega,m2⟩
       case measure=>simp only[intOf];omega
     ·have u2:¬ ((k:Int)<n1)\/((k:Int)<n1/\¬ (k:Int)<20):=by omega
      obtain⟨wo,h6⟩:∃wo,wo=wr:=⟨_,rfl⟩
      subst h6;have r1:=ZA (ZPh g PF i wo (f0.out.ext hE.out) hP.out);clear y4;rcases u2 with u2 | ⟨u2,g5⟩
      all_goals
       go_wp2_with fail;refine r1.out.mono ?_;rintro e w8 ⟨p3,(⟨j,x,v5,l2,rfl,n4,q6⟩ | ⟨a3,rfl⟩)⟩
       case' inl =>
        subst v5;have g6:j<PF.length:=(List.getElem?_eq_some_iff.1 l2).1;have m6:(j:Int)<(m:Int):=by omega
        have u5:j<=1000000000:=by omega
        obtain⟨fl,t0⟩:∃fl,fl=x.e.fs.length:=⟨_,rfl⟩
        rw[<-t0];obtain⟨w9,g0⟩:∃w9,w9=w8.alloc (.cells #[.int .i64 x.seq,.int .i64 x.e.at_,.slice x.A fl x.c] 39):=⟨_,rfl⟩
        obtain⟨g20,v0⟩:∃g20,g20=w8.heap.size:=⟨_,rfl⟩
        have r0:Ext w8 w9:=by rw[g0];exact(Ext.refl w8).alloc _
        have g1:Row w9 g20 39 #[.int .i64 x.seq,.int .i64 x.e.at_,.slice x.A fl x.c]:=by rw[g0,v0];exact Row.new w8 _ _
        have k0:=(hE.out.trans p3).trans r0;have j0:=ZA k0.drew;obtain⟨A1,c1,t1,l1,_,_⟩:=ZHs Tryz.underlying22 (fun W:World=>(by kernel_rfl:(sizeOf 39).run Tryz.prog W = .ok 3 W)) (n:=m) (c:=c) (fr:=j) (k:=1) (A:=A) (by omega) q1.1 q1.2 (z0:=(j:Int)) (z:=(j:Int)+1) rfl rfl;have l5:=ZA (fun gq W (hW:Ext w9.drew W) (hc:Cells W (some ⟨gq,0,none⟩) [.int .i64 x.seq,.int .i64 x.e.at_,.slice x.A fl x.c])=>ZPg l x A A1 m c1 j fl gq w9 W hm.out (x0.out.ext (p0.out.trans k0)) l1 (by rw[hl.out];exact l2) t0 (n4.ok.ext r0) q6 ((Ext.refl _).drew.trans hW) hc);replace t1:=ZA t1;replace g1:=ZA g1;replace g0:=ZA g0;replace v0:=ZA v0;replace t0:=ZA t0;replace l2:=ZA l2;clear l1 k0 r0 p3 n4;go_wp2_with fail;rw[<-g0.out,<-v0.out]
        go_cut [135] from 119 to 135 (fun s135 wy=>s135 = .bool false/\Hid (Ext w7 wy))
        case first =>
         refine wp_region_held_drew (S:=fun _=>True) (by kernel_rfl) trivial (fun _=>?_);refine ZHI (base:=Array.replicate 17 false) (wx:=w9.drew) ⟨by kernel_rfl,of_decide_eq_true (by kernel_rfl),by kernel_rfl,by kernel_rfl⟩ (fun jj v w=>([kEq (.bool true),kEq (.bool true),kEq (.bool false),kEq (.bool false),kEq (.bool true),kEq (.bool true),kEq (.agg #[.int .i64 x.seq,.int .i64 x.e.at_,.slice x.A fl x.c]),kDc x fl,kEq (.slice A m c),kEq (.int .i64 (j:Int)),kEq (.int .i64 (j:Int)),kEq (.int .i64 ((j:Int)+1)),kEq (.slice A1 1 c1),kEq (.bool true),kEq (.bool false),kEq (.bool false),kEq (.bool false)].getD jj fun _ _=>True) v w) (ZKQ ?mono) (fun _ _=>trivial) ?hstep ?fin _ _ _ _ (by kernel_rfl) (Nat.le_of_eq (by kernel_rfl)) (fun _ h=>h) ⟨rfl,rfl,fun _ _=>rfl,Ext.refl _⟩ (fun j d h1 h2 _=>absurd (h1.symm.trans h2) (by simp))
         case mono =>
          intro p hp;simp only[List.mem_cons,List.not_mem_nil,or_false]at hp;rcases hp with rfl | rfl | rfl | rfl | rfl | rfl | rfl | rfl | rfl | rfl | rfl | rfl | rfl | rfl | rfl | rfl | rfl <;> first | exact ZOv _ | exact ZPr _ _
         case hstep =>
          apply KSteps.all (H:=(fun jj v w=>([kEq (.bool true),kEq (.bool true),kEq (.bool false),kEq (.bool false),kEq (.bool true),kEq (.bool true),kEq (.agg #[.int .i64 x.seq,.int .i64 x.e.at_,.slice x.A fl x.c]),kDc x fl,kEq (.slice A m c),kEq (.int .i64 (j:Int)),kEq (.int .i64 (j:Int)),kEq (.int .i64 ((j:Int)+1)),kEq (.slice A1 1 c1),kEq (.bool true),kEq (.bool false),kEq (.bool false),kEq (.bool false)].getD jj fun _ _=>True) v w)) (l:= [0,1,2,3,4,5,6,7,8,9,10,11,12,13,14,15,16]);rotate_left
          ·kernel_rfl
          refine KSteps.cons rfl (fun a wq ha hd=>?_) ?_
          ·exact ZO6 (ZP (v:=(.bool true)) (.inl rfl) (ZI (ha.same 21))) (ZO8 rfl) rfl (Ext.refl _)
          refine KSteps.cons rfl (fun a wq ha hd=>?_) ?_
          ·exact ZO6 (ZP (v:=(.bool true)) (.inl rfl) (ZI (ha.same 22))) (ZO8 rfl) rfl (Ext.refl _)
          refine KSteps.cons rfl (fun a wq ha hd=>?_) ?_
          ·exact ZO6 (ZPZ (b:=true) rfl (ZE (hd 0 119)) (ZE (hd 1 120)) (ZPe true _ _ wq)) (ZO8 rfl) rfl (Ext.refl _)
          refine KSteps.cons rfl (fun a wq ha hd=>?_) ?_
          ·exact ZO6 (ZP (v:=(.bool false)) (.inl rfl) (ZE (hd 2 121))) (ZO8 rfl) rfl (Ext.refl _)
          refine KSteps.cons rfl (fun a wq ha hd=>?_) ?_
          ·exact ZO6 (ZP (v:=(.bool true)) (.inl rfl) (ZI (ha.same 22))) (ZO7 rfl rfl (hd 3 122)) rfl (Ext.refl _)
          refine KSteps.cons rfl (fun a wq ha hd=>?_) ?_
          ·exact ZO6 (ZP (v:=(.bool true)) (.inl rfl) (ZE (hd 4 123))) (ZO7 rfl rfl (hd 3 122)) rfl (Ext.refl _)
          refine KSteps.cons rfl (fun a wq ha hd=>?_) ?_
          ·exact ZO6 (Zi (q:= .pointer (some ⟨g20,0,none⟩)) rfl (ZI (ha.same 20)) (ZPu (g1.out.ext ((Ext.refl _).drew.trans ha.ext)))) (ZO7 rfl rfl (hd 5 124)) rfl (Ext.refl _)
          refine KSteps.cons rfl (fun a wq ha hd=>?_) ?_
          ·have q125:a.tmps.getD 125 undef=(.agg #[.int .i64 x.seq,.int .i64 x.e.at_,.slice x.A fl x.c]):=(hd 6 125)
           exact ZO6 (ZCE (vs:=#[(0,(.agg #[.int .i64 x.seq,.int .i64 x.e.at_,.slice x.A fl x.c]))]) rfl (by simp only[List.map_toArray,List.map_cons,List.map_nil,ZE q125]) (ZPm wq x.seq x.e.at_ x.A fl x.c)) (ZO7 rfl rfl (hd 5 124)) ⟨wq.heap.size,rfl,Zg wq [.int .i64 x.seq,.int .i64 x.e.at_,.slice x.A fl x.c] _⟩ ((Ext.refl wq).alloc _)
          refine KSteps.cons rfl (fun a wq ha hd=>?_) ?_
          ·exact ZO6 (ZP (v:=(.slice A m c)) (.inl rfl) (ZI (ha.same 0))) (ZO7 rfl rfl (hd 5 124)) rfl (Ext.refl _)
          refine KSteps.cons rfl (fun a wq ha hd=>?_) ?_
          ·exact ZO6 (ZP (v:=(.int .i64 (j:Int))) (.inl rfl) (ZI (ha.same 4))) (ZO7 rfl rfl (hd 5 124)) rfl (Ext.refl _)
          refine KSteps.cons rfl (fun a wq ha hd=>?_) ?_
          ·exact ZO6 (ZP (v:=(.int .i64 (j:Int))) (.inl rfl) (ZI (ha.same 4))) (ZO7 rfl rfl (hd 5 124)) rfl (Ext.refl _)
          refine KSteps.cons rfl (fun a wq ha hd=>?_) ?_
          ·exact ZO6 (ZPn (q:= .int .i64 (j:Int)) (r:= .int .i64 1) rfl (ZE (hd 10 129)) rfl (ZPi j u5 _ _ wq)) (ZO7 rfl rfl (hd 5 124)) rfl (Ext.refl _)
          refine KSteps.cons rfl (fun a wq ha hd=>?_) ?_
          ·exact ZO6 (ZFl (q:= .slice A m c) (v:= .slice A1 1 c1) (l:=some (.int .i64 (j:Int))) (h:=some (.int .i64 ((j:Int)+1))) (m:=none) rfl (ZE (hd 8 127)) (congrArg some (ZE (hd 9 128))) (congrArg some (ZE (hd 11 130))) rfl (t1.out wq)) (ZO7 rfl rfl (hd 5 124)) rfl (Ext.refl _)
          refine KSteps.cons rfl (fun a wq ha hd=>?_) ?_
          ·obtain⟨gq,q8,s8⟩:kDc x fl (a.tmps.getD 126 undef) wq:=(hd 7 126)
           have q9:a.tmps.getD 131 undef = .slice A1 1 c1:=(hd 12 131)
           exact ZPA (vs:=#[.slice (some ⟨gq,0,none⟩) 1 1,.slice A1 1 c1]) rfl (ZO7 rfl rfl (hd 5 124)) (enters_of Tryz.func20 (by kernel_rfl) rfl) (by simp only[List.map_toArray,List.map_cons,List.map_nil,ZE q8,ZE q9]) (ZPK (l5.out gq wq ha.ext s8))
          refine KSteps.cons rfl (fun a wq ha hd=>?_) ?_
          ·exact ZO6 (ZPa (b:=true) rfl (ZE (hd 13 132))) (ZO7 rfl rfl (hd 5 124)) rfl (Ext.refl _)
          refine KSteps.cons rfl (fun a wq ha hd=>?_) ?_
          ·exact ZO6 (ZPG (b:=true) (v:= .bool false) rfl (ZE (hd 5 124)) (by rw[if_pos rfl];exact(ZE (hd 14 133)))) (ZO7 rfl rfl (hd 3 122)) rfl (Ext.refl _)
          refine KSteps.cons rfl (fun a wq ha hd=>?_) ?_
          ·exact ZO6 (ZPG (b:=false) (v:= .bool false) rfl (ZE (hd 3 122)) (by rw[if_neg (by decide)];exact(ZE (hd 15 134)))) (ZO8 rfl) rfl (Ext.refl _)
          exact KSteps.nil
         case fin =>
          intro a wz ha hh;have q135:a.tmps.getD 135 undef = .bool false:=hh 16 135 (by kernel_rfl) (by kernel_rfl);have q0:=ha.act [119,120,121,122,123,124,125,126,127,128,129,130,131,132,133,134,135] (by kernel_rfl);have p5:=ZA (j0.out.trans ha.ext);simp only[List.foldl_cons,List.foldl_nil]at q0;rw[q135]at q0;clear ha hh q135;obtain⟨fv,p2⟩:∃f:Nat->Value,∀d,a.tmps.getD d undef=f d:=⟨_,fun _=>rfl⟩
          simp only[p2]at q0;clear p2;subst q0;simp only[pz0,pz1,pz2];go_wp2_with fail
          go_meet
          case rel=>exact⟨rfl,p5⟩
        case' rest=>obtain⟨rfl,i1⟩:=hcut
       case' inr =>
        obtain⟨w9,g0⟩:∃w9,w9=w8.alloc (.cells #[.int .i64 0,.int .i64 0,.slice none 0 0] 39):=⟨_,rfl⟩
        have k0:=ZA (show Ext w7 w9 by rw[g0];exact(hE.out.trans p3).alloc _);replace g0:=ZA g0;have k1:i<0\/(0<=i/\¬ i<(m:Int)):=by omega
        go_upto_region 21 with fail;rw[<-g0.out]
        go_cut [22] from 111 to 118 (fun s22 wy=>s22 = .bool false/\wy=w9)
        case first =>
         rcases k1 with k1 | ⟨k1,d5⟩
         all_goals
          go_wp2_with fail
          go_meet
          case rel=>exact⟨by first | rfl | rw[decide_eq_false (by omega)],rfl⟩
        case' rest =>
         obtain⟨rfl,rfl⟩:=hcut;go_wp2_with fail
         go_cut [135] from 119 to 135 (fun s135 wy=>s135 = .bool false/\Hid (Ext w7 wy))
         case first =>
          go_quiet (fail);go_wp2_with fail
          go_meet
          case rel=>exact⟨rfl,ZA (k0.out.drewN _)⟩
         case' rest=>obtain⟨rfl,i1⟩:=hcut
       all_goals
        obtain⟨wc,s5⟩:∃wc,Hid (Ext w7 wc):=⟨_,i1⟩
        have dlen:=ZH2 g PF _ (f0.out.ext i1.out) hP.out.ne hP.out.few;rw[u3]at dlen;have dpart:=ZLY g PF _ (f0.out.ext i1.out) hP.out;have dfoot:=ZA (fun W (hW:Ext w7 W)=>ZHk l A m c W hm.out (x0.out.ext (p0.out.trans hW)) (by omega) h0);rw[hl.out]at dfoot;obtain⟨lo,t5,fi,la,nn,e3⟩:=ZNC PF;have c4:prtA (partD PF)=#[.int .i64 0,.int .i64 0,.int .i64 lo,.int .i64 t5,.int .i64 fi,.int .i64 la,.int .i64 nn]:=by rw[e3];rfl
        rw[c4]at dpart dfoot;have dterm:=ZA (fun W (hW:Ext w7 W)=>ZJV g PF W (f0.out.ext hW) hP.out);rw[<-b2.out]at dterm;have drng:=ZA (fun W (hW:Ext w7 W)=>ZPW g PF fr tt W (f0.out.ext hW) hP.out);have drr:=ZA (fun W (hW:Ext w7 W)=>ZPT l A m c fr tt W hm.out (x0.out.ext (p0.out.trans hW)) (by omega));rw[hl.out]at drr;have d4:=ZPU PF fr tt;rw[u3]at d4;obtain⟨LR,g3⟩:∃LR,LR=rangeD PF fr tt:=⟨_,rfl⟩
        rw[<-g3]at drng drr d4;have j3:=i1;replace dlen:=ZA dlen;replace dpart:=ZA dpart;replace g3:=ZA g3;replace e3:=ZA e3;clear c4 r1 s5;go_wp2_with fail;refine dlen.out.mono ?_;rintro e wa ⟨rfl,rfl⟩;go_wp2_with fail;refine dpart.out.mono ?_;rintro e wb ⟨rfl,h5⟩;have f1:=ZA (j3.out.trans h5);have df:=ZA (dfoot.out wb f1.out);go_wp2_with fail;refine df.out.mono ?_;rintro e wd ⟨rfl,k3⟩;have w0:=ZA (f1.out.trans k3);have dt:=ZA (dterm.out wd w0.out);go_wp2_with fail;refine dt.out.mono ?_;rintro e we ⟨rfl,rfl⟩;have d1:=ZA (drng.out _ w0.out);go_wp2_with fail;refine d1.out.mono ?_;rintro e w10 ⟨AR,nR,cR,rfl,a2,v4,x1⟩;have b0:=ZA (w0.out.trans x1);have d2:=ZA (drr.out w10 b0.out);have z3:nR<=1000000000:=by omega
        replace a2:=ZA a2;go_wp2_with fail;refine d2.out.mono ?_;rintro e w11 ⟨AS,nS,cS,rfl,a4,u4,i0⟩;obtain rfl:nR=nS:=a2.out.trans a4.symm;have d3:=ZA (ZPC AR AS nR cR cS LR w11 a2.out (v4.ext i0) u4 z3);have b1:=ZA (b0.out.trans i0);clear a4 u4 v4 i0 x1;go_wp2_with fail;refine d3.out.mono ?_;rintro e w12 ⟨rfl,o2⟩;go_wp2_with fail;refine(t4.out _).mono ?_;rintro e w13 ⟨rfl,y1⟩;go_wp2_with fail;go_ret;exact⟨rfl,((z1.out.trans (p0.out.trans b1.out)).trans o2).trans y1⟩
 ·have a3:okDs (dcs l)=false\/m=0:=by
   rw[hl];by_cases h0:m=0
   ·exact .inr h0
   ·exact .inl (by
     cases hk:okDs PF with
     | false=>rfl
     | true=>exact absurd ⟨hk,by omega⟩ v1)
  have p1:=ZA (ZCl l A m c w1 hm.out x0.out (by omega) a3);clear a3 v1;go_wp2_with fail;refine p1.out.mono ?_;rintro e w5 ⟨rfl,a1⟩;go_wp2_with fail;refine(t4.out _).mono ?_;rintro e w6 ⟨rfl,t2⟩;go_wp2_with fail;go_ret;exact⟨rfl,(n2.trans a1).trans t2⟩
end
section
open Go.ChangeShapes Go.WideShapes Go.Deep Go.RowKit
section
variable {H:Type} {enc:TypeId×Value->H} {w:World} {base:Nat} {spare:Nat->Bool} {held:Bool}
theorem ZOu {fuel:Nat} {cs:List Value} {y:DataW H×List MemPlace} (q0:cs.length=2) (h:DataW.trod enc Tryz.prog w base spare held fuel 105 cs=some y) :
 ∃f:Fd,(f.1.length<=9223372036854775807/\f.2.length<=9223372036854775807)/\f.cells=cs:=by
 obtain⟨n,one⟩:=ZGN (tys:=#[9,9]) Tryz.underlying105 (by kernel_rfl) (by kernel_rfl) h
 match cs,q0 with
 | [v0,v1],_ =>
  obtain⟨z0,h0⟩:=one 0 _ v0 rfl rfl;obtain⟨s0,e0,_,w0⟩:=DataW.trod_string Tryz.underlying9 h0;obtain rfl:v0 = .string s0:=by simpa using e0
  obtain⟨z1,h1⟩:=one 1 _ v1 rfl rfl;obtain⟨s1,e1,_,w1⟩:=DataW.trod_string Tryz.underlying9 h1;obtain rfl:v1 = .string s1:=by simpa using e1
  refine⟨(s0.data.toList,s1.data.toList),⟨(ZCv w0).2,(ZCv w1).2⟩,?_⟩;unfold Fd.cells;rw[(ZCv w0).1,(ZCv w1).1]
theorem ZOz {fuel:Nat} {cs:List Value} {y:DataW H×List MemPlace} (q0:cs.length=2) (h:DataW.trod enc Tryz.prog w base spare held fuel 37 cs=some y) :
 ∃x:EvC,(x.e.Ok w x.A/\I64ok' x.e.at_)/\x.cells=cs:=by
 obtain⟨n,one⟩:=ZGN (tys:=#[3,35]) Tryz.underlying37 (by kernel_rfl) (by kernel_rfl) h
 match cs,q0 with
 | [v0,v1],_ =>
  obtain⟨z0,h0⟩:=one 0 _ v0 rfl rfl;obtain⟨k0,e0,_,w0⟩:=DataW.trod_int Tryz.underlying3 h0;obtain rfl:v0 = .int .i64 k0:=by simpa using e0
  obtain⟨z1,h1⟩:=one 1 _ v1 rfl rfl;obtain⟨A,c,fs,rfl,hc,_,_,hl,p0⟩:=ZF9 (cellsA:=Fd.cells) Tryz.underlying35 (by kernel_rfl) (by omega:0<2) (fun _=>rfl) (fun _ _ _ a b=>ZOu a b) h1;exact⟨⟨⟨k0,fs⟩,A,c⟩,⟨⟨hc,hl,p0⟩,ZM9 w0⟩,rfl⟩
end
end
section
open Go.ChangeShapes Go.WideShapes Go.Deep Go.RowKit
section
variable {H:Type} {enc:TypeId×Value->H} {w:World} {base:Nat} {spare:Nat->Bool} {held:Bool}
theorem ZN7 {fuel:Nat} {cs:List Value} {y:DataW H×List MemPlace} (t0:cs.length=3) (h:DataW.trod enc Tryz.prog w base spare held fuel 39 cs=some y) :
 ∃x:DocC,(x.e.Ok w x.A/\I64ok' x.e.at_/\I64ok' x.seq)/\x.cells=cs:=by
 obtain⟨y0,y1,n,_,_,h0,h1⟩:=trod_struct2 Tryz.underlying39 h
 match cs,t0 with
 | [v0,v1,v2],_ =>
  have g0:Tryz.prog.cellsOf 3=1:=by kernel_rfl
  have m0:Tryz.prog.cellsOf 37=2:=by kernel_rfl
  have p0:DataW.trod enc Tryz.prog w base spare held n 3 [v0]=some y0:=by
   have h2:=h0;simp only[g0]at h2;exact h2
  have j0:DataW.trod enc Tryz.prog w base spare held n 37 [v1,v2]=some y1:=by
   have h2:=h1;simp only[m0]at h2;exact h2
  obtain⟨k0,e0,_,w0⟩:=DataW.trod_int Tryz.underlying3 p0;obtain rfl:v0 = .int .i64 k0:=by simpa using e0
  obtain⟨x,⟨u0,x0⟩,q0⟩:=ZOz rfl j0;refine⟨⟨k0,x.e,x.A,x.c⟩,⟨u0,x0,ZM9 w0⟩,?_⟩;unfold EvC.cells at q0;unfold DocC.cells;rw[<-q0]
theorem ZNS {fuel:Nat} {v:Value} {x:DataW H×List MemPlace} (h:DataW.trod enc Tryz.prog w base spare held fuel 22 [v]=some x) :
 ∃(A:Option Addr) (c:Nat) (l:List DocC),v = .slice A l.length c/\DocsOk w A l/\l.length<=c/\l.length<=9223372036854775807/\(l ≠ []->∀a,A=some a->a.spot=none):=by
 obtain⟨A,c,l,rfl,hc,hs,h0,hl,hx⟩:=ZF9 (cellsA:=DocC.cells) (Q:=fun x:DocC=>x.e.Ok w x.A/\I64ok' x.e.at_/\I64ok' x.seq) Tryz.underlying22 (by kernel_rfl) (by omega:0<3) (fun _=>rfl) (fun _ _ _ a b=>ZN7 a b) h;exact⟨A,c,l,rfl,⟨hc,hx⟩,h0,hl,fun q0 a ha=>(hs q0 a ha).2⟩
end
end
end Go.Proofs.YtkdcnhnaiknaaaaGreat
