/- Texts of one proof, joined. -/
import Derived.Test.YtkdcnhnaiknaaaaGreatPB08
import Derived.Test.YtkdcnhnaiknaaaaGreatPB07
import Derived.Test.YtkdcnhnaiknaaaaGreatPB09
import Derived.Test.YtkdcnhnaiknaaaaGreatPB04
import Derived.Deep.RegionHeld3
import Derived.Deep.CutRange
import Derived.Deep.DeepCutAuto
import Derived.Test.YtkdcnhnaiknaaaaGreatPB03
import Derived.Test.YtkdcnhnaiknaaaaGreatPB05
import Derived.Test.YtkdcnhnaiknaaaaGreatPB06
import Derived.Test.YtkdcnhnaiknaaaaGreatPB02
set_option linter.unusedSimpArgs false
set_option linter.unusedVariables false
set_option maxRecDepth 100000
set_option maxHeartbeats 16000000
namespace Go.Proofs.YtkdcnhnaiknaaaaGreat
section
open Go.RowKit Go.Maps
theorem IdxM.look {w:World} {M:Nat} {rows:List (List UInt8×List Po)} (h:IdxM w M rows) {r:List UInt8×List Po} (hr:r∈rows) (hs:r.1.length<=9223372036854775807) :
 ∃(ps:List PoC) (A:Option Addr) (c:Nat),psP ps=r.2/\PosOk w A ps/\(∀a,A=some a->a.spot=none)/\ps.length<=c/\∀W,Ext w W->(Instr.lookup 91 (.map (some M)) (.string ⟨r.1.toArray⟩) false).run Tryz.prog W = .ok (.slice A ps.length c) W:=by
 obtain⟨L,hL,h0⟩:=h;obtain⟨ps,A,c,q0,h1,h2,h3,h4⟩:=h0 r hr;refine⟨ps,A,c,h1,h2,h3,h4,fun W hE=>?_⟩;have hz:(zeroValue 43).run Tryz.prog W = .ok (.slice none 0 0) W:=by kernel_rfl
 rcases (hL.ext hE).look ZLj Tryz.underlying91 (ZCC hs) hz false with ⟨u,hu,hr⟩ | ⟨p0,_⟩
 ·rw[hL.unique hu q0]at hr;exact hr
 ·exact absurd rfl (p0 _ q0)
theorem ZLO:Elem Tryz.prog 94 97 4 40:=⟨Tryz.underlying94,⟨_,_,rfl,rfl,rfl,rfl,rfl⟩,by omega,by omega⟩
theorem ZNC (P:List Dc):∃a b c d e,partD P = [a,b,c,d,e]:=by
 cases P with
 | nil=>exact⟨_,_,_,_,_,rfl⟩
 | cons x t=>exact⟨_,_,_,_,_,rfl⟩
theorem ZOe {X:World} {g:Nat} {a b c d e:Int} (h:Row X g 3 #[.int .i64 a,.int .i64 b,.int .i64 c,.int .i64 d,.int .i64 e]):Cells X (some ⟨g,0,none⟩) ([a,b,c,d,e].map (Value.int .i64)) :=
 .inr ⟨g,0,rfl,fun i v hv=>by
  rw[Nat.zero_add,h.get];simpa using hv⟩
theorem ZOE {X:World} {a b c d e f:Option Addr×Nat×List UInt8} (ha:In8 X a.1 a.2.2.length a.2.1 a.2.2/\a.2.2.length<=16777216) (hb:In8 X b.1 b.2.2.length b.2.1 b.2.2/\b.2.2.length<=16777216) (hc:In8 X c.1 c.2.2.length c.2.1 c.2.2/\c.2.2.length<=16777216) (hd:In8 X d.1 d.2.2.length d.2.1 d.2.2/\d.2.2.length<=16777216)
 (he:In8 X e.1 e.2.2.length e.2.1 e.2.2/\e.2.2.length<=16777216) (hf:In8 X f.1 f.2.2.length f.2.1 f.2.2/\f.2.2.length<=16777216):∀p ∈ [a,b,c,d,e,f],In8 X p.1 p.2.2.length p.2.1 p.2.2/\p.2.2.length<=16777216:=fun p hp=>by
 simp only[List.mem_cons,List.not_mem_nil,or_false]at hp;rcases hp with rfl | rfl | rfl | rfl | rfl | rfl <;> assumption
theorem ZBz {a:Act} {t:Tmp} {v:Value} (h:a.tmps.getD t undef=v):#[Operand.tmp t].map a.eval=#[v]:=by
 simp only[List.map_toArray,List.map_cons,List.map_nil,ZE h]
theorem ZHl {ops:Array Oper} {rest:List Oper} {o:Oper} {a:Act} {Q:Exit->Act->World->Prop} {w:World} {t e bytes:Nat} (E:Elem Tryz.prog t e 1 bytes) {g g' n c m c':Nat} {xs news:List Value} (hb:Cells w (some ⟨g,0,none⟩) xs) (hr:Cells w (some ⟨g',0,none⟩) news) (s x:Operand)
 (ho:o.op = .call { callee:= .builtin .append,args:=#[s,x],argTypes:=#[t,t] }) (g0:o.guard=none) (hs:a.eval s = .slice (some ⟨g,0,none⟩) n c) (hx:a.eval x = .slice (some ⟨g',0,none⟩) m c') (hn:xs.length=n) (hl:news.length=m) (h1:∀u∈news,u.oneCell'=true) (m0:n+m<=4294967296) (p0:c<n+m)
 (h:∀A1 c1 w',Buf w' w.heap.size e A1 (n+m) c1 (xs++news)->Ext w w'->wpList Tryz.prog ops Q rest (a.put o.dst (.slice A1 (n+m) c1)) w'):wpList Tryz.prog ops Q (o::rest) a w:=by
 obtain⟨i,z,hi,hz,h3,h4,h5⟩:=E.hi;have q0:(n+m)*bytes<=140737488355328:=Nat.le_trans (Nat.mul_le_mul m0 E.hb) (by omega);have h0:∀ {g:Nat} {ys:List Value},Cells w (some ⟨g,0,none⟩) ys->∀j u,ys[j]? = some u->w.cell? ((⟨g,0,none⟩:Addr).add j)=some u:=fun {g ys} hc j u hu=>by
  rcases hc with hc | ⟨g1,o1,hA,hc⟩
  ·rw[hc]at hu;cases hu
  ·cases hA;rw[Addr.add_lit];exact hc j u hu
 refine wpList_append_grows w g0 s x t ho e i z 1 bytes E.ht hi hz h3 h4 h5 (by omega) (some ⟨g,0,none⟩) n c xs hs (fun hA=>by cases hA) (by omega) (fun b j0 j u hu=>by cases j0;exact h0 hb j u hu) ⟨g',0,none⟩ m c' news hx (by omega) (h0 hr) h1 p0 (by unfold maxLen;omega) q0 fun v' w' k0 hg=>?_;obtain⟨A1,c1,rfl⟩:=ZEF k0;exact h A1 c1 w' (Buf.of_own k0) ((Ext.refl w).grown hg (fun k hk=>by cases hk))
theorem ZMy (a:Act) (v:Value):a.eval (.const v)=v:=rfl
theorem ZBM (ds:List DocC) (A:Option Addr) (m c:Nat) (w:World) (hm:m=ds.length) (h:DocsOk w A ds) (hA:∀a,A=some a->a.spot=none) (t0:m<=c) (m0:m<=1000000000) (k0:okDs (dcs ds)=false\/m=0) :
 Calls Tryz.prog 9 #[.slice A m c] w fun e w'=>e = .returned (.tuple #[.slice none 0 0,.int .i64 130])/\Ext w w':=by
 by_cases h0:okDs (dcs ds)=false
 ·have q0:=ZA (ZC7 ds A m c w hm h m0 h0);clear k0 h hm;go_enter Tryz.func9,Tryz.ntmps9;go_wp2_with fail;refine q0.out.mono ?_;rintro e w1 ⟨rfl,p0⟩;go_wp2_with fail;go_ret2;exact⟨rfl,p0⟩
 ·have g0:m=0:=k0.resolve_left h0;have j0:ds = []:=List.length_eq_zero_iff.1 (by omega);subst j0;subst g0;have q0:=ZBD [] A 0 c w rfl h hA t0 rfl (by simp[dcs,blockD]);replace q0:=ZA q0;clear k0 h hm h0;go_enter Tryz.func9,Tryz.ntmps9;go_wp2_with fail;refine q0.out.mono ?_;rintro e w1 ⟨B,cB,rfl,_,p0⟩;go_wp2_with fail;go_ret2;exact⟨rfl,p0⟩
theorem ZCg (l:List En) (x:En):encells (l ++ [x])=encells l++x.cells:=by
 unfold encells;rw[List.flatMap_append];simp
theorem ZAM (ds:List DocC) (A:Option Addr) (m c:Nat) (w:World) (hm:m=ds.length) (h:DocsOk w A ds) (hA:∀a,A=some a->a.spot=none) (m6:m<=c) (hs:SmP (dcs ds)) (h0:0<m) :
 Calls Tryz.prog 9 #[.slice A m c] w fun e w'=>OkB w (segL (dcs ds)) e w':=by
 have hB:=hs.seg;have b3:(dcs ds).length=m:=by unfold dcs;rw[List.length_map,hm]
 have g6:m<=65536:=by rw[<-b3];exact hB.n
 have v3:=ZBD ds A m c w hm h hA m6 hs.ok (by have:=hs.sz;omega);have m4:=ZA (fun W (hE:Ext w W)=>ZLM ds A m c W hm (h.ext hE) g6 (by have:=hB.pairs;omega));have x5:=ZA (fun W (hE:Ext w W)=>ZIK ds A m c W hm (h.ext hE) (by omega) h0);have y5:=ZA (fun W (hE:Ext w W)=>ZJq ds A m c W hm (h.ext hE) (by omega));obtain⟨P,hP⟩:∃P,P=dcs ds:=⟨_,rfl⟩
 rw[<-hP]at hB v3 m4 x5 y5;obtain⟨R,hR⟩:∃R,R=rowsD P:=⟨_,rfl⟩
 rw[<-hR]at m4;have c3:=hB.rows;have l2:=hB.each;have o4:=hB.posts;rw[<-hR]at c3 l2 o4;replace hB:=ZA hB;replace hP:=ZA hP;replace hR:=ZA hR;replace b3:=ZA b3;replace v3:=ZA v3;replace l2:=ZA l2;replace hm:=ZA hm;replace h:=ZA h;replace hs:=ZA hs;go_enter Tryz.func9,Tryz.ntmps9;go_wp2_with fail;refine v3.out.mono ?_;rintro e w1 ⟨B1,c1,rfl,f2,f4⟩;have t4:(encDs P).length<=16777216:=hB.out.docs;obtain⟨n1,j3⟩:∃n1,n1=(encDs P).length:=⟨_,rfl⟩
 rw[<-j3]at f2 t4 ⊢;replace j3:=ZA j3;replace f2:=ZA f2;go_wp2_with fail;refine(m4.out w1 f4).mono ?_;rintro e w2 ⟨B2,n2,c2,M,rfl,b0,r2,z3,z2⟩;rw[<-b0]at c3;replace b0:=ZA b0;replace r2:=ZA r2;replace z3:=ZA z3;have x1:=ZA (f4.trans z2);replace z2:=ZA z2;go_wp2_with fail;obtain⟨b2,g0⟩:∃b2,b2=w2.heap.size:=⟨_,rfl⟩
 have f5:w.heap.size<=b2:=by rw[g0];exact x1.out.size
 have i1:=Nat.le_of_eq g0;replace g0:=ZA g0
 go_loopw [8,9,11,12,13,39] (fun s8 s9 s11 s12 s13 s39 wr=>∃(i nB cB cE:Nat) (BA EA:Option Addr) (v11 v12 v13:Value),s11=v11/\s12=v12/\s13=v13/\s39 = .int .i64 (i:Int)/\s8 = .slice BA nB cB/\s9 = .slice EA i cE/\i<=n2/\nB<=5000000/\Hid (nB=(postB (R.take i)).length)/\Hid (Buf wr b2 5 BA nB cB ((postB (R.take i)).map B8))/\Hid (wr.ownsRow b2 97 4 (.slice EA i cE) i (encells (enOf 0 (R.take i))))/\Hid (Ext w2 wr)/\b2<=wr.heap.size) (fun _ _ _ _ _ s39 _=>n2 - (intOf s39).toNat)
 case atStart=>exact⟨0,0,0,0,none,none,_,_,_,rfl,rfl,rfl,rfl,rfl,rfl,by omega,by omega,ZA rfl,ZA (Buf.nil _ _ _),ZA (World.ownsRow_nil _ _ _ _),ZA (Ext.refl _),i1⟩
 case round =>
  obtain⟨i,nB,cB,cE,BA,EA,v11,v12,v13,rfl,rfl,rfl,rfl,rfl,rfl,hi,p2,s1,u3,d2,a0,i5⟩:=hrel;by_cases p6:i<n2
  ·obtain⟨⟨rt,rl⟩,hr⟩:∃r,R[i]? = some r:=⟨_,List.getElem?_eq_getElem (by rw[<-b0.out];exact p6)⟩
   have t3:=List.mem_of_getElem? hr;have o0:=l2.out _ t3;have v6:=ZCq (P:=P) (r:=(rt,rl)) (by rw[<-hR.out];exact t3);simp only at o0 v6;obtain⟨g2,o2,r5,s4⟩:=r2.out.cells.at_ (by rw[List.length_map,<-b0.out];omega);subst r5;have p5:=a0.out.cell (s4 i (strV rt) (by rw[List.getElem?_map,hr];rfl));unfold strV at p5;obtain⟨ps,Ap,cp,m5,j5,a4,k5,o1⟩:=z3.out.look t3 (by simp only;omega);have c0:psP ps=rl:=m5;have k2:ps.length=rl.length:=by rw[<-c0];unfold psP;rw[List.length_map]
   obtain⟨np,g3⟩:∃np,np=ps.length:=⟨_,rfl⟩
   rw[<-g3]at o1 k5 k2;have v4:=o1 wr a0.out;have m3:=ZCk ps Ap np cp wr g3 (j5.ext a0.out) a4 k5 (by rw[c0];exact o0.1) (by rw[c0];exact o0.2.2.2.1);rw[c0]at m3;have j2:postB (R.take (i+1))=postB (R.take i)++encPs rl:=by
    rw[List.take_add_one,hr,ZAm];unfold postB;simp
   have k4:enOf 0 (R.take (i+1))=enOf 0 (R.take i) ++ [⟨rt,nB,(encPs rl).length,rl.length⟩]:=by
    rw[List.take_add_one,hr,ZFd,<-s1.out,Nat.zero_add];rfl
   have s0:(postB (R.take (i+1))).length<=5000000:=by
    refine Nat.le_trans ?_ o4;have h1:=ZAm (R.take (i+1)) (R.drop (i+1));rw[List.take_append_drop]at h1;rw[h1,List.length_append];omega
   have l5:=o0.2.2.2.2;have u6:=o0.2.2.1;rw[j2,List.length_append,<-s1.out]at s0;replace o0:=ZA o0;replace j2:=ZA j2;replace k4:=ZA k4;replace o1:=ZA o1;replace m3:=ZA m3;replace g3:=ZA g3;replace hr:=ZA hr;replace k2:=ZA k2;clear t3 s4 m5 j5 c0;go_wp2_with fail;refine m3.out.mono ?_;rintro e w5 ⟨B5,c5,rfl,i2,z1⟩;have j6:=o1.out w5 (a0.out.trans z1);obtain⟨n5,g1⟩:∃n5,n5=(encPs rl).length:=⟨_,rfl⟩
   rw[<-g1]at i2 l5 s0 ⊢;have y3:=ZA (a0.out.trans z1);have j0:=z1.owns d2.out;have f0:=u3.out.ext z1;have m2:b2<=w5.heap.size:=Nat.le_trans i5 z1.size;replace i2:=ZA i2;replace g1:=ZA g1;replace j0:=ZA j0;replace f0:=ZA f0;have l0:((encPs rl).map B8).length=n5:=by rw[List.length_map];exact g1.out.symm
   have t6:np<=70000:=by have:=k2.out;omega
   have v2:w2.heap.size<=b2:=by rw[g0.out];exact Nat.le_refl _
   replace l0:=ZA l0;clear v4 p5;go_wp2_with (first
    | (at_builtin;refine ZR (us:= [.string ⟨rt.toArray⟩,.int .i64 (nB:Int),.int .i64 (n5:Int),.int .i64 (np:Int)]) (m:=1) ZLO j0.out rfl (.tmp 50) (.tmp 61) rfl rfl rfl rfl rfl (by simp[Value.oneCell']) (by omega) m2 (fun A8 c8 w8 y4 l1 k6=>?_);have s2:=ZA7 j0.out l1 f0.out (by decide);have c4:=(ZA7 j0.out l1 i2.out.2 (by decide)).cells;have s3:=ZDw j0.out l1 y3.out v2;have t5:b2<=w8.heap.size:=Nat.le_trans m2 l1.size;replace s2:=ZA s2;replace c4:=ZA c4;replace s3:=ZA s3;replace y4:=ZA y4;clear l1 k6)
    | (at_builtin;refine ZG ZV s2.out c4.out (.tmp 63) (.tmp 64) rfl rfl rfl rfl rfl l0.out (ZF _) (by omega) t5 (fun A9 c9 w9 i0 j4 t1 k3=>?_);have z4:=ZFN s2.out j4 y4.out (by decide);have h4:=t1 _ s3.out v2;have x6:b2<=w9.heap.size:=Nat.le_trans t5 j4.size;replace i0:=ZA i0;replace z4:=ZA z4;replace h4:=ZA h4;clear j4 k3 t1))
   go_roundw
   case rel =>
    refine⟨i+1,nB+n5,c9,c8,A9,A8,_,_,_,rfl,rfl,rfl,by first | rfl | (congr 1;omega),rfl,rfl,by omega,s0,ZA ?_,ZA ?_,ZA ?_,h4,x6⟩
    ·rw[j2.out,List.length_append,<-s1.out,<-g1.out]
    ·rw[j2.out,List.map_append];exact i0.out
    ·rw[k4.out,ZCg];rw[show (⟨rt,nB,(encPs rl).length,rl.length⟩:En).cells = [.string ⟨rt.toArray⟩,.int .i64 (nB:Int),.int .i64 (n5:Int),.int .i64 (np:Int)] by rw[<-g1.out,<-k2.out];rfl];exact z4.out
   case measure=>simp only[intOf];omega
  ·have u0:R.take i=R:=List.take_of_length_le (by rw[<-b0.out];omega);rw[u0]at s1 u3 d2;have g4:i=n2:=by omega
   subst g4;obtain⟨w3,y6⟩:∃w3,w3=wr:=⟨_,rfl⟩
   subst y6;have p4:=ZAL d2.out;have p3:=ZHV (enOf 0 R) EA i cE w3 (by rw[ZA5];exact b0.out) (Cells.of_own d2.out) p4.2 p4.1 (by rw[hR.out];exact hB.out.ens);have x3:=ZA (x1.out.trans a0.out);have w4:(encEs (enOf 0 R)).length<=16777216:=by rw[hR.out];exact hB.out.dic
   obtain⟨D6,x2⟩:∃D6,D6=encEs (enOf 0 R):=⟨_,rfl⟩
   rw[<-x2]at p3 w4;replace x2:=ZA x2;replace p3:=ZA p3;clear p4;go_wp2_with fail;refine p3.out.mono ?_;rintro e w6 ⟨B6,c6,rfl,n4,a2⟩;have y1:=ZA (x3.out.trans a2);have t2:=x5.out w6 y1.out;obtain⟨lo,p0,fi,la,nn,m1⟩:=ZNC P;rw[m1]at t2;have c0:prtA [lo,p0,fi,la,nn]=#[.int .i64 0,.int .i64 0,.int .i64 lo,.int .i64 p0,.int .i64 fi,.int .i64 la,.int .i64 nn]:=rfl;rw[c0]at t2;replace t2:=ZA t2;replace m1:=ZA m1;have b1:=ZA n4.2;have d0:=ZA (f2.out.2.ext (z2.out.trans (a0.out.trans a2)));have e0:=ZA (u3.out.ext a2);have f1:=ZA (r2.out.ext (a0.out.trans a2));clear c0 n4;go_wp2_with fail;refine t2.out.mono ?_;rintro e w7 ⟨rfl,p1⟩;have a6:=ZA (y1.out.trans p1);obtain rfl:=j3.out;obtain rfl:=s1.out;have r1:(timesD 0 P).length<=16777216:=hB.out.times;have y0:8<=(ofB (R.map (·.1))).length/\(ofB (R.map (·.1))).length<=131072:=by rw[hR.out];exact hB.out.bits
   have z0:(vall [lo,p0,fi,la,nn]).length<=16777216/\I64ok' lo/\I64ok' p0/\I64ok' fi/\I64ok' la/\I64ok' nn:=by
    have g5:I64ok' lo/\I64ok' p0/\I64ok' fi/\I64ok' la/\I64ok' nn:=by
     obtain⟨x0,z5⟩:∃x,ds[0]? = some x:=⟨_,List.getElem?_eq_getElem (by have:=hm.out;omega)⟩
     obtain⟨xl,a5⟩:∃x,ds[m - 1]? = some x:=⟨_,List.getElem?_eq_getElem (by have:=hm.out;omega)⟩
     have h1:=ZBa hm.out z5 a5;rw[<-hP.out,m1.out]at h1;injection h1 with e1 h1;injection h1 with e2 h1;injection h1 with e3 h1;injection h1 with e4 h1;injection h1 with e5 h1;have u0:∀d∈P,I64ok' d.2.at_:=fun d hd=>by
      rw[hP.out]at hd;unfold dcs at hd;obtain⟨x,hx,rfl⟩:=List.mem_map.1 hd;exact(h.out.each x hx).2.1
     have q0:=(h.out.each x0 (List.mem_of_getElem? z5)).2;have ql:=(h.out.each xl (List.mem_of_getElem? a5)).2;rw[e1,e2,e3,e4,e5];exact⟨ZCr _ _ q0.1 u0,ZCB _ _ q0.1 u0,q0.2,ql.2,by unfold I64ok';omega⟩
    refine⟨?_,g5⟩;have h2:=ZBE [lo,p0,fi,la,nn] (fun x hx=>by
     simp only[List.mem_cons,List.not_mem_nil,or_false]at hx;obtain⟨q1,q2,q3,q4,q5⟩:=g5;rcases hx with rfl | rfl | rfl | rfl | rfl <;> assumption) 5
    exact Nat.le_trans h2 (by decide)
   have x4:Hid (∀x ∈ [lo,p0,fi,la,nn],-9223372036854775808<=x/\x<=9223372036854775807):=ZA (fun x hx=>by
    simp only[List.mem_cons,List.not_mem_nil,or_false]at hx;obtain⟨_,q1,q2,q3,q4,q5⟩:=z0;rcases hx with rfl | rfl | rfl | rfl | rfl <;> assumption)
   have n0:i=(R.map (·.1)).length:=by rw[List.length_map];exact b0.out
   have r4:Cells w7 B2 ((R.map (·.1)).map strV):=by
    have h1:=(f1.out.ext p1).cells;rw[List.map_map];exact h1
   have d3:∀t∈R.map (·.1),t.length<=1000000000:=fun t ht=>by
    obtain⟨r,hr,rfl⟩:=List.mem_map.1 ht;have:=ZCq (P:=P) (r:=r) (by rw[<-hR.out];exact hr);omega
   have h6:i<=1000000000:=Nat.le_trans c3 (by decide);obtain⟨DT,u1⟩:∃D,D=timesD 0 P:=⟨_,rfl⟩
   obtain⟨D7,v1⟩:∃D,D=ofB (R.map (·.1)):=⟨_,rfl⟩
   obtain⟨DV,w0⟩:∃D,D=vall [lo,p0,fi,la,nn]:=⟨_,rfl⟩
   rw[<-u1]at r1;rw[<-v1]at y0;rw[<-w0]at z0;replace n0:=ZA n0;replace d3:=ZA d3;replace u1:=ZA u1;replace v1:=ZA v1;replace w0:=ZA w0;obtain⟨D1,u2⟩:∃D,D=encDs P:=⟨_,rfl⟩
   obtain⟨DP,y2⟩:∃D,D=postB R:=⟨_,rfl⟩
   rw[<-u2]at d0 t4 ⊢;rw[<-y2]at e0 p2 ⊢;replace u2:=ZA u2;replace y2:=ZA y2;go_upto_region 22 with fail;obtain⟨wx,m0⟩:∃wx,wx=w7.alloc (Obj.cells #[Value.int IntKind.i64 0,Value.int IntKind.i64 0,Value.int IntKind.i64 lo,Value.int IntKind.i64 p0,Value.int IntKind.i64 fi,Value.int IntKind.i64 la,Value.int IntKind.i64 nn] 74):=⟨_,rfl⟩
   rw[<-m0];obtain⟨bp,h3⟩:∃bp,bp=w7.heap.size:=⟨_,rfl⟩
   rw[<-h3];have k0:Ext w7 wx:=by rw[m0];exact(Ext.refl w7).alloc _
   have r0:Row wx bp 74 #[Value.int IntKind.i64 0,Value.int IntKind.i64 0,Value.int IntKind.i64 lo,Value.int IntKind.i64 p0,Value.int IntKind.i64 fi,Value.int IntKind.i64 la,Value.int IntKind.i64 nn]:=by rw[m0,h3];exact Row.new w7 _ _
   have l4:=ZA (a6.out.trans k0);have H1:=ZA (d0.out.ext (p1.trans k0));have HA:=ZA (e0.out.ext (p1.trans k0));have H6:=ZA (b1.out.ext (p1.trans k0));have HS:=ZA (r4.ext k0);have hX:Hid (Ext wx wx):=ZA (Ext.refl wx);replace r0:=ZA r0;replace m0:=ZA m0;replace h3:=ZA h3;clear p1 k0 r4 d0 e0 b1 f1;have n3:∀X,Ext wx X->Calls Tryz.prog 44 #[.slice A m c] X fun e w'=>NewB X DT e w':=fun X hx=>by rw[u1.out];exact y5.out X (l4.out.trans hx)
   have l3:∀X,Ext wx X->Calls Tryz.prog 45 #[.slice B2 i c2] X fun e w'=>NewF1 X D7 e w':=fun X hx=>by
    have h:=ZNI B2 i c2 (R.map (·.1)) X n0.out (HS.out.ext hx) h6 d3.out;rw[<-v1.out]at h;exact h
   have r3:∀X g b,FilO X b g D7->Calls Tryz.prog 46 #[.pointer (some ⟨g,0,none⟩)] X fun e w'=>NewB X D7 e w':=fun X g b hf=>ZJB g D7 X hf.fil (Nat.lt_of_lt_of_le (by decide) y0.1) y0.2;have o3:∀X g,Row X g 3 #[.int .i64 lo,.int .i64 p0,.int .i64 fi,.int .i64 la,.int .i64 nn]->Calls Tryz.prog 47 #[.slice none 0 0,.slice (some ⟨g,0,none⟩) 5 5] X fun e w'=>NewB X DV e w':=fun X g hr=>by
    have h1:=ZJU none (some ⟨g,0,none⟩) 0 0 5 5 [lo,p0,fi,la,nn] [] X rfl (.inl rfl) (fun _=>rfl) rfl (ZOe hr) (by decide) x4.out;rw[List.nil_append,<-w0.out]at h1;exact h1
   obtain⟨JN,k1⟩:∃JN,JN=joinL (framesD P):=⟨_,rfl⟩
   have a3:joinL [D1,DT,DP,D6,D7,DV]=JN:=by rw[k1,u2.out,u1.out,y2.out,x2.out,v1.out,w0.out,<-m1.out,hR.out];rfl
   have i3:∀(X:World) g BT cT bT BY cY bY BV cV bV,Ext wx X->Cells X (some ⟨g,0,none⟩) [.slice B1 D1.length c1,.slice BT DT.length cT,.slice BA DP.length cB,.slice B6 D6.length c6,.slice BY D7.length cY,.slice BV DV.length cV]->Buf X bT 5 BT DT.length cT (DT.map B8)->Buf X bY 5 BY D7.length cY (D7.map B8)->Buf X bV 5 BV DV.length cV (DV.map B8) ->
    Calls Tryz.prog 43 #[.slice (some ⟨g,0,none⟩) 6 6] X fun e w'=>∃u,e = .returned u/\kTu wx.heap.size JN u w'/\Ext X w':=fun X g BT cT bT BY cY bY BV cV bV hx hC hT hY hV=>by
    have h1:=ZLK (some ⟨g,0,none⟩) 6 6 [(B1,c1,D1),(BT,cT,DT),(BA,cB,DP),(B6,c6,D6),(BY,cY,D7),(BV,cV,DV)] X rfl hC (ZOE ⟨(H1.out.ext hx).in8,t4⟩ ⟨hT.in8,r1⟩ ⟨(HA.out.ext hx).in8,Nat.le_trans p2 (by decide)⟩ ⟨(H6.out.ext hx).in8,w4⟩ ⟨hY.in8,Nat.le_trans y0.2 (by decide)⟩ ⟨hV.in8,z0.1⟩) (by decide);refine h1.mono ?_;rintro e w' ⟨AJ,cJ,rfl,hO,hE⟩;have d5:joinL (List.map (fun(x:Option Addr×Nat×List UInt8)=>x.2.2) [(B1,c1,D1),(BT,cT,DT),(BA,cB,DP),(B6,c6,D6),(BY,cY,D7),(BV,cV,DV)])=JN:=a3;rw[d5]at hO ⊢;exact⟨_,rfl,⟨AJ,cJ,rfl,hO.1,hO.2.lower hx.size⟩,hE⟩
   replace k1:=ZA k1;replace n3:=ZA n3;replace l3:=ZA l3;replace r3:=ZA r3;replace o3:=ZA o3;replace i3:=ZA i3
   go_cut [5,16] (fun s5 s16 wy=>∃AJ cJ,s5 = .int .i64 0/\s16 = .slice AJ JN.length cJ/\Hid (Own8 wy wx.heap.size AJ JN.length cJ JN)/\Hid (Ext w wy))
   case first =>
    have t0:Ext wx wx.drew:=(Ext.refl wx).drew;refine wp_region_held_drew (S:=fun _=>True) (by kernel_rfl) trivial (fun _=>?_);refine ZHI (base:=Array.replicate 27 false) (wx:=wx.drew) ⟨by kernel_rfl,of_decide_eq_true (by kernel_rfl),by kernel_rfl,by kernel_rfl⟩ (fun j v w=>([kEq (.slice B1 D1.length c1),kEq (.slice A m c),kSl DT,kEq (.slice BA DP.length cB),kEq (.slice B6 D6.length c6),kEq (.slice B2 i c2),kFi D7,kSl D7,kEq (.pointer (some ⟨bp,2,none⟩)),kEq (.int .i64 lo),kEq (.pointer (some ⟨bp,3,none⟩)),kEq (.int .i64 p0),kEq (.pointer (some ⟨bp,4,none⟩)),kEq (.int .i64 fi),kEq (.pointer (some ⟨bp,5,none⟩)),kEq (.int .i64 la),kEq (.pointer (some ⟨bp,6,none⟩)),kEq (.int .i64 nn),kRi lo p0 fi la nn,kSl DV,kSx (.slice B1 D1.length c1) (.slice BA DP.length cB) (.slice B6 D6.length c6) DT D7 DV,kTu wx.heap.size JN,kTu wx.heap.size JN,kSj wx.heap.size JN,kEq (.int .i64 0),kSj wx.heap.size JN,kEq (.int .i64 0)].getD j fun _ _=>True) v w) (ZKQ ?mono) (fun _ _=>trivial) ?hstep ?fin _ _ _ _ (by kernel_rfl) (Nat.le_of_eq (by kernel_rfl)) (fun _ h=>h) ⟨rfl,rfl,fun _ _=>rfl,Ext.refl _⟩ (fun j d h1 h2 _=>absurd (h1.symm.trans h2) (by simp))
    case mono =>
     intro p hp;simp only[List.mem_cons,List.not_mem_nil,or_false]at hp;rcases hp with rfl | rfl | rfl | rfl | rfl | rfl | rfl | rfl | rfl | rfl | rfl | rfl | rfl | rfl | rfl | rfl | rfl | rfl | rfl | rfl | rfl | rfl | rfl | rfl | rfl | rfl | rfl <;> first | exact ZOv _ | exact ZOl _ | exact ZOm _ | exact ZOw _ _ _ _ _ | exact ZOr _ _ _ _ _ _ | exact ZOi _ _ | exact ZOn _ _
    case hstep =>
     apply KSteps.all (H:=(fun j v w=>([kEq (.slice B1 D1.length c1),kEq (.slice A m c),kSl DT,kEq (.slice BA DP.length cB),kEq (.slice B6 D6.length c6),kEq (.slice B2 i c2),kFi D7,kSl D7,kEq (.pointer (some ⟨bp,2,none⟩)),kEq (.int .i64 lo),kEq (.pointer (some ⟨bp,3,none⟩)),kEq (.int .i64 p0),kEq (.pointer (some ⟨bp,4,none⟩)),kEq (.int .i64 fi),kEq (.pointer (some ⟨bp,5,none⟩)),kEq (.int .i64 la),kEq (.pointer (some ⟨bp,6,none⟩)),kEq (.int .i64 nn),kRi lo p0 fi la nn,kSl DV,kSx (.slice B1 D1.length c1) (.slice BA DP.length cB) (.slice B6 D6.length c6) DT D7 DV,kTu wx.heap.size JN,kTu wx.heap.size JN,kSj wx.heap.size JN,kEq (.int .i64 0),kSj wx.heap.size JN,kEq (.int .i64 0)].getD j fun _ _=>True) v w)) (l:= [0,1,2,3,4,5,6,7,8,9,10,11,12,13,14,15,16,17,18,19,20,21,22,23,24,25,26]);rotate_left
     ·kernel_rfl
     refine KSteps.cons rfl (fun a w ha hd=>?_) ?_
     ·exact ZQ (ZP (v:= .slice B1 D1.length c1) (.inl rfl) (ZI (ha.same 4))) rfl rfl (Ext.refl w)
     refine KSteps.cons rfl (fun a w ha hd=>?_) ?_
     ·exact ZQ (ZP (v:= .slice A m c) (.inl rfl) (ZI (ha.same 0))) rfl rfl (Ext.refl w)
     refine KSteps.cons rfl (fun a w ha hd=>?_) ?_
     ·exact ZD0 rfl rfl (enters_of Tryz.func44 (by kernel_rfl) rfl) (ZBz (hd 1 81)) (ZLP (n3.out w (t0.trans ha.ext)))
     refine KSteps.cons rfl (fun a w ha hd=>?_) ?_
     ·exact ZQ (ZP (v:= .slice BA DP.length cB) (.inl rfl) (ZI (ha.same 8))) rfl rfl (Ext.refl w)
     refine KSteps.cons rfl (fun a w ha hd=>?_) ?_
     ·exact ZQ (ZP (v:= .slice B6 D6.length c6) (.inl rfl) (ZI (ha.same 14))) rfl rfl (Ext.refl w)
     refine KSteps.cons rfl (fun a w ha hd=>?_) ?_
     ·exact ZQ (ZP (v:= .slice B2 i c2) (.inl rfl) (ZI (ha.same 6))) rfl rfl (Ext.refl w)
     refine KSteps.cons rfl (fun a w ha hd=>?_) ?_
     ·exact ZD0 rfl rfl (enters_of Tryz.func45 (by kernel_rfl) rfl) (ZBz (hd 5 85)) ((l3.out w (t0.trans ha.ext)).mono (by rintro e w' ⟨g,rfl,_,hf,hE⟩;exact⟨_,rfl,⟨g,_,rfl,hf⟩,hE⟩))
     refine KSteps.cons rfl (fun a w ha hd=>?_) ?_
     ·obtain⟨g,b,hg,hf⟩:kFi D7 (a.tmps.getD 86 undef) w:=hd 6 86;exact ZD0 rfl rfl (enters_of Tryz.func46 (by kernel_rfl) rfl) (ZBz hg) (ZLP (r3.out w g b hf))
     refine KSteps.cons rfl (fun a w ha hd=>?_) ?_
     ·exact ZQ (ZL (q:= .pointer (some ⟨bp,0,none⟩)) rfl (ZI (ha.same 15)) (ZAC w bp).1) rfl rfl (Ext.refl w)
     refine KSteps.cons rfl (fun a w ha hd=>?_) ?_
     ·exact ZQ (Zi (q:= .pointer (some ⟨bp,2,none⟩)) rfl (ZE (hd 8 88)) (ZAJ ((r0.out.ext (t0.trans ha.ext)).cell 2 rfl))) rfl rfl (Ext.refl w)
     refine KSteps.cons rfl (fun a w ha hd=>?_) ?_
     ·exact ZQ (ZL (q:= .pointer (some ⟨bp,0,none⟩)) rfl (ZI (ha.same 15)) (ZAC w bp).2.1) rfl rfl (Ext.refl w)
     refine KSteps.cons rfl (fun a w ha hd=>?_) ?_
     ·exact ZQ (Zi (q:= .pointer (some ⟨bp,3,none⟩)) rfl (ZE (hd 10 90)) (ZAJ ((r0.out.ext (t0.trans ha.ext)).cell 3 rfl))) rfl rfl (Ext.refl w)
     refine KSteps.cons rfl (fun a w ha hd=>?_) ?_
     ·exact ZQ (ZL (q:= .pointer (some ⟨bp,0,none⟩)) rfl (ZI (ha.same 15)) (ZAC w bp).2.2.1) rfl rfl (Ext.refl w)
     refine KSteps.cons rfl (fun a w ha hd=>?_) ?_
     ·exact ZQ (Zi (q:= .pointer (some ⟨bp,4,none⟩)) rfl (ZE (hd 12 92)) (ZAJ ((r0.out.ext (t0.trans ha.ext)).cell 4 rfl))) rfl rfl (Ext.refl w)
     refine KSteps.cons rfl (fun a w ha hd=>?_) ?_
     ·exact ZQ (ZL (q:= .pointer (some ⟨bp,0,none⟩)) rfl (ZI (ha.same 15)) (ZAC w bp).2.2.2.1) rfl rfl (Ext.refl w)
     refine KSteps.cons rfl (fun a w ha hd=>?_) ?_
     ·exact ZQ (Zi (q:= .pointer (some ⟨bp,5,none⟩)) rfl (ZE (hd 14 94)) (ZAJ ((r0.out.ext (t0.trans ha.ext)).cell 5 rfl))) rfl rfl (Ext.refl w)
     refine KSteps.cons rfl (fun a w ha hd=>?_) ?_
     ·exact ZQ (ZL (q:= .pointer (some ⟨bp,0,none⟩)) rfl (ZI (ha.same 15)) (ZAC w bp).2.2.2.2) rfl rfl (Ext.refl w)
     refine KSteps.cons rfl (fun a w ha hd=>?_) ?_
     ·exact ZQ (Zi (q:= .pointer (some ⟨bp,6,none⟩)) rfl (ZE (hd 16 96)) (ZAJ ((r0.out.ext (t0.trans ha.ext)).cell 6 rfl))) rfl rfl (Ext.refl w)
     refine KSteps.cons rfl (fun a w ha hd=>?_) ?_
     ·have q0:a.tmps.getD 89 undef = .int .i64 lo:=hd 9 89;have q1:a.tmps.getD 91 undef = .int .i64 p0:=hd 11 91;have q2:a.tmps.getD 93 undef = .int .i64 fi:=hd 13 93;have q3:a.tmps.getD 95 undef = .int .i64 la:=hd 15 95;have q4:a.tmps.getD 97 undef = .int .i64 nn:=hd 17 97;exact ZQ (ZCE (vs:=#[(0,.int .i64 lo),(1,.int .i64 p0),(2,.int .i64 fi),(3,.int .i64 la),(4,.int .i64 nn)]) rfl (by simp only[List.map_toArray,List.map_cons,List.map_nil,ZE q0,ZE q1,ZE q2,ZE q3,ZE q4]) (ZNX w lo p0 fi la nn)) rfl ⟨w.heap.size,rfl,Row.new w _ _⟩ ((Ext.refl w).alloc _)
     refine KSteps.cons rfl (fun a w ha hd=>?_) ?_
     ·obtain⟨g,hg,hr⟩:kRi lo p0 fi la nn (a.tmps.getD 98 undef) w:=hd 18 98;exact ZD0 (vs:=#[.slice none 0 0,.slice (some ⟨g,0,none⟩) 5 5]) rfl rfl (enters_of Tryz.func47 (by kernel_rfl) rfl) (by simp only[List.map_toArray,List.map_cons,List.map_nil,ZE hg,ZMy]) (ZLP (o3.out w g hr))
     refine KSteps.cons rfl (fun a w ha hd=>?_) ?_
     ·have q0:a.tmps.getD 80 undef = .slice B1 D1.length c1:=hd 0 80;obtain⟨BT,cT,bT,q1,hT⟩:kSl DT (a.tmps.getD 82 undef) w:=hd 2 82;have q2:a.tmps.getD 83 undef = .slice BA DP.length cB:=hd 3 83;have q3:a.tmps.getD 84 undef = .slice B6 D6.length c6:=hd 4 84;obtain⟨BY,cY,bY,q4,hY⟩:kSl D7 (a.tmps.getD 87 undef) w:=hd 7 87;obtain⟨BV,cV,bV,q5,hV⟩:kSl DV (a.tmps.getD 99 undef) w:=hd 19 99;exact ZQ (ZCE (vs:=#[(0,.slice B1 D1.length c1),(1,.slice BT DT.length cT),(2,.slice BA DP.length cB),(3,.slice B6 D6.length c6),(4,.slice BY D7.length cY),(5,.slice BV DV.length cV)]) rfl (by simp only[List.map_toArray,List.map_cons,List.map_nil,ZE q0,ZE q1,ZE q2,ZE q3,ZE q4,ZE q5]) (ZN8 w B1 BT BA B6 BY BV _ _ _ _ _ _ _ _ _ _ _ _)) rfl ⟨w.heap.size,BT,cT,bT,BY,cY,bY,BV,cV,bV,rfl,Zg w [.slice B1 D1.length c1,.slice BT DT.length cT,.slice BA DP.length cB,.slice B6 D6.length c6,.slice BY D7.length cY,.slice BV DV.length cV] _,hT.ext ((Ext.refl w).alloc _),hY.ext ((Ext.refl w).alloc _),hV.ext ((Ext.refl w).alloc _)⟩ ((Ext.refl w).alloc _)
     refine KSteps.cons rfl (fun a w ha hd=>?_) ?_
     ·obtain⟨g,BT,cT,bT,BY,cY,bY,BV,cV,bV,q0,hC,hT,hY,hV⟩:kSx (.slice B1 D1.length c1) (.slice BA DP.length cB) (.slice B6 D6.length c6) DT D7 DV (a.tmps.getD 100 undef) w:=hd 20 100;exact ZD0 rfl rfl (enters_of Tryz.func43 (by kernel_rfl) rfl) (ZBz q0) (i3.out w g BT cT bT BY cY bY BV cV bV (t0.trans ha.ext) hC hT hY hV)
     refine KSteps.cons rfl (fun a w ha hd=>?_) ?_
     ·exact ZQ (ZP (.inl rfl) rfl) rfl (hd 21 101) (Ext.refl w)
     refine KSteps.cons rfl (fun a w ha hd=>?_) ?_
     ·obtain⟨AJ,cJ,q0,hO⟩:kTu wx.heap.size JN (a.tmps.getD 79 undef) w:=hd 22 79;exact ZQ (ZEl (v:= .slice AJ JN.length cJ) rfl (ZE q0) rfl) rfl ⟨AJ,cJ,rfl,hO⟩ (Ext.refl w)
     refine KSteps.cons rfl (fun a w ha hd=>?_) ?_
     ·obtain⟨AJ,cJ,q0,hO⟩:kTu wx.heap.size JN (a.tmps.getD 79 undef) w:=hd 22 79;exact ZQ (ZEl (v:= .int .i64 0) rfl (ZE q0) rfl) rfl rfl (Ext.refl w)
     refine KSteps.cons rfl (fun a w ha hd=>?_) ?_
     ·exact ZQ (ZP (.inr rfl) rfl) rfl (hd 23 102) (Ext.refl w)
     refine KSteps.cons rfl (fun a w ha hd=>?_) ?_
     ·exact ZQ (ZP (.inr rfl) rfl) rfl (hd 24 103) (Ext.refl w)
     exact KSteps.nil
    case fin =>
     intro a w9 ha hh;obtain⟨AJ,cJ,q16,j1⟩:kSj wx.heap.size JN (a.tmps.getD 16 undef) w9:=hh 25 16 (by kernel_rfl) (by kernel_rfl);have q5:a.tmps.getD 5 undef = .int .i64 0:=hh 26 5 (by kernel_rfl) (by kernel_rfl);have v0:=ha.act [80,81,82,83,84,85,86,87,88,89,90,91,92,93,94,95,96,97,98,99,100,101,79,102,103,16,5] (by kernel_rfl);have b5:=ZA (l4.out.trans (t0.trans ha.ext));simp only[List.foldl_cons,List.foldl_nil]at v0;rw[q16,q5]at v0;replace j1:=ZA j1;clear ha hh q16 q5;obtain⟨fv,h5⟩:∃f:Nat->Value,∀d,a.tmps.getD d undef=f d:=⟨_,fun _=>rfl⟩
     simp only[h5]at v0;clear h5;subst v0;simp only[pz0,pz1,pz2];go_wp2_with fail
     go_meet
     case rel=>exact⟨AJ,cJ,rfl,rfl,j1,b5⟩
   case rest =>
    obtain⟨AJ,cJ,rfl,rfl,j1,i4⟩:=hcut;have b6:1<=JN.length:=by
     rw[k1.out];unfold framesD joinL;rw[List.flatMap_cons,List.length_append];have:1<=(frameL (encDs P)).length:=by
      have h2:(be4 (cnext 0 (vb (encDs P).length++encDs P))).length=4:=rfl;unfold frameL;rw[List.length_append,List.length_append,h2];omega
     omega
    obtain⟨gJ,o5⟩:∃g,AJ=some ⟨g,0,none⟩:=by
     obtain⟨q1,q2,q3⟩:=j1.out.2;rcases q3 with ⟨_,h0⟩ | ⟨g,_,h,_⟩
     ·omega
     ·exact⟨g,h⟩
    subst o5;have v5:=ZMM wc #[.int .u8 76,.int .u8 83,.int .u8 69,.int .u8 71] 4 4;obtain⟨Wq,d1⟩:∃Wq,Wq=wc.alloc (Obj.cells #[Value.int IntKind.u8 76,Value.int IntKind.u8 83,Value.int IntKind.u8 69,Value.int IntKind.u8 71] 5 (4,5)):=⟨_,rfl⟩
    have a1:Ext wc Wq:=by rw[d1];exact(Ext.refl wc).alloc _
    have f3:Cells Wq (some ⟨wc.heap.size,0,none⟩) (([76,83,69,71]:List UInt8).map B8):=by
     rw[d1];exact .inr ⟨wc.heap.size,0,rfl,fun i v hv=>by
      have e:([76,83,69,71]:List UInt8).map B8 = [Value.int IntKind.u8 76,Value.int IntKind.u8 83,Value.int IntKind.u8 69,Value.int IntKind.u8 71]:=rfl;rw[e]at hv;rw[Nat.zero_add,cell_of_row _ _ _ _ _ _ (heap_alloc_new wc _)];simpa using hv⟩
    have z6:w.heap.size<=wc.heap.size:=i4.out.size;have d4:Cells Wq (some ⟨gJ,0,none⟩) (JN.map B8):=(j1.out.2.ext a1).cells;have u4:(JN.map B8).length=JN.length:=List.length_map ..;have d6:JN.length<=200000000:=by
     have h1:=ZB3 (ps:=framesD P) (fun p hp=>by
      unfold framesD at hp;simp only[List.mem_cons,List.not_mem_nil,or_false]at hp;have q1:=hB.out.docs;have q2:=hB.out.times;have q3:=hB.out.posts;have q4:=hB.out.dic;have q5:=hB.out.bits;have q6:=z0.1;rw[w0.out,<-m1.out]at q6;rcases hp with rfl | rfl | rfl | rfl | rfl | rfl
      ·exact q1
      ·exact q2
      ·exact Nat.le_trans q3 (by decide)
      ·exact q4
      ·exact Nat.le_trans q5.2 (by decide)
      ·exact q6)
     rw[k1.out];exact Nat.le_trans h1 (by show 16777236*6<=_;decide)
    have b4:w.heap.size<=Wq.heap.size:=Nat.le_trans z6 a1.size;replace f3:=ZA f3;replace d4:=ZA d4;replace u4:=ZA u4;replace d1:=ZA d1;replace a1:=ZA a1;go_wp2_with (at_builtin;rw[<-d1.out];refine ZHl ZV f3.out d4.out (.tmp 107) (.tmp 108) rfl rfl rfl rfl rfl u4.out (ZF _) (by omega) (by omega) (fun A9 c9 w9 i0 t1=>?_);replace i0:=ZA i0;replace t1:=ZA t1);go_ret2;have u5:segL (dcs ds) = [76,83,69,71]++JN:=by rw[<-hP.out,k1.out];rfl
    have k3:(segL (dcs ds)).length=4+JN.length:=by rw[u5,List.length_append];rfl
    refine⟨A9,c9,by rw[k3];rfl,⟨rfl,?_⟩,(i4.out.trans a1.out).trans t1.out⟩;rw[k3,u5,List.map_append];exact i0.out.lower b4
end
section
theorem ZBe:∀(l:List UInt8) (i n:Nat) (r:List UInt8),getV i l = .ok (n,r)->l=vb n++r/\(0<i->0<n)
 | [],i,n,r,h=>by unfold getV at h;cases h
 | x::l,i,n,r,h=>by
  have hx:=x.toNat_lt;unfold getV at h;split at h
  ·cases h
  ·split at h
   ·cases h
   ·rename_i h2;split at h
    ·rename_i h3;injection h with h;injection h with e1 e2;subst e1 e2;refine⟨?_,fun hi=>?_⟩
     ·rw[ZF4 h3];simp
     ·rcases Nat.eq_zero_or_pos x.toNat with h0 | h0
      ·exact absurd (.inr ⟨hi,h0⟩) h2
      ·exact h0
    ·rename_i h3;split at h
     ·rename_i m r1 hg;injection h with h;injection h with e1 e2;subst e1 e2;obtain⟨hl,hp⟩:=ZBe l (i+1) m r1 hg;have hm:=hp (by omega);refine⟨?_,fun _=>by omega⟩;rw[ZJg (n:=x.toNat - 128+128*m) (by omega),show (x.toNat - 128+128*m) / 128=m by omega,show (x.toNat - 128+128*m)%128+128=x.toNat by omega,List.cons_append,<-hl];simp
     ·cases h
theorem ZHt {most:Nat} {l s r:List UInt8} (h:getT most l = .ok (s,r)):l=txL s++r:=by
 unfold getT at h;split at h
 ·cases h
 ·rename_i n r0 hg;split at h
  ·cases h
  ·split at h
   ·cases h
   ·injection h with h;injection h with h1 h2;have hl:=(ZBe l 0 n r0 hg).1;have hn:s.length=n:=by rw[<-h1,List.length_take];omega
    unfold txL;rw[hn,hl,<-h1,<-h2,List.append_assoc,List.take_append_drop]
theorem ZFt:∀(k:Nat) (l:List UInt8) (fs:List Fd) (r:List UInt8),getFs k l=some (fs,r)->l=putFs fs++r/\fs.length=k
 | 0,l,fs,r,h=>by
  unfold getFs at h;injection h with h;injection h with h1 h2;subst h1 h2;exact⟨rfl,rfl⟩
 | k+1,l,fs,r,h=>by
  unfold getFs at h;split at h
  ·cases h
  ·rename_i nm r1 h1;split at h
   ·cases h
   ·rename_i tx r2 h2;split at h
    ·cases h
    ·rename_i fs2 r3 h3;injection h with h;injection h with e1 e2;subst e1 e2;obtain⟨hl,hk⟩:=ZFt k r2 fs2 r3 h3;refine⟨?_,by rw[List.length_cons,hk]⟩;rw[ZHt h1,ZHt h2,hl];unfold putFs;rw[List.flatMap_cons];unfold putF;simp
theorem ZKt {u:Nat}:zig (unzig u)=u:=by
 unfold zig unzig;split <;> split <;> omega
theorem ZIg {l:List UInt8} {e:Ev} {r:List UInt8} (h:getE l=some (e,r)):l=putE e++r/\I64ok' e.at_/\checkE e.fs=0:=by
 unfold getE at h;split at h
 ·cases h
 ·rename_i u r1 h1;split at h
  ·cases h
  ·rename_i n r2 h2;split at h
   ·cases h
   ·split at h
    ·cases h
    ·rename_i fs r3 h3;split at h
     ·rename_i hc;injection h with h;injection h with e1 e2;subst e1 e2;obtain⟨hl,hk⟩:=ZFt n r2 fs r3 h3;refine⟨?_,ZFH (Zp h1),hc⟩;unfold putE;simp only;rw[ZKt,hk,(ZBe l 0 u r1 h1).1,(ZBe r1 0 n r2 h2).1,hl];simp
     ·cases h
def skipV:Nat->List UInt8->Option (List UInt8)
 | 0,l=>some l
 | k+1,l=>match getV 0 l with
  | .error _=>none
  | .ok (_,r)=>skipV k r
def readD:Nat->Int->List UInt8->Option (List Dc)
 | 0,_,_=>some []
 | k+1,last,l=>match getV 0 l with
  | .error _=>none
  | .ok (s,r)=>if 1099511627776<s then none else match getE r with
   | none=>none
   | some (e,r2)=>if 1099511627776<last+1+s then none else match readD k (last+1+s) r2 with
    | none=>none
    | some ds=>some ((last+1+s,e)::ds)
def decDs (b:List UInt8):Option (List Dc):=match getV 0 b with
 | .error _=>none
 | .ok (n,r)=>if 65536<n then none else match skipV (2*((n+15) / 16)) r with
  | none=>none
  | some r2=>match readD n 0 r2 with
   | none=>none
   | some ds=>if okDs ds=true/\encDs ds=b then some ds else none
theorem ZAV {b:List UInt8} {ds:List Dc} (h:decDs b=some ds):okDs ds=true/\encDs ds=b:=by
 unfold decDs at h;split at h
 ·cases h
 ·split at h
  ·cases h
  ·split at h
   ·cases h
   ·split at h
    ·cases h
    ·split at h
     ·rename_i hh;injection h with h;subst h;exact hh
     ·cases h
theorem ZB5:∀(k:Nat) (last:Int) (l:List UInt8) (ds:List Dc),readD k last l=some ds->(blockD last ds).length<=l.length/\ds.length=k/\∀d∈ds,I64ok' d.2.at_/\checkE d.2.fs=0
 | 0,last,l,ds,h=>by
  unfold readD at h;injection h with h;subst h;exact⟨Nat.zero_le _,rfl,nofun⟩
 | k+1,last,l,ds,h=>by
  unfold readD at h;split at h
  ·cases h
  ·rename_i s r h1;split at h
   ·cases h
   ·split at h
    ·cases h
    ·rename_i e r2 h2;split at h
     ·cases h
     ·split at h
      ·cases h
      ·rename_i ds2 h3;injection h with h;subst h;obtain⟨i1,i2,i3⟩:=ZB5 k _ r2 ds2 h3;obtain⟨j1,j2,j3⟩:=ZIg h2;have hl:=(ZBe l 0 s r h1).1;refine⟨?_,by rw[List.length_cons,i2],fun d hd=>?_⟩
       ·show (oneD last (last+1+s,e)++blockD (last+1+s) ds2).length<=_;unfold oneD;simp only;rw[show (last+1+(s:Int) - last - 1).toNat=s by omega,hl,j1];simp only[List.length_append];omega
       ·rcases List.mem_cons.1 hd with rfl | hd
        ·exact⟨j2,j3⟩
        ·exact i3 d hd
theorem ZEn:∀(bs:List (List Dc)) (lo:Int) (r:List UInt8),(∀k:Nat,lastD lo ((bs.take k).flatMap id)<9223372036854775808/\(blockD lo ((bs.take k).flatMap id)).length<9223372036854775808)->skipV (2*bs.length) (headD lo bs++r)=some r
 | [],lo,r,_=>rfl
 | b::bs,lo,r,h=>by
  have h1:=h 1;rw[List.take_succ_cons,List.take_zero,List.flatMap_cons,List.flatMap_nil,List.append_nil]at h1;simp only[id]at h1;have ih:=ZEn bs (lastD lo b) r fun k=>by
   have:=h (k+1);rw[List.take_succ_cons,List.flatMap_cons,ZAh,Zs,List.length_append]at this;simp only[id]at this;exact⟨this.1,by omega⟩
  show skipV (2*(bs.length+1)) ((vb (lastD lo b).toNat++vb (blockD lo b).length++headD (lastD lo b) bs)++r)=_;rw[show 2*(bs.length+1)=2*bs.length+1+1 by omega,List.append_assoc,List.append_assoc];unfold skipV;rw[Zm (by omega)];simp only;unfold skipV;rw[Zm (by omega)];exact ih
theorem ZC9:∀(P:List Dc) (lo:Int),risB 1099511627777 lo (P.map (·.1))=true->0<=lo->(∀d∈P,I64ok' d.2.at_/\checkE d.2.fs=0)->readD P.length lo (blockD lo P)=some P
 | [],lo,_,_,_=>rfl
 | d::P,lo,h,p0,ha=>by
  rw[List.map_cons,risB,Bool.and_eq_true,Bool.and_eq_true]at h;have h1:=of_decide_eq_true h.1.1;have h2:=of_decide_eq_true h.1.2;obtain⟨h0,q0⟩:=ha d (List.mem_cons_self ..);have ih:=ZC9 P d.1 h.2 (by omega) fun x hx=>ha x (List.mem_cons_of_mem _ hx);show readD (P.length+1) lo (oneD lo d++blockD d.1 P)=_;unfold readD oneD;rw[List.append_assoc,Zm (by omega)];simp only;rw[if_neg (by omega),ZHw h0 q0];simp only;rw[show lo+1+(((d.1 - lo - 1).toNat:Nat):Int)=d.1 by omega,if_neg (by omega),ih]
theorem ZIL {P:List Dc} (h0:okDs P=true) (ha:∀d∈P,I64ok' d.2.at_) (g0:(blockD 0 P).length<=50000000):decDs (encDs P)=some P:=by
 have q0:=h0;unfold okDs at h0;rw[Bool.and_eq_true,Bool.and_eq_true]at h0;obtain⟨hl,hr,hc⟩:=h0;have hl:=of_decide_eq_true hl;have k0:(chunkL 16 P).length=(P.length+15) / 16:=ZZ (by omega) P;have hk:∀k:Nat,lastD 0 (((chunkL 16 P).take k).flatMap id)<9223372036854775808/\(blockD 0 (((chunkL 16 P).take k).flatMap id)).length<9223372036854775808:=fun k=>by
  rw[Zx (by omega)];have h1:=(ZAu (l:=P.take (k*16)) (lo:=0) (n:=1099511627777) (by rw[List.map_take];exact Zv _ hr) (by omega)).2;have h2:=ZAX P (k*16);omega
 have p0:=ZEn (chunkL 16 P) 0 (blockD 0 P) hk;have j0:=ZC9 P 0 hr (by omega) fun d hd=>⟨ha d hd,of_decide_eq_true (List.all_eq_true.1 hc d hd)⟩
 rw[k0]at p0;have he:encDs P=vb P.length++(headD 0 (chunkL 16 P)++blockD 0 P):=by unfold encDs;rw[List.append_assoc]
 unfold decDs;rw[he,Zm (by omega)];simp only;rw[if_neg (by omega),p0];simp only;rw[j0];simp only;rw[if_pos ⟨q0,by rw[he]⟩]
end
section
open Go.RowKit
structure DocsOwn (w:World) (base:Nat) (A:Option Addr) (c:Nat) (l:List DocC):Prop where
  own:w.ownsRow base 39 3 (.slice A l.length c) l.length (dcells l)
  each:∀x∈l,x.e.Own w base x.A x.c
  ints:∀x∈l,I64ok' x.e.at_/\I64ok' x.seq
theorem DocsOwn.ok {w:World} {base c:Nat} {A:Option Addr} {l:List DocC} (h:DocsOwn w base A c l):DocsOk w A l:=⟨Cells.of_own h.own,fun x hx=>⟨(h.each x hx).ok,h.ints x hx⟩⟩
theorem DocsOwn.nil (w:World) (base:Nat):DocsOwn w base none 0 []:=⟨⟨rfl,.inl ⟨rfl,rfl⟩⟩,nofun,nofun⟩
theorem DocsOwn.chg {w w':World} {base c:Nat} {A:Option Addr} {l:List DocC} {S:Nat->Prop} (h:DocsOwn w base A c l) (hc:Chg S w w') (hS:∀g t cs,Row w g t cs->t=105\/t=39->base<=g->¬ S g):DocsOwn w' base A c l :=
 ⟨hc.owns h.own fun g hg=>by obtain⟨cs,hr,hb⟩:=ZC h.own hg;exact hS g _ cs hr (.inr rfl) hb,fun x hx=>⟨hc.owns (h.each x hx).1 fun g hg=>by obtain⟨cs,hr,hb⟩:=ZC (h.each x hx).1 hg;exact hS g _ cs hr (.inl rfl) hb,(h.each x hx).2⟩,h.ints⟩
theorem DocsOwn.ext {w w':World} {base c:Nat} {A:Option Addr} {l:List DocC} (h:DocsOwn w base A c l) (hE:Ext w w'):DocsOwn w' base A c l:=⟨hE.owns h.own,fun x hx=>⟨hE.owns (h.each x hx).1,(h.each x hx).2⟩,h.ints⟩
theorem DocsOwn.lower {w:World} {base b c:Nat} {A:Option Addr} {l:List DocC} (h:DocsOwn w base A c l) (hb:b<=base):DocsOwn w b A c l:=⟨ZN h.own hb,fun x hx=>⟨ZN (h.each x hx).1 hb,(h.each x hx).2⟩,h.ints⟩
theorem DocsOwn.cap {w:World} {base c:Nat} {A:Option Addr} {l:List DocC} (h:DocsOwn w base A c l):l.length<=c/\∀a,A=some a->a.spot=none:=ZAL h.own
theorem ZFO:Elem Tryz.prog 22 39 3 40:=⟨Tryz.underlying22,⟨_,_,rfl,rfl,rfl,rfl,rfl⟩,by omega,by omega⟩
theorem ZBs (l:List DocC) (x:DocC):dcells (l ++ [x])=dcells l++x.cells:=by
 unfold dcells;rw[List.flatMap_append];simp
theorem Z6 (l:List DocC) (x:DocC):dcs (l ++ [x])=dcs l ++ [x.dc]:=by unfold dcs;rw[List.map_append];rfl
def SdecP (w:World) (res:Option (List Dc)) (e:Ending) (w':World):Prop:=Ext w w'/\match res with
 | some P=>∃(l:List DocC) (A:Option Addr) (c:Nat),dcs l=P/\e = .returned (.tuple #[.slice A l.length c,.int .i64 0])/\DocsOwn w' w.heap.size A c l
 | none=>e = .returned (.tuple #[.slice none 0 0,.int .i64 120])
theorem SdecP.no {w w':World} {res:Option (List Dc)} (hE:Ext w w') (h:res=none):SdecP w res (.returned (.tuple #[.slice none 0 0,.int .i64 120])) w':=by
 subst h;exact⟨hE,rfl⟩
def aheadD (read:List Dc):Option (List Dc)->Option (List Dc)
 | none=>none
 | some l=>some (read++l)
theorem ZI0 (x:Option (List Dc)):aheadD [] x=x:=by cases x <;> rfl
theorem ZI7 {k i:Nat} {L r r1:List UInt8} {n:Nat} (h:skipV k L=skipV (k - i) r) (hi:i<k) (h1:getV 0 r = .ok (n,r1)):skipV k L=skipV (k - (i+1)) r1:=by
 obtain⟨j,hj⟩:∃j,k - i=j+1:=⟨k - i - 1,by omega⟩
 rw[h,hj,show k - (i+1)=j by omega]
 conv=>lhs;unfold skipV
 rw[h1]
theorem ZLw {k i:Nat} {L r:List UInt8} {e:Nat} (h:skipV k L=skipV (k - i) r) (hi:i<k) (h1:getV 0 r = .error e):skipV k L=none:=by
 obtain⟨j,hj⟩:∃j,k - i=j+1:=⟨k - i - 1,by omega⟩
 rw[h,hj];unfold skipV;rw[h1]
theorem ZKq {k i:Nat} {L r:List UInt8} (h:skipV k L=skipV (k - i) r) (hi:k<=i):skipV k L=some r:=by
 rw[h,show k - i=0 by omega];rfl
section
variable {k i:Nat} {la0 la:Int} {read:List Dc} {L r:List UInt8} (h:readD k la0 L=aheadD read (readD (k - i) la r)) (hi:i<k)
include h hi
theorem ZKK {e:Nat} (h1:getV 0 r = .error e):readD k la0 L=none:=by
 obtain⟨j,hj⟩:∃j,k - i=j+1:=⟨k - i - 1,by omega⟩
 rw[h,hj];unfold readD;rw[h1];rfl
theorem ZLL {s:Nat} {r1:List UInt8} (h1:getV 0 r = .ok (s,r1)) (h2:1099511627776<s):readD k la0 L=none:=by
 obtain⟨j,hj⟩:∃j,k - i=j+1:=⟨k - i - 1,by omega⟩
 rw[h,hj];unfold readD;rw[h1];simp only;rw[if_pos h2];rfl
theorem ZLV {s:Nat} {r1:List UInt8} (h1:getV 0 r = .ok (s,r1)) (h2:getE r1=none):readD k la0 L=none:=by
 obtain⟨j,hj⟩:∃j,k - i=j+1:=⟨k - i - 1,by omega⟩
 rw[h,hj];unfold readD;rw[h1];simp only;rw[h2];split <;> rfl
theorem ZJz {s:Nat} {r1 r2:List UInt8} {e:Ev} (h1:getV 0 r = .ok (s,r1)) (h2:getE r1=some (e,r2)) (h3:1099511627776<la+1+s):readD k la0 L=none:=by
 obtain⟨j,hj⟩:∃j,k - i=j+1:=⟨k - i - 1,by omega⟩
 rw[h,hj];unfold readD;rw[h1];simp only;rw[h2];simp only;rw[if_pos h3];split <;> rfl
theorem ZIs {s:Nat} {r1 r2:List UInt8} {e:Ev} (h1:getV 0 r = .ok (s,r1)) (h0:¬ 1099511627776<s) (h2:getE r1=some (e,r2)) (h3:¬ 1099511627776<la+1+s):readD k la0 L=aheadD (read ++ [(la+1+s,e)]) (readD (k - (i+1)) (la+1+s) r2):=by
 obtain⟨j,hj⟩:∃j,k - i=j+1:=⟨k - i - 1,by omega⟩
 rw[h,hj,show k - (i+1)=j by omega]
 conv=>lhs;unfold readD
 rw[h1];simp only;rw[if_neg h0,h2];simp only;rw[if_neg h3];cases readD j (la+1+s) r2 with
 | none=>rfl
 | some p=>simp[aheadD]
end
theorem ZKR {k i:Nat} {la0 la:Int} {read:List Dc} {L r:List UInt8} (h:readD k la0 L=aheadD read (readD (k - i) la r)) (hi:k<=i):readD k la0 L=some read:=by
 rw[h,show k - i=0 by omega];simp[readD,aheadD]
end
section
open Go.RowKit
theorem ZFx (A:Option Addr) (n c:Nat) (bs:List UInt8) (w:World) (h:In8 w A n c bs) (k2:n<=50000000) :
 Calls Tryz.prog 50 #[.slice A n c] w fun e w'=>SdecP w (decDs bs) e w':=by
 have t1:=ZA1 A n c bs w w h (Ext.refl w) (by omega);have z4:bs.length<=50000000:=by rw[<-h.len];exact k2
 obtain⟨Z,hZ⟩:∃Z,Z=decDs bs:=⟨_,rfl⟩
 rw[<-hZ];unfold decDs at hZ;cases z1:getV 0 bs with
 | error k =>
  rw[z1]at t1 hZ;have hk:=Zl bs 0 k z1;have b3:((k:Int) != 0)=true:=by simp;omega
  have hg:=ZA t1;replace hZ:=ZA hZ;clear z1 hk t1;go_enter Tryz.func50,Tryz.ntmps50;go_wp2_with fail;refine hg.out.mono ?_;rintro e w1 ⟨m1,rfl⟩;go_wp2_with fail;go_ret2;exact SdecP.no m1 hZ.out
 | ok p =>
  obtain⟨q,r⟩:=p;have k4:r.length<=50000000:=by have:=Zk z1;omega
  rw[z1]at t1 hZ;simp only at hZ;have hg:=ZA t1;unfold Got at hg;simp only at hg;clear z1 t1;by_cases t2:65536<q
  ·rw[if_pos t2]at hZ;have p4:(65536:Int)<q:=by omega
   replace hZ:=ZA hZ;go_enter Tryz.func50,Tryz.ntmps50;go_wp2_with fail;refine hg.out.mono ?_;rintro e w1 ⟨m1,A1,c1,rfl,hi1⟩;go_wp2_with fail;go_ret2;exact SdecP.no m1 hZ.out
  ·rw[if_neg t2]at hZ;have p4:¬ (65536:Int)<q:=by omega
   obtain⟨K,hK⟩:∃K,K=2*((q+15) / 16):=⟨_,rfl⟩
   rw[<-hK]at hZ;replace hZ:=ZA hZ;go_enter Tryz.func50,Tryz.ntmps50;go_wp2_with fail;refine hg.out.mono ?_;rintro e w1 ⟨m1,A1,c1,rfl,hi1⟩;go_wp2_with fail;have u3:2*(((q:Int)+16 - 1) / 16)=(K:Int):=by omega
   rw[u3];have y4:K<=100000:=by omega
   replace hK:=ZA hK;have i2:=ZA m1;have k3:=ZA hi1;clear u3 hg m1 hi1;have s1:=ZA (fun A n c r W (h:In8 w A n c r) (hw:Ext w W) (k2:n<=1000000000)=>ZA1 A n c r w W h hw k2)
   go_loopw [5,31] (fun s5 s31 wr=>∃(i:Nat) (rr:List UInt8) (A3:Option Addr) (c3:Nat),s31 = .int .u64 (i:Int)/\s5 = .slice A3 rr.length c3/\i<=K/\rr.length<=50000000/\Hid (skipV K r=skipV (K - i) rr)/\Hid (In8 w A3 rr.length c3 rr)/\Hid (Ext w wr)) (fun _ s31 _=>K - (intOf s31).toNat)
   case atStart=>exact⟨0,r,A1,c1,rfl,rfl,by omega,k4,ZA rfl,k3,i2⟩
   case round =>
    obtain⟨i,rr,A3,c3,rfl,rfl,hi,j4,d2,q2,hE⟩:=hrel;by_cases a3:i<K
    ·have q0:=s1.out A3 rr.length c3 rr wr q2.out hE.out (by omega);cases hv:getV 0 rr with
     | error k =>
      have d0:=ZLw d2.out a3 hv;have hk:=Zl rr 0 k hv;have b3:((k:Int) != 0)=true:=by simp;omega
      rw[hv]at q0;have g0:Z=none:=by rw[hZ.out,d0]
      replace g0:=ZA g0;replace q0:=ZA q0;clear hv hk d0;go_wp2_with fail;refine q0.out.mono ?_;rintro e w2 ⟨p0,rfl⟩;go_wp2_with fail;go_ret2;exact SdecP.no (hE.out.trans p0) g0.out
     | ok p =>
      obtain⟨v,r1⟩:=p;have x4:=ZA (ZI7 d2.out a3 hv);have j2:=Zk hv;rw[hv]at q0;unfold Got at q0;simp only at q0;replace q0:=ZA q0;clear hv;go_wp2_with fail;refine q0.out.mono ?_;rintro e w2 ⟨p0,A4,c4,rfl,l3⟩;go_wp2_with fail;exact⟨⟨i+1,r1,A4,c4,by go_num,rfl,by omega,by omega,x4,ZA l3,ZA (hE.out.trans p0)⟩,by simp only[intOf];omega⟩
    ·obtain rfl:i=K:=by omega
     have u0:=ZKq d2.out (Nat.le_refl _);have o0:=hZ.out;rw[u0]at o0;simp only at o0;replace o0:=ZA o0;clear u0 d2;go_wp2_with fail;have s2:=ZA (fun A n c r W (h:In8 w A n c r) (hw:Ext w W) (k2:n<=1000000000)=>ZJo A n c r w W h hw k2)
     go_loopw [5,7,8,43] (fun s5 s7 s8 s43 wr=>∃(j:Nat) (read:List DocC) (rr2:List UInt8) (A3 B:Option Addr) (c3 d:Nat) (la:Int),s43 = .int .u64 (j:Int)/\s5 = .slice A3 rr2.length c3/\s7 = .slice B j d/\s8 = .int .i64 la/\j<=q/\rr2.length<=50000000/\0<=la/\la<=1099511627776/\Hid (j=read.length)/\Hid (readD q 0 rr=aheadD (dcs read) (readD (q - j) la rr2))/\Hid (DocsOwn wr w.heap.size B d read)/\Hid (In8 w A3 rr2.length c3 rr2)/\Hid (Ext w wr)) (fun _ _ _ s43 _=>q - (intOf s43).toNat)
     case atStart=>exact⟨0,[],rr,A3,none,c3,0,0,rfl,rfl,rfl,rfl,by omega,j4,by omega,by omega,ZA rfl,ZA (by show _=aheadD [] _;rw[ZI0];rfl),ZA (DocsOwn.nil _ _),q2,hE⟩
     case round =>
      clear q2 hE;obtain⟨j,read,rr2,A4,B,c4,d,la,rfl,rfl,rfl,rfl,hj,g4,r3,s3,v1,g1,z0,q2,hE⟩:=hrel;by_cases p2:j<q
      ·have q0:=s1.out A4 rr2.length c4 rr2 wr q2.out hE.out (by omega);have g0:readD q 0 rr=none->Hid (Z=none):=fun hn=>ZA (by rw[o0.out,hn]);replace g0:=ZA g0;cases hv:getV 0 rr2 with
       | error k =>
        have d0:=g0.out (ZKK g1.out p2 hv);have hk:=Zl rr2 0 k hv;have b3:((k:Int) != 0)=true:=by simp;omega
        rw[hv]at q0;replace q0:=ZA q0;clear hv hk;go_wp2_with fail;refine q0.out.mono ?_;rintro e w2 ⟨p0,rfl⟩;go_wp2_with fail;go_ret2;exact SdecP.no (hE.out.trans p0) d0.out
       | ok p =>
        obtain⟨s,r1⟩:=p;have j2:=Zk hv;rw[hv]at q0;unfold Got at q0;simp only at q0;replace q0:=ZA q0;by_cases u2:1099511627776<s
        ·have d0:=g0.out (ZLL g1.out p2 hv u2);have m4:(1099511627776:Int)<s:=by omega
         clear hv;go_wp2_with fail;refine q0.out.mono ?_;rintro e w2 ⟨p0,A5,c5,rfl,j3⟩;go_wp2_with fail;go_ret2;exact SdecP.no (hE.out.trans p0) d0.out
        ·have m4:¬ (1099511627776:Int)<s:=by omega
         have a4:IntKind.i64.wrap (s:Int)=(s:Int):=ZAK (by omega) (by omega);obtain⟨sq,x1⟩:∃sq:Int,sq=la+1+s:=⟨_,rfl⟩
         have v4:0<=sq:=by omega
         have u4:sq<=2199023255553:=by omega
         have m0:=fun(hn:getE r1=none)=>g0.out (ZLV g1.out p2 hv hn);have l0:=fun e r2 (h1:getE r1=some (e,r2)) (h2:1099511627776<sq)=>g0.out (ZJz g1.out p2 hv h1 (by rw[<-x1];exact h2));have k0:=fun e r2 (h1:getE r1=some (e,r2)) (h2:¬ 1099511627776<sq)=>ZIs g1.out p2 hv u2 h1 (by rw[<-x1];exact h2);rw[<-x1]at k0;replace x1:=ZA x1;replace m0:=ZA m0;replace l0:=ZA l0;replace k0:=ZA k0;clear hv g1;go_wp2_with fail;refine q0.out.mono ?_;rintro e w2 ⟨p0,A5,c5,rfl,j3⟩;go_wp2_with fail;rw[<-x1.out];obtain⟨g,hg⟩:∃g,g=w2.heap.size:=⟨_,rfl⟩
         obtain⟨W3,b1⟩:∃W3,W3=w2.alloc (.cells #[.int .i64 sq,.int .i64 0,.slice none 0 0] 39):=⟨_,rfl⟩
         have f0:Ext w2 W3:=by rw[b1];exact(Ext.refl w2).alloc _
         have c2:Row W3 g 39 #[.int .i64 sq,.int .i64 0,.slice none 0 0]:=by rw[b1,hg];exact Row.new w2 _ _
         rw[<-b1,<-hg];have b2:w.heap.size<=g:=by rw[hg];exact(hE.out.trans p0).size
         have g2:=ZA (z0.out.ext p0);have q1:=ZA ((hE.out.trans p0).trans f0);have c0:=s2.out A5 r1.length c5 r1 W3 j3 q1.out (by omega);replace b1:=ZA b1;replace c2:=ZA c2;replace hg:=ZA hg;replace f0:=ZA f0;clear j3;cases r0:getE r1 with
         | none =>
          have d0:=m0.out r0;rw[r0]at c0;replace c0:=ZA c0;clear r0;go_wp2_with fail;refine c0.out.mono ?_;rintro e w4 ⟨t0,rfl⟩;have j0:=c2.out.ext t0;have e1:=j0.cell 1 rfl;have e2:=j0.cell 2 rfl;have f1:=j0.free 1;have f2:=j0.free 2;replace j0:=ZA j0;replace t0:=ZA (q1.out.trans t0);go_wp2_with fail;go_ret2;exact SdecP.no ((t0.out.setCell (p:=⟨g,1,none⟩) b2 _).setCell (p:=⟨g,2,none⟩) b2 _) d0.out
         | some p =>
          obtain⟨ev,r2⟩:=p;have m3:=ZF1 r0;have f3:=ZA (l0.out ev r2 r0);have t4:=ZA (k0.out ev r2 r0);rw[r0]at c0;unfold GotE at c0;simp only at c0;replace c0:=ZA c0;clear r0 l0 k0 m0;go_wp2_with fail;refine c0.out.mono ?_;rintro e w4 ⟨t0,B4,d4,A6,c6,rfl,v0,g3,n2⟩;unfold Ev.val;obtain⟨at_,fs⟩:=ev;simp only;have j0:=c2.out.ext t0;have e1:=j0.cell 1 rfl;have e2:=j0.cell 2 rfl;have f1:=j0.free 1;have f2:=j0.free 2;obtain⟨w5,e0⟩:∃w5,w5=(w4.setCell ⟨g,1,none⟩ (.int .i64 at_)).setCell ⟨g,2,none⟩ (.slice B4 fs.length d4):=⟨_,rfl⟩
          have v2:Row w5 g 39 #[.int .i64 sq,.int .i64 at_,.slice B4 fs.length d4]:=by rw[e0];exact(j0.put 1 _).put 2 _
          have a1:Ext w w5:=by rw[e0];exact((q1.out.trans t0).setCell (p:=⟨g,1,none⟩) b2 _).setCell (p:=⟨g,2,none⟩) b2 _
          have d1:Chg (fun k=>k=g) w4 w5:=by rw[e0];exact(Chg.of_set (S:=fun k=>k=g) w4 _ rfl).trans (Chg.of_set (S:=fun k=>k=g) _ _ rfl) fun _ _ h=>h
          have l2:Chg (fun k=>k=g) w2 w5:=(Chg.of_ext (f0.out.trans t0) _).trans d1 fun _ _ h=>h;have k1:DocsOwn w5 w.heap.size B d read:=g2.out.chg l2 fun g' t cs hr _ _ hk=>by have:=hr.lt;have:=hg.out;omega
          have p3:=q1.out.size;have x0:Ev.Own ⟨at_,fs⟩ w5 w.heap.size B4 d4:=⟨d1.owns (ZN v0.1 p3) fun k hk=>by
           obtain⟨cs,hr,_⟩:=ZC v0.1 hk;exact fun e=>Row.unlike hr j0 (by decide) e,v0.2⟩
          have y0:=v2.cell 0 rfl;have y1:=v2.cell 1 rfl;have y2:=v2.cell 2 rfl;rw[e0]at y0 y1 y2;replace j0:=ZA j0;replace e0:=ZA e0;replace v2:=ZA v2;replace a1:=ZA a1;replace k1:=ZA k1;replace x0:=ZA x0;replace v0:=ZA v0;replace g3:=ZA g3;replace n2:=ZA n2;by_cases hb:1099511627776<sq
          ·have d0:=f3.out hb;go_wp2_with fail;go_ret2;rw[<-e0.out];exact SdecP.no a1.out d0.out
          ·have v3:=ZA (t4.out (by omega));have s0:w5.ownsRow w.heap.size 39 3 (.slice B j d) j (dcells read):=by have:=k1.out.own;rw[<-v1.out]at this;exact this
           have x2:=a1.out.size;obtain⟨fl,n1⟩:∃fl,fl=fs.length:=⟨_,rfl⟩
           rw[<-n1]at y0 y1 y2 e0;have h0:=s0;have w0:=x2;rw[e0.out]at h0 w0;rw[<-n1];replace n1:=ZA n1;clear s0 x2;go_wp2_with (at_builtin;refine ZR (us:= [.int .i64 sq,.int .i64 at_,.slice B4 fl d4]) (m:=1) ZFO h0 (by simp) (.tmp 79) (.tmp 81) rfl rfl rfl rfl rfl (ZS rfl) (by omega) w0 (fun A8 c8 w8 t3 o1 o3=>?_);rw[<-e0.out]at o1 h0;replace t3:=ZA t3;replace o1:=ZA o1;have a0:=ZA h0;clear h0 o3);have hlen:(read ++ [(⟨sq,⟨at_,fs⟩,B4,d4⟩:DocC)]).length=j+1:=by rw[List.length_append,<-v1.out];rfl
           have z3:Chg (fun k'=>(Value.slice B j d).ownBlock=some k') w5 w8:=Chg.of_grown o1.out fun k' _ n3=>n3;have d3:∀k cs,Row w5 k 105 cs->¬ (Value.slice B j d).ownBlock=some k:=fun k cs hr=>ZJ a0.out hr (by decide);have e3:Ext w w8:=a1.out.grown o1.out fun k hk=>by obtain⟨_,_,hb⟩:=ZC a0.out hk;omega
           refine⟨⟨j+1,read ++ [⟨sq,⟨at_,fs⟩,B4,d4⟩],r2,A6,A8,c6,c8,sq,by go_num,rfl,rfl,rfl,by omega,by omega,by omega,by omega,ZA hlen.symm,ZA (by rw[Z6];exact v3.out),ZA ⟨?_,?_,?_⟩,g3,ZA e3⟩,by simp only[intOf];omega⟩
           ·rw[hlen,ZBs];show w8.ownsRow _ _ _ _ _ (dcells read ++ [.int .i64 sq,.int .i64 at_,.slice B4 fs.length d4]);rw[<-n1.out];exact t3.out
           ·intro x hx;rcases List.mem_append.1 hx with hx | hx
            ·exact⟨z3.owns (k1.out.each x hx).1 fun g' q3=>by obtain⟨cs,hr,_⟩:=ZC (k1.out.each x hx).1 q3;exact d3 _ _ hr,(k1.out.each x hx).2⟩
            ·rw[List.mem_singleton.1 hx];exact⟨z3.owns x0.out.1 fun g' q3=>by obtain⟨cs,hr,_⟩:=ZC x0.out.1 q3;exact d3 _ _ hr,x0.out.2⟩
           ·intro x hx;rcases List.mem_append.1 hx with hx | hx
            ·exact k1.out.ints x hx
            ·rw[List.mem_singleton.1 hx];exact⟨n2.out,by show -9223372036854775808<=sq/\sq<=9223372036854775807;omega⟩
      ·obtain rfl:j=q:=by omega
       have u0:=ZKR g1.out (Nat.le_refl _);have b0:=o0.out;rw[u0]at b0;simp only at b0;have q4:=(ZB5 _ _ _ _ u0).1;have i1:=z0.out.cap;obtain⟨P,hP⟩:∃P,P=dcs read:=⟨_,rfl⟩
       have a2:=ZBD read B j d wr v1.out z0.out.ok i1.2 (by rw[v1.out];exact i1.1);have z2:=ZC7 read B j d wr v1.out z0.out.ok (by omega);rw[<-hP]at b0 a2 z2 q4;have y3:(blockD 0 P).length<=50000000:=by omega
       cases u1:okDs P with
       | false =>
        have g0:Z=none:=by rw[b0,u1];simp
        have o2:=ZA (z2 u1);replace g0:=ZA g0;clear a2 z2 b0 o0 hZ;go_wp2_with fail;refine o2.out.mono ?_;rintro e w2 ⟨rfl,p0⟩;go_wp2_with fail;go_ret2;exact SdecP.no (hE.out.trans p0) g0.out
       | true =>
        have l1:=ZA (a2 u1 y3);rw[u1]at b0;replace b0:=ZA b0;clear a2 z2 o0 hZ;go_wp2_with fail;refine l1.out.mono ?_;rintro e w2 ⟨A9,c9,rfl,x3,p0⟩;have i3:(encDs P).length<=60000000:=by
         have h1:=ZFM u1 y3 (chunkL 16 P).length;rw[List.take_length]at h1;have j1:=u1;unfold okDs at j1;rw[Bool.and_eq_true]at j1;have h2:=of_decide_eq_true j1.1;have h3:=ZD (n:=P.length) (by omega);have h4:=ZZ (k:=16) (by omega) P;unfold encDs;rw[List.length_append,List.length_append];omega
        have n0:=ZEW A9 A (encDs P).length n c9 c (encDs P) bs w2 x3.2.in8 (h.ext (hE.out.trans p0)) (by omega) (by omega);obtain⟨ne,p1⟩:∃ne,ne=(encDs P).length:=⟨_,rfl⟩
        rw[<-p1]at n0 ⊢;have q1:=ZA (hE.out.trans p0);have m2:=ZA (z0.out.ext p0);replace p1:=ZA p1;clear x3 i3 l1;by_cases he:encDs P=bs
        ·have i0:=b0.out;rw[if_pos ⟨trivial,he⟩]at i0;rw[decide_eq_true he]at n0;replace n0:=ZA n0;replace i0:=ZA i0;replace hP:=ZA hP;clear he;go_wp2_with fail;refine n0.out.mono ?_;rintro e w3 ⟨rfl,t0⟩;go_wp2_with fail;go_ret2;rw[i0.out];refine⟨q1.out.trans t0,read,B,d,hP.out.symm,by rw[<-v1.out];rfl,m2.out.ext t0⟩
        ·have i0:=b0.out;rw[if_neg (fun x=>he x.2)]at i0;rw[decide_eq_false he]at n0;replace n0:=ZA n0;replace i0:=ZA i0;clear he;go_wp2_with fail;refine n0.out.mono ?_;rintro e w3 ⟨rfl,t0⟩;go_wp2_with fail;go_ret2;exact SdecP.no (q1.out.trans t0) i0.out
def EntD (w0:World) (g:Nat) (x:En) (r:List UInt8) (W:World) (e:Ending) (W':World):Prop:=e = .returned (.agg x.cells.toArray)/\RdD w0 g r W'/\Chg (fun k=>k=g) W W'
theorem ZMH {g i:Nat} (hi:i<3) (W:World):(Instr.index 231 (.agg #[.pointer (some ⟨g,1,none⟩),.pointer (some ⟨g,2,none⟩),.pointer (some ⟨g,3,none⟩)]) (.int .i64 (i:Int))).run Tryz.prog W = .ok (.pointer (some ⟨g,i+1,none⟩)) W:=by
 rcases (show i=0\/i=1\/i=2 by omega)with rfl | rfl | rfl
 ·show _=_
  kernel_rfl
 ·show _=_
  kernel_rfl
 ·show _=_
  kernel_rfl
def nRest (off len n:Nat) (r:List UInt8) (j:Nat):List UInt8:=if j=0 then vb off++(vb len++(vb n++r)) else if j=1 then vb len++(vb n++r) else if j=2 then vb n++r else r
def nThr (off len n j:Nat):Nat:=if j=0 then off else if j=1 then len else n
def nRow (t:List UInt8) (off len n j:Nat):Array Value:=#[.string ⟨t.toArray⟩,.int .i64 (if 0<j then (off:Int) else 0),.int .i64 (if 1<j then (len:Int) else 0),.int .i64 (if 2<j then (n:Int) else 0)]
theorem ZJL {off len n:Nat} {r:List UInt8} {j:Nat} (hj:j<3):nRest off len n r j=vb (nThr off len n j)++nRest off len n r (j+1):=by
 rcases (show j=0\/j=1\/j=2 by omega)with rfl | rfl | rfl <;> simp[nRest,nThr]
theorem ZLs {t:List UInt8} {off len n:Nat} {j:Nat} (hj:j<3):(nRow t off len n j).setIfInBounds (j+1) (.int .i64 (nThr off len n j:Int))=nRow t off len n (j+1):=by
 rcases (show j=0\/j=1\/j=2 by omega)with rfl | rfl | rfl <;> simp[nRow,nThr]
theorem ZMN (t:List UInt8) (off len n:Nat) {j:Nat} (hj:j<3):∃u,(nRow t off len n j)[j+1]? = some u:=⟨_,Array.getElem?_eq_getElem (by show j+1<4;omega)⟩
theorem ZIv (w0 W : World) (g : Nat) (la : List UInt8) (x : En) (r : List UInt8) (h : RdD w0 g (enB la x ++ r) W) (hg : w0.heap.size ≤ g) (hx : okEn x) (d3 : la.length ≤ 65) (h1 : (enB la x ++ r).length ≤ 1000000000) :
    Calls Tryz.prog 98 #[.pointer (some ⟨g, 0, none⟩), .string ⟨la.toArray⟩] W fun e W' => EntD w0 g x r W e W' := by
  obtain ⟨t, off, len, n⟩ := x
  obtain ⟨b0, b1, b2, b3⟩ := hx
  simp only at b0 b1 b2 b3
  obtain ⟨k, hk⟩ : ∃ k, k = cpl la t := ⟨_, rfl⟩
  have c3 : k ≤ t.length := by rw [hk]; exact (ZCp la t).2
  have o2 : k ≤ la.length := by rw [hk]; exact (ZCp la t).1
  have v2 : la.take k ++ t.drop k = t := by rw [hk, ZH6 la t]; exact List.take_append_drop _ _
  obtain ⟨R3, i0⟩ : ∃ R3, R3 = vb off ++ (vb len ++ (vb n ++ r)) := ⟨_, rfl⟩
  have h0 : enB la ⟨t, off, len, n⟩ ++ r = vb k ++ (txL (t.drop k) ++ R3) := by
    unfold enB
    rw [hk, i0]
    simp
  rw [h0] at h h1
  have m1 : (txL (t.drop k) ++ R3).length ≤ 1000000000 := by rw [List.length_append] at h1; omega
  have s1 : R3.length ≤ 1000000000 := by rw [List.length_append] at m1; omega
  have s2 := ZA (fun W h => ZBu w0 W g k (txL (t.drop k) ++ R3) 65 h hg (by omega) (by omega) h1)
  have m3 := ZA (fun W h => ZKs w0 W g (t.drop k) R3 h hg (by rw [List.length_drop]; omega) m1)
  have w2 := ZA (fun W q r h (hq : q ≤ 67108864) hl => ZBu w0 W g q r 67108864 h hg (by omega) (by omega) hl)
  have y2 := fun W => ZGP (l := la) o2 (z := (k : Int)) rfl W
  obtain ⟨ln, h2⟩ : ∃ ln, ln = la.length := ⟨_, rfl⟩
  have k3 : (⟨la.toArray⟩ : ByteArray).size = ln := by rw [h2]; exact ByteArray.size_mk_toArray la
  have a3 : ¬ (ln : Int) < (k : Int) := by omega
  have d2 : (⟨(la.take k).toArray⟩ : ByteArray) ++ ⟨(t.drop k).toArray⟩ = ⟨t.toArray⟩ := by
    have e : (⟨(la.take k).toArray⟩ : ByteArray) ++ ⟨(t.drop k).toArray⟩ = ⟨(la.take k ++ t.drop k).toArray⟩ := by
      apply ByteArray.ext
      simp
    rw [e, v2]
  have j3 : (⟨(la.take k).toArray⟩ : ByteArray).size = k := by rw [ByteArray.size_mk_toArray, List.length_take]; omega
  obtain ⟨tn, v1⟩ : ∃ tn, tn = (t.drop k).length := ⟨_, rfl⟩
  have g3 : (⟨(t.drop k).toArray⟩ : ByteArray).size = tn := by rw [v1]; exact ByteArray.size_mk_toArray _
  have c2 : tn ≤ 65 := by rw [v1, List.length_drop]; omega
  have n2 : k ≤ 65 := by omega
  obtain ⟨W4, z0⟩ : ∃ W4, W4 = W.alloc (.cells #[.string ⟨#[]⟩, .int .i64 0, .int .i64 0, .int .i64 0] 97) := ⟨_, rfl⟩
  obtain ⟨g4, v0⟩ : ∃ g4, g4 = W.heap.size := ⟨_, rfl⟩
  have k2 : Row W4 g4 97 #[.string ⟨#[]⟩, .int .i64 0, .int .i64 0, .int .i64 0] := by rw [z0, v0]; exact Row.new W _ _
  have d1 : RdD w0 g (vb k ++ (txL (t.drop k) ++ R3)) W4 := by rw [z0]; exact h.ext ((Ext.refl W).alloc _)
  have u1 : Chg (fun k => k = g) W W4 := by rw [z0]; exact Chg.of_ext ((Ext.refl W).alloc _) _
  have z3 : g < W.heap.size := by obtain ⟨_, _, q, _⟩ := h; exact q.lt
  have r0 : g4 ≠ g := by omega
  replace h := ZA h
  replace hk := ZA hk
  replace v2 := ZA v2
  replace i0 := ZA i0
  replace h0 := ZA h0
  replace h2 := ZA h2
  replace v1 := ZA v1
  replace k2 := ZA k2
  replace d1 := ZA d1
  replace u1 := ZA u1
  replace z0 := ZA z0
  replace v0 := ZA v0
  replace h1 := ZA h1
  replace m1 := ZA m1
  replace s1 := ZA s1
  go_enter Tryz.func98, Tryz.ntmps98
  go_wp2_with fail
  rw [← z0.out, ← v0.out]
  refine (s2.out W4 d1.out).mono ?_
  rintro e w5 ⟨rfl, e1, a0⟩
  have j2 := ZA (a0.row k2.out r0)
  replace a0 := ZA (u1.out.trans a0 fun _ _ h => h)
  replace e1 := ZA e1
  go_wp2_with fail
  have l2 : W.heap.size ≤ w5.heap.size := a0.out.size
  have n0 : W.heap.size < w5.heap.size := by have := j2.out.lt; have := v0.out; omega
  have i2 : w0.heap.size ≤ W.heap.size := by obtain ⟨_, _, _, _, q⟩ := h.out; exact q.size
  go_cut [6] (fun s6 wy => ∃ g6, s6 = .pointer (some ⟨g6, 0, none⟩) ∧ W.heap.size < g6 ∧ Hid (Row wy g6 97 #[.string ⟨t.toArray⟩, .int .i64 0, .int .i64 0, .int .i64 0]) ∧ Hid (RdD w0 g R3 wy) ∧ Hid (Row wy g4 97 #[.string ⟨#[]⟩, .int .i64 0, .int .i64 0, .int .i64 0]) ∧ Hid (Chg (fun k => k = g) W wy))
  case first =>
    have l0 := e1.out.ext (Ext.refl w5).drew
    have i1 := l0.ext ((Ext.refl w5.drew).alloc (.cells #[.string ⟨#[]⟩, .int .i64 0, .int .i64 0, .int .i64 0] 97))
    have u0 : Row (w5.drew.alloc (.cells #[.string ⟨#[]⟩, .int .i64 0, .int .i64 0, .int .i64 0] 97)) w5.heap.size 97 #[.string ⟨#[]⟩, .int .i64 0, .int .i64 0, .int .i64 0] := Row.new w5.drew _ _
    have p1 : w5.heap.size ≠ g := by omega
    have j1 := ZA (j2.out.ext (Ext.refl w5).drew)
    have g2 := ZA (j1.out.alloc (.cells #[.string ⟨#[]⟩, .int .i64 0, .int .i64 0, .int .i64 0] 97))
    have d0 := ZA (a0.out.trans (Chg.of_ext (Ext.refl w5).drew (fun k => k = g)) fun _ _ h => h)
    have x1 := ZA (d0.out.trans (Chg.of_ext ((Ext.refl w5.drew).alloc (.cells #[.string ⟨#[]⟩, .int .i64 0, .int .i64 0, .int .i64 0] 97)) (fun k => k = g)) fun _ _ h => h)
    replace u0 := ZA u0
    go_region_with ((go_at_call 155; refine (m3.out _ (by first | exact l0 | exact i1)).mono ?_; rintro e w6 ⟨rfl, t0, q0⟩; replace t0 := ZA t0; (first | (have r6 := Chg.row q0 u0.out p1; have c0 := r6.get; have f0 := r6.free; replace r6 := ZA r6) | skip); replace q0 := ZA q0))
    all_goals
      go_wp2_with fail
      go_meet
      case rel =>
        first
        | (have r6' := r6.out
           have e2 := x1.out.trans q0.out fun _ _ h => h
           have p3 := (((r6'.put 0 (.string ⟨t.toArray⟩)).put 1 (.int .i64 0)).put 2 (.int .i64 0)).put 3 (.int .i64 0)
           have m0 := (((Chg.of_set (S := fun k => k = w5.heap.size) w6 (a := ⟨w5.heap.size, 0, none⟩) (.string ⟨t.toArray⟩) rfl).trans (Chg.of_set (S := fun k => k = w5.heap.size) _ (a := ⟨w5.heap.size, 1, none⟩) (.int .i64 0) rfl) fun _ _ h => h).trans (Chg.of_set (S := fun k => k = w5.heap.size) _ (a := ⟨w5.heap.size, 2, none⟩) (.int .i64 0) rfl) fun _ _ h => h).trans (Chg.of_set (S := fun k => k = w5.heap.size) _ (a := ⟨w5.heap.size, 3, none⟩) (.int .i64 0) rfl) fun _ _ h => h
           have x0 := q0.out.row g2.out r0
           refine ⟨w5.heap.size, rfl, n0, ZA p3, ZA ?_, ZA (m0.row x0 (fun e => ?_)), ZA (e2.trans m0 fun i hi e => by omega)⟩
           · obtain ⟨B, d, q1, q2, q3⟩ := t0.out
             exact ⟨B, d, m0.row q1 (fun e => p1 e.symm), q2, q3.chg m0 fun i hi e => by omega⟩
           · have := j2.out.lt
             omega)
        | (refine ⟨w6.heap.size, rfl, Nat.lt_of_lt_of_le n0 q0.out.size, ZA (Row.new w6 _ _), ZA (t0.out.ext ((Ext.refl w6).alloc _)), ZA ((q0.out.row j1.out r0).alloc _), ZA ((d0.out.trans q0.out fun _ _ h => h).trans (Chg.of_ext ((Ext.refl w6).alloc _) _) fun _ _ h => h)⟩)
  case rest =>
    obtain ⟨g6, rfl, y3, z2, t0, x0, q0⟩ := hcut
    have o0 : g6 ≠ g := by omega
    have z1 : Hid (RdD w0 g (nRest off len n r 0) _) := ZA (by have := t0.out; rw [i0.out] at this; exact this)
    have m2 : Hid (Row _ g6 97 (nRow t off len n 0)) := z2
    have p2 : (nRest off len n r 0).length ≤ 1000000000 := by have := s1.out; rw [i0.out] at this; exact this
    replace p2 := ZA p2
    clear z2 t0
    go_wp2_with fail
    go_loopw [29] (fun s29 wr => ∃ j : Nat, s29 = .int .i64 (j : Int) ∧ j ≤ 3 ∧ Hid (RdD w0 g (nRest off len n r j) wr) ∧ Hid (Row wr g6 97 (nRow t off len n j)) ∧ Hid (Row wr g4 97 #[.string ⟨#[]⟩, .int .i64 0, .int .i64 0, .int .i64 0]) ∧ Hid (Chg (fun k => k = g) W wr) ∧ Hid ((nRest off len n r j).length ≤ 1000000000)) (fun s29 _ => 3 - (intOf s29).toNat)
    case atStart => exact ⟨0, rfl, by omega, z1, m2, x0, q0, p2⟩
    case round =>
      obtain ⟨j, rfl, hj, x2, a2, k0, u2, r2⟩ := hrel
      by_cases g1 : j < 3
      · have hx := fun W => ZMH (g := g6) g1 W
        have r1 : (j : Int) < 3 := by omega
        have t2 := ZJL (off := off) (len := len) (n := n) (r := r) g1
        have g0 := x2.out
        have s0 := r2.out
        rw [t2] at g0 s0
        have t1 := ZLs (t := t) (off := off) (len := len) (n := n) g1
        obtain ⟨u, hu⟩ := ZMN t off len n g1
        obtain ⟨v, hv⟩ : ∃ v, v = nThr off len n j := ⟨_, rfl⟩
        have t3 : v ≤ 67108864 := by rw [hv]; unfold nThr; split; exact b1; split; exact b2; exact b3
        rw [← hv] at g0 s0 t1
        have w1 : (nRest off len n r (j + 1)).length ≤ 1000000000 := by rw [List.length_append] at s0; omega
        have hc := ZA (w2.out wr v _ g0 t3 s0)
        replace w1 := ZA w1
        replace t2 := ZA t2
        replace t1 := ZA t1
        replace hu := ZA hu
        replace hv := ZA hv
        clear g0 s0
        go_wp2_with fail
        refine hc.out.mono ?_
        rintro e w8 ⟨rfl, l1, e0⟩
        have j0 := e0.row a2.out o0
        have y0 := e0.row k0.out r0
        have y1 := u2.out.trans e0 fun _ _ h => h
        have c1 := j0.cell (j + 1) hu.out
        have f1 := j0.free (j + 1)
        replace j0 := ZA j0
        replace y0 := ZA y0
        replace y1 := ZA y1
        replace l1 := ZA l1
        replace e0 := ZA e0
        go_wp2_with fail
        have n1 := Chg.of_set (S := fun k => k = g6) w8 (a := ⟨g6, j + 1, none⟩) (.int .i64 (v : Int)) rfl
        have k1 := j0.out.put (j + 1) (.int .i64 (v : Int))
        rw [t1.out] at k1
        have a1 : RdD w0 g (nRest off len n r (j + 1)) (w8.setCell ⟨g6, j + 1, none⟩ (.int .i64 (v : Int))) := by
          obtain ⟨B, d, q1, q2, q3⟩ := l1.out
          exact ⟨B, d, n1.row q1 (fun e => o0 e.symm), q2, q3.chg n1 fun i hi e => by omega⟩
        have o1 : g4 ≠ g6 := by have := v0.out; omega
        exact ⟨⟨j + 1, by congr 1, by omega, ZA a1, ZA k1, ZA (y0.out.away o1 _), ZA (y1.out.trans n1 fun i hi e => by omega), w1⟩, by simp only [intOf]; omega⟩
      · have r1 : ¬ (j : Int) < 3 := by omega
        have p0 : j = 3 := by omega
        have j0 : Row wr g6 97 #[.string ⟨t.toArray⟩, .int .i64 (off : Int), .int .i64 (len : Int), .int .i64 (n : Int)] := by
          have := a2.out
          rw [p0] at this
          exact this
        have g0 : RdD w0 g r wr := by
          have := x2.out
          rw [p0] at this
          exact this
        have v3 := j0.get
        have u3 := k0.out.get
        have x3 := k0.out.free
        replace j0 := ZA j0
        replace g0 := ZA g0
        replace p0 := ZA p0
        go_wp2_with fail
        have h3 := (((k0.out.put 0 (.string ⟨t.toArray⟩)).put 1 (.int .i64 (off : Int))).put 2 (.int .i64 (len : Int))).put 3 (.int .i64 (n : Int))
        have m0 := (((Chg.of_set (S := fun k => k = g4) wr (a := ⟨g4, 0, none⟩) (.string ⟨t.toArray⟩) rfl).trans (Chg.of_set (S := fun k => k = g4) _ (a := ⟨g4, 1, none⟩) (.int .i64 (off : Int)) rfl) fun _ _ h => h).trans (Chg.of_set (S := fun k => k = g4) _ (a := ⟨g4, 2, none⟩) (.int .i64 (len : Int)) rfl) fun _ _ h => h).trans (Chg.of_set (S := fun k => k = g4) _ (a := ⟨g4, 3, none⟩) (.int .i64 (n : Int)) rfl) fun _ _ h => h
        have f2 := v0.out
        refine bodyPost_ret (results_cell_row rfl _ _ g4 97 #[.string ⟨t.toArray⟩, .int .i64 (off : Int), .int .i64 (len : Int), .int .i64 (n : Int)] (0, 0) _ rfl h3 Tryz.underlying97 rfl (by kernel_rfl)) rfl ⟨rfl, ?_, u2.out.trans m0 fun i hi e => by omega⟩
        obtain ⟨B, d, q1, q2, q3⟩ := g0.out
        exact ⟨B, d, m0.row q1 (fun e => r0 e.symm), q2, q3.chg m0 fun i hi e => by omega⟩
def midE (l:List En) (i:Nat) (la:List UInt8):List UInt8:=blockE la ((l.drop i).take (16 - i%16))++partsE (chunkL 16 (l.drop (i+(16 - i%16))))
def restE (l:List En) (i:Nat):List UInt8:=if i%16=0 then partsE (chunkL 16 (l.drop i)) else midE l i (lastT l i)
theorem ZJN (l:List En):encEs l=vb l.length++restE l 0:=by
 unfold restE encEs;rw[if_pos (by omega),List.drop_zero]
theorem ZI9 {l:List En} {i:Nat} (h:i%16=0) (hi:i<l.length):∃q,restE l i=vb q++midE l i []/\q<=(midE l i []).length:=by
 have h0:l.drop i ≠ []:=fun e=>by
  have:=congrArg List.length e;rw[List.length_drop,List.length_nil]at this;omega
 refine⟨(blockE [] ((l.drop i).take 16)).length,?_,?_⟩
 ·unfold restE midE;rw[if_pos h,h,ZAB h0 (by omega),List.drop_drop];show vb _++blockE [] _++partsE _=_;rw[List.append_assoc]
 ·unfold midE;rw[h,List.length_append];exact Nat.le_add_right _ _
theorem ZJm {l:List En} {i:Nat} {x:En} (hx:l[i]? = some x) (la:List UInt8):midE l i la=enB la x++restE l (i+1):=by
 unfold midE;have h0:i%16<16:=Nat.mod_lt _ (by omega);rw[Zo hx,show 16 - i%16=(15 - i%16)+1 by omega,List.take_succ_cons];show (enB la x++blockE x.t _)++_=_;rw[List.append_assoc];congr 1;unfold restE;by_cases h:(i+1)%16=0
 ·rw[if_pos h,show 15 - i%16=0 by omega,List.take_zero,blockE,List.nil_append,show i+(0+1)=i+1 by omega]
 ·rw[if_neg h,ZBP hx];unfold midE;rw[show 16 - (i+1)%16=15 - i%16 by omega,show i+(15 - i%16+1)=i+1+(15 - i%16)by omega]
theorem ZOL:Elem Tryz.prog 94 97 4 40:=⟨Tryz.underlying94,⟨_,_,rfl,rfl,rfl,rfl,rfl⟩,by omega,by omega⟩
def DicR (w:World) (g:Nat) (l:List En):Prop:=∃A c,Row w g 180 #[.slice A l.length c,.bool true]/\Cells w A (encells l)
theorem DicR.ext {w w1:World} {g:Nat} {l:List En} (h:DicR w g l) (hE:Ext w w1):DicR w1 g l:=by
 obtain⟨A,c,h1,h2⟩:=h;exact⟨A,c,h1.ext hE,h2.ext hE⟩
def DicO (w:World) (base g:Nat) (l:List En):Prop:=∃A c,Row w g 180 #[.slice A l.length c,.bool true]/\w.ownsRow base 97 4 (.slice A l.length c) l.length (encells l)
theorem DicO.dic {w:World} {base g:Nat} {l:List En} (h:DicO w base g l):DicR w g l:=by
 obtain⟨A,c,h1,h2⟩:=h;exact⟨A,c,h1,Cells.of_own h2⟩
theorem DicO.ext {w w1:World} {base g:Nat} {l:List En} (h:DicO w base g l) (hE:Ext w w1):DicO w1 base g l:=by
 obtain⟨A,c,h1,h2⟩:=h;exact⟨A,c,h1.ext hE,hE.owns h2⟩
theorem DicO.chg {w w1:World} {base g:Nat} {l:List En} {S:Nat->Prop} (h:DicO w base g l) (hC:Chg S w w1) (hS:∀q,S q->∃t cs,Row w q t cs/\t≠180/\t≠97):DicO w1 base g l:=by
 obtain⟨A,c,h1,h2⟩:=h;refine⟨A,c,h1.keep (hC.block _ h1.lt fun hs=>?_),hC.owns h2 fun q hq hs=>?_⟩
 ·obtain⟨t,cs,hr,hn,_⟩:=hS _ hs;exact Row.unlike hr h1 hn rfl
 ·obtain⟨t,cs,hr,_,hn⟩:=hS _ hs;exact ZJ h2 hr (fun e=>hn e.symm) hq
def NewDO (w:World) (l:List En) (e:Ending) (w':World):Prop:=∃g,e = .returned (.tuple #[.pointer (some ⟨g,0,none⟩),.int .i64 0])/\DicO w' w.heap.size g l/\Ext w w'
theorem ZO5 (A:Option Addr) (n c:Nat) (bs:List UInt8) (w:World) (l:List En) (h:In8 w A n c bs) (n0:OkEs l) (x1:bs=encEs l) (c3:n<=100000000) :
 Calls Tryz.prog 52 #[.slice A n c] w fun e w'=>NewDO w l e w':=by
 obtain⟨m,hm⟩:∃m,m=l.length:=⟨_,rfl⟩
 have d3:m<=262144:=by rw[hm];exact n0.few
 have v0:bs=vb m++restE l 0:=by rw[x1,hm];exact ZJN l
 have l0:n=(vb m++restE l 0).length:=by rw[<-v0];exact h.len
 obtain⟨g,hg⟩:∃g,g=w.heap.size:=⟨_,rfl⟩
 obtain⟨W0,k1⟩:∃W0,W0=w.alloc (.cells #[.slice A n c,.bool false] 176):=⟨_,rfl⟩
 have f1:Ext w W0:=by rw[k1];exact(Ext.refl w).alloc _
 have g0:RdD w g (vb m++restE l 0) W0:=by
  refine⟨A,c,?_,by rw[<-l0,<-v0];exact h,f1⟩;rw[<-l0,k1,hg];exact Row.new w _ _
 have t1:=ZA (fun W q r z h1 h2 h3 h4=>ZBu w W g q r z h1 (by omega) h2 h3 h4);have j2:=ZA (fun W la x r h1 h2 h3 h4=>ZIv w W g la x r h1 (by omega) h2 h3 h4);have t2:(restE l 0).length<=n:=by rw[l0,List.length_append];omega
 replace g0:=ZA g0;replace f1:=ZA f1;replace n0:=ZA n0;replace x1:=ZA x1;replace v0:=ZA v0;replace hm:=ZA hm;replace k1:=ZA k1;replace hg:=ZA hg;replace h:=ZA h;replace l0:=ZA l0;replace t2:=ZA t2;go_enter Tryz.func52,Tryz.ntmps52;go_wp2_with fail;rw[<-k1.out,<-hg.out];refine(t1.out W0 m (restE l 0) 262144 g0.out (by omega) (by omega) (by rw[<-l0.out];omega)).mono ?_;rintro e w1 ⟨rfl,o1,c2⟩;replace o1:=ZA o1;replace c2:=ZA c2;go_wp2_with fail
 go_loopw [6,7,8] (fun s6 s7 s8 wr=>∃(i c6:Nat) (A6:Option Addr) (la:List UInt8),s6 = .slice A6 i c6/\s7 = .string ⟨la.toArray⟩/\s8 = .int .i64 (i:Int)/\i<=m/\Hid (i%16≠0->la=lastT l i)/\Hid (la.length<=65)/\Hid ((restE l i).length<=n)/\Hid (RdD w g (restE l i) wr)/\Hid (wr.ownsRow w.heap.size 97 4 (.slice A6 i c6) i (encells (l.take i)))) (fun _ _ s8 _=>m - (intOf s8).toNat)
 case atStart=>exact⟨0,0,none,[],rfl,rfl,rfl,by omega,ZA (fun h=>by omega),ZA (by simp),t2,o1,ZA (World.ownsRow_nil _ _ _ _)⟩
 case round =>
  obtain⟨i,c6,A6,la,rfl,rfl,rfl,him,v3,u2,w2,hS,u0⟩:=hrel;obtain⟨wv,rfl⟩:∃wv,wv=wr:=⟨_,rfl⟩
  obtain⟨B0,d0,r0,_,_⟩:=hS.out;have kb:=r0.cell 1 rfl;clear r0;by_cases o2:i<m
  ·obtain⟨x,o0⟩:∃x,l[i]? = some x:=⟨_,List.getElem?_eq_getElem (by rw[<-hm.out];exact o2)⟩
   have p3:=(n0.out.each x (List.mem_of_getElem? o0)).1;obtain⟨mo,g1⟩:∃mo,mo=i%16:=⟨_,rfl⟩
   have x3:(i:Int)%16=(mo:Int):=by omega
   have u3:((mo:Int)==0)=decide (mo=0):=by rw[Bool.eq_iff_iff,beq_iff_eq,decide_eq_true_iff];omega
   replace g1:=ZA g1;replace o0:=ZA o0;go_upto_if 29 with (fail)
   go_cut [7] (fun s7 wx=>∃la2:List UInt8,s7 = .string ⟨la2.toArray⟩/\Hid (la2.length<=65)/\Hid ((midE l i la2).length<=n)/\Hid (RdD w g (midE l i la2) wx)/\Hid (wx.ownsRow w.heap.size 97 4 (.slice A6 i c6) i (encells (l.take i))))
   case first =>
    by_cases x2:mo=0
    ·obtain⟨q,hq,r2⟩:=ZI9 (l:=l) (by rw[<-g1.out];exact x2) (by rw[<-hm.out];exact o2);have r1:=hS.out;have c0:=w2.out;rw[hq]at r1 c0;have a0:(midE l i []).length<=n:=by rw[List.length_append]at c0;omega
     have hc:=ZA (t1.out wv q _ (n:Int) r1 (by omega) (by omega) (by omega));replace hq:=ZA hq;replace r2:=ZA r2;replace a0:=ZA a0;clear r1 c0;go_wp2_with fail;refine hc.out.mono ?_;rintro e w3 ⟨rfl,x0,e1⟩;have k0:=e1.owns u0.out fun gb g2 e=>by
      obtain⟨B,d,q1,_,_⟩:=hS.out;exact ZJ u0.out q1 (by decide) (by rw[g2,e])
     replace x0:=ZA x0;replace k0:=ZA k0;replace e1:=ZA e1;go_wp2_with fail
     go_meet
     case rel=>exact⟨[],rfl,ZA (by simp),a0,x0,k0⟩
    ·have d1:restE l i=midE l i la:=by
      unfold restE;rw[if_neg (by rw[<-g1.out];exact x2),v3.out (by rw[<-g1.out];exact x2)]
     have x0:Hid (RdD w g (midE l i la) wv):=ZA (by rw[<-d1];exact hS.out);have a0:Hid ((midE l i la).length<=n):=ZA (by rw[<-d1];exact w2.out);replace d1:=ZA d1;go_wp2_with fail
     go_meet
     case rel=>exact⟨la,rfl,u2,a0,x0,u0⟩
   case rest =>
    obtain⟨la2,rfl,v2,a0,x0,k0⟩:=hcut;have z2:=ZJm o0.out la2;have s1:=x0.out;have b0:=a0.out;rw[z2]at s1 b0;have e0:(restE l (i+1)).length<=n:=by rw[List.length_append]at b0;omega
    have hc:=ZA (j2.out _ la2 x _ s1 p3 v2.out (by omega));have b1:=ZBP o0.out;have b2:encells (l.take (i+1))=encells (l.take i)++x.cells:=by
     rw[List.take_add_one,o0.out];unfold encells;rw[List.flatMap_append];simp
    obtain⟨t,off,len,nn⟩:=x;have f0:t.length<=65:=p3.1;simp only at b1;replace z2:=ZA z2;replace e0:=ZA e0;replace b1:=ZA b1;replace b2:=ZA b2;replace f0:=ZA f0;clear s1 b0;go_wp2_with fail;refine hc.out.mono ?_;rintro e w4 ⟨he,f2,d2⟩;have he:e = .returned (.agg #[.string ⟨t.toArray⟩,.int .i64 (off:Int),.int .i64 (len:Int),.int .i64 (nn:Int)]):=he;subst he;have m0:=d2.owns k0.out fun gb g2 e=>by
     obtain⟨B,d,q1,_,_⟩:=x0.out;exact ZJ k0.out q1 (by decide) (by rw[g2,e])
    obtain⟨g9,j1⟩:∃g9,g9=w4.heap.size:=⟨_,rfl⟩
    obtain⟨W9,i0⟩:∃W9,W9=w4.alloc (.cells #[.string ⟨t.toArray⟩,.int .i64 (off:Int),.int .i64 (len:Int),.int .i64 (nn:Int)] 97):=⟨_,rfl⟩
    have s2:Row W9 g9 97 #[.string ⟨t.toArray⟩,.int .i64 (off:Int),.int .i64 (len:Int),.int .i64 (nn:Int)]:=by rw[i0,j1];exact Row.new w4 _ _
    have i2:RdD w g (restE l (i+1)) W9:=by rw[i0];exact f2.ext ((Ext.refl w4).alloc _)
    have y0:W9.ownsRow w.heap.size 97 4 (.slice A6 i c6) i (encells (l.take i)):=by rw[i0];exact((Ext.refl w4).alloc _).owns m0
    have j0:=s2.ext (Ext.refl W9).drew;have t0:=i2.ext (Ext.refl W9).drew;have q0:=(Ext.refl W9).drew.owns y0;have a2:w.heap.size<=W9.drew.heap.size:=by obtain⟨_,_,_,_,q⟩:=t0;exact q.size
    have z0:∀k,(Value.slice A6 i c6).ownBlock=some k->k<g9:=fun k hk=>by
     obtain⟨cs,z3,_⟩:=ZC m0 hk;rw[j1];exact z3.lt
    have n2:=j0.get;have g0:W9.drew.cell? ⟨g9,0,none⟩=some (.string ⟨t.toArray⟩)/\W9.drew.cell? ⟨g9,1,none⟩=some (.int .i64 (off:Int))/\W9.drew.cell? ⟨g9,2,none⟩=some (.int .i64 (len:Int))/\W9.drew.cell? ⟨g9,3,none⟩=some (.int .i64 (nn:Int)):=⟨j0.cell 0 rfl,j0.cell 1 rfl,j0.cell 2 rfl,j0.cell 3 rfl⟩
    have w0:Ext W9.drew (W9.drew.alloc (.cells #[.string ⟨t.toArray⟩,.int .i64 (off:Int),.int .i64 (len:Int),.int .i64 (nn:Int)] 97)):=(Ext.refl _).alloc _;have p2:(W9.drew.alloc (.cells #[.string ⟨t.toArray⟩,.int .i64 (off:Int),.int .i64 (len:Int),.int .i64 (nn:Int)] 97)).cell? ⟨g9,0,none⟩=some (.string ⟨t.toArray⟩)/\(W9.drew.alloc (.cells #[.string ⟨t.toArray⟩,.int .i64 (off:Int),.int .i64 (len:Int),.int .i64 (nn:Int)] 97)).cell? ⟨g9,1,none⟩=some (.int .i64 (off:Int))/\(W9.drew.alloc (.cells #[.string ⟨t.toArray⟩,.int .i64 (off:Int),.int .i64 (len:Int),.int .i64 (nn:Int)] 97)).cell? ⟨g9,2,none⟩=some (.int .i64 (len:Int))/\(W9.drew.alloc (.cells #[.string ⟨t.toArray⟩,.int .i64 (off:Int),.int .i64 (len:Int),.int .i64 (nn:Int)] 97)).cell? ⟨g9,3,none⟩=some (.int .i64 (nn:Int)):=⟨w0.cell g0.1,w0.cell g0.2.1,w0.cell g0.2.2.1,w0.cell g0.2.2.2⟩
    have m2:∀w8,W9.drew.grownBy w8 (Value.slice A6 i c6).ownBlock->w8.cell? ⟨g9,0,none⟩=some (.string ⟨t.toArray⟩)/\w8.cell? ⟨g9,1,none⟩=some (.int .i64 (off:Int))/\w8.cell? ⟨g9,2,none⟩=some (.int .i64 (len:Int))/\w8.cell? ⟨g9,3,none⟩=some (.int .i64 (nn:Int)):=fun w8 a1=>by
     have c1:=Row.grown (w:=W9.drew) j0 a1 (fun e=>by
      have:=z0 _ e.symm;omega)
     exact⟨c1.cell 0 rfl,c1.cell 1 rfl,c1.cell 2 rfl,c1.cell 3 rfl⟩
    replace j0:=ZA j0;replace t0:=ZA t0;replace q0:=ZA q0;replace i0:=ZA i0;replace j1:=ZA j1;replace g0:=ZA g0;replace p2:=ZA p2;replace m2:=ZA m2;replace z0:=ZA z0;replace n2:=ZA n2;clear s2 i2 y0 m0 f2 d2 w0;go_wp2_with fail;rw[<-i0.out,<-j1.out]
    go_region_held3 (fun x=>x.cell? ⟨g9,0,none⟩=some (.string ⟨t.toArray⟩)/\x.cell? ⟨g9,1,none⟩=some (.int .i64 (off:Int))/\x.cell? ⟨g9,2,none⟩=some (.int .i64 (len:Int))/\x.cell? ⟨g9,3,none⟩=some (.int .i64 (nn:Int))) (first | exact g0.out | exact p2.out | exact m2.out _ ‹_›) (first | (refine ZKV (us:= [.string ⟨t.toArray⟩,.int .i64 (off:Int),.int .i64 (len:Int),.int .i64 (nn:Int)]) (m:=1) ZOL rfl q0.out rfl (.tmp 37) (.tmp 39) rfl rfl rfl rfl (ZS rfl) (by omega) a2 (fun A8 c8 w8 y3 a1=>?_)))
    go_wp2_with fail;have k3:RdD w g (restE l (i+1)) w8:=by
     obtain⟨B,d,q1,q2,q3⟩:=t0.out;refine⟨B,d,q1.grown a1 fun e=>ZJ q0.out q1 (by decide) e.symm,q2,q3.grown a1 fun k hk=>?_⟩;obtain⟨_,_,hb⟩:=ZC q0.out hk;exact hb
    have y2:w8.ownsRow w.heap.size 97 4 (.slice A8 (i+1) c8) (i+1) (encells (l.take (i+1))):=by rw[b2.out];exact y3
    exact⟨⟨i+1,c8,A8,t,rfl,rfl,rfl,by omega,ZA (fun _=>b1.out.symm),f0,e0,ZA k3,ZA y2⟩,by simp only[intOf];omega⟩
  ·obtain rfl:i=m:=by omega
   have p0:=u0.out;rw[List.take_of_length_le (by rw[<-hm.out];exact Nat.le_refl _)]at p0;have z1:=ZAL p0;have y1:=Cells.of_own p0;have v1:Ext w wv:=by obtain⟨_,_,_,_,q⟩:=hS.out;exact q
   have g3:=ZA (fun W (hE:Ext wv W/\W.cell? ⟨g,1,none⟩=some (Value.bool false))=>(ZIh l A6 i c6 W hm.out (y1.ext hE.1) n0.out).mono fun e W' ⟨he,s0⟩=>And.intro he (show Ext wv W'/\W'.cell? ⟨g,1,none⟩=some (Value.bool false)from⟨hE.1.trans s0,s0.cell hE.2⟩));have k2:=ZA (fun W (hE:Ext wv W/\W.cell? ⟨g,1,none⟩=some (Value.bool false))=>(ZEZ l A6 i c6 W hm.out (y1.ext hE.1) z1.2 z1.1 n0.out).mono fun e W' (h:OwnB _ _ _ e W')=>show ∃A5 c5,e = .returned (.slice A5 (encEs l).length c5)/\Bs W' A5 (encEs l)/\Ext wv W'/\W'.cell? ⟨g,1,none⟩=some (Value.bool false)from by
    obtain⟨A5,c5,he,ho,s0⟩:=h;exact⟨A5,c5,he,ho.2.cells,hE.1.trans s0,s0.cell hE.2⟩)
   have g0:Ext wv wv.drew/\wv.drew.cell? ⟨g,1,none⟩=some (Value.bool false):=⟨(Ext.refl wv).drew,kb⟩
   have m3:∀W,(Ext wv W/\W.cell? ⟨g,1,none⟩=some (Value.bool false))->(convert 25 9 (.slice A n c)).run Tryz.prog W = .ok (.string ⟨bs.toArray⟩) W:=fun W hE=>Zr ((h.out.bytes.ext v1).ext hE.1) n c h.out.len;have b3:(bs==bs)=true:=beq_self_eq_true bs;obtain⟨nb,m1⟩:∃nb,nb=(encEs l).length:=⟨_,rfl⟩
   rw[<-x1.out]at k2 m1;rw[<-m1]at k2;replace p0:=ZA p0;replace z1:=ZA z1;replace y1:=ZA y1;replace v1:=ZA v1;replace g0:=ZA g0;replace m1:=ZA m1;go_wp2_with fail;refine wp_region_held_drew (S:=(fun x=>Ext wv x/\x.cell? ⟨g,1,none⟩=some (Value.bool false))) (by kernel_rfl) g0.out (fun p1=>?_);refine wpAnyH_take (i:=0) (v:= .pointer (some ⟨g,0,none⟩)) rfl (by kernel_rfl) (by kernel_rfl) (by kernel_rfl) (fun _ _ _ h=>h) (Or.inl ⟨by rfl,?_⟩) (by assumption) ?_
   ·intro w' h0
    (try dsimp only at h0)
    go_simp
    try with_reducible rfl
    all_goals omega
   (try simp only[Act.put,pz0,pz1,pz2,pz3,pz4,pz5])
   refine wpAnyH_take (i:=1) (v:= .pointer (some ⟨g,0,none⟩)) rfl (by kernel_rfl) (by kernel_rfl) (by kernel_rfl) (fun _ _ _ h=>h) (Or.inl ⟨by rfl,?_⟩) (by assumption) ?_
   ·intro w' h0
    (try dsimp only at h0)
    go_simp
    try with_reducible rfl
    all_goals omega
   (try simp only[Act.put,pz0,pz1,pz2,pz3,pz4,pz5])
   refine wpAnyH_take (i:=2) (v:= .pointer (some ⟨g,1,none⟩)) rfl (by kernel_rfl) (by kernel_rfl) (by kernel_rfl) (fun _ _ _ h=>h) (Or.inl ⟨by rfl,?_⟩) (by assumption) ?_
   ·intro w' h0
    (try dsimp only at h0)
    go_simp
    try with_reducible rfl
    all_goals omega
   (try simp only[Act.put,pz0,pz1,pz2,pz3,pz4,pz5])
   refine wpAnyH_take (i:=3) (v:= .bool false) rfl (by kernel_rfl) (by kernel_rfl) (by kernel_rfl) (fun _ _ _ h=>h) (Or.inl ⟨by rfl,?_⟩) (by assumption) ?_
   ·intro w' h0
    (try dsimp only at h0)
    obtain⟨_,a3⟩:=h0;go_simp
    try with_reducible rfl
    all_goals omega
   (try simp only[Act.put,pz0,pz1,pz2,pz3,pz4,pz5])
   refine wpAnyH_take (i:=4) (v:= .bool false) rfl (by kernel_rfl) (by kernel_rfl) (by kernel_rfl) (fun _ _ _ h=>h) (Or.inl ⟨by rfl,?_⟩) (by assumption) ?_
   ·intro w' h0
    (try dsimp only at h0)
    go_simp
    try with_reducible rfl
    all_goals omega
   (try simp only[Act.put,pz0,pz1,pz2,pz3,pz4,pz5])
   refine wpAnyH_take (i:=5) (v:= .slice A6 i c6) rfl (by kernel_rfl) (by kernel_rfl) (by kernel_rfl) (fun _ _ _ h=>h) (Or.inl ⟨by rfl,?_⟩) (by assumption) ?_
   ·intro w' h0
    (try dsimp only at h0)
    go_simp
    try with_reducible rfl
    all_goals omega
   (try simp only[Act.put,pz0,pz1,pz2,pz3,pz4,pz5])
   refine wpAnyH_ready (rs:= [6]) (by kernel_rfl) (by simp) ?_;refine AllReadyH.cons rfl (fun K hK=>?_) AllReadyH.nil
   (first | go_at_call 85 | (go_simp;go_at_call 85));(refine(g3.out _ ‹_›).mono ?_;rintro e w5 ⟨rfl,l2⟩)
   refine hK.out _ _ ?_ (fun i1=>?_)
   ·exact l2
   clear hK K
   (try simp only[Act.put,pz0,pz1,pz2,pz3,pz4,pz5])
   refine wpAnyH_take (i:=7) (v:= .bool false) rfl (by kernel_rfl) (by kernel_rfl) (by kernel_rfl) (fun _ _ _ h=>h) (Or.inl ⟨by rfl,?_⟩) (by assumption) ?_
   ·intro w' h0
    (try dsimp only at h0)
    go_simp
    try with_reducible rfl
    all_goals omega
   (try simp only[Act.put,pz0,pz1,pz2,pz3,pz4,pz5])
   refine wpAnyH_take (i:=8) (v:= .bool false) rfl (by kernel_rfl) (by kernel_rfl) (by kernel_rfl) (fun _ _ _ h=>h) (Or.inl ⟨by rfl,?_⟩) (by assumption) ?_
   ·intro w' h0
    (try dsimp only at h0)
    go_simp
    try with_reducible rfl
    all_goals omega
   (try simp only[Act.put,pz0,pz1,pz2,pz3,pz4,pz5])
   refine wpAnyH_take (i:=9) (v:= .bool false) rfl (by kernel_rfl) (by kernel_rfl) (by kernel_rfl) (fun _ _ _ h=>h) (Or.inl ⟨by rfl,?_⟩) (by assumption) ?_
   ·intro w' h0
    (try dsimp only at h0)
    go_simp
    try with_reducible rfl
    all_goals omega
   (try simp only[Act.put,pz0,pz1,pz2,pz3,pz4,pz5])
   refine wpAnyH_take (i:=10) (v:= .slice A6 i c6) rfl (by kernel_rfl) (by kernel_rfl) (by kernel_rfl) (fun _ _ _ h=>h) (Or.inl ⟨by rfl,?_⟩) (by assumption) ?_
   ·intro w' h0
    (try dsimp only at h0)
    go_simp
    try with_reducible rfl
    all_goals omega
   (try simp only[Act.put,pz0,pz1,pz2,pz3,pz4,pz5])
   refine wpAnyH_take (i:=13) (v:= .slice A n c) rfl (by kernel_rfl) (by kernel_rfl) (by kernel_rfl) (fun _ _ _ h=>h) (Or.inl ⟨by rfl,?_⟩) (by assumption) ?_
   ·intro w' h0
    (try dsimp only at h0)
    go_simp
    try with_reducible rfl
    all_goals omega
   (try simp only[Act.put,pz0,pz1,pz2,pz3,pz4,pz5])
   refine wpAnyH_take (i:=14) (v:= .string ⟨bs.toArray⟩) rfl (by kernel_rfl) (by kernel_rfl) (by kernel_rfl) (fun _ _ _ h=>h) (Or.inl ⟨by rfl,?_⟩) (by assumption) ?_
   ·intro w' h0
    (try dsimp only at h0)
    have t3:=m3 w' h0;go_simp
    try with_reducible rfl
    all_goals omega
   (try simp only[Act.put,pz0,pz1,pz2,pz3,pz4,pz5])
   refine wpAnyH_ready (rs:= [11]) (by kernel_rfl) (by simp) ?_;refine AllReadyH.cons rfl (fun K hK=>?_) AllReadyH.nil
   (first | go_at_call 86 | (go_simp;go_at_call 86));(refine(k2.out _ ‹_›).mono ?_;rintro e w6 ⟨A5,c5,rfl,j3,u1⟩)
   have t3:=Zr j3 nb c5 m1.out;refine hK.out _ _ ?_ (fun l1=>?_)
   ·exact u1
   clear hK K
   (try simp only[Act.put,pz0,pz1,pz2,pz3,pz4,pz5])
   refine wpAnyH_ready (rs:= [12]) (by kernel_rfl) (by simp) ?_;refine AllReadyH.cons rfl (fun K hK=>?_) AllReadyH.nil;go_simp;refine hK.out _ _ ?_ (fun n1=>?_)
   ·exact u1
   clear hK K
   (try simp only[Act.put,pz0,pz1,pz2,pz3,pz4,pz5])
   refine wpAnyH_take (i:=15) (v:= .bool false) rfl (by kernel_rfl) (by kernel_rfl) (by kernel_rfl) (fun _ _ _ h=>h) (Or.inl ⟨by rfl,?_⟩) (by assumption) ?_
   ·intro w' h0
    (try dsimp only at h0)
    go_simp
    try with_reducible rfl
    all_goals omega
   (try simp only[Act.put,pz0,pz1,pz2,pz3,pz4,pz5])
   refine wpAnyH_take (i:=16) (v:= .bool false) rfl (by kernel_rfl) (by kernel_rfl) (by kernel_rfl) (fun _ _ _ h=>h) (Or.inl ⟨by rfl,?_⟩) (by assumption) ?_
   ·intro w' h0
    (try dsimp only at h0)
    go_simp
    try with_reducible rfl
    all_goals omega
   (try simp only[Act.put,pz0,pz1,pz2,pz3,pz4,pz5])
   refine wpAnyH_done (by kernel_rfl) ?_ _;have e2:=ZA u1.1;clear l2 u1 p1;go_wp2_with fail;go_ret2;refine⟨w6.heap.size,rfl,⟨A6,c6,?_,?_⟩,(v1.out.trans e2.out).alloc _⟩
   ·rw[<-hm.out];exact Row.new w6 _ _
   ·rw[<-hm.out];exact((Ext.refl w6).alloc _).owns (e2.out.owns p0.out)
end
end Go.Proofs.YtkdcnhnaiknaaaaGreat
