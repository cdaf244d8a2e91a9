/- Texts of one proof, joined. -/
import Derived.Test.YtfifdilapbeiiaaGreatPP09
set_option linter.unusedSimpArgs false
set_option linter.unusedVariables false
set_option maxRecDepth 100000
set_option maxHeartbeats 16000000
namespace Go.Proofs.YtfifdilapbeiiaaGreat
open _root_.Go.Proofs.Tryz
variable {ops:Array Oper} {Q:Exit → Act → World → Prop} {la la0:Int} {L l r r1 r2 s:List UInt8} {news xs:List Value} {M c c' g g' i k m n:Nat} {S:Nat → Prop} {o:Oper} {A:Option Addr} {v:Value} {X w w' w1:World}
section
open Go.RowKit Go.Maps
theorem IdxM.look {rows:List (List UInt8×List Po)} (h:IdxM w M rows) {r:List UInt8×List Po} (H:r∈rows) (hs:r.1.length<=9223372036854775807) :
 ∃(ps:List PoC) (A:Option Addr) (c:Nat),psP ps=r.2/\PosOk w A ps/\(∀a,A=some a->a.spot=none)/\ps.length<=c/\∀W,Ext w W->(Instr.lookup 94 (.map (some M)) (.string ⟨r.1.toArray⟩) false).run prog W = .ok (.slice A ps.length c) W:=by
 obtain⟨L,J,j⟩:=h;obtain⟨ps,A,c,b,h1,h2,U,O⟩:=j r H;refine⟨ps,A,c,h1,h2,U,O,fun W T=>?_⟩;have G:(zeroValue 47).run prog W = .ok (.slice none 0 0) W:=by kernel_rfl
 rcases (J.ext T).look Kk underlying94 (DJ hs) G false with ⟨u,Z,H⟩ | ⟨Y,_⟩
 ·rw[J.unique Z b]at H;exact H
 ·exact absurd rfl (Y _ b)
theorem MR:Elem prog 97 100 4 40:=⟨underlying97,⟨_,_,rfl,rfl,rfl,rfl,rfl⟩,by omega,by omega⟩
theorem L9 (P:List Dc):∃a b c d e,partD P = [a,b,c,d,e]:=by
 cases P with
 | nil=>exact⟨_,_,_,_,_,rfl⟩
 | cons x t=>exact⟨_,_,_,_,_,rfl⟩
theorem RZ {a b c d e:Int} (h:Row X g 3 #[.int .i64 a,.int .i64 b,.int .i64 c,.int .i64 d,.int .i64 e]):Cells X (some ⟨g,0,none⟩) ([a,b,c,d,e].map (Value.int .i64)) :=
 .inr ⟨g,0,rfl,fun i v j=>by
  rw[Nat.zero_add,h.get];simpa using j⟩
theorem Rf {a b c d e f:Option Addr×Nat×List UInt8} (j:In8 X a.1 a.2.2.length a.2.1 a.2.2/\a.2.2.length<=16777216) (hb:In8 X b.1 b.2.2.length b.2.1 b.2.2/\b.2.2.length<=16777216) (H:In8 X c.1 c.2.2.length c.2.1 c.2.2/\c.2.2.length<=16777216) (hd:In8 X d.1 d.2.2.length d.2.1 d.2.2/\d.2.2.length<=16777216)
 (Y:In8 X e.1 e.2.2.length e.2.1 e.2.2/\e.2.2.length<=16777216) (J:In8 X f.1 f.2.2.length f.2.1 f.2.2/\f.2.2.length<=16777216):∀p ∈ [a,b,c,d,e,f],In8 X p.1 p.2.2.length p.2.1 p.2.2/\p.2.2.length<=16777216:=fun p h=>by
 simp only[List.mem_cons,List.not_mem_nil,or_false]at h;rcases h with rfl | rfl | rfl | rfl | rfl | rfl <;> assumption
theorem Dr {a:Act} {t:Tmp} (h:a.tmps.getD t undef=v):#[Operand.tmp t].map a.eval=#[v]:=by
 simp only[List.map_toArray,List.map_cons,List.map_nil,Ac h]
theorem Lb {rest:List Oper} {a:Act} {t e bytes:Nat} (E:Elem prog t e 1 bytes) (hb:Cells w (some ⟨g,0,none⟩) xs) (hr:Cells w (some ⟨g',0,none⟩) news) (s x:Operand)
 (ho:o.op = .call { callee:= .builtin .append,args:=#[s,x],argTypes:=#[t,t] }) (I:o.guard=none) (hs:a.eval s = .slice (some ⟨g,0,none⟩) n c) (hx:a.eval x = .slice (some ⟨g',0,none⟩) m c') (hn:xs.length=n) (hl:news.length=m) (h1:∀u∈news,u.oneCell'=true) (h0:n+m<=4294967296) (U:c<n+m)
 (h:∀A1 c1 w',Buf w' w.heap.size e A1 (n+m) c1 (xs++news)->Ext w w'->wpList prog ops Q rest (a.put o.dst (.slice A1 (n+m) c1)) w'):wpList prog ops Q (o::rest) a w:=by
 obtain⟨i,z,hi,hz,h3,h4,h5⟩:=E.hi;have Y:(n+m)*bytes<=140737488355328:=Nat.le_trans (Nat.mul_le_mul h0 E.hb) (by omega);have H:∀ {g:Nat} {ys:List Value},Cells w (some ⟨g,0,none⟩) ys->∀j u,ys[j]? = some u->w.cell? ((⟨g,0,none⟩:Addr).add j)=some u:=fun {g ys} O j u T=>by
  rcases O with O | ⟨g1,o1,Z,O⟩
  ·rw[O]at T;cases T
  ·cases Z;rw[Addr.add_lit];exact O j u T
 refine wpList_append_grows w I s x t ho e i z 1 bytes E.ht hi hz h3 h4 h5 (by omega) (some ⟨g,0,none⟩) n c xs hs (fun Z=>by cases Z) (by omega) (fun b G j u T=>by cases G;exact H hb j u T) ⟨g',0,none⟩ m c' news hx (by omega) (H hr) h1 U (by unfold maxLen;omega) Y fun v' w' J hg=>?_;obtain⟨A1,c1,rfl⟩:=G3 J;exact h A1 c1 w' (Buf.of_own J) ((Ext.refl w).grown hg (fun k hk=>by cases hk))
theorem Pd (a:Act) (v:Value):a.eval (.const v)=v:=rfl
theorem Fe (ds:List DocC) (A:Option Addr) (m c:Nat) (w:World) (U:m=ds.length) (h:DocsOk w A ds) (G:∀a,A=some a->a.spot=none) (Z:m<=c) (T:m<=1000000000) (H:okDs (dcs ds)=false\/m=0) :
 Calls prog 23 #[.slice A m c] w fun e w'=>e = .returned (.tuple #[.slice none 0 0,.int .i64 130])/\Ext w w':=by
 by_cases Y:okDs (dcs ds)=false
 ·have j:=Aa (Gh ds A m c w U h T Y);clear H h U
  go_in
  go_wp2_with fail;refine j.out.mono ?_;rintro e w1 ⟨rfl,b⟩;go_wp2_with fail;go_ret2;exact⟨rfl,b⟩
 ·have O:m=0:=H.resolve_left Y;have J:ds = []:=List.length_eq_zero_iff.1 (by omega);subst J;subst O;have j:=Du [] A 0 c w rfl h G Z rfl (by simp[dcs,blockD]);replace j:=Aa j;clear H h U Y
  go_in
  go_wp2_with fail;refine j.out.mono ?_;rintro e w1 ⟨B,cB,rfl,_,b⟩;go_wp2_with fail;go_ret2;exact⟨rfl,b⟩
theorem Cj (l:List En) (x:En):encells (l ++ [x])=encells l++x.cells:=by
 unfold encells;rw[List.flatMap_append];simp
theorem CY (ds:List DocC) (A:Option Addr) (m c:Nat) (w:World) (hm:m=ds.length) (h:DocsOk w A ds) (hA:∀a,A=some a->a.spot=none) (h8:m<=c) (hs:SmP (dcs ds)) (h0:0<m) :
 Calls prog 23 #[.slice A m c] w fun e w'=>OkB w (segL (dcs ds)) e w':=by
 have Z:=hs.seg;have f4:(dcs ds).length=m:=by unfold dcs;rw[List.length_map,hm]
 have r7:m<=65536:=by rw[<-f4];exact Z.n
 have g4:=Du ds A m c w hm h hA h8 hs.ok (by have:=hs.sz;omega);have x5:=Aa (fun W (hE:Ext w W)=>NW ds A m c W hm (h.ext hE) r7 (by have:=Z.pairs;omega));have m7:=Aa (fun W (hE:Ext w W)=>K4 ds A m c W hm (h.ext hE) (by omega) h0);have t7:=Aa (fun W (hE:Ext w W)=>OQ ds A m c W hm (h.ext hE) (by omega));obtain⟨P,hP⟩:=Ab (dcs ds);rw[<-hP]at Z g4 x5 m7 t7;obtain⟨R,hR⟩:=Ab (rowsD P);rw[<-hR]at x5;have i4:=Z.rows;have d3:=Z.each;have t6:=Z.posts;rw[<-hR]at i4 d3 t6;replace Z:=Aa Z;replace hP:=Aa hP;replace hR:=Aa hR;replace f4:=Aa f4;replace g4:=Aa g4;replace d3:=Aa d3;replace hm:=Aa hm;replace h:=Aa h;replace hs:=Aa hs
 go_in
 go_wp2_with fail;refine g4.out.mono ?_;rintro e w1 ⟨B1,c1,rfl,a3,r5⟩;have y5:(encDs P).length<=16777216:=Z.out.docs;obtain⟨n1,h4⟩:=Ab ((encDs P).length);rw[<-h4]at a3 y5 ⊢;replace h4:=Aa h4;replace a3:=Aa a3;go_wp2_with fail;refine(x5.out w1 r5).mono ?_;rintro e w2 ⟨B2,n2,c2,M,rfl,p0,f3,d4,x3⟩;rw[<-p0]at i4;replace p0:=Aa p0;replace f3:=Aa f3;replace d4:=Aa d4;have m4:=Aa (r5.trans x3);replace x3:=Aa x3;go_wp2_with fail;obtain⟨b2,I⟩:=Ab w2.heap.size;have v8:w.heap.size<=b2:=by rw[I];exact m4.out.size
 have n4:=Nat.le_of_eq I;replace I:=Aa I
 go_loopw [8,9,11,12,13,39] (fun s8 s9 s11 s12 s13 s39 wr=>∃(i nB cB cE:Nat) (BA EA:Option Addr) (v11 v12 v13:Value),s11=v11/\s12=v12/\s13=v13/\s39 = .int .i64 (i:Int)/\s8 = .slice BA nB cB/\s9 = .slice EA i cE/\i<=n2/\nB<=5000000/\Hid (nB=(postB (R.take i)).length)/\Hid (Buf wr b2 5 BA nB cB ((postB (R.take i)).map B8))/\Hid (wr.ownsRow b2 100 4 (.slice EA i cE) i (encells (enOf 0 (R.take i))))/\Hid (Ext w2 wr)/\b2<=wr.heap.size) (fun _ _ _ _ _ s39 _=>n2 - (intOf s39).toNat)
 case atStart=>exact⟨0,0,0,0,none,none,_,_,_,rfl,rfl,rfl,rfl,rfl,rfl,by omega,by omega,Aa rfl,Aa (Buf.nil _ _ _),Aa (World.ownsRow_nil _ _ _ _),Aa (Ext.refl _),n4⟩
 case round =>
  obtain⟨i,nB,cB,cE,BA,EA,v11,v12,v13,rfl,rfl,rfl,rfl,rfl,rfl,hi,z4,y2,c4,z3,G,b7⟩:=hrel;by_cases n7:i<n2
  ·obtain⟨⟨rt,rl⟩,hr⟩:∃r,R[i]? = some r:=⟨_,List.getElem?_eq_getElem (by rw[<-p0.out];exact n7)⟩
   have j4:=List.mem_of_getElem? hr;have t0:=d3.out _ j4;have q8:=DW (P:=P) (r:=(rt,rl)) (by rw[<-hR.out];exact j4);simp only at t0 q8;obtain⟨g2,o2,f7,a6⟩:=f3.out.cells.at_ (by rw[List.length_map,<-p0.out];omega);subst f7;have i6:=G.out.cell (a6 i (strV rt) (by rw[List.getElem?_map,hr];rfl));unfold strV at i6;obtain⟨ps,Ap,cp,q7,r6,p7,o6,j2⟩:=d4.out.look j4 (by simp only;omega);have k0:psP ps=rl:=q7;have a2:ps.length=rl.length:=by rw[<-k0];unfold psP;rw[List.length_map]
   obtain⟨np,p4⟩:=Ab ps.length;rw[<-p4]at j2 o6 a2;have l6:=j2 wr G.out;have k4:=E7 ps Ap np cp wr p4 (r6.ext G.out) p7 o6 (by rw[k0];exact t0.1) (by rw[k0];exact t0.2.2.2.1);rw[k0]at k4;have d2:postB (R.take (i+1))=postB (R.take i)++encPs rl:=by
    rw[List.take_add_one,hr,Cx];unfold postB;simp
   have t5:enOf 0 (R.take (i+1))=enOf 0 (R.take i) ++ [⟨rt,nB,(encPs rl).length,rl.length⟩]:=by
    rw[List.take_add_one,hr,GG,<-y2.out,Nat.zero_add];rfl
   have f2:(postB (R.take (i+1))).length<=5000000:=by
    refine Nat.le_trans ?_ t6;have h1:=Cx (R.take (i+1)) (R.drop (i+1));rw[List.take_append_drop]at h1;rw[h1,List.length_append];omega
   have c7:=t0.2.2.2.2;have z8:=t0.2.2.1;rw[d2,List.length_append,<-y2.out]at f2;replace t0:=Aa t0;replace d2:=Aa d2;replace t5:=Aa t5;replace j2:=Aa j2;replace k4:=Aa k4;replace p4:=Aa p4;replace hr:=Aa hr;replace a2:=Aa a2;clear j4 a6 q7 r6 k0;go_wp2_with fail;refine k4.out.mono ?_;rintro e w5 ⟨B5,c5,rfl,b3,f1⟩;have x8:=j2.out w5 (G.out.trans f1);obtain⟨n5,o0⟩:=Ab ((encPs rl).length);rw[<-o0]at b3 c7 f2 ⊢;have p6:=Aa (G.out.trans f1);have O:=f1.owns z3.out;have y1:=c4.out.ext f1;have a4:b2<=w5.heap.size:=Nat.le_trans b7 f1.size;replace b3:=Aa b3;replace o0:=Aa o0;replace O:=Aa O;replace y1:=Aa y1;have m2:((encPs rl).map B8).length=n5:=by rw[List.length_map];exact o0.out.symm
   have y8:np<=70000:=by have:=a2.out;omega
   have b4:w2.heap.size<=b2:=by rw[I.out];exact Nat.le_refl _
   replace m2:=Aa m2;clear l6 i6;go_wp2_with (first
    | (at_builtin;refine AS (us:= [.string ⟨rt.toArray⟩,.int .i64 (nB:Int),.int .i64 (n5:Int),.int .i64 (np:Int)]) (m:=1) MR O.out rfl (.tmp 50) (.tmp 61) rfl rfl rfl rfl rfl (by simp[Value.oneCell']) (by omega) a4 (fun A8 c8 w8 a5 k2 o7=>?_);have i3:=Ci O.out k2 y1.out (by decide);have d5:=(Ci O.out k2 b3.out.2 (by decide)).cells;have j5:=CX O.out k2 p6.out b4;have k7:b2<=w8.heap.size:=Nat.le_trans a4 k2.size;replace i3:=Aa i3;replace d5:=Aa d5;replace j5:=Aa j5;replace a5:=Aa a5;clear k2 o7)
    | (at_builtin;refine Al Aw i3.out d5.out (.tmp 63) (.tmp 64) rfl rfl rfl rfl rfl m2.out (Ai _) (by omega) k7 (fun A9 c9 w9 m0 v5 k1 r3=>?_);have b5:=Gr i3.out v5 a5.out (by decide);have g5:=k1 _ j5.out b4;have p8:b2<=w9.heap.size:=Nat.le_trans k7 v5.size;replace m0:=Aa m0;replace b5:=Aa b5;replace g5:=Aa g5;clear v5 r3 k1))
   go_roundw
   case rel =>
    refine⟨i+1,nB+n5,c9,c8,A9,A8,_,_,_,rfl,rfl,rfl,by first | rfl | (congr 1;omega),rfl,rfl,by omega,f2,Aa ?_,Aa ?_,Aa ?_,g5,p8⟩
    ·rw[d2.out,List.length_append,<-y2.out,<-o0.out]
    ·rw[d2.out,List.map_append];exact m0.out
    ·rw[t5.out,Cj];rw[show (⟨rt,nB,(encPs rl).length,rl.length⟩:En).cells = [.string ⟨rt.toArray⟩,.int .i64 (nB:Int),.int .i64 (n5:Int),.int .i64 (np:Int)] by rw[<-o0.out,<-a2.out];rfl];exact b5.out
   case measure=>simp only[intOf];omega
  ·have c0:R.take i=R:=List.take_of_length_le (by rw[<-p0.out];omega);rw[c0]at y2 c4 z3;have f6:i=n2:=by omega
   subst f6;obtain⟨w3,j8⟩:=Ab wr;subst j8;have m5:=BN z3.out;have o3:=J0 (enOf 0 R) EA i cE w3 (by rw[Cc];exact p0.out) (Cells.of_own z3.out) m5.2 m5.1 (by rw[hR.out];exact Z.out.ens);have h6:=Aa (m4.out.trans G.out);have b6:(encEs (enOf 0 R)).length<=16777216:=by rw[hR.out];exact Z.out.dic
   obtain⟨D6,j3⟩:=Ab (encEs (enOf 0 R));rw[<-j3]at o3 b6;replace j3:=Aa j3;replace o3:=Aa o3;clear m5;go_wp2_with fail;refine o3.out.mono ?_;rintro e w6 ⟨B6,c6,rfl,m6,y3⟩;have t4:=Aa (h6.out.trans y3);have i2:=m7.out w6 t4.out;obtain⟨lo,J,fi,la,nn,r0⟩:=L9 P;rw[r0]at i2;have k0:prtA [lo,J,fi,la,nn]=#[.int .i64 0,.int .i64 0,.int .i64 lo,.int .i64 J,.int .i64 fi,.int .i64 la,.int .i64 nn]:=rfl;rw[k0]at i2;replace i2:=Aa i2;replace r0:=Aa r0;have v4:=Aa m6.2;have m1:=Aa (a3.out.2.ext (x3.out.trans (G.out.trans y3)));have x1:=Aa (c4.out.ext y3);have x4:=Aa (f3.out.ext (G.out.trans y3));clear k0 m6;go_wp2_with fail;refine i2.out.mono ?_;rintro e w7 ⟨rfl,i0⟩;have m8:=Aa (t4.out.trans i0);obtain rfl:=h4.out;obtain rfl:=y2.out;have y4:(timesD 0 P).length<=16777216:=Z.out.times;have d0:8<=(ofB (R.map (·.1))).length/\(ofB (R.map (·.1))).length<=131072:=by rw[hR.out];exact Z.out.bits
   have e0:(vall [lo,J,fi,la,nn]).length<=16777216/\I64ok' lo/\I64ok' J/\I64ok' fi/\I64ok' la/\I64ok' nn:=by
    have h7:I64ok' lo/\I64ok' J/\I64ok' fi/\I64ok' la/\I64ok' nn:=by
     obtain⟨x0,v7⟩:∃x,ds[0]? = some x:=⟨_,List.getElem?_eq_getElem (by have:=hm.out;omega)⟩
     obtain⟨xl,x7⟩:∃x,ds[m - 1]? = some x:=⟨_,List.getElem?_eq_getElem (by have:=hm.out;omega)⟩
     have h1:=C7 hm.out v7 x7;rw[<-hP.out,r0.out]at h1;injection h1 with e1 h1;injection h1 with e2 h1;injection h1 with e3 h1;injection h1 with e4 h1;injection h1 with e5 h1;have c0:∀d∈P,I64ok' d.2.at_:=fun d hd=>by
      rw[hP.out]at hd;unfold dcs at hd;obtain⟨x,hx,rfl⟩:=List.mem_map.1 hd;exact(h.out.each x hx).2.1
     have q0:=(h.out.each x0 (List.mem_of_getElem? v7)).2;have ql:=(h.out.each xl (List.mem_of_getElem? x7)).2;rw[e1,e2,e3,e4,e5];exact⟨E5 _ _ q0.1 c0,Ea _ _ q0.1 c0,q0.2,ql.2,by unfold I64ok';omega⟩
    refine⟨?_,h7⟩;have h2:=De [lo,J,fi,la,nn] (fun x hx=>by
     simp only[List.mem_cons,List.not_mem_nil,or_false]at hx;obtain⟨q1,q2,q3,q4,q5⟩:=h7;rcases hx with rfl | rfl | rfl | rfl | rfl <;> assumption) 5
    exact Nat.le_trans h2 (by decide)
   have n6:Hid (∀x ∈ [lo,J,fi,la,nn],-9223372036854775808<=x/\x<=9223372036854775807):=Aa (fun x hx=>by
    simp only[List.mem_cons,List.not_mem_nil,or_false]at hx;obtain⟨_,q1,q2,q3,q4,q5⟩:=e0;rcases hx with rfl | rfl | rfl | rfl | rfl <;> assumption)
   have x2:i=(R.map (·.1)).length:=by rw[List.length_map];exact p0.out
   have v6:Cells w7 B2 ((R.map (·.1)).map strV):=by
    have h1:=(x4.out.ext i0).cells;rw[List.map_map];exact h1
   have l4:∀t∈R.map (·.1),t.length<=1000000000:=fun t ht=>by
    obtain⟨r,hr,rfl⟩:=List.mem_map.1 ht;have:=DW (P:=P) (r:=r) (by rw[<-hR.out];exact hr);omega
   have l7:i<=1000000000:=Nat.le_trans i4 (by decide);obtain⟨DT,d1⟩:∃D,D=timesD 0 P:=⟨_,rfl⟩
   obtain⟨D7,a1⟩:∃D,D=ofB (R.map (·.1)):=⟨_,rfl⟩
   obtain⟨DV,f0⟩:∃D,D=vall [lo,J,fi,la,nn]:=⟨_,rfl⟩
   rw[<-d1]at y4;rw[<-a1]at d0;rw[<-f0]at e0;replace x2:=Aa x2;replace l4:=Aa l4;replace d1:=Aa d1;replace a1:=Aa a1;replace f0:=Aa f0;obtain⟨D1,k3⟩:∃D,D=encDs P:=⟨_,rfl⟩
   obtain⟨DP,m3⟩:∃D,D=postB R:=⟨_,rfl⟩
   rw[<-k3]at m1 y5 ⊢;rw[<-m3]at x1 z4 ⊢;replace k3:=Aa k3;replace m3:=Aa m3;go_upto_region 22 with fail;obtain⟨wx,j0⟩:=Ab (w7.alloc (Obj.cells #[Value.int IntKind.i64 0,Value.int IntKind.i64 0,Value.int IntKind.i64 lo,Value.int IntKind.i64 J,Value.int IntKind.i64 fi,Value.int IntKind.i64 la,Value.int IntKind.i64 nn] 79));rw[<-j0];obtain⟨bp,l3⟩:=Ab w7.heap.size;rw[<-l3];have U:Ext w7 wx:=by rw[j0];exact(Ext.refl w7).alloc _
   have v0:Row wx bp 79 #[Value.int IntKind.i64 0,Value.int IntKind.i64 0,Value.int IntKind.i64 lo,Value.int IntKind.i64 J,Value.int IntKind.i64 fi,Value.int IntKind.i64 la,Value.int IntKind.i64 nn]:=by rw[j0,l3];exact Row.new w7 _ _
   have j6:=Aa (m8.out.trans U);have H1:=Aa (m1.out.ext (i0.trans U));have HA:=Aa (x1.out.ext (i0.trans U));have H6:=Aa (v4.out.ext (i0.trans U));have HS:=Aa (v6.ext U);have hX:Hid (Ext wx wx):=Aa (Ext.refl wx);replace v0:=Aa v0;replace j0:=Aa j0;replace l3:=Aa l3;clear i0 U v6 m1 x1 v4 x4;have h5:∀X,Ext wx X->Calls prog 48 #[.slice A m c] X fun e w'=>NewB X DT e w':=fun X hx=>by rw[d1.out];exact t7.out X (j6.out.trans hx)
   have w4:∀X,Ext wx X->Calls prog 49 #[.slice B2 i c2] X fun e w'=>NewF1 X D7 e w':=fun X hx=>by
    have h:=QI B2 i c2 (R.map (·.1)) X x2.out (HS.out.ext hx) l7 l4.out;rw[<-a1.out]at h;exact h
   have k5:∀X g b,FilO X b g D7->Calls prog 50 #[.pointer (some ⟨g,0,none⟩)] X fun e w'=>NewB X D7 e w':=fun X g b hf=>LB g D7 X hf.fil (Nat.lt_of_lt_of_le (by decide) d0.1) d0.2;have p5:∀X g,Row X g 3 #[.int .i64 lo,.int .i64 J,.int .i64 fi,.int .i64 la,.int .i64 nn]->Calls prog 51 #[.slice none 0 0,.slice (some ⟨g,0,none⟩) 5 5] X fun e w'=>NewB X DV e w':=fun X g hr=>by
    have h1:=Ma none (some ⟨g,0,none⟩) 0 0 5 5 [lo,J,fi,la,nn] [] X rfl (.inl rfl) (fun _=>rfl) rfl (RZ hr) (by decide) n6.out;rw[List.nil_append,<-f0.out]at h1;exact h1
   obtain⟨JN,l0⟩:=Ab (joinL (framesD P));have g6:joinL [D1,DT,DP,D6,D7,DV]=JN:=by rw[l0,k3.out,d1.out,m3.out,j3.out,a1.out,f0.out,<-r0.out,hR.out];rfl
   have r4:∀(X:World) g BT cT bT BY cY bY BV cV bV,Ext wx X->Cells X (some ⟨g,0,none⟩) [.slice B1 D1.length c1,.slice BT DT.length cT,.slice BA DP.length cB,.slice B6 D6.length c6,.slice BY D7.length cY,.slice BV DV.length cV]->Buf X bT 5 BT DT.length cT (DT.map B8)->Buf X bY 5 BY D7.length cY (D7.map B8)->Buf X bV 5 BV DV.length cV (DV.map B8) ->
    Calls prog 47 #[.slice (some ⟨g,0,none⟩) 6 6] X fun e w'=>∃u,e = .returned u/\kTu wx.heap.size JN u w'/\Ext X w':=fun X g BT cT bT BY cY bY BV cV bV hx hC hT hY hV=>by
    have h1:=NL (some ⟨g,0,none⟩) 6 6 [(B1,c1,D1),(BT,cT,DT),(BA,cB,DP),(B6,c6,D6),(BY,cY,D7),(BV,cV,DV)] X rfl hC (Rf ⟨(H1.out.ext hx).in8,y5⟩ ⟨hT.in8,y4⟩ ⟨(HA.out.ext hx).in8,Nat.le_trans z4 (by decide)⟩ ⟨(H6.out.ext hx).in8,b6⟩ ⟨hY.in8,Nat.le_trans d0.2 (by decide)⟩ ⟨hV.in8,e0.1⟩) (by decide);refine h1.mono ?_;rintro e w' ⟨AJ,cJ,rfl,hO,hE⟩;have a7:joinL (List.map (fun(x:Option Addr×Nat×List UInt8)=>x.2.2) [(B1,c1,D1),(BT,cT,DT),(BA,cB,DP),(B6,c6,D6),(BY,cY,D7),(BV,cV,DV)])=JN:=g6;rw[a7]at hO ⊢;exact⟨_,rfl,⟨AJ,cJ,rfl,hO.1,hO.2.lower hx.size⟩,hE⟩
   replace l0:=Aa l0;replace h5:=Aa h5;replace w4:=Aa w4;replace k5:=Aa k5;replace p5:=Aa p5;replace r4:=Aa r4
   go_cut [5,16] (fun s5 s16 wy=>∃AJ cJ,s5 = .int .i64 0/\s16 = .slice AJ JN.length cJ/\Hid (Own8 wy wx.heap.size AJ JN.length cJ JN)/\Hid (Ext w wy))
   case first =>
    have T:Ext wx wx.drew:=(Ext.refl wx).drew;refine wp_region_held_drew (S:=fun _=>True) (by kernel_rfl) trivial (fun _=>?_);refine DZ (base:=Array.replicate 27 false) (wx:=wx.drew) ⟨by kernel_rfl,of_decide_eq_true (by kernel_rfl),by kernel_rfl,by kernel_rfl⟩ (fun j v w=>([kEq (.slice B1 D1.length c1),kEq (.slice A m c),kSl DT,kEq (.slice BA DP.length cB),kEq (.slice B6 D6.length c6),kEq (.slice B2 i c2),kFi D7,kSl D7,kEq (.pointer (some ⟨bp,2,none⟩)),kEq (.int .i64 lo),kEq (.pointer (some ⟨bp,3,none⟩)),kEq (.int .i64 J),kEq (.pointer (some ⟨bp,4,none⟩)),kEq (.int .i64 fi),kEq (.pointer (some ⟨bp,5,none⟩)),kEq (.int .i64 la),kEq (.pointer (some ⟨bp,6,none⟩)),kEq (.int .i64 nn),kRi lo J fi la nn,kSl DV,kSx (.slice B1 D1.length c1) (.slice BA DP.length cB) (.slice B6 D6.length c6) DT D7 DV,kTu wx.heap.size JN,kTu wx.heap.size JN,kSj wx.heap.size JN,kEq (.int .i64 0),kSj wx.heap.size JN,kEq (.int .i64 0)].getD j fun _ _=>True) v w) (FF ?mono) (fun _ _=>trivial) ?hstep ?fin _ _ _ _ (by kernel_rfl) (Nat.le_of_eq (by kernel_rfl)) (fun _ h=>h) ⟨rfl,rfl,fun _ _=>rfl,Ext.refl _⟩ (fun j d h1 h2 _=>absurd (h1.symm.trans h2) (by simp))
    case mono =>
     intro p hp;simp only[List.mem_cons,List.not_mem_nil,or_false]at hp;rcases hp with rfl | rfl | rfl | rfl | rfl | rfl | rfl | rfl | rfl | rfl | rfl | rfl | rfl | rfl | rfl | rfl | rfl | rfl | rfl | rfl | rfl | rfl | rfl | rfl | rfl | rfl | rfl <;> first | exact Pv _ | exact Sb _ | exact R4 _ | exact R9 _ _ _ _ _ | exact Sc _ _ _ _ _ _ | exact Sd _ _ | exact Sa _ _
    case hstep =>
     apply KSteps.all (H:=(fun j v w=>([kEq (.slice B1 D1.length c1),kEq (.slice A m c),kSl DT,kEq (.slice BA DP.length cB),kEq (.slice B6 D6.length c6),kEq (.slice B2 i c2),kFi D7,kSl D7,kEq (.pointer (some ⟨bp,2,none⟩)),kEq (.int .i64 lo),kEq (.pointer (some ⟨bp,3,none⟩)),kEq (.int .i64 J),kEq (.pointer (some ⟨bp,4,none⟩)),kEq (.int .i64 fi),kEq (.pointer (some ⟨bp,5,none⟩)),kEq (.int .i64 la),kEq (.pointer (some ⟨bp,6,none⟩)),kEq (.int .i64 nn),kRi lo J fi la nn,kSl DV,kSx (.slice B1 D1.length c1) (.slice BA DP.length cB) (.slice B6 D6.length c6) DT D7 DV,kTu wx.heap.size JN,kTu wx.heap.size JN,kSj wx.heap.size JN,kEq (.int .i64 0),kSj wx.heap.size JN,kEq (.int .i64 0)].getD j fun _ _=>True) v w)) (l:= [0,1,2,3,4,5,6,7,8,9,10,11,12,13,14,15,16,17,18,19,20,21,22,23,24,25,26]);rotate_left
     ·kernel_rfl
     refine KSteps.cons rfl (fun a w Y hd=>?_) ?_
     ·exact AC (Ah (v:= .slice B1 D1.length c1) (.inl rfl) (Af (Y.same 4))) rfl rfl (Ext.refl w)
     refine KSteps.cons rfl (fun a w Y hd=>?_) ?_
     ·exact AC (Ah (v:= .slice A m c) (.inl rfl) (Af (Y.same 0))) rfl rfl (Ext.refl w)
     refine KSteps.cons rfl (fun a w Y hd=>?_) ?_
     ·exact Fg rfl rfl (enters_of func48 (by kernel_rfl) rfl) (Dr (hd 1 81)) (LY (h5.out w (T.trans Y.ext)))
     refine KSteps.cons rfl (fun a w Y hd=>?_) ?_
     ·exact AC (Ah (v:= .slice BA DP.length cB) (.inl rfl) (Af (Y.same 8))) rfl rfl (Ext.refl w)
     refine KSteps.cons rfl (fun a w Y hd=>?_) ?_
     ·exact AC (Ah (v:= .slice B6 D6.length c6) (.inl rfl) (Af (Y.same 14))) rfl rfl (Ext.refl w)
     refine KSteps.cons rfl (fun a w Y hd=>?_) ?_
     ·exact AC (Ah (v:= .slice B2 i c2) (.inl rfl) (Af (Y.same 6))) rfl rfl (Ext.refl w)
     refine KSteps.cons rfl (fun a w Y hd=>?_) ?_
     ·exact Fg rfl rfl (enters_of func49 (by kernel_rfl) rfl) (Dr (hd 5 85)) ((w4.out w (T.trans Y.ext)).mono (by rintro e w' ⟨g,rfl,_,hf,hE⟩;exact⟨_,rfl,⟨g,_,rfl,hf⟩,hE⟩))
     refine KSteps.cons rfl (fun a w Y hd=>?_) ?_
     ·obtain⟨g,b,hg,hf⟩:kFi D7 (a.tmps.getD 86 undef) w:=hd 6 86;exact Fg rfl rfl (enters_of func50 (by kernel_rfl) rfl) (Dr hg) (LY (k5.out w g b hf))
     refine KSteps.cons rfl (fun a w Y hd=>?_) ?_
     ·exact AC (Ao (q:= .pointer (some ⟨bp,0,none⟩)) rfl (Af (Y.same 15)) (Bn w bp).1) rfl rfl (Ext.refl w)
     refine KSteps.cons rfl (fun a w Y hd=>?_) ?_
     ·exact AC (AI (q:= .pointer (some ⟨bp,2,none⟩)) rfl (Ac (hd 8 88)) (Bz ((v0.out.ext (T.trans Y.ext)).cell 2 rfl))) rfl rfl (Ext.refl w)
     refine KSteps.cons rfl (fun a w Y hd=>?_) ?_
     ·exact AC (Ao (q:= .pointer (some ⟨bp,0,none⟩)) rfl (Af (Y.same 15)) (Bn w bp).2.1) rfl rfl (Ext.refl w)
     refine KSteps.cons rfl (fun a w Y hd=>?_) ?_
     ·exact AC (AI (q:= .pointer (some ⟨bp,3,none⟩)) rfl (Ac (hd 10 90)) (Bz ((v0.out.ext (T.trans Y.ext)).cell 3 rfl))) rfl rfl (Ext.refl w)
     refine KSteps.cons rfl (fun a w Y hd=>?_) ?_
     ·exact AC (Ao (q:= .pointer (some ⟨bp,0,none⟩)) rfl (Af (Y.same 15)) (Bn w bp).2.2.1) rfl rfl (Ext.refl w)
     refine KSteps.cons rfl (fun a w Y hd=>?_) ?_
     ·exact AC (AI (q:= .pointer (some ⟨bp,4,none⟩)) rfl (Ac (hd 12 92)) (Bz ((v0.out.ext (T.trans Y.ext)).cell 4 rfl))) rfl rfl (Ext.refl w)
     refine KSteps.cons rfl (fun a w Y hd=>?_) ?_
     ·exact AC (Ao (q:= .pointer (some ⟨bp,0,none⟩)) rfl (Af (Y.same 15)) (Bn w bp).2.2.2.1) rfl rfl (Ext.refl w)
     refine KSteps.cons rfl (fun a w Y hd=>?_) ?_
     ·exact AC (AI (q:= .pointer (some ⟨bp,5,none⟩)) rfl (Ac (hd 14 94)) (Bz ((v0.out.ext (T.trans Y.ext)).cell 5 rfl))) rfl rfl (Ext.refl w)
     refine KSteps.cons rfl (fun a w Y hd=>?_) ?_
     ·exact AC (Ao (q:= .pointer (some ⟨bp,0,none⟩)) rfl (Af (Y.same 15)) (Bn w bp).2.2.2.2) rfl rfl (Ext.refl w)
     refine KSteps.cons rfl (fun a w Y hd=>?_) ?_
     ·exact AC (AI (q:= .pointer (some ⟨bp,6,none⟩)) rfl (Ac (hd 16 96)) (Bz ((v0.out.ext (T.trans Y.ext)).cell 6 rfl))) rfl rfl (Ext.refl w)
     refine KSteps.cons rfl (fun a w Y hd=>?_) ?_
     ·have q0:a.tmps.getD 89 undef = .int .i64 lo:=hd 9 89;have q1:a.tmps.getD 91 undef = .int .i64 J:=hd 11 91;have q2:a.tmps.getD 93 undef = .int .i64 fi:=hd 13 93;have q3:a.tmps.getD 95 undef = .int .i64 la:=hd 15 95;have q4:a.tmps.getD 97 undef = .int .i64 nn:=hd 17 97;exact AC (C0 (vs:=#[(0,.int .i64 lo),(1,.int .i64 J),(2,.int .i64 fi),(3,.int .i64 la),(4,.int .i64 nn)]) rfl (by simp only[List.map_toArray,List.map_cons,List.map_nil,Ac q0,Ac q1,Ac q2,Ac q3,Ac q4]) (QA w lo J fi la nn)) rfl ⟨w.heap.size,rfl,Row.new w _ _⟩ ((Ext.refl w).alloc _)
     refine KSteps.cons rfl (fun a w Y hd=>?_) ?_
     ·obtain⟨g,hg,hr⟩:kRi lo J fi la nn (a.tmps.getD 98 undef) w:=hd 18 98;exact Fg (vs:=#[.slice none 0 0,.slice (some ⟨g,0,none⟩) 5 5]) rfl rfl (enters_of func51 (by kernel_rfl) rfl) (by simp only[List.map_toArray,List.map_cons,List.map_nil,Ac hg,Pd]) (LY (p5.out w g hr))
     refine KSteps.cons rfl (fun a w Y hd=>?_) ?_
     ·have q0:a.tmps.getD 80 undef = .slice B1 D1.length c1:=hd 0 80;obtain⟨BT,cT,bT,q1,hT⟩:kSl DT (a.tmps.getD 82 undef) w:=hd 2 82;have q2:a.tmps.getD 83 undef = .slice BA DP.length cB:=hd 3 83;have q3:a.tmps.getD 84 undef = .slice B6 D6.length c6:=hd 4 84;obtain⟨BY,cY,bY,q4,hY⟩:kSl D7 (a.tmps.getD 87 undef) w:=hd 7 87;obtain⟨BV,cV,bV,q5,hV⟩:kSl DV (a.tmps.getD 99 undef) w:=hd 19 99;exact AC (C0 (vs:=#[(0,.slice B1 D1.length c1),(1,.slice BT DT.length cT),(2,.slice BA DP.length cB),(3,.slice B6 D6.length c6),(4,.slice BY D7.length cY),(5,.slice BV DV.length cV)]) rfl (by simp only[List.map_toArray,List.map_cons,List.map_nil,Ac q0,Ac q1,Ac q2,Ac q3,Ac q4,Ac q5]) (Ru w B1 BT BA B6 BY BV _ _ _ _ _ _ _ _ _ _ _ _)) rfl ⟨w.heap.size,BT,cT,bT,BY,cY,bY,BV,cV,bV,rfl,AN w [.slice B1 D1.length c1,.slice BT DT.length cT,.slice BA DP.length cB,.slice B6 D6.length c6,.slice BY D7.length cY,.slice BV DV.length cV] _,hT.ext ((Ext.refl w).alloc _),hY.ext ((Ext.refl w).alloc _),hV.ext ((Ext.refl w).alloc _)⟩ ((Ext.refl w).alloc _)
     refine KSteps.cons rfl (fun a w Y hd=>?_) ?_
     ·obtain⟨g,BT,cT,bT,BY,cY,bY,BV,cV,bV,q0,hC,hT,hY,hV⟩:kSx (.slice B1 D1.length c1) (.slice BA DP.length cB) (.slice B6 D6.length c6) DT D7 DV (a.tmps.getD 100 undef) w:=hd 20 100;exact Fg rfl rfl (enters_of func47 (by kernel_rfl) rfl) (Dr q0) (r4.out w g BT cT bT BY cY bY BV cV bV (T.trans Y.ext) hC hT hY hV)
     refine KSteps.cons rfl (fun a w Y hd=>?_) ?_
     ·exact AC (Ah (.inl rfl) rfl) rfl (hd 21 101) (Ext.refl w)
     refine KSteps.cons rfl (fun a w Y hd=>?_) ?_
     ·obtain⟨AJ,cJ,q0,hO⟩:kTu wx.heap.size JN (a.tmps.getD 79 undef) w:=hd 22 79;exact AC (GK (v:= .slice AJ JN.length cJ) rfl (Ac q0) rfl) rfl ⟨AJ,cJ,rfl,hO⟩ (Ext.refl w)
     refine KSteps.cons rfl (fun a w Y hd=>?_) ?_
     ·obtain⟨AJ,cJ,q0,hO⟩:kTu wx.heap.size JN (a.tmps.getD 79 undef) w:=hd 22 79;exact AC (GK (v:= .int .i64 0) rfl (Ac q0) rfl) rfl rfl (Ext.refl w)
     refine KSteps.cons rfl (fun a w Y hd=>?_) ?_
     ·exact AC (Ah (.inr rfl) rfl) rfl (hd 23 102) (Ext.refl w)
     refine KSteps.cons rfl (fun a w Y hd=>?_) ?_
     ·exact AC (Ah (.inr rfl) rfl) rfl (hd 24 103) (Ext.refl w)
     exact KSteps.nil
    case fin =>
     intro a w9 Y hh;obtain⟨AJ,cJ,q16,n0⟩:kSj wx.heap.size JN (a.tmps.getD 16 undef) w9:=hh 25 16 (by kernel_rfl) (by kernel_rfl);have q5:a.tmps.getD 5 undef = .int .i64 0:=hh 26 5 (by kernel_rfl) (by kernel_rfl);have y0:=Y.act [80,81,82,83,84,85,86,87,88,89,90,91,92,93,94,95,96,97,98,99,100,101,79,102,103,16,5] (by kernel_rfl);have z7:=Aa (j6.out.trans (T.trans Y.ext));simp only[List.foldl_cons,List.foldl_nil]at y0;rw[q16,q5]at y0;replace n0:=Aa n0;clear Y hh q16 q5;obtain⟨fv,e6⟩:∃f:Nat->Value,∀d,a.tmps.getD d undef=f d:=⟨_,fun _=>rfl⟩
     simp only[e6]at y0;clear e6;subst y0;simp only[Bv,Bw,By];go_wp2_with fail
     go_meet
     case rel=>exact⟨AJ,cJ,rfl,rfl,n0,z7⟩
   case rest =>
    obtain⟨AJ,cJ,rfl,rfl,n0,k6⟩:=hcut;have d8:1<=JN.length:=by
     rw[l0.out];unfold framesD joinL;rw[List.flatMap_cons,List.length_append];have:1<=(frameL (encDs P)).length:=by
      have h2:(be4 (cnext 0 (vb (encDs P).length++encDs P))).length=4:=rfl;unfold frameL;rw[List.length_append,List.length_append,h2];omega
     omega
    obtain⟨gJ,e7⟩:∃g,AJ=some ⟨g,0,none⟩:=by
     obtain⟨q1,q2,q3⟩:=n0.out.2;rcases q3 with ⟨_,h0⟩ | ⟨g,_,h,_⟩
     ·omega
     ·exact⟨g,h⟩
    subst e7;have k8:=P4 wc #[.int .u8 76,.int .u8 83,.int .u8 69,.int .u8 71] 4 4;obtain⟨Wq,o1⟩:=Ab (wc.alloc (Obj.cells #[Value.int IntKind.u8 76,Value.int IntKind.u8 83,Value.int IntKind.u8 69,Value.int IntKind.u8 71] 5 (4,5)));have i1:Ext wc Wq:=by rw[o1];exact(Ext.refl wc).alloc _
    have o4:Cells Wq (some ⟨wc.heap.size,0,none⟩) (([76,83,69,71]:List UInt8).map B8):=by
     rw[o1];exact .inr ⟨wc.heap.size,0,rfl,fun i v hv=>by
      have e:([76,83,69,71]:List UInt8).map B8 = [Value.int IntKind.u8 76,Value.int IntKind.u8 83,Value.int IntKind.u8 69,Value.int IntKind.u8 71]:=rfl;rw[e]at hv;rw[Nat.zero_add,cell_of_row _ _ _ _ _ _ (heap_alloc_new wc _)];simpa using hv⟩
    have g8:w.heap.size<=wc.heap.size:=k6.out.size;have f5:Cells Wq (some ⟨gJ,0,none⟩) (JN.map B8):=(n0.out.2.ext i1).cells;have z5:(JN.map B8).length=JN.length:=List.length_map ..;have e8:JN.length<=200000000:=by
     have h1:=Cv (ps:=framesD P) (fun p hp=>by
      unfold framesD at hp;simp only[List.mem_cons,List.not_mem_nil,or_false]at hp;have q1:=Z.out.docs;have q2:=Z.out.times;have q3:=Z.out.posts;have q4:=Z.out.dic;have q5:=Z.out.bits;have q6:=e0.1;rw[f0.out,<-r0.out]at q6;rcases hp with rfl | rfl | rfl | rfl | rfl | rfl
      ·exact q1
      ·exact q2
      ·exact Nat.le_trans q3 (by decide)
      ·exact q4
      ·exact Nat.le_trans q5.2 (by decide)
      ·exact q6)
     rw[l0.out];exact Nat.le_trans h1 (by show 16777236*6<=_;decide)
    have g7:w.heap.size<=Wq.heap.size:=Nat.le_trans g8 i1.size;replace o4:=Aa o4;replace f5:=Aa f5;replace z5:=Aa z5;replace o1:=Aa o1;replace i1:=Aa i1;go_wp2_with (at_builtin;rw[<-o1.out];refine Lb Aw o4.out f5.out (.tmp 107) (.tmp 108) rfl rfl rfl rfl rfl z5.out (Ai _) (by omega) (by omega) (fun A9 c9 w9 m0 k1=>?_);replace m0:=Aa m0;replace k1:=Aa k1);go_ret2;have j7:segL (dcs ds) = [76,83,69,71]++JN:=by rw[<-hP.out,l0.out];rfl
    have r3:(segL (dcs ds)).length=4+JN.length:=by rw[j7,List.length_append];rfl
    refine⟨A9,c9,by rw[r3];rfl,⟨rfl,?_⟩,(k6.out.trans i1.out).trans k1.out⟩;rw[r3,j7,List.map_append];exact m0.out.lower g7
end
section
theorem DH:∀(l:List UInt8) (i n:Nat) (r:List UInt8),getV i l = .ok (n,r)->l=vb n++r/\(0<i->0<n)
 | [],i,n,r,h=>by unfold getV at h;cases h
 | x::l,i,n,r,h=>by
  have U:=x.toNat_lt;unfold getV at h;split at h
  ·cases h
  ·split at h
   ·cases h
   ·rename_i h2;split at h
    ·rename_i b;injection h with h;injection h with e1 e2;subst e1 e2;refine⟨?_,fun hi=>?_⟩
     ·rw[Gn b];simp
     ·rcases Nat.eq_zero_or_pos x.toNat with j | j
      ·exact absurd (.inr ⟨hi,j⟩) h2
      ·exact j
    ·rename_i b;split at h
     ·rename_i m r1 a;injection h with h;injection h with e1 e2;subst e1 e2;obtain⟨H,Y⟩:=DH l (i+1) m r1 a;have J:=Y (by omega);refine⟨?_,fun _=>by omega⟩;rw[Je (n:=x.toNat - 128+128*m) (by omega),show (x.toNat - 128+128*m) / 128=m by omega,show (x.toNat - 128+128*m)%128+128=x.toNat by omega,List.cons_append,<-H];simp
     ·cases h
theorem Kg {most:Nat} (h:getT most l = .ok (s,r)):l=txL s++r:=by
 unfold getT at h;split at h
 ·cases h
 ·rename_i n r0 j;split at h
  ·cases h
  ·split at h
   ·cases h
   ·injection h with h;injection h with h1 h2;have b:=(DH l 0 n r0 j).1;have hn:s.length=n:=by rw[<-h1,List.length_take];omega
    unfold txL;rw[hn,b,<-h1,<-h2,List.append_assoc,List.take_append_drop]
theorem Iz:∀(k:Nat) (l:List UInt8) (fs:List Fd) (r:List UInt8),getFs k l=some (fs,r)->l=putFs fs++r/\fs.length=k
 | 0,l,fs,r,h=>by
  unfold getFs at h;injection h with h;injection h with h1 h2;subst h1 h2;exact⟨rfl,rfl⟩
 | k+1,l,fs,r,h=>by
  unfold getFs at h;split at h
  ·cases h
  ·rename_i nm r1 h1;split at h
   ·cases h
   ·rename_i tx r2 h2;split at h
    ·cases h
    ·rename_i fs2 r3 j;injection h with h;injection h with e1 e2;subst e1 e2;obtain⟨b,hk⟩:=Iz k r2 fs2 r3 j;refine⟨?_,by rw[List.length_cons,hk]⟩;rw[Kg h1,Kg h2,b];unfold putFs;rw[List.flatMap_cons];unfold putF;simp
theorem OT {u:Nat}:zig (unzig u)=u:=by
 unfold zig unzig;split <;> split <;> omega
theorem Pk {e:Ev} (h:getE l=some (e,r)):l=putE e++r/\I64ok' e.at_/\checkE e.fs=0:=by
 unfold getE at h;split at h
 ·cases h
 ·rename_i u r1 h1;split at h
  ·cases h
  ·rename_i n r2 h2;split at h
   ·cases h
   ·split at h
    ·cases h
    ·rename_i fs r3 j;split at h
     ·rename_i b;injection h with h;injection h with e1 e2;subst e1 e2;obtain⟨a,hk⟩:=Iz n r2 fs r3 j;refine⟨?_,K6 (Ct h1),b⟩;unfold putE;simp only;rw[OT,hk,(DH l 0 u r1 h1).1,(DH r1 0 n r2 h2).1,a];simp
     ·cases h
def skipV:Nat->List UInt8->Option (List UInt8)
 | 0,l=>some l
 | k+1,l=>match getV 0 l with
  | .error _=>none
  | .ok (_,r)=>skipV k r
def readD:Nat->Int->List UInt8->Option (List Dc)
 | 0,_,_=>some []
 | k+1,last,l=>match getV 0 l with
  | .error _=>none
  | .ok (s,r)=>if 1099511627776<s then none else match getE r with
   | none=>none
   | some (e,r2)=>if 1099511627776<last+1+s then none else match readD k (last+1+s) r2 with
    | none=>none
    | some ds=>some ((last+1+s,e)::ds)
def decDs (b:List UInt8):Option (List Dc):=match getV 0 b with
 | .error _=>none
 | .ok (n,r)=>if 65536<n then none else match skipV (2*((n+15) / 16)) r with
  | none=>none
  | some r2=>match readD n 0 r2 with
   | none=>none
   | some ds=>if okDs ds=true/\encDs ds=b then some ds else none
theorem Iq {b:List UInt8} {ds:List Dc} (h:decDs b=some ds):okDs ds=true/\encDs ds=b:=by
 unfold decDs at h;split at h
 ·cases h
 ·split at h
  ·cases h
  ·split at h
   ·cases h
   ·split at h
    ·cases h
    ·split at h
     ·rename_i j;injection h with h;subst h;exact j
     ·cases h
theorem IT:∀(k:Nat) (last:Int) (l:List UInt8) (ds:List Dc),readD k last l=some ds->(blockD last ds).length<=l.length/\ds.length=k/\∀d∈ds,I64ok' d.2.at_/\checkE d.2.fs=0
 | 0,last,l,ds,h=>by
  unfold readD at h;injection h with h;subst h;exact⟨Nat.zero_le _,rfl,nofun⟩
 | k+1,last,l,ds,h=>by
  unfold readD at h;split at h
  ·cases h
  ·rename_i s r h1;split at h
   ·cases h
   ·split at h
    ·cases h
    ·rename_i e r2 h2;split at h
     ·cases h
     ·split at h
      ·cases h
      ·rename_i ds2 j;injection h with h;subst h;obtain⟨i1,i2,i3⟩:=IT k _ r2 ds2 j;obtain⟨j1,j2,j3⟩:=Pk h2;have b:=(DH l 0 s r h1).1;refine⟨?_,by rw[List.length_cons,i2],fun d hd=>?_⟩
       ·show (oneD last (last+1+s,e)++blockD (last+1+s) ds2).length<=_;unfold oneD;simp only;rw[show (last+1+(s:Int) - last - 1).toNat=s by omega,b,j1];simp only[List.length_append];omega
       ·rcases List.mem_cons.1 hd with rfl | hd
        ·exact⟨j2,j3⟩
        ·exact i3 d hd
theorem Ht:∀(bs:List (List Dc)) (lo:Int) (r:List UInt8),(∀k:Nat,lastD lo ((bs.take k).flatMap id)<9223372036854775808/\(blockD lo ((bs.take k).flatMap id)).length<9223372036854775808)->skipV (2*bs.length) (headD lo bs++r)=some r
 | [],lo,r,_=>rfl
 | b::bs,lo,r,h=>by
  have h1:=h 1;rw[List.take_succ_cons,List.take_zero,List.flatMap_cons,List.flatMap_nil,List.append_nil]at h1;simp only[id]at h1;have ih:=Ht bs (lastD lo b) r fun k=>by
   have:=h (k+1);rw[List.take_succ_cons,List.flatMap_cons,C4,Bj,List.length_append]at this;simp only[id]at this;exact⟨this.1,by omega⟩
  show skipV (2*(bs.length+1)) ((vb (lastD lo b).toNat++vb (blockD lo b).length++headD (lastD lo b) bs)++r)=_;rw[show 2*(bs.length+1)=2*bs.length+1+1 by omega,List.append_assoc,List.append_assoc];unfold skipV;rw[BD (by omega)];simp only;unfold skipV;rw[BD (by omega)];exact ih
theorem Gc:∀(P:List Dc) (lo:Int),risB 1099511627777 lo (P.map (·.1))=true->0<=lo->(∀d∈P,I64ok' d.2.at_/\checkE d.2.fs=0)->readD P.length lo (blockD lo P)=some P
 | [],lo,_,_,_=>rfl
 | d::P,lo,h,H,a=>by
  rw[List.map_cons,risB,Bool.and_eq_true,Bool.and_eq_true]at h;have h1:=of_decide_eq_true h.1.1;have h2:=of_decide_eq_true h.1.2;obtain⟨j,b⟩:=a d (List.mem_cons_self ..);have ih:=Gc P d.1 h.2 (by omega) fun x Y=>a x (List.mem_cons_of_mem _ Y);show readD (P.length+1) lo (oneD lo d++blockD d.1 P)=_;unfold readD oneD;rw[List.append_assoc,BD (by omega)];simp only;rw[if_neg (by omega),Pm j b];simp only;rw[show lo+1+(((d.1 - lo - 1).toNat:Nat):Int)=d.1 by omega,if_neg (by omega),ih]
theorem J1 {P:List Dc} (h:okDs P=true) (O:∀d∈P,I64ok' d.2.at_) (Z:(blockD 0 P).length<=50000000):decDs (encDs P)=some P:=by
 have j:=h;unfold okDs at h;rw[Bool.and_eq_true,Bool.and_eq_true]at h;obtain⟨J,U,T⟩:=h;have J:=of_decide_eq_true J;have a:(chunkL 16 P).length=(P.length+15) / 16:=AO (by omega) P;have hk:∀k:Nat,lastD 0 (((chunkL 16 P).take k).flatMap id)<9223372036854775808/\(blockD 0 (((chunkL 16 P).take k).flatMap id)).length<9223372036854775808:=fun k=>by
  rw[BF (by omega)];have h1:=(Uy (l:=P.take (k*16)) (lo:=0) (n:=1099511627777) (by rw[List.map_take];exact Bp _ U) (by omega)).2;have h2:=CV P (k*16);omega
 have b:=Ht (chunkL 16 P) 0 (blockD 0 P) hk;have H:=Gc P 0 U (by omega) fun d hd=>⟨O d hd,of_decide_eq_true (List.all_eq_true.1 T d hd)⟩
 rw[a]at b;have Y:encDs P=vb P.length++(headD 0 (chunkL 16 P)++blockD 0 P):=by unfold encDs;rw[List.append_assoc]
 unfold decDs;rw[Y,BD (by omega)];simp only;rw[if_neg (by omega),b];simp only;rw[H];simp only;rw[if_pos ⟨j,by rw[Y]⟩]
end
section
open Go.RowKit
structure DocsOwn (w:World) (base:Nat) (A:Option Addr) (c:Nat) (l:List DocC):Prop where
  own:w.ownsRow base 71 3 (.slice A l.length c) l.length (dcells l)
  each:∀x∈l,x.e.Own w base x.A x.c
  ints:∀x∈l,I64ok' x.e.at_/\I64ok' x.seq
theorem DocsOwn.ok {base c:Nat} {l:List DocC} (h:DocsOwn w base A c l):DocsOk w A l:=⟨Cells.of_own h.own,fun x j=>⟨(h.each x j).ok,h.ints x j⟩⟩
theorem DocsOwn.nil (w:World) (base:Nat):DocsOwn w base none 0 []:=⟨⟨rfl,.inl ⟨rfl,rfl⟩⟩,nofun,nofun⟩
theorem DocsOwn.chg {base c:Nat} {l:List DocC} (h:DocsOwn w base A c l) (Y:Chg S w w') (H:∀g t cs,Row w g t cs->t=91\/t=71->base<=g->¬ S g):DocsOwn w' base A c l :=
 ⟨Y.owns h.own fun g j=>by obtain⟨cs,b,hb⟩:=Ae h.own j;exact H g _ cs b (.inr rfl) hb,fun x a=>⟨Y.owns (h.each x a).1 fun g j=>by obtain⟨cs,b,hb⟩:=Ae (h.each x a).1 j;exact H g _ cs b (.inl rfl) hb,(h.each x a).2⟩,h.ints⟩
theorem DocsOwn.ext {base c:Nat} {l:List DocC} (h:DocsOwn w base A c l) (j:Ext w w'):DocsOwn w' base A c l:=⟨j.owns h.own,fun x b=>⟨j.owns (h.each x b).1,(h.each x b).2⟩,h.ints⟩
theorem DocsOwn.lower {base b c:Nat} {l:List DocC} (h:DocsOwn w base A c l) (hb:b<=base):DocsOwn w b A c l:=⟨AD h.own hb,fun x j=>⟨AD (h.each x j).1 hb,(h.each x j).2⟩,h.ints⟩
theorem DocsOwn.cap {base c:Nat} {l:List DocC} (h:DocsOwn w base A c l):l.length<=c/\∀a,A=some a->a.spot=none:=BN h.own
theorem MQ:Elem prog 30 71 3 40:=⟨underlying30,⟨_,_,rfl,rfl,rfl,rfl,rfl⟩,by omega,by omega⟩
theorem FX (l:List DocC) (x:DocC):dcells (l ++ [x])=dcells l++x.cells:=by
 unfold dcells;rw[List.flatMap_append];simp
theorem BJ (l:List DocC) (x:DocC):dcs (l ++ [x])=dcs l ++ [x.dc]:=by unfold dcs;rw[List.map_append];rfl
def SdecP (w:World) (res:Option (List Dc)) (e:Ending) (w':World):Prop:=Ext w w'/\match res with
 | some P=>∃(l:List DocC) (A:Option Addr) (c:Nat),dcs l=P/\e = .returned (.tuple #[.slice A l.length c,.int .i64 0])/\DocsOwn w' w.heap.size A c l
 | none=>e = .returned (.tuple #[.slice none 0 0,.int .i64 120])
theorem SdecP.no {res:Option (List Dc)} (j:Ext w w') (h:res=none):SdecP w res (.returned (.tuple #[.slice none 0 0,.int .i64 120])) w':=by
 subst h;exact⟨j,rfl⟩
def aheadD (read:List Dc):Option (List Dc)->Option (List Dc)
 | none=>none
 | some l=>some (read++l)
theorem Ld (x:Option (List Dc)):aheadD [] x=x:=by cases x <;> rfl
theorem Mt (h:skipV k L=skipV (k - i) r) (hi:i<k) (h1:getV 0 r = .ok (n,r1)):skipV k L=skipV (k - (i+1)) r1:=by
 obtain⟨j,b⟩:∃j,k - i=j+1:=⟨k - i - 1,by omega⟩
 rw[h,b,show k - (i+1)=j by omega]
 conv=>lhs;unfold skipV
 rw[h1]
theorem P8 {e:Nat} (h:skipV k L=skipV (k - i) r) (hi:i<k) (h1:getV 0 r = .error e):skipV k L=none:=by
 obtain⟨j,b⟩:∃j,k - i=j+1:=⟨k - i - 1,by omega⟩
 rw[h,b];unfold skipV;rw[h1]
theorem OB (h:skipV k L=skipV (k - i) r) (hi:k<=i):skipV k L=some r:=by
 rw[h,show k - i=0 by omega];rfl
section
variable {k i:Nat} {la0 la:Int} {read:List Dc} {L r:List UInt8} (h:readD k la0 L=aheadD read (readD (k - i) la r)) (hi:i<k)
include h hi
theorem Od {e:Nat} (h1:getV 0 r = .error e):readD k la0 L=none:=by
 obtain⟨j,b⟩:∃j,k - i=j+1:=⟨k - i - 1,by omega⟩
 rw[h,b];unfold readD;rw[h1];rfl
theorem Oe {s:Nat} (h1:getV 0 r = .ok (s,r1)) (h2:1099511627776<s):readD k la0 L=none:=by
 obtain⟨j,b⟩:∃j,k - i=j+1:=⟨k - i - 1,by omega⟩
 rw[h,b];unfold readD;rw[h1];simp only;rw[if_pos h2];rfl
theorem Og {s:Nat} (h1:getV 0 r = .ok (s,r1)) (h2:getE r1=none):readD k la0 L=none:=by
 obtain⟨j,b⟩:∃j,k - i=j+1:=⟨k - i - 1,by omega⟩
 rw[h,b];unfold readD;rw[h1];simp only;rw[h2];split <;> rfl
theorem Oh {s:Nat} {e:Ev} (h1:getV 0 r = .ok (s,r1)) (h2:getE r1=some (e,r2)) (b:1099511627776<la+1+s):readD k la0 L=none:=by
 obtain⟨j,a⟩:∃j,k - i=j+1:=⟨k - i - 1,by omega⟩
 rw[h,a];unfold readD;rw[h1];simp only;rw[h2];simp only;rw[if_pos b];split <;> rfl
theorem Mf {s:Nat} {e:Ev} (h1:getV 0 r = .ok (s,r1)) (b:¬ 1099511627776<s) (h2:getE r1=some (e,r2)) (a:¬ 1099511627776<la+1+s):readD k la0 L=aheadD (read ++ [(la+1+s,e)]) (readD (k - (i+1)) (la+1+s) r2):=by
 obtain⟨j,H⟩:∃j,k - i=j+1:=⟨k - i - 1,by omega⟩
 rw[h,H,show k - (i+1)=j by omega]
 conv=>lhs;unfold readD
 rw[h1];simp only;rw[if_neg b,h2];simp only;rw[if_neg a];cases readD j (la+1+s) r2 with
 | none=>rfl
 | some p=>simp[aheadD]
end
theorem Oc {read:List Dc} (h:readD k la0 L=aheadD read (readD (k - i) la r)) (hi:k<=i):readD k la0 L=some read:=by
 rw[h,show k - i=0 by omega];simp[readD,aheadD]
end
section
open Go.RowKit
theorem JA (A:Option Addr) (n c:Nat) (bs:List UInt8) (w:World) (h:In8 w A n c bs) (a2:n<=50000000) :
 Calls prog 54 #[.slice A n c] w fun e w'=>SdecP w (decDs bs) e w':=by
 have j1:=Cl A n c bs w w h (Ext.refl w) (by omega);have q6:bs.length<=50000000:=by rw[<-h.len];exact a2
 obtain⟨Z,hZ⟩:=Ab (decDs bs);rw[<-hZ];unfold decDs at hZ;cases d1:getV 0 bs with
 | error k =>
  rw[d1]at j1 hZ;have hk:=BK bs 0 k d1;have n4:((k:Int) != 0)=true:=by simp;omega
  have hg:=Aa j1;replace hZ:=Aa hZ;clear d1 hk j1
  go_in
  go_wp2_with fail;refine hg.out.mono ?_;rintro e w1 ⟨k1,rfl⟩;go_wp2_with fail;go_ret2;exact SdecP.no k1 hZ.out
 | ok p =>
  obtain⟨q,r⟩:=p;have z5:r.length<=50000000:=by have:=Cs d1;omega
  rw[d1]at j1 hZ;simp only at hZ;have hg:=Aa j1;unfold Got at hg;simp only at hg;clear d1 j1;by_cases e3:65536<q
  ·rw[if_pos e3]at hZ;have y5:(65536:Int)<q:=by omega
   replace hZ:=Aa hZ
   go_in
   go_wp2_with fail;refine hg.out.mono ?_;rintro e w1 ⟨k1,A1,c1,rfl,hi1⟩;go_wp2_with fail;go_ret2;exact SdecP.no k1 hZ.out
  ·rw[if_neg e3]at hZ;have y5:¬ (65536:Int)<q:=by omega
   obtain⟨K,hK⟩:=Ab (2*((q+15) / 16));rw[<-hK]at hZ;replace hZ:=Aa hZ
   go_in
   go_wp2_with fail;refine hg.out.mono ?_;rintro e w1 ⟨k1,A1,c1,rfl,hi1⟩;go_wp2_with fail;have v4:2*(((q:Int)+16 - 1) / 16)=(K:Int):=by omega
   rw[v4];have h6:K<=100000:=by omega
   replace hK:=Aa hK;have t4:=Aa k1;have i4:=Aa hi1;clear v4 hg k1 hi1;have d3:=Aa (fun A n c r W (h:In8 w A n c r) (hw:Ext w W) (a2:n<=1000000000)=>Cl A n c r w W h hw a2)
   go_loopw [5,31] (fun s5 s31 wr=>∃(i:Nat) (rr:List UInt8) (A3:Option Addr) (c3:Nat),s31 = .int .u64 (i:Int)/\s5 = .slice A3 rr.length c3/\i<=K/\rr.length<=50000000/\Hid (skipV K r=skipV (K - i) rr)/\Hid (In8 w A3 rr.length c3 rr)/\Hid (Ext w wr)) (fun _ s31 _=>K - (intOf s31).toNat)
   case atStart=>exact⟨0,r,A1,c1,rfl,rfl,by omega,z5,Aa rfl,i4,t4⟩
   case round =>
    obtain⟨i,rr,A3,c3,rfl,rfl,hi,a5,y3,m2,hE⟩:=hrel;by_cases l4:i<K
    ·have b:=d3.out A3 rr.length c3 rr wr m2.out hE.out (by omega);cases hv:getV 0 rr with
     | error k =>
      have I:=P8 y3.out l4 hv;have hk:=BK rr 0 k hv;have n4:((k:Int) != 0)=true:=by simp;omega
      rw[hv]at b;have Y:Z=none:=by rw[hZ.out,I]
      replace Y:=Aa Y;replace b:=Aa b;clear hv hk I;go_wp2_with fail;refine b.out.mono ?_;rintro e w2 ⟨a,rfl⟩;go_wp2_with fail;go_ret2;exact SdecP.no (hE.out.trans a) Y.out
     | ok p =>
      obtain⟨v,r1⟩:=p;have e5:=Aa (Mt y3.out l4 hv);have p4:=Cs hv;rw[hv]at b;unfold Got at b;simp only at b;replace b:=Aa b;clear hv;go_wp2_with fail;refine b.out.mono ?_;rintro e w2 ⟨a,A4,c4,rfl,m5⟩;go_wp2_with fail;exact⟨⟨i+1,r1,A4,c4,by go_num,rfl,by omega,by omega,e5,Aa m5,Aa (hE.out.trans a)⟩,by simp only[intOf];omega⟩
    ·obtain rfl:i=K:=by omega
     have v0:=OB y3.out (Nat.le_refl _);have m0:=hZ.out;rw[v0]at m0;simp only at m0;replace m0:=Aa m0;clear v0 y3;go_wp2_with fail;have e4:=Aa (fun A n c r W (h:In8 w A n c r) (hw:Ext w W) (a2:n<=1000000000)=>NF A n c r w W h hw a2)
     go_loopw [5,7,8,43] (fun s5 s7 s8 s43 wr=>∃(j:Nat) (read:List DocC) (rr2:List UInt8) (A3 B:Option Addr) (c3 d:Nat) (la:Int),s43 = .int .u64 (j:Int)/\s5 = .slice A3 rr2.length c3/\s7 = .slice B j d/\s8 = .int .i64 la/\j<=q/\rr2.length<=50000000/\0<=la/\la<=1099511627776/\Hid (j=read.length)/\Hid (readD q 0 rr=aheadD (dcs read) (readD (q - j) la rr2))/\Hid (DocsOwn wr w.heap.size B d read)/\Hid (In8 w A3 rr2.length c3 rr2)/\Hid (Ext w wr)) (fun _ _ _ s43 _=>q - (intOf s43).toNat)
     case atStart=>exact⟨0,[],rr,A3,none,c3,0,0,rfl,rfl,rfl,rfl,by omega,a5,by omega,by omega,Aa rfl,Aa (by show _=aheadD [] _;rw[Ld];rfl),Aa (DocsOwn.nil _ _),m2,hE⟩
     case round =>
      clear m2 hE;obtain⟨j,read,rr2,A4,B,c4,d,la,rfl,rfl,rfl,rfl,hj,n5,i5,l5,m1,i0,d0,m2,hE⟩:=hrel;by_cases x2:j<q
      ·have b:=d3.out A4 rr2.length c4 rr2 wr m2.out hE.out (by omega);have Y:readD q 0 rr=none->Hid (Z=none):=fun hn=>Aa (by rw[m0.out,hn]);replace Y:=Aa Y;cases hv:getV 0 rr2 with
       | error k =>
        have I:=Y.out (Od i0.out x2 hv);have hk:=BK rr2 0 k hv;have n4:((k:Int) != 0)=true:=by simp;omega
        rw[hv]at b;replace b:=Aa b;clear hv hk;go_wp2_with fail;refine b.out.mono ?_;rintro e w2 ⟨a,rfl⟩;go_wp2_with fail;go_ret2;exact SdecP.no (hE.out.trans a) I.out
       | ok p =>
        obtain⟨s,r1⟩:=p;have p4:=Cs hv;rw[hv]at b;unfold Got at b;simp only at b;replace b:=Aa b;by_cases f3:1099511627776<s
        ·have I:=Y.out (Oe i0.out x2 hv f3);have b5:(1099511627776:Int)<s:=by omega
         clear hv;go_wp2_with fail;refine b.out.mono ?_;rintro e w2 ⟨a,A5,c5,rfl,r3⟩;go_wp2_with fail;go_ret2;exact SdecP.no (hE.out.trans a) I.out
        ·have b5:¬ (1099511627776:Int)<s:=by omega
         have p6:IntKind.i64.wrap (s:Int)=(s:Int):=BP (by omega) (by omega);obtain⟨sq,a1⟩:=Ab (la+1+s:Int);have o5:0<=sq:=by omega
         have r5:sq<=2199023255553:=by omega
         have g0:=fun(hn:getE r1=none)=>Y.out (Og i0.out x2 hv hn);have o0:=fun e r2 (h1:getE r1=some (e,r2)) (h2:1099511627776<sq)=>Y.out (Oh i0.out x2 hv h1 (by rw[<-a1];exact h2));have O:=fun e r2 (h1:getE r1=some (e,r2)) (h2:¬ 1099511627776<sq)=>Mf i0.out x2 hv f3 h1 (by rw[<-a1];exact h2);rw[<-a1]at O;replace a1:=Aa a1;replace g0:=Aa g0;replace o0:=Aa o0;replace O:=Aa O;clear hv i0;go_wp2_with fail;refine b.out.mono ?_;rintro e w2 ⟨a,A5,c5,rfl,r3⟩;go_wp2_with fail;rw[<-a1.out];obtain⟨g,hg⟩:=Ab w2.heap.size;obtain⟨W3,q2⟩:=Ab (w2.alloc (.cells #[.int .i64 sq,.int .i64 0,.slice none 0 0] 71));have n0:Ext w2 W3:=by rw[q2];exact(Ext.refl w2).alloc _
         have x3:Row W3 g 71 #[.int .i64 sq,.int .i64 0,.slice none 0 0]:=by rw[q2,hg];exact Row.new w2 _ _
         rw[<-q2,<-hg];have m3:w.heap.size<=g:=by rw[hg];exact(hE.out.trans a).size
         have j4:=Aa (d0.out.ext a);have e0:=Aa ((hE.out.trans a).trans n0);have G:=e4.out A5 r1.length c5 r1 W3 r3 e0.out (by omega);replace q2:=Aa q2;replace x3:=Aa x3;replace hg:=Aa hg;replace n0:=Aa n0;clear r3;cases x0:getE r1 with
         | none =>
          have I:=g0.out x0;rw[x0]at G;replace G:=Aa G;clear x0;go_wp2_with fail;refine G.out.mono ?_;rintro e w4 ⟨U,rfl⟩;have H:=x3.out.ext U;have e1:=H.cell 1 rfl;have e2:=H.cell 2 rfl;have f1:=H.free 1;have f2:=H.free 2;replace H:=Aa H;replace U:=Aa (e0.out.trans U);go_wp2_with fail;go_ret2;exact SdecP.no ((U.out.setCell (p:=⟨g,1,none⟩) m3 _).setCell (p:=⟨g,2,none⟩) m3 _) I.out
         | some p =>
          obtain⟨ev,r2⟩:=p;have q5:=NP x0;have j5:=Aa (o0.out ev r2 x0);have d5:=Aa (O.out ev r2 x0);rw[x0]at G;unfold GotE at G;simp only at G;replace G:=Aa G;clear x0 o0 O g0;go_wp2_with fail;refine G.out.mono ?_;rintro e w4 ⟨U,B4,d4,A6,c6,rfl,t0,q4,l3⟩;unfold Ev.val;obtain⟨at_,fs⟩:=ev;simp only;have H:=x3.out.ext U;have e1:=H.cell 1 rfl;have e2:=H.cell 2 rfl;have f1:=H.free 1;have f2:=H.free 2;obtain⟨w5,q0⟩:=Ab ((w4.setCell ⟨g,1,none⟩ (.int .i64 at_)).setCell ⟨g,2,none⟩ (.slice B4 fs.length d4));have q3:Row w5 g 71 #[.int .i64 sq,.int .i64 at_,.slice B4 fs.length d4]:=by rw[q0];exact(H.put 1 _).put 2 _
          have o1:Ext w w5:=by rw[q0];exact((e0.out.trans U).setCell (p:=⟨g,1,none⟩) m3 _).setCell (p:=⟨g,2,none⟩) m3 _
          have z3:Chg (fun k=>k=g) w4 w5:=by rw[q0];exact(Chg.of_set (S:=fun k=>k=g) w4 _ rfl).trans (Chg.of_set (S:=fun k=>k=g) _ _ rfl) fun _ _ h=>h
          have z4:Chg (fun k=>k=g) w2 w5:=(Chg.of_ext (n0.out.trans U) _).trans z3 fun _ _ h=>h;have f0:DocsOwn w5 w.heap.size B d read:=j4.out.chg z4 fun g' t cs hr _ _ hk=>by have:=hr.lt;have:=hg.out;omega
          have f4:=e0.out.size;have c0:Ev.Own ⟨at_,fs⟩ w5 w.heap.size B4 d4:=⟨z3.owns (AD t0.1 f4) fun k hk=>by
           obtain⟨cs,hr,_⟩:=Ae t0.1 hk;exact fun e=>Row.unlike hr H (by decide) e,t0.2⟩
          have y0:=q3.cell 0 rfl;have y1:=q3.cell 1 rfl;have y2:=q3.cell 2 rfl;rw[q0]at y0 y1 y2;replace H:=Aa H;replace q0:=Aa q0;replace q3:=Aa q3;replace o1:=Aa o1;replace f0:=Aa f0;replace c0:=Aa c0;replace t0:=Aa t0;replace q4:=Aa q4;replace l3:=Aa l3;by_cases hb:1099511627776<sq
          ·have I:=j5.out hb;go_wp2_with fail;go_ret2;rw[<-q0.out];exact SdecP.no o1.out I.out
          ·have o4:=Aa (d5.out (by omega));have o2:w5.ownsRow w.heap.size 71 3 (.slice B j d) j (dcells read):=by have:=f0.out.own;rw[<-m1.out]at this;exact this
           have i3:=o1.out.size;obtain⟨fl,k2⟩:=Ab fs.length;rw[<-k2]at y0 y1 y2 q0;have J:=o2;have p3:=i3;rw[q0.out]at J p3;rw[<-k2];replace k2:=Aa k2;clear o2 i3;go_wp2_with (at_builtin;refine AS (us:= [.int .i64 sq,.int .i64 at_,.slice B4 fl d4]) (m:=1) MQ J (by simp) (.tmp 79) (.tmp 81) rfl rfl rfl rfl rfl (Az rfl) (by omega) p3 (fun A8 c8 w8 k4 j2 v5=>?_);rw[<-q0.out]at j2 J;replace k4:=Aa k4;replace j2:=Aa j2;have q1:=Aa J;clear J v5);have hlen:(read ++ [(⟨sq,⟨at_,fs⟩,B4,d4⟩:DocC)]).length=j+1:=by rw[List.length_append,<-m1.out];rfl
           have a4:Chg (fun k'=>(Value.slice B j d).ownBlock=some k') w5 w8:=Chg.of_grown j2.out fun k' _ t5=>t5;have r4:∀k cs,Row w5 k 91 cs->¬ (Value.slice B j d).ownBlock=some k:=fun k cs hr=>Am q1.out hr (by decide);have p5:Ext w w8:=o1.out.grown j2.out fun k hk=>by obtain⟨_,_,hb⟩:=Ae q1.out hk;omega
           refine⟨⟨j+1,read ++ [⟨sq,⟨at_,fs⟩,B4,d4⟩],r2,A6,A8,c6,c8,sq,by go_num,rfl,rfl,rfl,by omega,by omega,by omega,by omega,Aa hlen.symm,Aa (by rw[BJ];exact o4.out),Aa ⟨?_,?_,?_⟩,q4,Aa p5⟩,by simp only[intOf];omega⟩
           ·rw[hlen,FX];show w8.ownsRow _ _ _ _ _ (dcells read ++ [.int .i64 sq,.int .i64 at_,.slice B4 fs.length d4]);rw[<-k2.out];exact k4.out
           ·intro x hx;rcases List.mem_append.1 hx with hx | hx
            ·exact⟨a4.owns (f0.out.each x hx).1 fun g' o3=>by obtain⟨cs,hr,_⟩:=Ae (f0.out.each x hx).1 o3;exact r4 _ _ hr,(f0.out.each x hx).2⟩
            ·rw[List.mem_singleton.1 hx];exact⟨a4.owns c0.out.1 fun g' o3=>by obtain⟨cs,hr,_⟩:=Ae c0.out.1 o3;exact r4 _ _ hr,c0.out.2⟩
           ·intro x hx;rcases List.mem_append.1 hx with hx | hx
            ·exact f0.out.ints x hx
            ·rw[List.mem_singleton.1 hx];exact⟨l3.out,by show -9223372036854775808<=sq/\sq<=9223372036854775807;omega⟩
      ·obtain rfl:j=q:=by omega
       have v0:=Oc i0.out (Nat.le_refl _);have T:=m0.out;rw[v0]at T;simp only at T;have x5:=(IT _ _ _ _ v0).1;have a3:=d0.out.cap;obtain⟨P,hP⟩:=Ab (dcs read);have j3:=Du read B j d wr m1.out d0.out.ok a3.2 (by rw[m1.out];exact a3.1);have k3:=Gh read B j d wr m1.out d0.out.ok (by omega);rw[<-hP]at T j3 k3 x5;have y4:(blockD 0 P).length<=50000000:=by omega
       cases x1:okDs P with
       | false =>
        have Y:Z=none:=by rw[T,x1];simp
        have b4:=Aa (k3 x1);replace Y:=Aa Y;clear j3 k3 T m0 hZ;go_wp2_with fail;refine b4.out.mono ?_;rintro e w2 ⟨rfl,a⟩;go_wp2_with fail;go_ret2;exact SdecP.no (hE.out.trans a) Y.out
       | true =>
        have b3:=Aa (j3 x1 y4);rw[x1]at T;replace T:=Aa T;clear j3 k3 m0 hZ;go_wp2_with fail;refine b3.out.mono ?_;rintro e w2 ⟨A9,c9,rfl,x4,a⟩;have g5:(encDs P).length<=60000000:=by
         have h1:=Gy x1 y4 (chunkL 16 P).length;rw[List.take_length]at h1;have i2:=x1;unfold okDs at i2;rw[Bool.and_eq_true]at i2;have h2:=of_decide_eq_true i2.1;have h3:=Ag (n:=P.length) (by omega);have h4:=AO (k:=16) (by omega) P;unfold encDs;rw[List.length_append,List.length_append];omega
        have j0:=GJ A9 A (encDs P).length n c9 c (encDs P) bs w2 x4.2.in8 (h.ext (hE.out.trans a)) (by omega) (by omega);obtain⟨ne,d2⟩:=Ab ((encDs P).length);rw[<-d2]at j0 ⊢;have e0:=Aa (hE.out.trans a);have g4:=Aa (d0.out.ext a);replace d2:=Aa d2;clear x4 g5 b3;by_cases he:encDs P=bs
        ·have k0:=T.out;rw[if_pos ⟨trivial,he⟩]at k0;rw[decide_eq_true he]at j0;replace j0:=Aa j0;replace k0:=Aa k0;replace hP:=Aa hP;clear he;go_wp2_with fail;refine j0.out.mono ?_;rintro e w3 ⟨rfl,U⟩;go_wp2_with fail;go_ret2;rw[k0.out];refine⟨e0.out.trans U,read,B,d,hP.out.symm,by rw[<-m1.out];rfl,g4.out.ext U⟩
        ·have k0:=T.out;rw[if_neg (fun x=>he x.2)]at k0;rw[decide_eq_false he]at j0;replace j0:=Aa j0;replace k0:=Aa k0;clear he;go_wp2_with fail;refine j0.out.mono ?_;rintro e w3 ⟨rfl,U⟩;go_wp2_with fail;go_ret2;exact SdecP.no (e0.out.trans U) k0.out
def EntD (w0:World) (g:Nat) (x:En) (r:List UInt8) (W:World) (e:Ending) (W':World):Prop:=e = .returned (.agg x.cells.toArray)/\RdD w0 g r W'/\Chg (fun k=>k=g) W W'
theorem P3 (hi:i<3) (W:World):(Instr.index 237 (.agg #[.pointer (some ⟨g,1,none⟩),.pointer (some ⟨g,2,none⟩),.pointer (some ⟨g,3,none⟩)]) (.int .i64 (i:Int))).run prog W = .ok (.pointer (some ⟨g,i+1,none⟩)) W:=by
 rcases (show i=0\/i=1\/i=2 by omega)with rfl | rfl | rfl
 ·show _=_
  kernel_rfl
 ·show _=_
  kernel_rfl
 ·show _=_
  kernel_rfl
def nRest (off len n:Nat) (r:List UInt8) (j:Nat):List UInt8:=if j=0 then vb off++(vb len++(vb n++r)) else if j=1 then vb len++(vb n++r) else if j=2 then vb n++r else r
def nThr (off len n j:Nat):Nat:=if j=0 then off else if j=1 then len else n
def nRow (t:List UInt8) (off len n j:Nat):Array Value:=#[.string ⟨t.toArray⟩,.int .i64 (if 0<j then (off:Int) else 0),.int .i64 (if 1<j then (len:Int) else 0),.int .i64 (if 2<j then (n:Int) else 0)]
theorem LW {off len n:Nat} {j:Nat} (h:j<3):nRest off len n r j=vb (nThr off len n j)++nRest off len n r (j+1):=by
 rcases (show j=0\/j=1\/j=2 by omega)with rfl | rfl | rfl <;> simp[nRest,nThr]
theorem N1 {t:List UInt8} {off len n:Nat} {j:Nat} (h:j<3):(nRow t off len n j).setIfInBounds (j+1) (.int .i64 (nThr off len n j:Int))=nRow t off len n (j+1):=by
 rcases (show j=0\/j=1\/j=2 by omega)with rfl | rfl | rfl <;> simp[nRow,nThr]
theorem PB (t:List UInt8) (off len n:Nat) {j:Nat} (h:j<3):∃u,(nRow t off len n j)[j+1]? = some u:=⟨_,Array.getElem?_eq_getElem (by show j+1<4;omega)⟩
theorem Lt (w0 W : World) (g : Nat) (la : List UInt8) (x : En) (r : List UInt8) (h : RdD w0 g (enB la x ++ r) W) (hg : w0.heap.size ≤ g) (hx : okEn x) (w4 : la.length ≤ 65) (g0 : (enB la x ++ r).length ≤ 1000000000) :
    Calls prog 98 #[.pointer (some ⟨g, 0, none⟩), .string ⟨la.toArray⟩] W fun e W' => EntD w0 g x r W e W' := by
  obtain ⟨t, off, len, n⟩ := x
  obtain ⟨b0, b1, b2, b3⟩ := hx
  simp only at b0 b1 b2 b3
  obtain ⟨k, hk⟩ := Ab (cpl la t)
  have o4 : k ≤ t.length := by rw [hk]; exact (DC la t).2
  have e3 : k ≤ la.length := by rw [hk]; exact (DC la t).1
  have y2 : la.take k ++ t.drop k = t := by rw [hk, JX la t]; exact List.take_append_drop _ _
  obtain ⟨R3, p0⟩ := Ab (vb off ++ (vb len ++ (vb n ++ r)))
  have O : enB la ⟨t, off, len, n⟩ ++ r = vb k ++ (txL (t.drop k) ++ R3) := by
    unfold enB
    rw [hk, p0]
    simp
  rw [O] at h g0
  have y0 : (txL (t.drop k) ++ R3).length ≤ 1000000000 := by rw [List.length_append] at g0; omega
  have i1 : R3.length ≤ 1000000000 := by rw [List.length_append] at y0; omega
  have i3 := Aa (fun W h => DD w0 W g k (txL (t.drop k) ++ R3) 65 h hg (by omega) (by omega) g0)
  have h4 := Aa (fun W h => Nz w0 W g (t.drop k) R3 h hg (by rw [List.length_drop]; omega) y0)
  have l3 := Aa (fun W q r h (hq : q ≤ 67108864) hl => DD w0 W g q r 67108864 h hg (by omega) (by omega) hl)
  have d3 := fun W => Jy (l := la) e3 (z := (k : Int)) rfl W
  obtain ⟨ln, h2⟩ := Ab la.length
  have y4 : (⟨la.toArray⟩ : ByteArray).size = ln := by rw [h2]; exact ByteArray.size_mk_toArray la
  have n4 : ¬ (ln : Int) < (k : Int) := by omega
  have j4 : (⟨(la.take k).toArray⟩ : ByteArray) ++ ⟨(t.drop k).toArray⟩ = ⟨t.toArray⟩ := by
    have e : (⟨(la.take k).toArray⟩ : ByteArray) ++ ⟨(t.drop k).toArray⟩ = ⟨(la.take k ++ t.drop k).toArray⟩ := by
      apply ByteArray.ext
      simp
    rw [e, y2]
  have z4 : (⟨(la.take k).toArray⟩ : ByteArray).size = k := by rw [ByteArray.size_mk_toArray, List.length_take]; omega
  obtain ⟨tn, e0⟩ := Ab ((t.drop k).length)
  have a4 : (⟨(t.drop k).toArray⟩ : ByteArray).size = tn := by rw [e0]; exact ByteArray.size_mk_toArray _
  have q4 : tn ≤ 65 := by rw [e0, List.length_drop]; omega
  have x4 : k ≤ 65 := by omega
  obtain ⟨W4, I⟩ := Ab (W.alloc (.cells #[.string ⟨#[]⟩, .int .i64 0, .int .i64 0, .int .i64 0] 100))
  obtain ⟨g4, T⟩ := Ab W.heap.size
  have j2 : Row W4 g4 100 #[.string ⟨#[]⟩, .int .i64 0, .int .i64 0, .int .i64 0] := by rw [I, T]; exact Row.new W _ _
  have x1 : RdD w0 g (vb k ++ (txL (t.drop k) ++ R3)) W4 := by rw [I]; exact h.ext ((Ext.refl W).alloc _)
  have j1 : Chg (fun k => k = g) W W4 := by rw [I]; exact Chg.of_ext ((Ext.refl W).alloc _) _
  have l4 : g < W.heap.size := by obtain ⟨_, _, q, _⟩ := h; exact q.lt
  have k0 : g4 ≠ g := by omega
  replace h := Aa h
  replace hk := Aa hk
  replace y2 := Aa y2
  replace p0 := Aa p0
  replace O := Aa O
  replace h2 := Aa h2
  replace e0 := Aa e0
  replace j2 := Aa j2
  replace x1 := Aa x1
  replace j1 := Aa j1
  replace I := Aa I
  replace T := Aa T
  replace g0 := Aa g0
  replace y0 := Aa y0
  replace i1 := Aa i1
  go_in
  go_wp2_with fail
  rw [← I.out, ← T.out]
  refine (i3.out W4 x1.out).mono ?_
  rintro e w5 ⟨rfl, y1, h0⟩
  have m2 := Aa (h0.row j2.out k0)
  replace h0 := Aa (j1.out.trans h0 fun _ _ h => h)
  replace y1 := Aa y1
  go_wp2_with fail
  have v4 : W.heap.size ≤ w5.heap.size := h0.out.size
  have n0 : W.heap.size < w5.heap.size := by have := m2.out.lt; have := T.out; omega
  have t4 : w0.heap.size ≤ W.heap.size := by obtain ⟨_, _, _, _, q⟩ := h.out; exact q.size
  go_cut [6] (fun s6 wy => ∃ g6, s6 = .pointer (some ⟨g6, 0, none⟩) ∧ W.heap.size < g6 ∧ Hid (Row wy g6 100 #[.string ⟨t.toArray⟩, .int .i64 0, .int .i64 0, .int .i64 0]) ∧ Hid (RdD w0 g R3 wy) ∧ Hid (Row wy g4 100 #[.string ⟨#[]⟩, .int .i64 0, .int .i64 0, .int .i64 0]) ∧ Hid (Chg (fun k => k = g) W wy))
  case first =>
    have l0 := y1.out.ext (Ext.refl w5).drew
    have o2 := l0.ext ((Ext.refl w5.drew).alloc (.cells #[.string ⟨#[]⟩, .int .i64 0, .int .i64 0, .int .i64 0] 100))
    have m0 : Row (w5.drew.alloc (.cells #[.string ⟨#[]⟩, .int .i64 0, .int .i64 0, .int .i64 0] 100)) w5.heap.size 100 #[.string ⟨#[]⟩, .int .i64 0, .int .i64 0, .int .i64 0] := Row.new w5.drew _ _
    have r0 : w5.heap.size ≠ g := by omega
    have k1 := Aa (m2.out.ext (Ext.refl w5).drew)
    have j3 := Aa (k1.out.alloc (.cells #[.string ⟨#[]⟩, .int .i64 0, .int .i64 0, .int .i64 0] 100))
    have i0 := Aa (h0.out.trans (Chg.of_ext (Ext.refl w5).drew (fun k => k = g)) fun _ _ h => h)
    have a2 := Aa (i0.out.trans (Chg.of_ext ((Ext.refl w5.drew).alloc (.cells #[.string ⟨#[]⟩, .int .i64 0, .int .i64 0, .int .i64 0] 100)) (fun k => k = g)) fun _ _ h => h)
    replace m0 := Aa m0
    go_region_with ((go_at_call 148; refine (h4.out _ (by first | exact l0 | exact o2)).mono ?_; rintro e w6 ⟨rfl, U, b⟩; replace U := Aa U; (first | (have r6 := Chg.row b m0.out r0; have c0 := r6.get; have f0 := r6.free; replace r6 := Aa r6) | skip); replace b := Aa b))
    all_goals
      go_wp2_with fail
      go_meet
      case rel =>
        first
        | (have r6' := r6.out
           have z3 := a2.out.trans b.out fun _ _ h => h
           have r3 := (((r6'.put 0 (.string ⟨t.toArray⟩)).put 1 (.int .i64 0)).put 2 (.int .i64 0)).put 3 (.int .i64 0)
           have J := (((Chg.of_set (S := fun k => k = w5.heap.size) w6 (a := ⟨w5.heap.size, 0, none⟩) (.string ⟨t.toArray⟩) rfl).trans (Chg.of_set (S := fun k => k = w5.heap.size) _ (a := ⟨w5.heap.size, 1, none⟩) (.int .i64 0) rfl) fun _ _ h => h).trans (Chg.of_set (S := fun k => k = w5.heap.size) _ (a := ⟨w5.heap.size, 2, none⟩) (.int .i64 0) rfl) fun _ _ h => h).trans (Chg.of_set (S := fun k => k = w5.heap.size) _ (a := ⟨w5.heap.size, 3, none⟩) (.int .i64 0) rfl) fun _ _ h => h
           have t0 := b.out.row j3.out k0
           refine ⟨w5.heap.size, rfl, n0, Aa r3, Aa ?_, Aa (J.row t0 (fun e => ?_)), Aa (z3.trans J fun i hi e => by omega)⟩
           · obtain ⟨B, d, q1, q2, q3⟩ := U.out
             exact ⟨B, d, J.row q1 (fun e => r0 e.symm), q2, q3.chg J fun i hi e => by omega⟩
           · have := m2.out.lt
             omega)
        | (refine ⟨w6.heap.size, rfl, Nat.lt_of_lt_of_le n0 b.out.size, Aa (Row.new w6 _ _), Aa (U.out.ext ((Ext.refl w6).alloc _)), Aa ((b.out.row k1.out k0).alloc _), Aa ((i0.out.trans b.out fun _ _ h => h).trans (Chg.of_ext ((Ext.refl w6).alloc _) _) fun _ _ h => h)⟩)
  case rest =>
    obtain ⟨g6, rfl, i4, m3, U, t0, b⟩ := hcut
    have o0 : g6 ≠ g := by omega
    have f2 : Hid (RdD w0 g (nRest off len n r 0) _) := Aa (by have := U.out; rw [p0.out] at this; exact this)
    have t3 : Hid (Row _ g6 100 (nRow t off len n 0)) := m3
    have k2 : (nRest off len n r 0).length ≤ 1000000000 := by have := i1.out; rw [p0.out] at this; exact this
    replace k2 := Aa k2
    clear m3 U
    go_wp2_with fail
    go_loopw [29] (fun s29 wr => ∃ j : Nat, s29 = .int .i64 (j : Int) ∧ j ≤ 3 ∧ Hid (RdD w0 g (nRest off len n r j) wr) ∧ Hid (Row wr g6 100 (nRow t off len n j)) ∧ Hid (Row wr g4 100 #[.string ⟨#[]⟩, .int .i64 0, .int .i64 0, .int .i64 0]) ∧ Hid (Chg (fun k => k = g) W wr) ∧ Hid ((nRest off len n r j).length ≤ 1000000000)) (fun s29 _ => 3 - (intOf s29).toNat)
    case atStart => exact ⟨0, rfl, by omega, f2, t3, t0, b, k2⟩
    case round =>
      obtain ⟨j, rfl, hj, h3, x3, G, d2, f3⟩ := hrel
      by_cases x0 : j < 3
      · have hx := fun W => P3 (g := g6) x0 W
        have k3 : (j : Int) < 3 := by omega
        have x2 := LW (off := off) (len := len) (n := n) (r := r) x0
        have Y := h3.out
        have j0 := f3.out
        rw [x2] at Y j0
        have d0 := N1 (t := t) (off := off) (len := len) (n := n) x0
        obtain ⟨u, hu⟩ := PB t off len n x0
        obtain ⟨v, hv⟩ := Ab (nThr off len n j)
        have k4 : v ≤ 67108864 := by rw [hv]; unfold nThr; split; exact b1; split; exact b2; exact b3
        rw [← hv] at Y j0 d0
        have o1 : (nRest off len n r (j + 1)).length ≤ 1000000000 := by rw [List.length_append] at j0; omega
        have hc := Aa (l3.out wr v _ Y k4 j0)
        replace o1 := Aa o1
        replace x2 := Aa x2
        replace d0 := Aa d0
        replace hu := Aa hu
        replace hv := Aa hv
        clear Y j0
        go_wp2_with fail
        refine hc.out.mono ?_
        rintro e w8 ⟨rfl, a1, q0⟩
        have H := q0.row x3.out o0
        have v0 := q0.row G.out k0
        have m1 := d2.out.trans q0 fun _ _ h => h
        have c1 := H.cell (j + 1) hu.out
        have f1 := H.free (j + 1)
        replace H := Aa H
        replace v0 := Aa v0
        replace m1 := Aa m1
        replace a1 := Aa a1
        replace q0 := Aa q0
        go_wp2_with fail
        have d1 := Chg.of_set (S := fun k => k = g6) w8 (a := ⟨g6, j + 1, none⟩) (.int .i64 (v : Int)) rfl
        have h1 := H.out.put (j + 1) (.int .i64 (v : Int))
        rw [d0.out] at h1
        have i2 : RdD w0 g (nRest off len n r (j + 1)) (w8.setCell ⟨g6, j + 1, none⟩ (.int .i64 (v : Int))) := by
          obtain ⟨B, d, q1, q2, q3⟩ := a1.out
          exact ⟨B, d, d1.row q1 (fun e => o0 e.symm), q2, q3.chg d1 fun i hi e => by omega⟩
        have p3 : g4 ≠ g6 := by have := T.out; omega
        exact ⟨⟨j + 1, by congr 1, by omega, Aa i2, Aa h1, Aa (v0.out.away p3 _), Aa (m1.out.trans d1 fun i hi e => by omega), o1⟩, by simp only [intOf]; omega⟩
      · have k3 : ¬ (j : Int) < 3 := by omega
        have Z : j = 3 := by omega
        have H : Row wr g6 100 #[.string ⟨t.toArray⟩, .int .i64 (off : Int), .int .i64 (len : Int), .int .i64 (n : Int)] := by
          have := x3.out
          rw [Z] at this
          exact this
        have Y : RdD w0 g r wr := by
          have := h3.out
          rw [Z] at this
          exact this
        have d4 := H.get
        have e4 := G.out.get
        have f4 := G.out.free
        replace H := Aa H
        replace Y := Aa Y
        replace Z := Aa Z
        go_wp2_with fail
        have o3 := (((G.out.put 0 (.string ⟨t.toArray⟩)).put 1 (.int .i64 (off : Int))).put 2 (.int .i64 (len : Int))).put 3 (.int .i64 (n : Int))
        have J := (((Chg.of_set (S := fun k => k = g4) wr (a := ⟨g4, 0, none⟩) (.string ⟨t.toArray⟩) rfl).trans (Chg.of_set (S := fun k => k = g4) _ (a := ⟨g4, 1, none⟩) (.int .i64 (off : Int)) rfl) fun _ _ h => h).trans (Chg.of_set (S := fun k => k = g4) _ (a := ⟨g4, 2, none⟩) (.int .i64 (len : Int)) rfl) fun _ _ h => h).trans (Chg.of_set (S := fun k => k = g4) _ (a := ⟨g4, 3, none⟩) (.int .i64 (n : Int)) rfl) fun _ _ h => h
        have m4 := T.out
        refine bodyPost_ret (results_cell_row rfl _ _ g4 100 #[.string ⟨t.toArray⟩, .int .i64 (off : Int), .int .i64 (len : Int), .int .i64 (n : Int)] (0, 0) _ rfl o3 underlying100 rfl (by kernel_rfl)) rfl ⟨rfl, ?_, d2.out.trans J fun i hi e => by omega⟩
        obtain ⟨B, d, q1, q2, q3⟩ := Y.out
        exact ⟨B, d, J.row q1 (fun e => k0 e.symm), q2, q3.chg J fun i hi e => by omega⟩
def midE (l:List En) (i:Nat) (la:List UInt8):List UInt8:=blockE la ((l.drop i).take (16 - i%16))++partsE (chunkL 16 (l.drop (i+(16 - i%16))))
def restE (l:List En) (i:Nat):List UInt8:=if i%16=0 then partsE (chunkL 16 (l.drop i)) else midE l i (lastT l i)
theorem Mi (l:List En):encEs l=vb l.length++restE l 0:=by
 unfold restE encEs;rw[if_pos (by omega),List.drop_zero]
theorem Mh {l:List En} (h:i%16=0) (hi:i<l.length):∃q,restE l i=vb q++midE l i []/\q<=(midE l i []).length:=by
 have j:l.drop i ≠ []:=fun e=>by
  have:=congrArg List.length e;rw[List.length_drop,List.length_nil]at this;omega
 refine⟨(blockE [] ((l.drop i).take 16)).length,?_,?_⟩
 ·unfold restE midE;rw[if_pos h,h,BE j (by omega),List.drop_drop];show vb _++blockE [] _++partsE _=_;rw[List.append_assoc]
 ·unfold midE;rw[h,List.length_append];exact Nat.le_add_right _ _
theorem N0 {l:List En} {x:En} (j:l[i]? = some x) (la:List UInt8):midE l i la=enB la x++restE l (i+1):=by
 unfold midE;have b:i%16<16:=Nat.mod_lt _ (by omega);rw[AY j,show 16 - i%16=(15 - i%16)+1 by omega,List.take_succ_cons];show (enB la x++blockE x.t _)++_=_;rw[List.append_assoc];congr 1;unfold restE;by_cases h:(i+1)%16=0
 ·rw[if_pos h,show 15 - i%16=0 by omega,List.take_zero,blockE,List.nil_append,show i+(0+1)=i+1 by omega]
 ·rw[if_neg h,Dp j];unfold midE;rw[show 16 - (i+1)%16=15 - i%16 by omega,show i+(15 - i%16+1)=i+1+(15 - i%16)by omega]
theorem Pa:Elem prog 97 100 4 40:=⟨underlying97,⟨_,_,rfl,rfl,rfl,rfl,rfl⟩,by omega,by omega⟩
def DicR (w:World) (g:Nat) (l:List En):Prop:=∃A c,Row w g 186 #[.slice A l.length c,.bool true]/\Cells w A (encells l)
theorem DicR.ext {l:List En} (h:DicR w g l) (j:Ext w w1):DicR w1 g l:=by
 obtain⟨A,c,h1,h2⟩:=h;exact⟨A,c,h1.ext j,h2.ext j⟩
def DicO (w:World) (base g:Nat) (l:List En):Prop:=∃A c,Row w g 186 #[.slice A l.length c,.bool true]/\w.ownsRow base 100 4 (.slice A l.length c) l.length (encells l)
theorem DicO.dic {base g:Nat} {l:List En} (h:DicO w base g l):DicR w g l:=by
 obtain⟨A,c,h1,h2⟩:=h;exact⟨A,c,h1,Cells.of_own h2⟩
theorem DicO.ext {base g:Nat} {l:List En} (h:DicO w base g l) (j:Ext w w1):DicO w1 base g l:=by
 obtain⟨A,c,h1,h2⟩:=h;exact⟨A,c,h1.ext j,j.owns h2⟩
theorem DicO.chg {base g:Nat} {l:List En} (h:DicO w base g l) (b:Chg S w w1) (a:∀q,S q->∃t cs,Row w q t cs/\t≠186/\t≠100):DicO w1 base g l:=by
 obtain⟨A,c,h1,h2⟩:=h;refine⟨A,c,h1.keep (b.block _ h1.lt fun hs=>?_),b.owns h2 fun q H hs=>?_⟩
 ·obtain⟨t,cs,j,hn,_⟩:=a _ hs;exact Row.unlike j h1 hn rfl
 ·obtain⟨t,cs,j,_,hn⟩:=a _ hs;exact Am h2 j (fun e=>hn e.symm) H
def NewDO (w:World) (l:List En) (e:Ending) (w':World):Prop:=∃g,e = .returned (.tuple #[.pointer (some ⟨g,0,none⟩),.int .i64 0])/\DicO w' w.heap.size g l/\Ext w w'
theorem Ls (A:Option Addr) (n c:Nat) (bs:List UInt8) (w:World) (l:List En) (h:In8 w A n c bs) (p0:OkEs l) (m1:bs=encEs l) (g5:n<=100000000) :
 Calls prog 56 #[.slice A n c] w fun e w'=>NewDO w l e w':=by
 obtain⟨m,hm⟩:=Ab l.length;have m5:m<=262144:=by rw[hm];exact p0.few
 have G:bs=vb m++restE l 0:=by rw[m1,hm];exact Mi l
 have q0:n=(vb m++restE l 0).length:=by rw[<-G];exact h.len
 obtain⟨g,hg⟩:=Ab w.heap.size;obtain⟨W0,m0⟩:=Ab (w.alloc (.cells #[.slice A n c,.bool false] 182));have m2:Ext w W0:=by rw[m0];exact(Ext.refl w).alloc _
 have b:RdD w g (vb m++restE l 0) W0:=by
  refine⟨A,c,?_,by rw[<-q0,<-G];exact h,m2⟩;rw[<-q0,m0,hg];exact Row.new w _ _
 have k2:=Aa (fun W q r z h1 h2 h3 h4=>DD w W g q r z h1 (by omega) h2 h3 h4);have l3:=Aa (fun W la x r h1 h2 h3 h4=>Lt w W g la x r h1 (by omega) h2 h3 h4);have j3:(restE l 0).length<=n:=by rw[q0,List.length_append];omega
 replace b:=Aa b;replace m2:=Aa m2;replace p0:=Aa p0;replace m1:=Aa m1;replace G:=Aa G;replace hm:=Aa hm;replace m0:=Aa m0;replace hg:=Aa hg;replace h:=Aa h;replace q0:=Aa q0;replace j3:=Aa j3
 go_in
 go_wp2_with fail;rw[<-m0.out,<-hg.out];refine(k2.out W0 m (restE l 0) 262144 b.out (by omega) (by omega) (by rw[<-q0.out];omega)).mono ?_;rintro e w1 ⟨rfl,y2,y3⟩;replace y2:=Aa y2;replace y3:=Aa y3;go_wp2_with fail
 go_loopw [6,7,8] (fun s6 s7 s8 wr=>∃(i c6:Nat) (A6:Option Addr) (la:List UInt8),s6 = .slice A6 i c6/\s7 = .string ⟨la.toArray⟩/\s8 = .int .i64 (i:Int)/\i<=m/\Hid (i%16≠0->la=lastT l i)/\Hid (la.length<=65)/\Hid ((restE l i).length<=n)/\Hid (RdD w g (restE l i) wr)/\Hid (wr.ownsRow w.heap.size 100 4 (.slice A6 i c6) i (encells (l.take i)))) (fun _ _ s8 _=>m - (intOf s8).toNat)
 case atStart=>exact⟨0,0,none,[],rfl,rfl,rfl,by omega,Aa (fun h=>by omega),Aa (by simp),j3,y2,Aa (World.ownsRow_nil _ _ _ _)⟩
 case round =>
  obtain⟨i,c6,A6,la,rfl,rfl,rfl,him,n4,q4,g4,hS,I⟩:=hrel;obtain⟨wv,rfl⟩:=Ab wr;obtain⟨B0,d0,r0,_,_⟩:=hS.out;have kb:=r0.cell 1 rfl;clear r0;by_cases o3:i<m
  ·obtain⟨x,k0⟩:∃x,l[i]? = some x:=⟨_,List.getElem?_eq_getElem (by rw[<-hm.out];exact o3)⟩
   have t4:=(p0.out.each x (List.mem_of_getElem? k0)).1;obtain⟨mo,c0⟩:=Ab (i%16);have p5:(i:Int)%16=(mo:Int):=by omega
   have q5:((mo:Int)==0)=decide (mo=0):=by rw[Bool.eq_iff_iff,beq_iff_eq,decide_eq_true_iff];omega
   replace c0:=Aa c0;replace k0:=Aa k0;go_upto_if 29 with (fail)
   go_cut [7] (fun s7 wx=>∃la2:List UInt8,s7 = .string ⟨la2.toArray⟩/\Hid (la2.length<=65)/\Hid ((midE l i la2).length<=n)/\Hid (RdD w g (midE l i la2) wx)/\Hid (wx.ownsRow w.heap.size 100 4 (.slice A6 i c6) i (encells (l.take i))))
   case first =>
    by_cases m3:mo=0
    ·obtain⟨q,hq,k4⟩:=Mh (l:=l) (by rw[<-c0.out];exact m3) (by rw[<-hm.out];exact o3);have a2:=hS.out;have i0:=g4.out;rw[hq]at a2 i0;have O:(midE l i []).length<=n:=by rw[List.length_append]at i0;omega
     have hc:=Aa (k2.out wv q _ (n:Int) a2 (by omega) (by omega) (by omega));replace hq:=Aa hq;replace k4:=Aa k4;replace O:=Aa O;clear a2 i0;go_wp2_with fail;refine hc.out.mono ?_;rintro e w3 ⟨rfl,U,j2⟩;have Y:=j2.owns I.out fun gb p3 e=>by
      obtain⟨B,d,q1,_,_⟩:=hS.out;exact Am I.out q1 (by decide) (by rw[p3,e])
     replace U:=Aa U;replace Y:=Aa Y;replace j2:=Aa j2;go_wp2_with fail
     go_meet
     case rel=>exact⟨[],rfl,Aa (by simp),O,U,Y⟩
    ·have i1:restE l i=midE l i la:=by
      unfold restE;rw[if_neg (by rw[<-c0.out];exact m3),n4.out (by rw[<-c0.out];exact m3)]
     have U:Hid (RdD w g (midE l i la) wv):=Aa (by rw[<-i1];exact hS.out);have O:Hid ((midE l i la).length<=n):=Aa (by rw[<-i1];exact g4.out);replace i1:=Aa i1;go_wp2_with fail
     go_meet
     case rel=>exact⟨la,rfl,q4,O,U,I⟩
   case rest =>
    obtain⟨la2,rfl,r3,O,U,Y⟩:=hcut;have t3:=N0 k0.out la2;have d2:=U.out;have y0:=O.out;rw[t3]at d2 y0;have l0:(restE l (i+1)).length<=n:=by rw[List.length_append]at y0;omega
    have hc:=Aa (l3.out _ la2 x _ d2 t4 r3.out (by omega));have d1:=Dp k0.out;have x3:encells (l.take (i+1))=encells (l.take i)++x.cells:=by
     rw[List.take_add_one,k0.out];unfold encells;rw[List.flatMap_append];simp
    obtain⟨t,off,len,nn⟩:=x;have n0:t.length<=65:=t4.1;simp only at d1;replace t3:=Aa t3;replace l0:=Aa l0;replace d1:=Aa d1;replace x3:=Aa x3;replace n0:=Aa n0;clear d2 y0;go_wp2_with fail;refine hc.out.mono ?_;rintro e w4 ⟨he,d3,z3⟩;have he:e = .returned (.agg #[.string ⟨t.toArray⟩,.int .i64 (off:Int),.int .i64 (len:Int),.int .i64 (nn:Int)]):=he;subst he;have T:=z3.owns Y.out fun gb p3 e=>by
     obtain⟨B,d,q1,_,_⟩:=U.out;exact Am Y.out q1 (by decide) (by rw[p3,e])
    obtain⟨g9,v0⟩:=Ab w4.heap.size;obtain⟨W9,h0⟩:=Ab (w4.alloc (.cells #[.string ⟨t.toArray⟩,.int .i64 (off:Int),.int .i64 (len:Int),.int .i64 (nn:Int)] 100));have j4:Row W9 g9 100 #[.string ⟨t.toArray⟩,.int .i64 (off:Int),.int .i64 (len:Int),.int .i64 (nn:Int)]:=by rw[h0,v0];exact Row.new w4 _ _
    have e3:RdD w g (restE l (i+1)) W9:=by rw[h0];exact d3.ext ((Ext.refl w4).alloc _)
    have f0:W9.ownsRow w.heap.size 100 4 (.slice A6 i c6) i (encells (l.take i)):=by rw[h0];exact((Ext.refl w4).alloc _).owns T
    have J:=j4.ext (Ext.refl W9).drew;have Z:=e3.ext (Ext.refl W9).drew;have a:=(Ext.refl W9).drew.owns f0;have m4:w.heap.size<=W9.drew.heap.size:=by obtain⟨_,_,_,_,q⟩:=Z;exact q.size
    have t0:∀k,(Value.slice A6 i c6).ownBlock=some k->k<g9:=fun k hk=>by
     obtain⟨cs,h5,_⟩:=Ae T hk;rw[v0];exact h5.lt
    have i3:=J.get;have b:W9.drew.cell? ⟨g9,0,none⟩=some (.string ⟨t.toArray⟩)/\W9.drew.cell? ⟨g9,1,none⟩=some (.int .i64 (off:Int))/\W9.drew.cell? ⟨g9,2,none⟩=some (.int .i64 (len:Int))/\W9.drew.cell? ⟨g9,3,none⟩=some (.int .i64 (nn:Int)):=⟨J.cell 0 rfl,J.cell 1 rfl,J.cell 2 rfl,J.cell 3 rfl⟩
    have g0:Ext W9.drew (W9.drew.alloc (.cells #[.string ⟨t.toArray⟩,.int .i64 (off:Int),.int .i64 (len:Int),.int .i64 (nn:Int)] 100)):=(Ext.refl _).alloc _;have f2:(W9.drew.alloc (.cells #[.string ⟨t.toArray⟩,.int .i64 (off:Int),.int .i64 (len:Int),.int .i64 (nn:Int)] 100)).cell? ⟨g9,0,none⟩=some (.string ⟨t.toArray⟩)/\(W9.drew.alloc (.cells #[.string ⟨t.toArray⟩,.int .i64 (off:Int),.int .i64 (len:Int),.int .i64 (nn:Int)] 100)).cell? ⟨g9,1,none⟩=some (.int .i64 (off:Int))/\(W9.drew.alloc (.cells #[.string ⟨t.toArray⟩,.int .i64 (off:Int),.int .i64 (len:Int),.int .i64 (nn:Int)] 100)).cell? ⟨g9,2,none⟩=some (.int .i64 (len:Int))/\(W9.drew.alloc (.cells #[.string ⟨t.toArray⟩,.int .i64 (off:Int),.int .i64 (len:Int),.int .i64 (nn:Int)] 100)).cell? ⟨g9,3,none⟩=some (.int .i64 (nn:Int)):=⟨g0.cell b.1,g0.cell b.2.1,g0.cell b.2.2.1,g0.cell b.2.2.2⟩
    have k3:∀w8,W9.drew.grownBy w8 (Value.slice A6 i c6).ownBlock->w8.cell? ⟨g9,0,none⟩=some (.string ⟨t.toArray⟩)/\w8.cell? ⟨g9,1,none⟩=some (.int .i64 (off:Int))/\w8.cell? ⟨g9,2,none⟩=some (.int .i64 (len:Int))/\w8.cell? ⟨g9,3,none⟩=some (.int .i64 (nn:Int)):=fun w8 a1=>by
     have f1:=Row.grown (w:=W9.drew) J a1 (fun e=>by
      have:=t0 _ e.symm;omega)
     exact⟨f1.cell 0 rfl,f1.cell 1 rfl,f1.cell 2 rfl,f1.cell 3 rfl⟩
    replace J:=Aa J;replace Z:=Aa Z;replace a:=Aa a;replace h0:=Aa h0;replace v0:=Aa v0;replace b:=Aa b;replace f2:=Aa f2;replace k3:=Aa k3;replace t0:=Aa t0;replace i3:=Aa i3;clear j4 e3 f0 T d3 z3 g0;go_wp2_with fail;rw[<-h0.out,<-v0.out]
    go_region_held3 (fun x=>x.cell? ⟨g9,0,none⟩=some (.string ⟨t.toArray⟩)/\x.cell? ⟨g9,1,none⟩=some (.int .i64 (off:Int))/\x.cell? ⟨g9,2,none⟩=some (.int .i64 (len:Int))/\x.cell? ⟨g9,3,none⟩=some (.int .i64 (nn:Int))) (first | exact b.out | exact f2.out | exact k3.out _ ‹_›) (first | (refine OH (us:= [.string ⟨t.toArray⟩,.int .i64 (off:Int),.int .i64 (len:Int),.int .i64 (nn:Int)]) (m:=1) Pa rfl a.out rfl (.tmp 37) (.tmp 39) rfl rfl rfl rfl (Az rfl) (by omega) m4 (fun A8 c8 w8 o4 a1=>?_)))
    go_wp2_with fail;have c4:RdD w g (restE l (i+1)) w8:=by
     obtain⟨B,d,q1,q2,q3⟩:=Z.out;refine⟨B,d,q1.grown a1 fun e=>Am a.out q1 (by decide) e.symm,q2,q3.grown a1 fun k hk=>?_⟩;obtain⟨_,_,hb⟩:=Ae a.out hk;exact hb
    have p4:w8.ownsRow w.heap.size 100 4 (.slice A8 (i+1) c8) (i+1) (encells (l.take (i+1))):=by rw[x3.out];exact o4
    exact⟨⟨i+1,c8,A8,t,rfl,rfl,rfl,by omega,Aa (fun _=>d1.out.symm),n0,l0,Aa c4,Aa p4⟩,by simp only[intOf];omega⟩
  ·obtain rfl:i=m:=by omega
   have H:=I.out;rw[List.take_of_length_le (by rw[<-hm.out];exact Nat.le_refl _)]at H;have y1:=BN H;have x1:=Cells.of_own H;have k1:Ext w wv:=by obtain⟨_,_,_,_,q⟩:=hS.out;exact q
   have f4:=Aa (fun W (hE:Ext wv W/\W.cell? ⟨g,1,none⟩=some (Value.bool false))=>(J3 l A6 i c6 W hm.out (x1.ext hE.1) p0.out).mono fun e W' ⟨he,j0⟩=>And.intro he (show Ext wv W'/\W'.cell? ⟨g,1,none⟩=some (Value.bool false)from⟨hE.1.trans j0,j0.cell hE.2⟩));have i2:=Aa (fun W (hE:Ext wv W/\W.cell? ⟨g,1,none⟩=some (Value.bool false))=>(GF l A6 i c6 W hm.out (x1.ext hE.1) y1.2 y1.1 p0.out).mono fun e W' (h:OwnB _ _ _ e W')=>show ∃A5 c5,e = .returned (.slice A5 (encEs l).length c5)/\Bs W' A5 (encEs l)/\Ext wv W'/\W'.cell? ⟨g,1,none⟩=some (Value.bool false)from by
    obtain⟨A5,c5,he,ho,j0⟩:=h;exact⟨A5,c5,he,ho.2.cells,hE.1.trans j0,j0.cell hE.2⟩)
   have b:Ext wv wv.drew/\wv.drew.cell? ⟨g,1,none⟩=some (Value.bool false):=⟨(Ext.refl wv).drew,kb⟩
   have i4:∀W,(Ext wv W/\W.cell? ⟨g,1,none⟩=some (Value.bool false))->(convert 24 9 (.slice A n c)).run prog W = .ok (.string ⟨bs.toArray⟩) W:=fun W hE=>CT ((h.out.bytes.ext k1).ext hE.1) n c h.out.len;have j5:(bs==bs)=true:=beq_self_eq_true bs;obtain⟨nb,e0⟩:=Ab ((encEs l).length);rw[<-m1.out]at i2 e0;rw[<-e0]at i2;replace H:=Aa H;replace y1:=Aa y1;replace x1:=Aa x1;replace k1:=Aa k1;replace b:=Aa b;replace e0:=Aa e0;go_wp2_with fail;refine wp_region_held_drew (S:=(fun x=>Ext wv x/\x.cell? ⟨g,1,none⟩=some (Value.bool false))) (by kernel_rfl) b.out (fun x2=>?_);refine wpAnyH_take (i:=0) (v:= .pointer (some ⟨g,0,none⟩)) rfl (by kernel_rfl) (by kernel_rfl) (by kernel_rfl) (fun _ _ _ h=>h) (Or.inl ⟨by rfl,?_⟩) (by assumption) ?_
   ·intro w' j
    (try dsimp only at j)
    go_simp
    try with_reducible rfl
    all_goals omega
   (try simp only[Act.put,Bv,Bw,By,CN,CO,CP])
   refine wpAnyH_take (i:=1) (v:= .pointer (some ⟨g,0,none⟩)) rfl (by kernel_rfl) (by kernel_rfl) (by kernel_rfl) (fun _ _ _ h=>h) (Or.inl ⟨by rfl,?_⟩) (by assumption) ?_
   ·intro w' j
    (try dsimp only at j)
    go_simp
    try with_reducible rfl
    all_goals omega
   (try simp only[Act.put,Bv,Bw,By,CN,CO,CP])
   refine wpAnyH_take (i:=2) (v:= .pointer (some ⟨g,1,none⟩)) rfl (by kernel_rfl) (by kernel_rfl) (by kernel_rfl) (fun _ _ _ h=>h) (Or.inl ⟨by rfl,?_⟩) (by assumption) ?_
   ·intro w' j
    (try dsimp only at j)
    go_simp
    try with_reducible rfl
    all_goals omega
   (try simp only[Act.put,Bv,Bw,By,CN,CO,CP])
   refine wpAnyH_take (i:=3) (v:= .bool false) rfl (by kernel_rfl) (by kernel_rfl) (by kernel_rfl) (fun _ _ _ h=>h) (Or.inl ⟨by rfl,?_⟩) (by assumption) ?_
   ·intro w' j
    (try dsimp only at j)
    obtain⟨_,k5⟩:=j;go_simp
    try with_reducible rfl
    all_goals omega
   (try simp only[Act.put,Bv,Bw,By,CN,CO,CP])
   refine wpAnyH_take (i:=4) (v:= .bool false) rfl (by kernel_rfl) (by kernel_rfl) (by kernel_rfl) (fun _ _ _ h=>h) (Or.inl ⟨by rfl,?_⟩) (by assumption) ?_
   ·intro w' j
    (try dsimp only at j)
    go_simp
    try with_reducible rfl
    all_goals omega
   (try simp only[Act.put,Bv,Bw,By,CN,CO,CP])
   refine wpAnyH_take (i:=5) (v:= .slice A6 i c6) rfl (by kernel_rfl) (by kernel_rfl) (by kernel_rfl) (fun _ _ _ h=>h) (Or.inl ⟨by rfl,?_⟩) (by assumption) ?_
   ·intro w' j
    (try dsimp only at j)
    go_simp
    try with_reducible rfl
    all_goals omega
   (try simp only[Act.put,Bv,Bw,By,CN,CO,CP])
   refine wpAnyH_ready (rs:= [6]) (by kernel_rfl) (by simp) ?_;refine AllReadyH.cons rfl (fun K hK=>?_) AllReadyH.nil
   (first | go_at_call 85 | (go_simp;go_at_call 85));(refine(f4.out _ ‹_›).mono ?_;rintro e w5 ⟨rfl,f3⟩)
   refine hK.out _ _ ?_ (fun v4=>?_)
   ·exact f3
   clear hK K
   (try simp only[Act.put,Bv,Bw,By,CN,CO,CP])
   refine wpAnyH_take (i:=7) (v:= .bool false) rfl (by kernel_rfl) (by kernel_rfl) (by kernel_rfl) (fun _ _ _ h=>h) (Or.inl ⟨by rfl,?_⟩) (by assumption) ?_
   ·intro w' j
    (try dsimp only at j)
    go_simp
    try with_reducible rfl
    all_goals omega
   (try simp only[Act.put,Bv,Bw,By,CN,CO,CP])
   refine wpAnyH_take (i:=8) (v:= .bool false) rfl (by kernel_rfl) (by kernel_rfl) (by kernel_rfl) (fun _ _ _ h=>h) (Or.inl ⟨by rfl,?_⟩) (by assumption) ?_
   ·intro w' j
    (try dsimp only at j)
    go_simp
    try with_reducible rfl
    all_goals omega
   (try simp only[Act.put,Bv,Bw,By,CN,CO,CP])
   refine wpAnyH_take (i:=9) (v:= .bool false) rfl (by kernel_rfl) (by kernel_rfl) (by kernel_rfl) (fun _ _ _ h=>h) (Or.inl ⟨by rfl,?_⟩) (by assumption) ?_
   ·intro w' j
    (try dsimp only at j)
    go_simp
    try with_reducible rfl
    all_goals omega
   (try simp only[Act.put,Bv,Bw,By,CN,CO,CP])
   refine wpAnyH_take (i:=10) (v:= .slice A6 i c6) rfl (by kernel_rfl) (by kernel_rfl) (by kernel_rfl) (fun _ _ _ h=>h) (Or.inl ⟨by rfl,?_⟩) (by assumption) ?_
   ·intro w' j
    (try dsimp only at j)
    go_simp
    try with_reducible rfl
    all_goals omega
   (try simp only[Act.put,Bv,Bw,By,CN,CO,CP])
   refine wpAnyH_take (i:=13) (v:= .slice A n c) rfl (by kernel_rfl) (by kernel_rfl) (by kernel_rfl) (fun _ _ _ h=>h) (Or.inl ⟨by rfl,?_⟩) (by assumption) ?_
   ·intro w' j
    (try dsimp only at j)
    go_simp
    try with_reducible rfl
    all_goals omega
   (try simp only[Act.put,Bv,Bw,By,CN,CO,CP])
   refine wpAnyH_take (i:=14) (v:= .string ⟨bs.toArray⟩) rfl (by kernel_rfl) (by kernel_rfl) (by kernel_rfl) (fun _ _ _ h=>h) (Or.inl ⟨by rfl,?_⟩) (by assumption) ?_
   ·intro w' j
    (try dsimp only at j)
    have l4:=i4 w' j;go_simp
    try with_reducible rfl
    all_goals omega
   (try simp only[Act.put,Bv,Bw,By,CN,CO,CP])
   refine wpAnyH_ready (rs:= [11]) (by kernel_rfl) (by simp) ?_;refine AllReadyH.cons rfl (fun K hK=>?_) AllReadyH.nil
   (first | go_at_call 86 | (go_simp;go_at_call 86));(refine(i2.out _ ‹_›).mono ?_;rintro e w6 ⟨A5,c5,rfl,d4,j1⟩)
   have l4:=CT d4 nb c5 e0.out;refine hK.out _ _ ?_ (fun x4=>?_)
   ·exact j1
   clear hK K
   (try simp only[Act.put,Bv,Bw,By,CN,CO,CP])
   refine wpAnyH_ready (rs:= [12]) (by kernel_rfl) (by simp) ?_;refine AllReadyH.cons rfl (fun K hK=>?_) AllReadyH.nil;go_simp;refine hK.out _ _ ?_ (fun y4=>?_)
   ·exact j1
   clear hK K
   (try simp only[Act.put,Bv,Bw,By,CN,CO,CP])
   refine wpAnyH_take (i:=15) (v:= .bool false) rfl (by kernel_rfl) (by kernel_rfl) (by kernel_rfl) (fun _ _ _ h=>h) (Or.inl ⟨by rfl,?_⟩) (by assumption) ?_
   ·intro w' j
    (try dsimp only at j)
    go_simp
    try with_reducible rfl
    all_goals omega
   (try simp only[Act.put,Bv,Bw,By,CN,CO,CP])
   refine wpAnyH_take (i:=16) (v:= .bool false) rfl (by kernel_rfl) (by kernel_rfl) (by kernel_rfl) (fun _ _ _ h=>h) (Or.inl ⟨by rfl,?_⟩) (by assumption) ?_
   ·intro w' j
    (try dsimp only at j)
    go_simp
    try with_reducible rfl
    all_goals omega
   (try simp only[Act.put,Bv,Bw,By,CN,CO,CP])
   refine wpAnyH_done (by kernel_rfl) ?_ _;have a3:=Aa j1.1;clear f3 j1 x2;go_wp2_with fail;go_ret2;refine⟨w6.heap.size,rfl,⟨A6,c6,?_,?_⟩,(k1.out.trans a3.out).alloc _⟩
   ·rw[<-hm.out];exact Row.new w6 _ _
   ·rw[<-hm.out];exact((Ext.refl w6).alloc _).owns (a3.out.owns H.out)
end
end Go.Proofs.YtfifdilapbeiiaaGreat
