/- Texts of one proof, joined. -/
import Derived.Test.YtfifdilapbeiiaaGreatPO07
import Derived.Shelf.RegionOpen
set_option linter.unusedSimpArgs false
set_option linter.unusedVariables false
set_option maxRecDepth 100000
set_option maxHeartbeats 16000000
namespace Go.Proofs.YtfifdilapbeiiaaGreat
open _root_.Go.Proofs.Tryz
variable {ops:Array Oper} {cs:Array Value} {Q:Exit → Act → World → Prop} {z z1 z2:Int} {L r:List UInt8} {us xs:List Value} {B X c g i n:Nat} {o:Oper} {A:Option Addr} {P:Program} {md:Region.Mode} {e:TypeId} {V v:Value} {W W1 w w0 w1:World}
section
open Go.RowKit Go.Maps
theorem Pc:Elem prog 47 89 2 32:=⟨underlying47,⟨_,_,rfl,rfl,rfl,rfl,rfl⟩,by omega,by omega⟩
def IdxM (w:World) (M:Nat) (rows:List (List UInt8×List Po)):Prop:=∃L,MapL prog 9 w M L/\∀r∈rows,∃(ps:List PoC) (A:Option Addr) (c:Nat),(strV r.1,Value.slice A ps.length c)∈L/\psP ps=r.2/\PosOk w A ps/\(∀a,A=some a->a.spot=none)/\ps.length<=c
def NewX (w:World) (rows:List (List UInt8×List Po)) (e:Ending) (w':World):Prop:=∃B n c M,e = .returned (.tuple #[.slice B n c,.map (some M)])/\n=rows.length/\Buf w' w.heap.size 9 B n c (rows.map fun r=>strV r.1)/\IdxM w' M rows/\Ext w w'
theorem OG {a:Act} {K:Act->World->Prop} {E0:Prop} {T:TypeId} {t e size bytes m k:Nat} (E:Elem P t e size bytes) (U:o.guard=none)
 {base:Nat} (H:w0.ownsRow base e size v n xs) (hk:k=w0.heap.size) (s x:Operand)
 (I:o.op = .call { callee:= .builtin .append,args:=#[s,x],argTypes:=#[t,t] })
 (hs:a.eval s=v) (hx:a.eval x = .slice (some ⟨k,0,none⟩) m m) (G:us.length=m*size) (h1:∀u∈us,u.oneCell'=true) (Z:n+m<=4294967296) (J:base<=w0.heap.size)
 (h:∀A1 c1 w',w'.ownsRow base e size (.slice A1 (n+m) c1) (n+m) (xs++us)->w0.grownBy w' v.ownBlock->((Value.slice A1 (n+m) c1).ownBlock=v.ownBlock\/∃k,(Value.slice A1 (n+m) c1).ownBlock=some k/\w0.heap.size<=k)->K (a.put o.dst (.slice A1 (n+m) c1)) w') :
 if Region.wanted o (yielded ops a.tmps)=true then Oper.wp P o a (w0.alloc (.cells us.toArray T)) K Q else E0:=by
 subst hk;have hr:Cells (w0.alloc (.cells us.toArray T)) (some ⟨w0.heap.size,0,none⟩) us:= .inr ⟨w0.heap.size,0,rfl,fun i u hu=>by
  rw[Nat.zero_add,cell_of_row _ _ _ _ _ _ (heap_alloc_new w0 _)];simpa using hu⟩
 rw[if_pos (by simp[Region.wanted,U])];obtain⟨A1,c1,w',Y,h2,j,b⟩:=Ds (P:=P) E _ o.type (((Ext.refl w0).alloc _).owns H) (c:=m) hr G h1 Z (by simp;omega);unfold Oper.wp execOp;simp only[I,resolve,invoke,builtin,Sem.run_bind,Sem.run_pure,Result.andThen_ok,List.map_toArray,List.map_cons,List.map_nil,hs,hx,Y];refine h A1 c1 w' h2 ⟨j.os,j.tape,j.output,Nat.le_trans (by simp) j.size,fun k hk O=>(j.block k (by simp;omega) O).trans (Below.heap_alloc w0 _ k hk)⟩ ?_;rcases b with b | b
 ·exact .inl b
 ·exact .inr ⟨_,b,by simp⟩
theorem Sj {base n c:Nat} {D:List TmV} (h:w.ownsRow base 157 2 (.slice A n c) n (tcs D)) (hk:∀g cs,Row w g 157 cs->Row w1 g 157 cs) {x:TmV} (Y:D[i]? = some x) :
 ∃g,A=some ⟨g,0,none⟩/\w1.cell? ⟨g,i*2,none⟩=some (.string ⟨x.1.toArray⟩)/\w1.cell? ⟨g,i*2+1,none⟩=some (.slice x.2.1 x.2.2.1 x.2.2.2):=by
 obtain⟨g,cur,H,_,b,a,h1⟩:=Qe h Y;have j:=hk g cur b;refine⟨g,H,?_,?_⟩
 ·rw[j.get,<-b.get];exact a
 ·rw[j.get,<-b.get];exact h1
theorem O2 {base n c:Nat} (h:Buf w base e A n c xs) (hk:∀g cs,Row w g e cs->Row w1 g e cs):Buf w1 base e A n c xs:=by
 obtain⟨h1,h2,j⟩:=h;refine⟨h1,h2,?_⟩;rcases j with j | ⟨g,cur,b,hb,a,r⟩
 ·exact .inl j
 ·exact .inr ⟨g,cur,b,hb,hk g cur a,r⟩
theorem ER:Elem prog 93 9 1 16:=⟨underlying93,⟨_,_,rfl,rfl,rfl,rfl,rfl⟩,by omega,by omega⟩
theorem HY {α β:Type} (f:α->β) {l:List α} (h:(l.map f).Nodup):l.Nodup:=by
 rw[List.nodup_iff_pairwise_ne,List.pairwise_map]at h;rw[List.nodup_iff_pairwise_ne];exact h.imp fun h e=>h (by rw[e])
theorem K2 {α:Type}:∀(D E:List α),D.Nodup->(∀e∈D,e∈E)->D.length<=E.length
 | [],E,_,_=>Nat.zero_le _
 | a::D,E,hn,hs=>by
  rw[List.nodup_cons]at hn;obtain⟨E1,E2,rfl⟩:=List.append_of_mem (hs a (by simp));have:=K2 D (E1++E2) hn.2 fun e j=>by
   have h1:=hs e (List.mem_cons_of_mem _ j);rcases List.mem_append.1 h1 with h2 | h2
   ·exact List.mem_append_left _ h2
   ·rcases List.mem_cons.1 h2 with h | h
    ·exact absurd (h ▸ j) hn.1
    ·exact List.mem_append_right _ h
  simp only[List.length_append,List.length_cons]at *;omega
theorem NW (ds:List DocC) (A:Option Addr) (m c:Nat) (w:World) (hm:m=ds.length) (h:DocsOk w A ds) (z7:m<=65536) (hT:(pairsD 0 (dcs ds)).length<=1000000) :
 Calls prog 43 #[.slice A m c] w fun e w'=>NewX w (rowsD (dcs ds)) e w':=by
 have f2:=Aa (fun(x:DocC) (W:World) (hx:x.e.Ok W x.A)=>OO x.e x.A x.c W hx);replace h:=Aa h;replace hm:=Aa hm;replace hT:=Aa hT;have b7:=@run_makeMap prog
 go_in
 go_wp2_with fail;obtain⟨W1,l0⟩:=Ab (w.alloc (.map #[] 0));rw[<-l0];have n5:Ext w W1:=by rw[l0];exact(Ext.refl w).alloc _
 have f4:IX w.heap.size w.heap.size [] [] W1:=by rw[l0];exact IX.new
 obtain⟨M,hM⟩:=Ab w.heap.size;rw[<-hM];rw[<-hM]at f4;replace l0:=Aa l0;replace hM:=Aa hM
 go_loopw [14] (fun s14 wr=>∃(i:Nat) (E:List IdE),s14 = .int .i64 (i:Int)/\i<=m/\Hid (IX M M (pairsD 0 (dcs (ds.take i))) E wr)/\Hid (Ext w wr)) (fun s14 _=>m - (intOf s14).toNat)
 case atStart=>exact⟨0,[],rfl,by omega,Aa f4,Aa n5⟩
 case round =>
  obtain⟨i,E,rfl,hi,hI,hE⟩:=hrel;by_cases c6:i<m
  ·obtain⟨x,hx⟩:∃x,ds[i]? = some x:=⟨_,List.getElem?_eq_getElem (by rw[<-hm.out];exact c6)⟩
   have j4:=h.out.ext hE.out;obtain⟨g,o,hA,x0,x1,x2⟩:=AR j4.cells hx;subst hA;have x4:=(j4.each x (List.mem_of_getElem? hx)).1;replace x4:=Aa x4;replace hx:=Aa hx;clear j4;have c5:x.e.val x.A x.c = .agg #[.int .i64 x.e.at_,.slice x.A x.e.fs.length x.c]:=rfl;have a1:=f2.out x;rw[c5]at a1;have m1:pairsD 0 (dcs (ds.take (i+1)))=pairsD 0 (dcs (ds.take i))++(termsL x.e).map (fun p=>(p.1,((i:Int),p.2))):=by
    have h1:dcs (ds.take (i+1))=dcs (ds.take i) ++ [x.dc]:=by rw[List.take_add_one,hx.out];unfold dcs;rw[List.map_append];rfl
    have h2:(dcs (ds.take i)).length=i:=by unfold dcs;rw[List.length_map,List.length_take,<-hm.out];omega
    rw[h1,CG,h2,Nat.zero_add];show _++(_ ++ [])=_;rw[List.append_nil];rfl
   replace m1:=Aa m1;replace a1:=Aa a1;clear c5;go_wp2_with fail;obtain⟨W5,e3⟩:=Ab (wr.alloc (Obj.cells #[Value.int IntKind.i64 x.seq,Value.int IntKind.i64 x.e.at_,Value.slice x.A x.e.fs.length x.c] 71));have b0:Ext wr W5:=by rw[e3];exact(Ext.refl wr).alloc _
   rw[<-e3];refine(a1.out W5 (x4.out.ext b0)).mono ?_;rintro e w6 ⟨LT,DT,D,rfl,y2,i0,d4⟩;have h0:=i0.len;obtain⟨T,f0⟩:=Ab (termsL x.e);rw[<-f0]at h0 i0;have d3:∀p∈T,1<=p.1.length/\p.1.length<=65/\p.2.length<=65536:=fun p hp=>by
    rw[f0]at hp;exact⟨(EH hp).1,(EH hp).2,Jd hp⟩
   have v6:T.length<=65536:=by rw[f0];exact MD _
   rw[<-f0]at m1;obtain⟨nd,m2⟩:=Ab D.length;rw[<-m2]at y2 h0 ⊢;have m7:nd<=65536:=by rw[h0];exact v6
   have r5:=Aa ((hI.out.ext b0).ext d4);have c4:=Aa ((hE.out.trans b0).trans d4);have k6:M<=W5.heap.size:=by rw[hM.out];exact(hE.out.trans b0).size
   replace y2:=Aa y2;replace i0:=Aa i0;replace d3:=Aa d3;replace m2:=Aa m2;replace h0:=Aa h0;clear f0 b0 e3 a1;go_wp2_with fail
   go_loopw [23] (fun s23 wr=>∃(j:Nat) (E:List IdE),s23 = .int .i64 (j:Int)/\j<=nd/\Hid (IX M M (pairsD 0 (dcs (ds.take i))++((T.map fun p=>(p.1,((i:Int),p.2))).take j)) E wr)/\Hid (Ext w wr)/\Hid (∀g t cs,t≠89->Row w6 g t cs->Row wr g t cs)) (fun s23 _=>nd - (intOf s23).toNat)
   case atStart=>exact⟨0,E,rfl,by omega,by rw[List.take_zero,List.append_nil];exact r5,c4,Aa (fun _ _ _ _ h=>h)⟩
   case round =>
    obtain⟨j,E',rfl,hj,o1,y0,m3⟩:=hrel;by_cases p5:j<nd
    ·obtain⟨⟨ys,yA,yn,yc⟩,hy⟩:∃y,D[j]? = some y:=⟨_,List.getElem?_eq_getElem (by rw[<-m2.out];exact p5)⟩
     obtain⟨⟨ts,tl⟩,ht⟩:∃p,T[j]? = some p:=⟨_,List.getElem?_eq_getElem (by rw[<-h0.out];exact p5)⟩
     obtain⟨hs,r0⟩:=i0.out.each j _ _ hy ht;simp only at hs r0;subst hs;have o6:=d3.out _ (List.mem_of_getElem? ht);simp only at o6;have p7:tl.length=yn:=by have:=r0.1;rwa [List.length_map]at this
     subst p7;obtain⟨gT,b6,z0,z1⟩:=Sj y2.out (fun g cs hr=>m3.out g _ cs (by decide) hr) hy;subst b6;simp only at z0 z1;have a2:posAt M wr ⟨(i:Int),tl,yA,yc⟩:=⟨(O2 r0 (fun g cs hr=>m3.out g _ cs (by decide) hr)).lower k6,by show tl.length<=_;omega⟩
     obtain⟨xe,v4,d1,i2,j2⟩:=o1.out.get ys (by omega);have y1:pairsD 0 (dcs (ds.take i))++((T.map fun p=>(p.1,((i:Int),p.2))).take (j+1))=(pairsD 0 (dcs (ds.take i))++((T.map fun p=>(p.1,((i:Int),p.2))).take j)) ++ [(ys,((i:Int),tl))]:=by
      rw[List.take_add_one,List.getElem?_map,ht,List.append_assoc];rfl
     replace y1:=Aa y1;replace hy:=Aa hy;replace ht:=Aa ht;replace r0:=Aa r0;replace a2:=Aa a2;replace v4:=Aa v4;replace d1:=Aa d1;replace i2:=Aa i2;replace j2:=Aa j2;go_wp2_with fail;obtain⟨Wt,n0⟩:=Ab (wr.alloc (Obj.cells #[Value.string ⟨ys.toArray⟩,Value.slice yA tl.length yc] 157));rw[<-n0];obtain⟨g8,k2⟩:=Ab wr.heap.size;rw[<-k2];have Y:Ext wr Wt:=by rw[n0];exact(Ext.refl wr).alloc _
     have r8:Row Wt g8 157 #[Value.string ⟨ys.toArray⟩,Value.slice yA tl.length yc]:=by rw[n0,k2];exact Row.new wr _ _
     have e6:=j2.out Wt.drew Y.drew;have k5:=j2.out (Wt.drew.alloc (Obj.cells #[Value.int .i64 (i:Int),Value.slice yA tl.length yc] 89)) (Y.drew.alloc _);have j5:(Instr.lookup 94 (.map (some M)) (strV ys) false).run prog (Wt.alloc (Obj.cells #[Value.int .i64 (i:Int),Value.slice yA tl.length yc] 89)).drew = .ok (.slice xe.A xe.ps.length xe.c) (Wt.alloc (Obj.cells #[Value.int .i64 (i:Int),Value.slice yA tl.length yc] 89)).drew:=k5;unfold strV at e6 j5;clear k5;have a3:Wt.drew.cell? ⟨g8,0,none⟩=some (.string ⟨ys.toArray⟩)/\Wt.drew.cell? ⟨g8,1,none⟩=some (.slice yA tl.length yc):=⟨r8.cell 0 rfl,r8.cell 1 rfl⟩
     have r8b:Row (Wt.drew.alloc (Obj.cells #[Value.int .i64 (i:Int),Value.slice yA tl.length yc] 89)) g8 157 #[Value.string ⟨ys.toArray⟩,Value.slice yA tl.length yc]:=r8.drew.alloc _;have b3:(Wt.drew.alloc (Obj.cells #[Value.int .i64 (i:Int),Value.slice yA tl.length yc] 89)).cell? ⟨g8,0,none⟩=some (.string ⟨ys.toArray⟩)/\(Wt.drew.alloc (Obj.cells #[Value.int .i64 (i:Int),Value.slice yA tl.length yc] 89)).cell? ⟨g8,1,none⟩=some (.slice yA tl.length yc):=⟨r8b.cell 0 rfl,r8b.cell 1 rfl⟩
     have J:=Aa (Y.drew.owns d1.out);have b5:M<=Wt.drew.heap.size:=by rw[hM.out];exact(y0.out.trans Y.drew).size
     replace a3:=Aa a3;replace b3:=Aa b3;replace r8:=Aa r8;replace n0:=Aa n0;replace k2:=Aa k2;replace Y:=Aa Y;clear r8b;have n7:xe.ps.length<=1000000:=by
      have h1:xe.ps.length=(psP xe.ps).length:=by unfold psP;rw[List.length_map]
      rw[h1,i2.out];refine Nat.le_trans (HM _ _) ?_;have h2:pairsD 0 (dcs ds)=pairsD 0 (dcs (ds.take (i+1)))++pairsD (0+(dcs (ds.take (i+1))).length) (dcs (ds.drop (i+1))):=by
       rw[<-CG];congr 1;unfold dcs;rw[<-List.map_append,List.take_append_drop]
      have U:=hT.out;rw[h2,m1.out]at U;simp only[List.length_append,List.length_take]at U ⊢;omega
     have p4:∀w8 A8 c8,Wt.drew.grownBy w8 (Value.slice xe.A xe.ps.length xe.c).ownBlock->w8.ownsRow M 89 2 (.slice A8 (xe.ps.length+1) c8) (xe.ps.length+1) (pcells xe.ps ++ [Value.int .i64 (i:Int),Value.slice yA tl.length yc])->((Value.slice A8 (xe.ps.length+1) c8).ownBlock=(Value.slice xe.A xe.ps.length xe.c).ownBlock\/∃k,(Value.slice A8 (xe.ps.length+1) c8).ownBlock=some k/\Wt.drew.heap.size<=k) ->
      ∃w9,(Instr.mapUpdate 94 (.map (some M)) (.string ⟨ys.toArray⟩) (.slice A8 (xe.ps.length+1) c8)).run prog w8 = .ok () w9/\(w8.cell? ⟨g8,0,none⟩=some (.string ⟨ys.toArray⟩)/\w8.cell? ⟨g8,1,none⟩=some (.slice yA tl.length yc))/\(w9.cell? ⟨g8,0,none⟩=some (.string ⟨ys.toArray⟩)/\w9.cell? ⟨g8,1,none⟩=some (.slice yA tl.length yc))/\(∃E9,IX M M (pairsD 0 (dcs (ds.take i))++((T.map fun p=>(p.1,((i:Int),p.2))).take (j+1))) E9 w9)/\Ext w w9/\(∀g t cs,t≠89->Row w6 g t cs->Row w9 g t cs):=fun w8 A8 c8 hg ho hl=>by
      have l4:=o1.out.ext Y.out.drew;obtain⟨L,hL,hm⟩:=l4.map;have t3:=hL.grown hg (DK hL J.out);obtain⟨w9,L',I,j6,t5,r3,f7⟩:=t3.update Kk underlying94 (DJ (s:=ys) (by omega)) (.slice A8 (xe.ps.length+1) c8);have x5:∀g t cs,t≠89->Row Wt.drew g t cs->Row w9 g t cs:=fun g t cs ht hr=>by
       have q:=Jn J.out hg hr ht;exact q.grown r3 fun e=>DL t3 q (by injection e)
      have r8d:=r8.out.drew;have q8:=Jn J.out hg r8d (by decide);have q9:=x5 _ _ _ (by decide) r8d;have i4:=l4.put (w9:=w9) (y:=⟨(i:Int),tl,yA,yc⟩) v4.out J.out i2.out hg ho hl ⟨a2.out.1.ext Y.out.drew,a2.out.2⟩ (fun L1 p6 a7=>by
       obtain rfl:=t3.same p6;exact⟨L',j6,t5,r3⟩)
      have q3:=i4;show ∃_,_;rw[show (PoC.po ⟨(i:Int),tl,yA,yc⟩)=((i:Int),tl)from rfl,<-y1.out]at q3;refine⟨w9,I,⟨q8.cell 0 rfl,q8.cell 1 rfl⟩,⟨q9.cell 0 rfl,q9.cell 1 rfl⟩,⟨_,q3⟩,?_,fun g t cs ht hr=>x5 g t cs ht ((m3.out g t cs ht hr).ext Y.out.drew)⟩
      ·exact(CX J.out hg (y0.out.trans Y.out.drew) (by rw[hM.out];exact Nat.le_refl _)).grown r3 fun k hk=>by
        injection hk with hk;rw[<-hk,hM.out];exact Nat.le_refl _
     replace p4:=Aa p4
     go_region_held3 (fun x=>x.cell? ⟨g8,0,none⟩=some (.string ⟨ys.toArray⟩)/\x.cell? ⟨g8,1,none⟩=some (.slice yA tl.length yc)) (first | exact a3.out | exact b3.out | exact m6 | exact t6) (first | (refine OG (us:= [.int .i64 (i:Int),.slice yA tl.length yc]) (m:=1) Pc rfl J.out rfl (.tmp 33) (.tmp 38) rfl rfl rfl rfl (by simp[Value.oneCell']) (by omega) b5 (fun A9 c9 w8 l6 q5 f6=>?_);obtain⟨w9,i7,m6,t6,c0,o5,q6⟩:=p4.out w8 A9 c9 q5 l6 f6))
     all_goals (go_wp2_with fail)
     all_goals (obtain⟨E9,c0⟩:=c0;exact⟨⟨j+1,E9,by first | rfl | (congr 1;omega),by omega,Aa c0,Aa o5,Aa q6⟩,by simp only[intOf];omega⟩)
    ·have x6:(T.map fun p=>(p.1,((i:Int),p.2))).take j=T.map fun p=>(p.1,((i:Int),p.2)):=List.take_of_length_le (by rw[List.length_map,<-h0.out];omega);rw[x6,<-m1.out]at o1;go_wp2_with fail;exact⟨⟨i+1,E',by first | rfl | (congr 1;omega),by omega,o1,y0⟩,by simp only[intOf];omega⟩
  ·have o0:ds.take i=ds:=List.take_of_length_le (by rw[<-hm.out];omega);rw[o0]at hI;obtain⟨wo,r6⟩:=Ab wr;subst r6;have b:rowsD (dcs ds)=grp (pairsD 0 (dcs ds)):=rfl;obtain⟨PS,y3⟩:=Ab (pairsD 0 (dcs ds));rw[<-y3]at hI b hT;obtain⟨R,hR⟩:=Ab (rowsD (dcs ds));rw[<-hR]at b;obtain⟨L,hL,Z⟩:=hI.out.map;obtain⟨ob,k0,d0⟩:=hL.range underlying94;have i1:Ext wo (wo.alloc ob):=(Ext.refl wo).alloc ob;obtain⟨rb,G⟩:=Ab wo.heap.size;have j3:rb+1<=(wo.alloc ob).heap.size:=by rw[G];simp
   have g7:M<rb:=by rw[G];exact hL.lt
   rw[<-G]at k0 d0;replace Z:=Aa Z;replace G:=Aa G;replace y3:=Aa y3;replace hR:=Aa hR;replace b:=Aa b;obtain⟨Wq,f3⟩:=Ab (wo.alloc ob);rw[<-f3]at k0 d0 i1 j3;replace d0:=Aa d0;replace i1:=Aa i1;replace f3:=Aa f3;replace hL:=Aa hL;go_wp2_with fail
   go_loopw [9] (fun s9 wr=>∃(D:List IdE) (n:Nat) (A:Option Addr) (c:Nat),s9 = .slice A n c/\Hid (n=D.length)/\Hid (wr.ownsRow (rb+1) 9 1 (.slice A n c) n (D.map fun e=>strV e.s))/\Hid (RangeL prog 9 wr M rb L (D.map fun e=>strV e.s))/\Hid (∀e∈D,e∈E)/\rb+1<=wr.heap.size/\Hid (Ext wo wr)) (fun _ wr=>wr.rangeLeft M rb)
   case atStart=>exact⟨[],0,none,0,rfl,Aa rfl,Aa (World.ownsRow_nil _ _ _ _),d0,Aa (by simp),j3,i1⟩
   case round =>
    obtain⟨D,n,A,c,rfl,k1,hO,n4,hD,n6,e4⟩:=hrel;have j0:(D.map (·.s)).Nodup:=by
     have:=n4.out.dn;have h2:(D.map fun e=>strV e.s)=(D.map (·.s)).map strV:=by rw[List.map_map];rfl
     rw[h2]at this;exact HY strV this
    have q0:D.length<=1000000:=by
     have h1:=K2 (D.map (·.s)) (PS.map (·.1)) j0 fun t ht=>by
      obtain⟨e,he,rfl⟩:=List.mem_map.1 ht;have U:=hI.out.own e (hD.out e he);have h4:valsOf PS e.s ≠ []:=by rw[<-U.2.1];unfold psP;simpa using U.2.2
      obtain⟨q,hq,t0⟩:=Fv h4;exact List.mem_map.2 ⟨q,hq,t0⟩
     rw[List.length_map,List.length_map]at h1;have:=hT.out;omega
    replace q0:=Aa q0;rcases n4.out.next 0 with ⟨I,o0⟩ | ⟨x,v,w2,q7,l7,I,z3,w4,m4,k3,q4⟩
    ·have p0:Buf wr (rb+1) 9 A n c ((D.map (·.s)).map strV):=by
      rw[List.map_map];exact Buf.of_own hO.out
     have c7:n<=1000000:=by rw[k1.out];exact q0.out
     have d2:sortK (D.map (·.s))=R.map (·.1):=by
      have H:=BM PS;rw[<-b.out]at H;refine P9 ?_ (by rw[List.pairwise_map];exact H.up);refine(List.perm_ext_iff_of_nodup j0 ?_).2 fun t=>?_
      ·rw[List.nodup_iff_pairwise_ne,List.pairwise_map];exact H.up.imp fun h e=>by rw[e]at h;exact List.lt_irrefl _ h
      ·constructor
       ·intro ht;obtain⟨e,he,rfl⟩:=List.mem_map.1 ht;have U:=hI.out.own e (hD.out e he);exact List.mem_map.2 ⟨(e.s,psP e.ps),(H.mem _).2 ⟨U.2.1,by unfold psP;simpa using U.2.2⟩,rfl⟩
       ·intro ht;obtain⟨r,hr,rfl⟩:=List.mem_map.1 ht;have U:=(H.mem r).1 hr;have h4:valsOf PS r.1 ≠ []:=by rw[<-U.1];exact U.2
        obtain⟨q,hq,t0⟩:=Fv h4;obtain⟨y,hy,o2⟩:=hI.out.all q hq;have h5:=o0 _ ((Z.out _).2 ⟨y,hy,rfl⟩);obtain⟨e,he,a6⟩:=List.mem_map.1 h5;exact List.mem_map.2 ⟨e,he,by rw[HG a6,o2,t0]⟩
     replace d2:=Aa d2;have hs:=OE (rb+1) A n c (D.map (·.s)) wr (by rw[List.length_map];exact k1.out) p0 (by omega);have k4:n=R.length:=by
      have h1:=congrArg List.length d2.out;rw[List.length_map,(Hv _).length_eq,List.length_map]at h1;rw[k1.out,h1]
     replace k4:=Aa k4;have y6:=p0.base_le;replace hs:=Aa hs;replace p0:=Aa p0;replace j0:=Aa j0;go_wp2_with fail;refine hs.out.mono ?_;rintro e w3 ⟨rfl,i3,r4⟩;have O:Ext wo w3:=e4.out.chg r4 (by
      rintro i hi ⟨a,ha,hk⟩;have:=y6 a ha;have:=G.out;omega)
     replace O:=Aa O;replace i3:=Aa i3;clear r4;go_wp2_with fail;go_ret2;rw[<-hR.out];refine⟨A,n,c,M,rfl,k4.out,?_,⟨L,hL.out.ext O.out,fun r hr=>?_⟩,hE.out.trans O.out⟩
     ·have h1:(R.map fun r=>strV r.1)=(sortK (D.map (·.s))).map strV:=by rw[d2.out,List.map_map];rfl
      rw[h1];exact i3.out.lower (by have:=hM.out;omega)
     ·have H:=BM PS;rw[<-b.out]at H;have U:=(H.mem r).1 hr;have h4:valsOf PS r.1 ≠ []:=by rw[<-U.1];exact U.2
      obtain⟨q,hq,t0⟩:=Fv h4;obtain⟨y,hy,o2⟩:=hI.out.all q hq;have h5:=hI.out.own y hy;have h6:=BN h5.1;refine⟨y.ps,y.A,y.c,(Z.out _).2 ⟨y,hy,by rw[o2,t0];rfl⟩,by rw[h5.2.1,o2,t0,<-U.1],⟨Cells.of_own (O.out.owns h5.1),fun z hz=>?_⟩,h6.2,h6.1⟩;have h7:=hI.out.pos y hy z hz;exact⟨(h7.1.ext O.out).cells,h7.2⟩
    ·obtain⟨e0,z6,d6⟩:=(Z.out _).1 q7;injection d6 with hx1 hv1;subst hx1;subst hv1;have y0:Ext wo w2:=e4.out.grown w4 (fun k hk=>by injection hk with hk;rw[<-hk,G.out];exact Nat.le_refl _);have z5:rb+1<=w2.heap.size:=by rw[m4];exact n6
     have x3:w2.ownsRow (rb+1) 9 1 (.slice A n c) n (D.map fun e=>strV e.s):=by
      refine(Chg.of_grown (S:=fun k=>k=rb) w4 (fun k _ hk=>by injection hk with hk;exact hk.symm)).owns hO.out ?_;rintro g hg x7;obtain⟨cur,_,h9⟩:=Ae hO.out hg;omega
     have d7:n+1<=1000001:=by rw[k1.out];have:=q0.out;omega
     have m0:(Value.slice A n c).ownBlock≠some M/\(Value.slice A n c).ownBlock≠some rb:=by
      constructor
      ·intro hg;obtain⟨cur,_,h9⟩:=Ae hO.out hg;omega
      ·intro hg;obtain⟨cur,_,h9⟩:=Ae hO.out hg;omega
     have H:∀k,(Value.slice A n c).ownBlock=some k->wo.heap.size<=k:=by
      intro k hg;obtain⟨cur,_,h9⟩:=Ae hO.out hg;have:=G.out;omega
     replace m0:=Aa m0;replace H:=Aa H;replace m4:=Aa m4;replace j0:=Aa j0;replace x3:=Aa x3;have y5:strV e0.s = .string ⟨e0.s.toArray⟩:=rfl;have o3:=k3;have g4:=I;rw[y5]at o3 g4;clear k3 I;go_wp2_with (at_builtin;refine La (us:= [.string ⟨e0.s.toArray⟩]) ER x3.out (.tmp 48) (.tmp 50) rfl rfl rfl rfl (by simp[Value.oneCell']) (by simp;omega) (by omega) (fun A3 c3 w3 i6 q1 j5=>?_));have O:Ext wo w3:=y0.grown q1 H.out;have g6:RangeL prog 9 w3 M rb L ((D ++ [e0]).map fun e=>strV e.s):=by
      rw[List.map_append,List.map_cons,List.map_nil];exact z3.grown q1 m0.out.1 m0.out.2
     have m5:w3.ownsRow (rb+1) 9 1 (.slice A3 (n+1) c3) (n+1) ((D ++ [e0]).map fun e=>strV e.s):=by
      rw[List.map_append,List.map_cons,List.map_nil];exact i6
     have a5:rb+1<=w3.heap.size:=Nat.le_trans z5 q1.size;have g5:w3.rangeLeft M rb<wr.rangeLeft M rb:=by
      have h1:w3.heap[M]? = w2.heap[M]? :=q1.block M z3.map.lt (fun e=>m0.out.1 e.symm);have h2:w3.heap[rb]? = w2.heap[rb]? :=q1.block _ z3.lt (fun e=>m0.out.2 e.symm);have U:w3.rangeLeft M rb=w2.rangeLeft M rb:=by unfold World.rangeLeft;rw[h1,h2]
      rw[U];exact q4
     go_roundw
     case rel=>exact⟨D ++ [e0],n+1,A3,c3,rfl,Aa (by rw[List.length_append];simp;exact k1.out),m5,g6,Aa (fun e he=>by
      rcases List.mem_append.1 he with he | he
      ·exact hD.out e he
      ·simp at he;subst he;exact z6),a5,Aa O⟩
     case measure=>exact g5
end
section
open Go.RowKit
attribute [local go_sem] Oper.semAt_some AP
theorem Lo (A:Option Addr) (n c k:Nat) (w:World) (hk:1<=k) (h:k<=1000000) :
 Calls prog 127 #[.slice A n c,.int .i64 (k:Int)] w fun e w'=>∃b1 b2,e = .returned (.func (.func 170) #[] #[.pointer (some ⟨b1,0,none⟩),.pointer (some ⟨b2,0,none⟩)])/\Row w' b1 30 #[.slice A n c]/\Row w' b2 3 #[.int .i64 (k:Int)]/\w.heap.size<=b1/\w.heap.size<=b2/\b1<b2/\Ext w w':=by
 go_in
 go_wp2_with fail;go_ret;have h1:=Row.new w 30 #[.slice A n c];have h2:=Row.new (w.alloc (.cells #[.slice A n c] 30)) 3 #[.int .i64 (k:Int)];rw[World.size_alloc]at h2;exact⟨w.heap.size,w.heap.size+1,rfl,h1.alloc _,h2,Nat.le_refl _,by omega,by omega,((Ext.refl w).alloc _).alloc _⟩
theorem KQ (j:z=(i:Int)) (hi:i<=n):∃A' c',∀W:World,(Instr.sliceAt 30 (.slice A n c) (some (.int .i64 z)) none none).run prog W = .ok (.slice A' (n - i) c') W:=by
 subst j;have ht:=underlying30;have h:prog.elem 30=71:=by unfold Program.elem;rw[ht]
 have hs:∀W:World,(sizeOf 71).run prog W = .ok 3 W:=fun W=>by kernel_rfl
 refine⟨if c=i then A else A.map fun a=>a.add (i*3),c - i,fun W=>?_⟩;rw[run_sliceAt_slice W _ _ _ _ _ (by rw[ht,h]),run_slice_l W _ A n c (by rw[ht,h]) .i64 i (by omega) (by omega),h,hs];simp only[Result.andThen_ok,sliced];rfl
theorem KR {n c i j:Nat} (Y:z=(i:Int)) (b:z1=((i+j:Nat):Int)) (H:z2=((i+j:Nat):Int)) (hi:i+j<=c) (J:0<j) (W:World) :
 (Instr.sliceAt 30 (.slice A n c) (some (.int .i64 z)) (some (.int .i64 z1)) (some (.int .i64 z2))).run prog W = .ok (.slice (A.map fun a=>a.add (i*3)) j j) W:=by
 subst Y b H;have ht:=underlying30;have h:prog.elem 30=71:=by unfold Program.elem;rw[ht]
 have hs:(sizeOf 71).run prog W = .ok 3 W:=by kernel_rfl
 rw[run_sliceAt_slice W _ _ _ _ _ (by rw[ht,h]),run_slice_lhm W _ A n c (by rw[ht,h]) .i64 .i64 .i64 i ((i+j:Nat):Int) ((i+j:Nat):Int) (by omega) (by omega) (by omega) (by omega),h,hs];simp only[Result.andThen_ok];congr 1;unfold sliced;rw[if_neg (by omega),show ((i+j:Nat):Int).toNat - (i:Int).toNat=j by omega];rfl
def chunkVB (A:Option Addr) (n k i:Nat):Value:= .slice (A.map fun a=>a.add (i*k*3)) (min k (n - i*k)) (min k (n - i*k))
def ChIterB (A:Option Addr) (n k b1 b2:Nat) (w:World):Prop :=
 Iter prog 170 #[.pointer (some ⟨b1,0,none⟩),.pointer (some ⟨b2,0,none⟩)] (fun i:Nat=>#[chunkVB A n k i]) Ext (fun pre i _=>i=pre.length/\i*k<n) (KeepB b1 b2) (fun xs W W'=>n<=xs.length*k/\xs=List.range xs.length/\(∀i∈xs,i*k<n)/\Ext W W') w
theorem JU (A:Option Addr) (n c k b1 b2:Nat) (w:World) (H:Row w b1 30 #[.slice A n c]) (Y:Row w b2 3 #[.int .i64 (k:Int)]) (hk:1<=k) (l0:k<=1000000) (hn:n<=1000000000) (hc:n<=c):ChIterB A n k b1 b2 w:=by
 intro l J W hE U hY h0;replace H:=H.ext hE;replace Y:=Y.ext hE;clear hE;replace H:=Aa H;replace Y:=Aa Y;replace hY:=Aa hY;replace U:=Aa U;replace h0:=Aa h0;refine(callsIn_wide (n:=0)).1 ?_;refine callsIn_of_wp func170 rfl trivial ?_;simp only[ntmps170,List.size_toArray,List.length_cons,List.length_nil,Nat.reduceAdd,Nat.reduceSub,Array.replicate_succ,Array.replicate_zero,List.push_toArray,List.append_toArray,List.nil_append,List.cons_append];gi_wp2_with fail
 gi_loopw [4] (fun s4 wr=>∃(i q:Nat) (pre:List Nat),s4 = .int .i64 (q:Int)/\Hid (q=i*k)/\q<=n+k/\Hid (pre.length=i)/\Hid (pre=List.range i)/\Hid (∀j∈pre,j*k<n)/\Hid (J pre wr)/\Hid (Row wr b1 30 #[.slice A n c])/\Hid (Row wr b2 3 #[.int .i64 (k:Int)])) (fun s4 _=>n - (intOf s4).toNat)
 case atStart=>exact⟨0,0,[],rfl,Aa (by simp),by omega,Aa rfl,Aa rfl,Aa nofun,h0,H,Y⟩
 case round =>
  obtain⟨i,q,pre,rfl,hq,r0,b,q0,G,hJ,r1,r2⟩:=hrel;have k1:=r1.out.cell 0 rfl;have k2:=r2.out.cell 0 rfl;by_cases Z:q<n
  ·obtain⟨m,hm⟩:∃m:Nat,(m:Int)=min (k:Int) ((n - q:Nat):Int):=⟨min k (n - q),by omega⟩
   have y0:0<m:=by omega
   have n0:m<=k:=by omega
   have o0:m<=n - q:=by omega
   have b0:m=k\/m=n - q:=by omega
   have e0:=fun(W:World)=>AQ (P:=prog) #[3,3] 3 hm W;have q1:=fun(W:World)=>KR (A:=A) (n:=n) (c:=c) (i:=q) (j:=m) (z:=(q:Int)) (z1:=(q:Int)+(m:Int)) (z2:=(q:Int)+(m:Int)) rfl (by omega) (by omega) (by omega) y0 W;obtain⟨A',c',h1⟩:=KQ (A:=A) (n:=n) (c:=c) (i:=q) (z:=(q:Int)) rfl (by omega);replace hm:=Aa hm;have j0:=hY.out pre pre.length wr.drew (U.out _ _ _ hJ.out (Ext.refl wr).drew) ⟨rfl,by rw[b.out,<-hq.out];exact Z⟩;have O:chunkVB A n k pre.length = .slice (A.map fun a=>a.add (q*3)) m m:=by
    unfold chunkVB;rw[b.out,<-hq.out,show min k (n - q)=m by omega]
   rw[O]at j0;obtain⟨fn,tmps,assign,body,hy,hR⟩:=j0;have I:Hid (∀j∈pre ++ [pre.length],j*k<n):=Aa fun j hj=>by
    rcases List.mem_append.1 hj with h | h
    ·exact G.out j h
    ·rw[List.mem_singleton.1 h,b.out,<-hq.out];exact Z
   have p0:Hid (pre ++ [pre.length]=List.range (i+1)):=Aa (by rw[List.range_succ,b.out,q0.out]);have c0:Hid (q+k=(i+1)*k):=Aa (by rw[Nat.succ_mul,hq.out]);clear O b0 hY U;gi_wp2_with fail;refine wpIn_wide.2 (AE (fun K hK=>?_));go_wp2_with fail;refine⟨by kernel_rfl,?_⟩;gi_wp2_with fail;refine hR.mono ?_;rintro e W3 ⟨rfl,v0,T⟩;have r13:=Aa (show Row W3 b1 30 #[.slice A n c] from T.1 _ r1.out);have r23:=Aa (show Row W3 b2 3 #[.int .i64 (k:Int)] from T.2 _ r2.out);have k23:=r23.out.cell 0 rfl;gi_wp2_with fail;exact⟨⟨i+1,q+k,pre ++ [pre.length],by congr 1,c0,by omega,Aa (by rw[List.length_append,b.out];rfl),p0,I,Aa v0,r13,r23⟩,by simp only[intOf];omega⟩
  ·gi_wp2_with fail
   go_end0
   exact⟨⟨_,rfl⟩,pre,_,hJ.out,by rw[b.out,<-hq.out];omega,by rw[b.out];exact q0.out,G.out,Ext.refl _⟩
end
section
open Go.RowKit
def OnlyN (Q:Exit->Act->World->Prop):Exit->Act->World->Prop
 | .normal,a,w=>Q .normal a w
 | _,_,_=>False
theorem OnlyN.imp (e:Exit) (a:Act) (w:World) (h:OnlyN Q e a w):Q e a w:=by
 cases e <;> first | exact h | exact h.elim
def calmOps (ops:Array Oper):Bool:=ops.all fun o=>match o.op with | .defer _=>false | _=>true
theorem O3 (h:calmOps ops=true) (a:ops[i]? = some o):∀c,o.op ≠ .defer c:=by
 intro c j;unfold calmOps at h;rw[Array.all_eq_true]at h;obtain⟨hi,b⟩:=Array.getElem?_eq_some_iff.1 a;have:=h i hi;rw[b,j]at this;cases this
theorem Q4 {row:String} {args:Array Value} {R:Value->World->Prop} (h:Rows P row args w R):RowsIn Fence.wide n P row args w R :=
 fun c cs _=>let ⟨v,w',r,s⟩:=h c cs;⟨v,w',r,stepsIn_wide.2 s⟩
theorem AL {l:Nat} (b:calmOps ops=true) :
 ∀(fuel:Nat) (listed:Array Bool) (a:Act) (w:World),wpAny P md ops (OnlyN Q) fuel listed a w->wpAnyIn (Fence.wide.inRound l) 0 P md ops (OnlyN Q) fuel listed a w
 | 0,listed,a,w,h=>h
 | fuel+1,listed,a,w,h=>⟨h.1,fun i hi=>by
  have j:=h.2 i hi;unfold wpOp at j;unfold wpOpIn;cases J:ops[i]? with
  | none=>rw[J]at j;exact AL b fuel _ a w j
  | some o =>
   rw[J]at j;simp only at j ⊢;split
   ·rename_i H;rw[if_pos H]at j;rcases j with j | ⟨_,O⟩
    ·refine⟨fun _ _=>trivial,?_⟩;rw[Oper.semAt_plain _ _ _ (O3 b J)];unfold Oper.wp at j;generalize (execOp a.eval o).run P w=r at j ⊢;cases r with
     | ok nx w' =>
      cases nx with
      | value v=>exact AL b fuel _ _ _ j
      | skip=>exact AL b fuel _ _ _ j
      | defer d=>exact AL b fuel _ _ _ j
      | enter f args =>
       refine⟨fun h=>by simp[Fence.wide]at h,CallsIn.inRound l (callsIn_wide.2 (Calls.mono j ?_))⟩;intro e w'' Y;cases e with
       | returned v=>exact AL b fuel _ _ _ Y
       | panicked ch=>exact Y
       | outgrown=>exact Y
      | row row args =>
       exact⟨fun h=>by simp[Fence.wide]at h,Q4 (Rows.mono j fun v w'' Y=>AL b fuel _ _ _ Y)⟩
      | _=>exact j.elim
     | halt x w' =>
      cases x with
      | panic v=>exact j
      | _=>exact j
    ·obtain⟨a1,w1,U⟩:=O;exact U.elim
   ·rename_i H;rw[if_neg H]at j;exact⟨fun _ _=>trivial,AL b fuel _ _ _ j⟩⟩
theorem HV {id:Nat} {a:Act} {l:Nat} (S:World->Prop) (b:P.follows .mixedOrders=true) (j:calmOps ops=true)
 (h:wpAnyH P .any ops (OnlyN Q) S ops.size (Array.replicate ops.size false) a w.drew):(Code.region id ops true).wpIn (Fence.wide.inRound l) 0 P Q a w :=
 wpIn_mono (wpIn_region_any b (AL j _ _ _ _ (wpAny_of_held _ _ _ _ h))) OnlyN.imp
end
section
open Go.RowKit
attribute [local go_sem] Oper.semAt_some AP Cp
theorem BP (h1 : -9223372036854775808<=z) (h2:z<9223372036854775808):IntKind.i64.wrap z=z:=by
 simp[IntKind.wrap,IntKind.bits,IntKind.signed];omega
structure Blk where
  last:Int
  b:List UInt8
  A:Option Addr
  c:Nat
def Blk.args (x:Blk):Array Value:=#[.int .i64 x.last,.slice x.A x.b.length x.c]
def StB (W A B:World):Prop:=Chg (fun k=>W.heap.size<=k/\∀t cs,Row A k t cs->t=3) A B
theorem StB.ext {W A B:World} (h:Ext A B):StB W A B:=Chg.of_ext h _
theorem StB.alike {W A B:World} (h:Alike X A B) (a:W.heap.size<=X):StB W A B :=
 ⟨h.os,h.tape,h.output,h.size,fun k hk hn=>h.block k hk fun j=>hn ⟨by have:=j.1;omega,fun t cs b=>(NC.not_row b j).elim⟩⟩
theorem StB.num {W A B : World} (h : Chg (fun k => k = g) A B) (H : W.heap.size ≤ g) (b : Row A g 3 cs) : StB W A B :=
  ⟨h.os, h.tape, h.output, h.size, fun k hk hn => h.block k hk fun a => hn ⟨by omega, fun t cs' j => by
    rw [a] at j
    unfold Row at b j
    rw [b] at j
    injection j with e
    injection e with _ e
    exact e.symm⟩⟩
theorem StB.old {W A B:World} (h:StB W A B) (k:Nat) (o:Obj) (hk:k<W.heap.size) (j:A.heap[k]? = some o) (_:o.isCells=false):B.heap[k]? = some o :=
 (h.block k (Array.getElem?_eq_some_iff.1 j).1 fun hn=>by have:=hn.1;omega).trans j
def KpB (B:Nat) (W W':World):Prop:=(∀w0:World,w0.heap.size<=B->Ext w0 W->Ext w0 W')/\∀g t cs,t≠24->t≠5->Row W g t cs->Row W' g t cs
theorem KpB.trans (B:Nat) (A C D:World) (h:KpB B A C) (k:KpB B C D):KpB B A D:=⟨fun w0 j b=>k.1 w0 j (h.1 w0 j b),fun g t cs h1 h2 a=>k.2 g t cs h1 h2 (h.2 g t cs h1 h2 a)⟩
theorem KpB.alike (a:B<=X) (A C:World) (h:Alike X A C):KpB B A C:=⟨fun _ hs j=>h.ext j (by omega),fun _ _ _ _ _ b=>h.row b⟩
theorem KpB.ext {A C:World} (h:Ext A C):KpB B A C:=⟨fun _ _ j=>j.trans h,fun _ _ _ _ _ b=>b.ext h⟩
def NxB (P:List Dc) (pre:List Blk) (x:Blk) (W:World):Prop:=pre.length*16<P.length/\x.last=lastD (lastD 0 (P.take (pre.length*16))) ((P.drop (pre.length*16)).take 16)/\x.b=blockD (lastD 0 (P.take (pre.length*16))) ((P.drop (pre.length*16)).take 16)/\∃base,Buf W base 5 x.A x.b.length x.c (x.b.map B8)
def BlkIter (P:List Dc) (B b0:Nat) (w:World):Prop :=
 IterS prog 126 #[.pointer (some ⟨b0,0,none⟩)] Blk.args StB (NxB P) (KpB B) (fun xs A B=>P.length<=xs.length*16/\B=A) w
def BkI (b0 b1 b2 gy gl l:Nat) (V:Value) (P:List Dc) (J:List Blk->World->Prop) (W w0:World) (r:Nat) (X:World):Prop :=
 (∃xs:List Blk,xs.length=r/\J xs X)/\Row X b0 30 #[V]/\Row X b1 30 #[V]/\Row X b2 3 #[.int .i64 16]/\Row X gy 209 #[.func (.yield l) #[] #[]]/\Row X gl 3 #[.int .i64 (lastD 0 (P.take (r*16)))]/\Ext w0 X/\W.heap.size<=X.heap.size
theorem Li (A:Option Addr) (n c:Nat) (w:World) :
 Calls prog 80 #[.slice A n c] w fun e w'=>∃b0,e = .returned (.func (.func 126) #[] #[.pointer (some ⟨b0,0,none⟩)])/\Row w' b0 30 #[.slice A n c]/\w.heap.size<=b0/\Ext w w':=by
 go_in
 go_wp2_with fail;go_ret;exact⟨w.heap.size,rfl,Row.new w _ _,Nat.le_refl _,(Ext.refl w).alloc _⟩
theorem JR (ds:List DocC) (A:Option Addr) (m c b0 B:Nat) (w0 w:World) (hm:m=ds.length) (h:DocsOk w0 A ds) (hA:∀a,A=some a->a.spot=none) (g7:m<=c) (o2:okDs (dcs ds)=true) (k3:(blockD 0 (dcs ds)).length<=50000000)
 (hB:w0.heap.size<=B) (hw:Ext w0 w) (e1:Row w b0 30 #[.slice A m c]):BlkIter (dcs ds) B b0 w:=by
 intro l J W hE i1 hY h0;have y1:(dcs ds).length=m:=by unfold dcs;rw[List.length_map,hm]
 have h8:m<=65536:=by
  have:=o2;unfold okDs at this;rw[Bool.and_eq_true]at this;have:=of_decide_eq_true this.1;omega
 obtain⟨P,hP⟩:=Ab (dcs ds);rw[<-hP]at y1 o2 k3 hY ⊢;replace e1:=Aa (e1.ext hE);replace hw:=Aa (hw.trans hE);clear hE;replace hm:=Aa hm;replace h:=Aa h;replace hA:=Aa hA;replace hP:=Aa hP;replace o2:=Aa o2;replace k3:=Aa k3;replace y1:=Aa y1;replace hY:=Aa hY;replace i1:=Aa i1;replace h0:=Aa h0;refine(callsIn_wide (n:=0)).1 ?_;refine callsIn_of_wp_marks func126 rfl trivial ?_;simp only[ntmps126,List.size_toArray,List.length_cons,List.length_nil,Nat.reduceAdd,Nat.reduceSub,Array.replicate_succ,Array.replicate_zero,List.push_toArray,List.append_toArray,List.nil_append,List.cons_append];have k0:=e1.out.cell 0 rfl;have k0l:=e1.out.lt;gi_wp2_with fail;obtain⟨W3,y0⟩:=Ab ((W.alloc (Obj.cells #[Value.func (.yield l) #[] #[]] 209)).alloc (Obj.cells #[Value.int IntKind.i64 0] 3));rw[<-y0];obtain⟨gy,d0⟩:=Ab W.heap.size;rw[<-d0];have qy:Row W3 gy 209 #[Value.func (.yield l) #[] #[]]:=by rw[y0,d0];exact(Row.new W _ _).alloc _
 have ql:Row W3 (gy+1) 3 #[.int .i64 0]:=by
  have:=Row.new (W.alloc (Obj.cells #[Value.func (.yield l) #[] #[]] 209)) 3 #[.int .i64 0];rw[World.size_alloc,<-d0]at this;rw[y0];exact this
 have v0:Ext W W3:=by rw[y0];exact((Ext.refl W).alloc _).alloc _
 have t4:W3.heap.size=gy+2:=by rw[y0,d0];simp
 refine(callsIn_wide.2 (Lo A m c 16 W3 (by omega) (by omega))).mono ?_;rintro e w4 ⟨b1,b2,rfl,rb1,rb2,l6,o6,x7,Z⟩;have y3:BkI b0 b1 b2 gy (gy+1) l (.slice A m c) P J W w0 0 w4:=⟨⟨[],rfl,i1.out _ _ _ h0.out (StB.ext (v0.trans Z))⟩,(e1.out.ext v0).ext Z,rb1,rb2,qy.ext Z,by rw[Nat.zero_mul,List.take_zero];exact ql.ext Z,hw.out.trans (v0.trans Z),(v0.trans Z).size⟩
 have q4:=JU A m c 16 b1 b2 w4 rb1 rb2 (by omega) (by omega) (by omega) g7;rw[t4]at l6 o6;have j6:W.heap.size<=w4.heap.size:=(v0.trans Z).size;have x5:=rb2.lt;have l7:B<=w4.heap.size\/w4.heap.size<B:=by omega
 have k6:w0.heap.size<=w4.heap.size:=(hw.out.trans (v0.trans Z)).size;have O:∀r A2 B2,BkI b0 b1 b2 gy (gy+1) l (.slice A m c) P J W w0 r A2->Alike w4.heap.size A2 B2->BkI b0 b1 b2 gy (gy+1) l (.slice A m c) P J W w0 r B2:=by
  rintro r A2 B2 ⟨⟨xs,hx,hj⟩,r1,r2,r3,r4,r5,he,hs⟩ U;exact⟨⟨xs,hx,i1.out _ _ _ hj (StB.alike U j6)⟩,U.row r1,U.row r2,U.row r3,U.row r4,U.row r5,U.ext he k6,Nat.le_trans hs U.size⟩
 have k1:∀r A2 B2,BkI b0 b1 b2 gy (gy+1) l (.slice A m c) P J W w0 r A2->Ext A2 B2->BkI b0 b1 b2 gy (gy+1) l (.slice A m c) P J W w0 r B2:=by
  rintro r A2 B2 ⟨⟨xs,hx,hj⟩,r1,r2,r3,r4,r5,he,hs⟩ U;exact⟨⟨xs,hx,i1.out _ _ _ hj (StB.ext U)⟩,r1.ext U,r2.ext U,r3.ext U,r4.ext U,r5.ext U,he.trans U,Nat.le_trans hs U.size⟩
 replace y3:=Aa y3;replace q4:=Aa q4;replace y0:=Aa y0;replace d0:=Aa d0;replace O:=Aa O;replace k1:=Aa k1;clear qy ql v0 Z rb1 rb2 t4 k0 k0l e1;gi_wp2_with fail;unfold ChIterB at q4;refine C8 (gf:=170) (lb:=#[.pointer (some ⟨b1,0,none⟩),.pointer (some ⟨b2,0,none⟩)]) rfl (enters_of func170 (by kernel_rfl) rfl) q4.out (fun _=>rfl) (fun _ _ h=>h.others) (fun _ _ _ h=>h.2.2.2.others) (KeepB.trans b1 b2) ?kb
  (fun pre X=>BkI b0 b1 b2 gy (gy+1) l (.slice A m c) P J W w0 pre.length X) (fun pre A B h U=>O.out _ _ _ h U) (fun pre A B h hE=>k1.out _ _ _ h hE) ?h0 ?hround ?hdone
 case kb =>
  have v5:=(y3.out.2.2.1).lt;exact KeepB.alike v5 x5
 case h0=>exact fun X U=>O.out _ _ _ y3.out U
 case hround =>
  rintro l2 pre i X hI ⟨hi,e5⟩;subst hi;have hR:=Ho o2.out k3.out (r:=pre.length) (by rw[y1.out];exact e5);obtain⟨j,hj⟩:=Ab (min 16 (m - pre.length*16));obtain⟨cb,y2⟩:=Ab ((ds.drop (pre.length*16)).take 16);have f0:cb.length=j:=by rw[y2,hj,List.length_take,List.length_drop,hm.out]
  obtain⟨A',x3⟩:=Ab (A.map fun a=>a.add (pre.length*16*3):Option Addr);have o0:DocsOk w0 A' cb:=by rw[x3,y2];exact h.out.part hA.out _ _
  have v4:chunkVB A m 16 pre.length = .slice A' j j:=by unfold chunkVB;rw[x3,hj]
  obtain⟨bP,f1⟩:=Ab ((P.drop (pre.length*16)).take 16);have e0:bP=cb.map DocC.dc:=by rw[f1,y2,hP.out,dcs,<-List.map_drop,<-List.map_take]
  obtain⟨lst,T⟩:=Ab (lastD 0 (P.take (pre.length*16)));rw[<-f1,<-T]at hR;have z7:j<=16:=by omega
  have q3:pre.length*16<P.length:=by rw[y1.out];exact e5
  replace hI:=Aa hI;replace hR:=Aa hR;rw[v4];clear v4;replace o0:=Aa o0;replace x3:=Aa x3;replace y2:=Aa y2;replace hj:=Aa hj;replace f1:=Aa f1;replace T:=Aa T;replace f0:=Aa f0;replace e0:=Aa e0;replace q3:=Aa q3;gi_wp2_with fail;refine⟨KeepsOthers.refl _,KeepB.refl _ _ _,fun X2 i4=>?_⟩;have b6:=O.out _ _ _ hI.out i4;clear i4 hI;obtain⟨⟨xs,d4,z4⟩,rr0,rr1,rr2,rry,rrl,q2,p8⟩:=b6;rw[<-T.out]at rrl;obtain⟨Y,j2⟩:=Ab (blockD lst bP);obtain⟨lz,i2⟩:=Ab (lastD lst bP);have j7:=hR.out.lo;have p7:=hR.out.hi;have i6:Y.length<=50000000:=by have:=hR.out.len;have:=k3.out;rw[j2];omega
  have y7:W.heap.size<=gy:=Nat.le_of_eq d0.out.symm;have c7:=hw.out.size;have q6:=Aa (fun A n c x l W h1 h2 h3 h4 h5=>Cm A n c x l W h1 h2 h3 h4 h5);have b5:=Aa (fun A n c l e B d W h1 h2 h3 h4 h5 h6 h7=>ND A n c l e B d W h1 h2 h3 h4 h5 h6 h7);replace d4:=Aa d4;replace z4:=Aa z4;replace rr0:=Aa rr0;replace rr1:=Aa rr1;replace rr2:=Aa rr2;replace rry:=Aa rry;replace rrl:=Aa rrl;replace q2:=Aa q2;replace j2:=Aa j2;replace i2:=Aa i2;gi_wp2_with fail
  gi_loopw [5,13] (fun s5 s13 wr=>∃(i n5 c5:Nat) (A5:Option Addr) (Xb:List UInt8) (la:Int),s5 = .slice A5 n5 c5/\s13 = .int .i64 (i:Int)/\i<=j/\n5<=50000000/\0<=la/\la<1099511627777/\Hid (Y=Xb++blockD la (bP.drop i))/\Hid (risB 1099511627777 la ((bP.drop i).map (·.1))=true)/\Hid (lastD la (bP.drop i)=lz)/\Hid (Own8 wr 0 A5 n5 c5 Xb)/\Hid (Row wr (gy+1) 3 #[.int .i64 la])/\Hid (Chg (fun k=>k=gy+1) X2 wr)) (fun _ s13 _=>j - (intOf s13).toNat)
  case atStart=>exact⟨0,0,0,none,[],lst,rfl,rfl,by omega,by omega,j7,p7,Aa (by rw[j2.out];rfl),Aa hR.out.ris,Aa (by rw[i2.out];rfl),Aa ⟨rfl,Buf.nil _ _ _⟩,rrl,Aa (Chg.refl _ _)⟩
  case round =>
   obtain⟨i,n5,c5,A5,Xb,la,rfl,rfl,w7,q8,a7,b7,t5,m7,d5,t0,p3,I⟩:=hrel;have k2:Hid (Ext w0 wr):=Aa (q2.out.chg I.out fun k hk e=>by omega);by_cases k7:i<j
   ·obtain⟨x,j3⟩:∃x,cb[i]? = some x:=⟨_,List.getElem?_eq_getElem (by rw[f0.out];exact k7)⟩
    obtain⟨g,o,z6,x0,x1,x2⟩:=AR (o0.out.cells.ext k2.out) j3;subst z6;have m3:=o0.out.each x (List.mem_of_getElem? j3);have d3:bP[i]? = some x.dc:=by rw[e0.out,List.getElem?_map,j3];rfl
    have g4:=hR.out.pos x.dc (List.mem_of_getElem? d3);have m2:=t5.out;have r0:=m7.out;have d2:=d5.out;rw[AY d3]at m2 r0 d2;rw[List.map_cons]at r0;obtain⟨e3,f3,q1⟩:=BW r0;obtain⟨W5,c0⟩:=Ab (wr.alloc (Obj.cells #[Value.int IntKind.i64 x.seq,Value.int IntKind.i64 x.e.at_,Value.slice x.A x.e.fs.length x.c] 71));have m1:Ext wr W5:=by rw[c0];exact(Ext.refl wr).alloc _
    have rp:Row W5 wr.heap.size 71 #[Value.int IntKind.i64 x.seq,Value.int IntKind.i64 x.e.at_,Value.slice x.A x.e.fs.length x.c]:=by rw[c0];exact Row.new wr _ _
    obtain⟨q,hq⟩:∃q:Nat,(q:Int)=x.seq - la - 1:=⟨(x.seq - la - 1).toNat,by have:la<x.seq:=e3;omega⟩
    obtain⟨X1,b3⟩:=Ab (Xb++vb q);obtain⟨X3,d1⟩:=Ab (X1++putE x.e);have g0:Y=X3++blockD x.seq (bP.drop (i+1)):=by
     rw[m2,d1,b3];show Xb++((vb (x.seq - la - 1).toNat++putE x.e)++_)=_;rw[show (x.seq - la - 1).toNat=q by omega];simp[DocC.dc]
    have g5:X3.length<=50000000:=by rw[g0,List.length_append]at i6;omega
    have m4:X1.length<=X3.length:=by rw[d1,List.length_append];omega
    have p4:checkE x.e.fs=0:=by unfold okD at g4;exact of_decide_eq_true g4
    have e3:la<x.seq:=e3;have f3:x.seq<1099511627777:=f3;have k4:=p3.out.ext m1;have l0:lastD x.seq (bP.drop (i+1))=lz:=d2;obtain⟨seq,⟨at_,fs⟩,Bx,cB⟩:=x;simp only at x0 x1 x2 c0 rp hq d1 g0 p4 e3 f3 q1 l0 m3;obtain⟨fl,i3⟩:=Ab fs.length;rw[<-i3]at x2 c0 rp;obtain⟨gd,o3⟩:=Ab wr.heap.size;rw[<-o3]at rp;have p0:=rp.cell 0 rfl;have p1:=rp.cell 1 rfl;have p2:=rp.cell 2 rfl;have pl:=k4.cell 0 rfl;replace i3:=Aa i3;replace o3:=Aa o3;replace c0:=Aa c0;replace rp:=Aa rp;replace k4:=Aa k4;replace m1:=Aa m1;replace b3:=Aa b3;replace d1:=Aa d1;replace g0:=Aa g0;replace hq:=Aa hq;replace p4:=Aa p4;replace m3:=Aa m3;replace q1:=Aa q1;replace l0:=Aa l0;replace d3:=Aa d3;replace g4:=Aa g4;replace j3:=Aa j3;clear m2 r0 d2;gi_wp2_with fail;rw[<-c0.out,<-o3.out];have i5:prog.follows .mixedOrders=true:=by kernel_rfl
    have k8:IntKind.i64.wrap (seq - la)=seq - la:=BP (by omega) (by omega);have j8:IntKind.i64.wrap (seq - la - 1)=(q:Int):=by rw[BP (by omega) (by omega)];exact hq.out.symm
    have g8:=AH (m:=q) (by have:=hq.out;omega);have q0:=Aa (q6.out A5 n5 c5 q Xb W5.drew t0.out.1 (t0.out.2.ext (m1.out.trans (Ext.refl W5).drew)).cells t0.out.nil_ (by omega) (by have:=hq.out;omega));rw[<-b3.out]at q0;obtain⟨n6,j4⟩:=Ab X1.length;have a2:Hid (∀A6 c6 W6,Buf W6 W5.drew.heap.size 5 A6 n6 c6 (X1.map B8)->Ext w0 W6->Calls prog 128 #[.slice A6 n6 c6,.agg #[.int .i64 at_,.slice Bx fl cB]] W6 (fun e w'=>OkB' W6 X3 e w')):=Aa fun A6 c6 W6 hb he=>by
     have:=b5.out A6 n6 c6 X1 ⟨at_,fs⟩ Bx cB W6 j4 hb.cells hb.none_cap (by omega) (m3.out.1.ext he) p4.out m3.out.2.1;unfold Ev.val at this;rw[<-d1.out]at this;simp only at this;rw[<-i3.out]at this;exact this
    obtain⟨n8,c4⟩:=Ab X3.length;have o4:Hid (Ext w0 W5.drew):=Aa (k2.out.trans (m1.out.trans (Ext.refl W5).drew));have rpd:Hid (Row W5.drew gd 71 #[Value.int IntKind.i64 seq,Value.int IntKind.i64 at_,Value.slice Bx fl cB]):=Aa rp.out.drew;have f2:=Aa k4.out.drew;unfold NewB at q0;unfold OkB' at a2;rw[<-j4]at q0 m4;rw[<-c4]at a2 g5 m4;replace j4:=Aa j4;replace c4:=Aa c4;have G:W5.drew.cell? ⟨gd,0,none⟩=some (.int .i64 seq)/\W5.drew.cell? ⟨gd,1,none⟩=some (.int .i64 at_)/\W5.drew.cell? ⟨gd,2,none⟩=some (.slice Bx fl cB)/\W5.drew.cell? ⟨gy+1,0,none⟩=some (.int .i64 la):=⟨p0,p1,p2,pl⟩
    refine HV (fun X=>X.cell? ⟨gd,0,none⟩=some (.int .i64 seq)/\X.cell? ⟨gd,1,none⟩=some (.int .i64 at_)/\X.cell? ⟨gd,2,none⟩=some (.slice Bx fl cB)/\X.cell? ⟨gy+1,0,none⟩=some (.int .i64 la)) i5 (by kernel_rfl) ?_;refine wpAnyH_take (i:=0) (v:=?_) rfl (by kernel_rfl) (by kernel_rfl) (by kernel_rfl) (fun _ _ _ h=>h) (Or.inl ⟨by rfl,?_⟩) G ?_;rotate_left
    ·intro wx b;obtain⟨s0,s1,s2,s3⟩:=b;go_simp
     try with_reducible rfl
    try simp only[Act.put,Bv,Bw,By]
    refine wpAnyH_take (i:=1) (v:=?_) rfl (by kernel_rfl) (by kernel_rfl) (by kernel_rfl) (fun _ _ _ h=>h) (Or.inl ⟨by rfl,?_⟩) G ?_;rotate_left
    ·intro wx b;obtain⟨s0,s1,s2,s3⟩:=b;go_simp
     try with_reducible rfl
    try simp only[Act.put,Bv,Bw,By]
    refine wpAnyH_take (i:=2) (v:=?_) rfl (by kernel_rfl) (by kernel_rfl) (by kernel_rfl) (fun _ _ _ h=>h) (Or.inl ⟨by rfl,?_⟩) G ?_;rotate_left
    ·intro wx b;obtain⟨s0,s1,s2,s3⟩:=b;go_simp
     try with_reducible rfl
    try simp only[Act.put,Bv,Bw,By]
    refine wpAnyH_take (i:=3) (v:=?_) rfl (by kernel_rfl) (by kernel_rfl) (by kernel_rfl) (fun _ _ _ h=>h) (Or.inl ⟨by rfl,?_⟩) G ?_;rotate_left
    ·intro wx b;obtain⟨s0,s1,s2,s3⟩:=b;go_simp
     try with_reducible rfl
    try simp only[Act.put,Bv,Bw,By]
    refine wpAnyH_take (i:=4) (v:=?_) rfl (by kernel_rfl) (by kernel_rfl) (by kernel_rfl) (fun _ _ _ h=>h) (Or.inl ⟨by rfl,?_⟩) G ?_;rotate_left
    ·intro wx b;obtain⟨s0,s1,s2,s3⟩:=b;go_simp
     try with_reducible rfl
    try simp only[Act.put,Bv,Bw,By]
    refine wpAnyH_take (i:=5) (v:=?_) rfl (by kernel_rfl) (by kernel_rfl) (by kernel_rfl) (fun _ _ _ h=>h) (Or.inl ⟨by rfl,?_⟩) G ?_;rotate_left
    ·intro wx b;obtain⟨s0,s1,s2,s3⟩:=b;go_simp
     try with_reducible rfl
    try simp only[Act.put,Bv,Bw,By]
    refine wpAnyH_take (i:=6) (v:=?_) rfl (by kernel_rfl) (by kernel_rfl) (by kernel_rfl) (fun _ _ _ h=>h) (Or.inl ⟨by rfl,?_⟩) G ?_;rotate_left
    ·intro wx b;obtain⟨s0,s1,s2,s3⟩:=b;go_simp
     try with_reducible rfl
    try simp only[Act.put,Bv,Bw,By]
    refine wpAnyH_take (i:=8) (v:=?_) rfl (by kernel_rfl) (by kernel_rfl) (by kernel_rfl) (fun _ _ _ h=>h) (Or.inl ⟨by rfl,?_⟩) G ?_;rotate_left
    ·intro wx b;obtain⟨s0,s1,s2,s3⟩:=b;go_simp
     try with_reducible rfl
    try simp only[Act.put,Bv,Bw,By]
    refine wpAnyH_take (i:=9) (v:=?_) rfl (by kernel_rfl) (by kernel_rfl) (by kernel_rfl) (fun _ _ _ h=>h) (Or.inl ⟨by rfl,?_⟩) G ?_;rotate_left
    ·intro wx b;obtain⟨s0,s1,s2,s3⟩:=b;go_simp
     try with_reducible rfl
    try simp only[Act.put,Bv,Bw,By]
    refine wpAnyH_ready (rs:= [7]) (by kernel_rfl) (by simp) ?_;refine AllReadyH.cons rfl (fun K hK=>?_) AllReadyH.nil;go_simp;refine q0.out.mono ?_;rintro e w6 ⟨A6,c6,rfl,x4,H⟩;have q7:=Aa (a2.out A6 c6 w6 x4 (o4.out.trans H));have f6:w6.cell? ⟨gd,0,none⟩=some (.int .i64 seq)/\w6.cell? ⟨gd,1,none⟩=some (.int .i64 at_)/\w6.cell? ⟨gd,2,none⟩=some (.slice Bx fl cB)/\w6.cell? ⟨gy+1,0,none⟩=some (.int .i64 la):=⟨(rpd.out.ext H).cell 0 rfl,(rpd.out.ext H).cell 1 rfl,(rpd.out.ext H).cell 2 rfl,(f2.out.ext H).cell 0 rfl⟩
    replace x4:=Aa x4;replace H:=Aa H;refine hK.out _ _ f6 (fun _=>?_);clear hK K
    try simp only[Act.put,Bv,Bw,By]
    refine wpAnyH_ready (rs:= [10]) (by kernel_rfl) (by simp) ?_;refine AllReadyH.cons rfl (fun K hK=>?_) AllReadyH.nil;go_simp;refine q7.out.mono ?_;rintro e w8 ⟨A8,c8,rfl,o1,j0⟩;have a1:w8.cell? ⟨gd,0,none⟩=some (.int .i64 seq)/\w8.cell? ⟨gd,1,none⟩=some (.int .i64 at_)/\w8.cell? ⟨gd,2,none⟩=some (.slice Bx fl cB)/\w8.cell? ⟨gy+1,0,none⟩=some (.int .i64 la):=⟨((rpd.out.ext H.out).ext j0).cell 0 rfl,((rpd.out.ext H.out).ext j0).cell 1 rfl,((rpd.out.ext H.out).ext j0).cell 2 rfl,((f2.out.ext H.out).ext j0).cell 0 rfl⟩
    have r8:=Aa ((f2.out.ext H.out).ext j0);have v1:=r8.out.free 0;have q5:=Aa (m1.out.trans ((Ext.refl W5).drew.trans (H.out.trans j0)));replace o1:=Aa o1;replace j0:=Aa j0;refine hK.out _ _ a1 (fun _=>?_);clear hK K
    try simp only[Act.put,Bv,Bw,By]
    refine wpAnyH_take (i:=11) (v:=?_) rfl (by kernel_rfl) (by kernel_rfl) (by kernel_rfl) (fun _ _ _ h=>h) (Or.inl ⟨by rfl,?_⟩) a1 ?_;rotate_left
    ·intro wx b;obtain⟨s0,s1,s2,s3⟩:=b;go_simp
     try with_reducible rfl
    try simp only[Act.put,Bv,Bw,By]
    refine wpAnyH_take (i:=12) (v:=?_) rfl (by kernel_rfl) (by kernel_rfl) (by kernel_rfl) (fun _ _ _ h=>h) (Or.inl ⟨by rfl,?_⟩) a1 ?_;rotate_left
    ·intro wx b;obtain⟨s0,s1,s2,s3⟩:=b;go_simp
     try with_reducible rfl
    try simp only[Act.put,Bv,Bw,By]
    refine wpAnyH_take (i:=13) (v:=?_) rfl (by kernel_rfl) (by kernel_rfl) (by kernel_rfl) (fun _ _ _ h=>h) (Or.inl ⟨by rfl,?_⟩) a1 ?_;rotate_left
    ·intro wx b;obtain⟨s0,s1,s2,s3⟩:=b;go_simp
     try with_reducible rfl
    try simp only[Act.put,Bv,Bw,By]
    refine wpAnyH_take (i:=14) (v:=?_) rfl (by kernel_rfl) (by kernel_rfl) (by kernel_rfl) (fun _ _ _ h=>h) (Or.inl ⟨by rfl,?_⟩) a1 ?_;rotate_left
    ·intro wx b;obtain⟨s0,s1,s2,s3⟩:=b;go_simp
     try with_reducible rfl
    try simp only[Act.put,Bv,Bw,By]
    refine wpAnyH_done (by kernel_rfl) ?_ _;dsimp only[OnlyN];obtain⟨z0,z1,z2,z3⟩:=a1;gi_wp2_with fail;have o5:Own8 (w8.setCell ⟨gy+1,0,none⟩ (.int .i64 seq)) 0 A8 n8 c8 X3:=⟨o1.out.1,(o1.out.2.lower (Nat.zero_le _)).setCell (o1.out.2.unlike r8.out (by decide)) _⟩
    have y5:Chg (fun k=>k=gy+1) X2 (w8.setCell ⟨gy+1,0,none⟩ (.int .i64 seq)):=(I.out.trans (Chg.of_ext q5.out _) fun _ _ h=>h).trans (Chg.of_set (S:=fun k=>k=gy+1) w8 _ rfl) fun _ _ h=>h;exact⟨⟨i+1,n8,c8,A8,X3,seq,rfl,rfl,by omega,by omega,by omega,f3,g0,q1,l0,Aa o5,Aa (r8.out.put 0 _),Aa y5⟩,by simp only[intOf];omega⟩
   ·obtain rfl:i=j:=by omega
    have z5:bP.drop i = []:=List.drop_eq_nil_of_le (by rw[e0.out,List.length_map,f0.out];exact Nat.le_refl _);have b4:Y=Xb:=by have:=t5.out;rw[z5]at this;simpa [blockD]using this
    have i0:la=lz:=by have:=d5.out;rw[z5]at this;exact this
    have a4:=i1.out _ _ _ z4.out (StB.num (W:=W) I.out (by omega) rrl.out);have ryr:=I.out.row rry.out (by omega);have r0r:=I.out.row rr0.out (fun e=>Row.unlike rr0.out rrl.out (by decide) e);have r1r:=I.out.row rr1.out (fun e=>Row.unlike rr1.out rrl.out (by decide) e);have r2r:=I.out.row rr2.out (by omega);have ky:=ryr.cell 0 rfl;have kl:=p3.out.cell 0 rfl;have j1:=d4.out;have n0:=t0.out.1;have v7:=hY.out xs ⟨la,Xb,A5,c5⟩ wr a4 ⟨by rw[j1];exact q3.out,by rw[j1,<-f1.out,<-T.out,i0,i2.out],by rw[j1,<-f1.out,<-T.out,<-b4,j2.out],0,by have:=t0.out.2;rw[n0]at this;exact this⟩;obtain⟨fn,tmps,assign,body,hy,j5⟩:=v7;simp only[Blk.args]at hy j5;rw[<-n0]at hy;replace n0:=Aa n0;replace a4:=Aa a4;replace ryr:=Aa ryr;replace r0r:=Aa r0r;replace r1r:=Aa r1r;replace r2r:=Aa r2r;replace b4:=Aa b4;replace i0:=Aa i0;clear hY;gi_wp2_with fail;refine RoundIn.mono (F:=Fence.wide.inRound l2) j5 ?_;rintro e W9 ⟨rfl,e6,m0,l5⟩;gi_wp2_with fail;have f5:(pre ++ [pre.length]).length=pre.length+1:=by rw[List.length_append];rfl
    refine⟨(I.out.others fun k hk=>⟨3,#[.int .i64 lst],by rw[hk];exact rrl.out⟩).trans l5,KeepB.of rr1.out (m0.2 _ _ _ (by decide) (by decide) r1r.out) rr2.out (m0.2 _ _ _ (by decide) (by decide) r2r.out),⟨_,?_,e6⟩,m0.2 _ _ _ (by decide) (by decide) r0r.out,m0.2 _ _ _ (by decide) (by decide) r1r.out,m0.2 _ _ _ (by decide) (by decide) r2r.out,m0.2 _ _ _ (by decide) (by decide) ryr.out,?_,m0.1 w0 hB k2.out,?_⟩
    ·rw[List.length_append,j1,f5];rfl
    ·rw[f5,hR.out.last2,<-i2.out,<-i0.out];exact m0.2 _ _ _ (by decide) (by decide) p3.out
    ·have:=I.out.size;have:=l5.size;omega
 case hdone =>
  rintro D xs X2 X3 X4 hD hI ⟨a6,o7,r7,p5⟩ l4 hk;have d6:=Aa (O.out _ _ _ (k1.out _ _ _ hI p5) l4);replace hk:=Aa hk;clear hI l4 p5;gi_wp2_with fail;refine BR (B:=w4.heap.size) rfl hk.out hD fun Wz U=>⟨_,results_none rfl _ _ _,?_⟩
  obtain⟨⟨bl,r6,hj⟩,_⟩:=O.out _ _ _ d6.out U;exact⟨⟨_,rfl⟩,bl,Wz,hj,by rw[r6,y1.out];exact a6,rfl⟩
end
section
open Go.RowKit Go.Shelf
attribute [local go_sem] Oper.semAt_some AP Cp
theorem HB.stb {base h1 h2:Nat} {Hd Bd:List UInt8} {W A B:World} (h:HB base h1 h2 Hd Bd A) (hs:StB W A B):HB base h1 h2 Hd Bd B:=by
 obtain⟨A1,A2,c1,c2,r1,r2,o1,o2,b⟩:=h;have hb:∀ {X:Option Addr} {n c:Nat} {xs:List Value},Buf A base 5 X n c xs->Buf B base 5 X n c xs:=fun hb=>hb.chg hs fun a j hn=>by
  rcases hb.2.2 with ⟨H,_⟩ | ⟨g,cur,Y,_,J,_⟩
  ·rw[H]at j;cases j
  ·rw[Y]at j;cases j;exact absurd (hn.2 _ _ J) (by decide)
 exact⟨A1,A2,c1,c2,hs.row r1 fun hn=>absurd (hn.2 _ _ r1) (by decide),hs.row r2 fun hn=>absurd (hn.2 _ _ r2) (by decide),⟨o1.1,hb o1.2⟩,⟨o2.1,hb o2.2⟩,b⟩
def SEnc (base h1 h2:Nat) (Hd Bd:List UInt8) (w W:World):Prop:=HB base h1 h2 Hd Bd W/\Ext w W
theorem Gh (ds:List DocC) (A:Option Addr) (m c:Nat) (w:World) (a:m=ds.length) (h:DocsOk w A ds) (H:m<=1000000000) (Y:okDs (dcs ds)=false) :
 Calls prog 42 #[.slice A m c] w fun e w'=>e = .returned (.tuple #[.slice none 0 0,.int .i64 120])/\Ext w w':=by
 have j:=Gg ds A m c w a h H;rw[Y,if_neg (by decide)]at j;replace j:=Aa j;replace a:=Aa a;replace h:=Aa h;refine(callsIn_wide (n:=0)).1 ?_;refine callsIn_of_wp_marks func42 rfl trivial ?_;simp only[ntmps42,List.size_toArray,List.length_cons,List.length_nil,Nat.reduceAdd,Nat.reduceSub,Array.replicate_succ,Array.replicate_zero,List.push_toArray,List.append_toArray,List.nil_append,List.cons_append];gi_wp2_with fail;refine(callsIn_wide.2 j.out).mono ?_;rintro e w1 ⟨rfl,b⟩;gi_wp2_with fail;exact F3 rfl (results_tmp2 rfl _ _ _) ⟨rfl,b⟩
theorem Du (ds:List DocC) (A:Option Addr) (m c:Nat) (w:World) (hm:m=ds.length) (h:DocsOk w A ds) (hA:∀a,A=some a->a.spot=none) (z5:m<=c) (G:okDs (dcs ds)=true) (Z:(blockD 0 (dcs ds)).length<=50000000) :
 Calls prog 42 #[.slice A m c] w fun e w'=>OkB w (encDs (dcs ds)) e w':=by
 have j6:m<=65536:=by
  have:=G;unfold okDs at this;rw[Bool.and_eq_true]at this;have:=of_decide_eq_true this.1;unfold dcs at this;rw[List.length_map]at this;omega
 have y2:=Gg ds A m c w hm h (by omega);rw[G,if_pos rfl]at y2;have x2:=fun B b0 W hB hw hb=>JR ds A m c b0 B w W hm h hA z5 G Z hB hw hb;obtain⟨P,hP⟩:=Ab (dcs ds);have f0:P.length=m:=by rw[hP,hm];exact List.length_map ..
 rw[<-hP]at G Z x2 ⊢;have k1:=Aa (fun A n c x l W h1 h2 h3 h4 h5=>Cm A n c x l W h1 h2 h3 h4 h5);have y6:=AH (m:=m) (by omega);replace y2:=Aa y2;replace x2:=Aa x2;replace f0:=Aa f0;replace hm:=Aa hm;replace h:=Aa h;replace hP:=Aa hP;replace G:=Aa G;replace Z:=Aa Z;replace hA:=Aa hA;refine(callsIn_wide (n:=0)).1 ?_;refine callsIn_of_wp_marks func42 rfl trivial ?_;simp only[ntmps42,List.size_toArray,List.length_cons,List.length_nil,Nat.reduceAdd,Nat.reduceSub,Array.replicate_succ,Array.replicate_zero,List.push_toArray,List.append_toArray,List.nil_append,List.cons_append];gi_wp2_with fail;refine(callsIn_wide.2 y2.out).mono ?_;rintro e w1 ⟨rfl,x4⟩;gi_wp2_with fail;refine(callsIn_wide.2 (k1.out none 0 0 m [] w1 rfl (.inl rfl) (fun _=>rfl) (by omega) (by omega))).mono ?_;rintro e w2 e0;obtain⟨A2,c2,rfl,k0,x0⟩:=e0;rw[List.nil_append]at k0 ⊢;obtain⟨k2,v0⟩:∃k,k=(vb m).length:=⟨_,rfl⟩
 rw[<-v0]at k0 ⊢;replace k0:=Aa k0;replace v0:=Aa v0;replace x0:=Aa (x4.trans x0);gi_wp2_with fail;obtain⟨W3,m0⟩:=Ab ((w2.alloc (Obj.cells #[Value.slice A2 k2 c2] 24)).alloc (Obj.cells #[Value.slice none 0 0] 24));rw[<-m0];obtain⟨h1,t0⟩:=Ab w2.heap.size;have q1:Row W3 h1 24 #[.slice A2 k2 c2]:=by rw[m0,t0];exact(Row.new w2 _ _).alloc _
 have q2:Row W3 (h1+1) 24 #[.slice none 0 0]:=by
  have:=Row.new (w2.alloc (Obj.cells #[Value.slice A2 k2 c2] 24)) 24 #[.slice none 0 0];rw[World.size_alloc,<-t0]at this;rw[m0];exact this
 have U:Ext w2 W3:=by rw[m0];exact((Ext.refl w2).alloc _).alloc _
 have e4:w.heap.size<=h1:=by rw[t0];exact x0.out.size
 have e1:HB w.heap.size h1 (h1+1) (vb m) [] W3:=⟨A2,none,c2,0,by rw[<-v0.out];exact q1,q2,⟨rfl,by rw[<-v0.out];exact(k0.out.lower x4.size).ext U⟩,⟨rfl,Buf.nil _ _ _⟩,fun _ _ _ e=>by cases e⟩
 replace U:=Aa (x0.out.trans U);rw[<-t0];refine(callsIn_wide.2 (Li A m c W3)).mono ?_;rintro e w4 ⟨b0,rfl,rb0,q6,y1⟩;have i1:SEnc w.heap.size h1 (h1+1) (vb m) [] w w4:=⟨e1.ext y1,U.out.trans y1⟩
 have d2:=x2.out w.heap.size b0 w4 (Nat.le_refl _) (U.out.trans y1) rb0;have j1:=i1.2.size;replace i1:=Aa i1;replace d2:=Aa d2;replace m0:=Aa m0;replace t0:=Aa t0;clear q1 q2 e1 y1 rb0 k0 U x0 v0;gi_wp2_with fail;unfold BlkIter at d2;have g0:∀Hd Bd X Y2,SEnc w.heap.size h1 (h1+1) Hd Bd w X->Alike w4.heap.size X Y2->SEnc w.heap.size h1 (h1+1) Hd Bd w Y2:=fun Hd Bd X Y2 hi ha=>⟨hi.1.alike ha,ha.ext hi.2 j1⟩
 have y3:∀Hd Bd W0 X Y2,Ext w4 W0->SEnc w.heap.size h1 (h1+1) Hd Bd w X->StB W0 X Y2->SEnc w.heap.size h1 (h1+1) Hd Bd w Y2:=fun Hd Bd W0 X Y2 h0 hi hs=>⟨hi.1.stb hs,hi.2.chg hs fun i hi hn=>by have:=hn.1;have:=h0.size;omega⟩
 replace g0:=Aa g0;replace y3:=Aa y3;refine Md (gf:=126) (lb:=#[.pointer (some ⟨b0,0,none⟩)]) rfl (enters_of func126 (by kernel_rfl) rfl) d2.out (fun _=>rfl) (fun W A B h k o hk ho hc=>h.old k o hk ho hc) (fun _ _ _ h=>by rw[h.2];exact KeepsOthers.refl _) (KpB.trans w.heap.size) (KpB.alike j1)
  (fun xs X=>SEnc w.heap.size h1 (h1+1) (vb m++headD 0 ((chunkL 16 P).take xs.length)) (blockD 0 (P.take (xs.length*16))) w X) (fun xs A B h ha=>g0.out _ _ _ _ h ha) (fun W0 xs A B h0 h hs=>y3.out _ _ _ _ _ h0 h hs) ?h0 ?hround ?hdone
 case h0 =>
  intro X ha;have:=g0.out _ _ _ _ i1.out ha;simpa [headD,blockD]using this
 case hround =>
  rintro l xs ⟨la,Xb,A9,c9⟩ X hI ⟨y5,i3,a3,base0,j0⟩;simp only at i3 a3 j0;unfold Blk.args;simp only;have hR:=Ho G.out Z.out (r:=xs.length) y5;have a5:=hR.ne;have b:=hR.head;have H:=hR.body;have hlen:=hR.len;have f3:=hR.hlen;have n0:=hR.hi2;rw[<-i3]at a5 b n0;rw[<-a3]at b H hlen;clear hR i3 a3;obtain⟨Hd,J⟩:=Ab (vb m++headD 0 ((chunkL 16 P).take xs.length));obtain⟨Bd,O⟩:=Ab (blockD 0 (P.take (xs.length*16)));rw[<-J,<-O]at hI;rw[<-O]at H hlen;have q4:(xs ++ [(⟨la,Xb,A9,c9⟩:Blk)]).length=xs.length+1:=by rw[List.length_append];rfl
  obtain⟨lN,x5⟩:∃lN:Nat,la=(lN:Int):=⟨la.toNat,by omega⟩
  subst x5;rw[Int.toNat_natCast]at b;have e5:lN<1099511627777:=by have:=n0.2;omega
  obtain⟨n9,r0⟩:=Ab Xb.length;rw[<-r0]at b hlen j0 ⊢;have r5:n9<=50000000:=by have:=Z.out;omega
  have d5:Bd.length<=50000000:=by have:=Z.out;omega
  have x6:=AH (m:=lN) (by omega);have v6:=AH (m:=n9) (by omega);have d4:Hd.length<=2000000:=by
   have h2:=Ag (n:=m) (by omega);have h6:=f0.out;rw[J,List.length_append];omega
  obtain⟨H1,c0⟩:=Ab (Hd++vb lN);obtain⟨H2,d0⟩:=Ab (H1++vb n9);have t5:=Ag (n:=lN) (by omega);have v5:=Ag (n:=n9) (by omega);have a4:H1.length<=2000010:=by rw[c0,List.length_append];omega
  have b4:H2.length<=2000020:=by rw[d0,List.length_append];omega
  replace hI:=Aa hI;replace j0:=Aa j0;replace J:=Aa J;replace O:=Aa O;replace c0:=Aa c0;replace d0:=Aa d0;replace r0:=Aa r0;replace b:=Aa b;replace H:=Aa H;replace q4:=Aa q4;clear t5 v5 hlen f3 n0;gi_wp2_with fail;refine⟨KeepsOthers.refl _,KpB.ext (Ext.refl _),fun W2 t3=>?_⟩;have g5:=g0.out _ _ _ _ hI.out t3;have p3:=Aa (t3.buf j0.out);clear t3 hI j0;obtain⟨T,I⟩:=g5;have c4:=T;obtain⟨A1,B1,c1,d1,r1,r2,o1,o2,a2⟩:=c4;have f1:=r1.cell 0 rfl;obtain⟨nh,r3⟩:=Ab Hd.length;rw[<-r3]at f1 d4 o1;have q5:=I.size;replace r3:=Aa r3;replace T:=Aa T;replace I:=Aa I;replace r1:=Aa r1;replace r2:=Aa r2;replace o1:=Aa o1;replace o2:=Aa o2;replace a2:=Aa a2;gi_wp2_with fail;refine(Bb (k1.out A1 nh c1 lN Hd W2 o1.out.1 o1.out.2.cells o1.out.nil_ (by omega) (by omega))).mono ?_;rintro e w7 e0;obtain⟨A7,c7,rfl,m1,y0⟩:=e0;rw[<-c0.out]at m1 ⊢;obtain⟨n7,i2⟩:=Ab H1.length;rw[<-i2]at m1 a4 ⊢;have p4:Hid (Own8 w7 w.heap.size A7 n7 c7 H1):=Aa ⟨i2,m1.lower q5⟩;replace i2:=Aa i2;replace y0:=Aa y0;clear m1;gi_wp2_with fail;refine(Bb (k1.out A7 n7 c7 n9 H1 w7 p4.out.1 p4.out.2.cells p4.out.nil_ (by omega) (by omega))).mono ?_;rintro e w8 e0;obtain⟨A8,c8,rfl,x1,y4⟩:=e0;rw[<-d0.out]at x1 ⊢;obtain⟨n8,q3⟩:=Ab H2.length;rw[<-q3]at x1 b4 ⊢;have j:Hid (Ext W2 w8):=Aa (y0.out.trans y4);have r18:=r1.out.ext j.out;have s0:=r18.cell 0 rfl;have s1:=r18.free 0;have k3:=Aa (T.out.head (W6:=w8) (B1:=w7.heap.size) (by omega) j.out q3 x1 y0.out.size (by have:=y0.out.size;omega));replace r18:=Aa r18;replace q3:=Aa q3;clear x1 y4;have q0:Ext w (w8.setCell ⟨h1,0,none⟩ (.slice A8 n8 c8)):=(I.out.trans j.out).setCell (by simpa using e4) _;have r28:Row (w8.setCell ⟨h1,0,none⟩ (.slice A8 n8 c8)) (h1+1) 24 #[.slice B1 Bd.length d1]:=(r2.out.ext j.out).away (by simp) _;have s2:=(r2.out.ext j.out).cell 0 rfl;have d3:Buf (w8.setCell ⟨h1,0,none⟩ (.slice A8 n8 c8)) w.heap.size 5 B1 Bd.length d1 (Bd.map B8):=(o2.out.2.ext j.out).setCell ((o2.out.2.ext j.out).unlike r18.out (by decide)) _;have m4:Cells (w8.setCell ⟨h1,0,none⟩ (.slice A8 n8 c8)) A9 (Xb.map B8):=((p3.out.ext j.out).setCell ((p3.out.ext j.out).unlike r18.out (by decide)) _).cells;have i0:(Xb.map B8).length=n9:=by rw[List.length_map];exact r0.out.symm
  have r4:=q0.size;replace q0:=Aa q0;replace r28:=Aa r28;replace d3:=Aa d3;replace m4:=Aa m4;replace i0:=Aa i0;gi_wp2_with (gi_at_builtin;refine Bu Aw d3.out m4.out (.tmp 30) (.tmp 31) rfl rfl rfl rfl rfl i0.out (Ai _) (by omega) r4 (fun A10 c10 w10 l0 p0 m3 o0=>?_);have r210:=HB.rows k3.out r28.out p0 r28.out (by decide);have u0:=r210.cell 0 rfl;have u1:=r210.free 0;replace r210:=Aa r210;replace l0:=Aa l0;replace p0:=Aa p0;replace m3:=Aa m3;replace o0:=Aa o0);obtain⟨g1,g2,g3,g4⟩:=HB.body (x:=Xb) k3.out (by omega) r28.out p0.out (by rw[List.length_append,<-r0.out]) (by rw[List.map_append];exact l0.out) o0.out;refine⟨(j.out.others.trans (KeepsOthers.setCell _ _ _)).trans g2,⟨fun w0 h0 he=>g4 w0 ((he.trans j.out).setCell (p:=⟨h1,0,none⟩) (by show w0.heap.size<=h1;omega) _) (by omega) (by omega),fun g t cs t1 t2 hr=>?_⟩,?_,g4 _ q0.out (Nat.le_refl _) (by omega)⟩
  ·have l4:=hr.ext j.out;have n4:=l4.away (p:=⟨h1,0,none⟩) (fun e=>Row.unlike l4 r18.out t1 e) (.slice A8 n8 c8);exact g3 _ _ _ n4 t2 (fun e=>Row.unlike n4 r28.out t1 e)
  ·rw[q4.out,b.out,H.out,<-List.append_assoc,<-List.append_assoc,<-J.out,<-c0.out,<-d0.out];exact g1
 case hdone =>
  rintro D xs W2 W3 W5 hD hI ⟨z4,rfl⟩ v4 hk;have Y:=Ir P xs.length z4;rw[f0.out]at Y;have x3:=g0.out _ _ _ _ hI v4;have e1:=x3.1;have a1:=x3.2;obtain⟨A1,B1,c1,d1,r1,r2,o1,o2,a2⟩:=e1;obtain⟨Hd,J⟩:=Ab (vb m++headD 0 ((chunkL 16 P).take xs.length));obtain⟨Bd,O⟩:=Ab (blockD 0 (P.take (xs.length*16)));rw[<-J]at r1 o1 Y;rw[<-O]at r2 o2 Y;have f1:=r1.cell 0 rfl;have f2:=r2.cell 0 rfl;have o5:Hd.length<=50000000:=by
   have h2:=Ag (n:=m) (by omega);have h1:=Gy G.out Z.out (chunkL 16 P).length;rw[List.take_length]at h1;have h3:(headD 0 ((chunkL 16 P).take xs.length)).length<=(headD 0 (chunkL 16 P)).length:=by
    have h4:=FD ((chunkL 16 P).take xs.length) ((chunkL 16 P).drop xs.length) 0;rw[List.take_append_drop]at h4;rw[h4,List.length_append];omega
   have h5:=AO (k:=16) (by omega) P;have h6:=f0.out;rw[J,List.length_append];omega
  have l5:Bd.length<=50000000:=by have:=CV P (xs.length*16);have:=Z.out;rw[O];omega
  have o4:=a1.size;have k4:=o2.2.cells;have m2:=o1.2;have o3:(Bd.map B8).length=Bd.length:=List.length_map ..;replace Y:=Aa Y;replace J:=Aa J;replace O:=Aa O;replace r1:=Aa r1;replace r2:=Aa r2;replace k4:=Aa k4;replace m2:=Aa m2;replace o3:=Aa o3;replace a1:=Aa a1;replace hk:=Aa hk;clear hI x3 z4 v4 o1 o2 a2;gi_wp2_with (gi_at_builtin;refine Bu Aw m2.out k4.out (.tmp 33) (.tmp 34) rfl rfl rfl rfl rfl o3.out (Ai _) (by omega) o4 (fun A6 c6 w6 b3 e3 j4 f4=>?_);replace b3:=Aa b3;replace e3:=Aa e3;replace j4:=Aa j4;replace f4:=Aa f4);have m5:w6.heap[D]? = some (.deferred (some [])):=(BL m2.out e3.out).same _ _ hk.out rfl;refine BR (B:=w4.heap.size) rfl m5 hD fun W ha=>⟨_,results_tmp2 rfl _ _ _,?_⟩
  refine⟨A6,c6,?_,⟨rfl,?_⟩,ha.ext (j4.out w a1.out (Nat.le_refl _)) j1⟩
  ·rw[Y.out,List.length_append];rfl
  ·rw[Y.out,List.length_append,List.map_append];exact ha.buf b3.out
end
section
open Go.RowKit
theorem Ms (a b:List UInt8) (w:World) (ha:a.length<=1000000000) (hb:b.length<=1000000000) :
 Calls prog 137 #[.string ⟨a.toArray⟩,.string ⟨b.toArray⟩] w fun e w'=>e = .returned (.int .i64 (cpl a b:Int))/\Ext w w':=by
 obtain⟨Z,hZ⟩:=Ab (cpl a b);rw[<-hZ];obtain⟨n,hn⟩:=Ab a.length;obtain⟨m,G⟩:=Ab b.length;have v0:(⟨a.toArray⟩:ByteArray).size=n:=by rw[hn];exact ByteArray.size_mk_toArray a
 have x0:(⟨b.toArray⟩:ByteArray).size=m:=by rw[G];exact ByteArray.size_mk_toArray b
 rw[<-hn]at ha;rw[<-G]at hb;have j0:Z<=n/\Z<=m:=by have:=DC a b;omega
 replace hZ:=Aa hZ;replace hn:=Aa hn;replace G:=Aa G
 go_in
 go_wp2_with fail
 go_loopw [5] (fun s5 wr=>∃i:Nat,s5 = .int .i64 (i:Int)/\i<=n/\i<=m/\Hid (a.take i=b.take i)/\Hid (Ext w wr)) (fun s5 _=>n - (intOf s5).toNat)
 case atStart=>exact⟨0,rfl,by omega,by omega,Aa (by simp),Aa (Ext.refl w)⟩
 case round =>
  obtain⟨i,rfl,p0,him,ht,I⟩:=hrel;have Y:=GD i a b ht.out (by rw[<-hn.out];exact p0) (by rw[<-G.out];exact him);rw[<-hZ.out]at Y;replace Y:=Aa Y;by_cases h1:i<n
  ·by_cases h2:i<m
   ·obtain⟨x,O⟩:∃x,a[i]? = some x:=⟨_,List.getElem?_eq_getElem (by rw[<-hn.out];exact h1)⟩
    obtain⟨y,T⟩:∃y,b[i]? = some y:=⟨_,List.getElem?_eq_getElem (by rw[<-G.out];exact h2)⟩
    have m0:=fun W=>AB O (z:=(i:Int)) rfl W;have t0:=fun W=>AB T (z:=(i:Int)) rfl W;have J:a.drop i=x::a.drop (i+1):=by
     rw[List.drop_eq_getElem_cons (List.getElem?_eq_some_iff.1 O).1,(List.getElem?_eq_some_iff.1 O).2]
    have U:b.drop i=y::b.drop (i+1):=by
     rw[List.drop_eq_getElem_cons (List.getElem?_eq_some_iff.1 T).1,(List.getElem?_eq_some_iff.1 T).2]
    by_cases H:x=y
    ·have q1:((x.toNat:Int)==(y.toNat:Int))=true:=by rw[H];exact beq_self_eq_true _
     have k0:Hid (a.take (i+1)=b.take (i+1)):=Aa (by rw[List.take_add_one,List.take_add_one,O,T,ht.out,H]);replace O:=Aa O;replace T:=Aa T;replace J:=Aa J;replace U:=Aa U;replace H:=Aa H;go_wp2_with fail;refine AE (fun K hK=>?_);go_wp2_with fail;refine⟨by kernel_rfl,?_⟩;go_wp2_with fail;exact⟨⟨i+1,by congr 1,by omega,by omega,k0,Aa I.out.drew⟩,by simp only[intOf];omega⟩
    ·have q1:((x.toNat:Int)==(y.toNat:Int))=false:=beq_eq_false_iff_ne.2 fun h=>H (UInt8.toNat_inj.1 (by omega));have j:Z=i:=by rw[Y.out,J,U,cpl,if_neg H];rfl
     replace O:=Aa O;replace T:=Aa T;replace J:=Aa J;replace U:=Aa U;replace H:=Aa H;replace j:=Aa j;go_wp2_with fail;refine AE (fun K hK=>?_);go_wp2_with fail;refine⟨by kernel_rfl,?_⟩;go_wp2_with fail;go_ret;exact⟨by rw[j.out];rfl,I.out.drew⟩
   ·have j:Z=i:=by have:=Y.out;omega
    replace j:=Aa j;go_wp2_with fail;refine AE (fun K hK=>?_);go_wp2_with fail;refine⟨by kernel_rfl,?_⟩;go_wp2_with fail;go_ret;exact⟨by rw[j.out];rfl,I.out.drew⟩
  ·have j:Z=i:=by have:=Y.out;omega
   replace j:=Aa j;go_wp2_with fail;refine AE (fun K hK=>?_);go_wp2_with fail;refine⟨by kernel_rfl,?_⟩;go_wp2_with fail;go_ret;exact⟨by rw[j.out];rfl,I.out.drew⟩
def En.cells (e:En):List Value:= [.string ⟨e.t.toArray⟩,.int .i64 (e.off:Int),.int .i64 (e.len:Int),.int .i64 (e.n:Int)]
def encells (l:List En):List Value:=l.flatMap En.cells
theorem FZ (l:List En):(encells l).length=l.length*4:=AU (cellsA:=En.cells) (k:=4) (fun _=>rfl) l
theorem CR {l:List En} {x:En} (h:l[i]? = some x) {j:Nat} (b:j<4):(encells l)[i*4+j]? = x.cells[j]? :=AW (cellsA:=En.cells) (k:=4) (fun _=>rfl) l i x j h b
theorem AX {l:List En} (h:Cells w A (encells l)) {x:En} (j:l[i]? = some x):∃g o,A=some ⟨g,o,none⟩/\w.cell? ⟨g,o+i*4,none⟩=some (.string ⟨x.t.toArray⟩)/\w.cell? ⟨g,o+i*4+1,none⟩=some (.int .i64 (x.off:Int))/\w.cell? ⟨g,o+i*4+2,none⟩=some (.int .i64 (x.len:Int))/\w.cell? ⟨g,o+i*4+3,none⟩=some (.int .i64 (x.n:Int)):=by
 obtain⟨g,o,a,b⟩:=h.at_ (by rw[FZ];have:=(List.getElem?_eq_some_iff.1 j).1;omega);exact⟨g,o,a,b (i*4+0) _ (by rw[CR j (by omega)];rfl),b (i*4+1) _ (by rw[CR j (by omega)];rfl),b (i*4+2) _ (by rw[CR j (by omega)];rfl),b (i*4+3) _ (by rw[CR j (by omega)];rfl)⟩
theorem Bm:∀(a b:List UInt8),Op.bytesLess a b=decide (a<b)
 | [],[]=>by simp[Op.bytesLess]
 | _::_,[]=>by simp[Op.bytesLess]
 | [],_::_=>by simp[Op.bytesLess]
 | x::a,y::b=>by
  rw[Op.bytesLess,Bm a b,Bool.eq_iff_iff,decide_eq_true_iff,List.cons_lt_cons_iff];simp
theorem Sk {l:List En} (h:OkEs l) {x y:En} (j:l[i]? = some x) (b:l[i+1]? = some y):x.t<y.t:=by
 obtain⟨h1,rfl⟩:=List.getElem?_eq_some_iff.1 j;obtain⟨h2,rfl⟩:=List.getElem?_eq_some_iff.1 b;exact List.pairwise_iff_getElem.1 h.up i (i+1) h1 h2 (by omega)
theorem RL {a:List UInt8} (h:a ≠ []) : []<a:=by
 cases a with
 | nil=>exact absurd rfl h
 | cons x t=>exact List.nil_lt_cons x t
def lastT (l:List En) (i:Nat):List UInt8:=match (l.take i).getLast? with
 | some e=>e.t
 | none=> []
theorem Dp {l:List En} {x:En} (h:l[i]? = some x):lastT l (i+1)=x.t:=by
 unfold lastT;rw[List.take_add_one,h];simp
theorem Px {l:List En} (h:OkEs l) {x:En} (j:l[i]? = some x):lastT l i<x.t:=by
 cases i with
 | zero=>exact RL (h.each x (List.mem_of_getElem? j)).2
 | succ i =>
  obtain⟨y,b⟩:∃y,l[i]? = some y:=⟨_,List.getElem?_eq_getElem (by have:=(List.getElem?_eq_some_iff.1 j).1;omega)⟩
  rw[Dp b];exact Sk h b j
def thr (a b c:Int) (i:Nat):Int:=if i=0 then a else if i=1 then b else c
theorem I2 {a b c:Int} (hi:i<3) (W:World):(Instr.index 220 (.agg #[.int .i64 a,.int .i64 b,.int .i64 c]) (.int .i64 (i:Int))).run prog W = .ok (.int .i64 (thr a b c i)) W:=by
 rcases (show i=0\/i=1\/i=2 by omega)with rfl | rfl | rfl
 ·show _=_
  kernel_rfl
 ·show _=_
  kernel_rfl
 ·show _=_
  kernel_rfl
theorem Qg {a b c:Int} (i:Nat) (h:0<=a/\a<=67108864) (hb:0<=b/\b<=67108864) (j:0<=c/\c<=67108864):0<=thr a b c i/\thr a b c i<=67108864:=by
 unfold thr;split
 ·exact h
 ·split
  ·exact hb
  ·exact j
theorem J3 (l:List En) (A:Option Addr) (m c:Nat) (w:World) (hm:m=l.length) (h:Cells w A (encells l)) (O:OkEs l) :
 Calls prog 85 #[.slice A m c] w fun e w'=>e = .returned (.bool true)/\Ext w w':=by
 have f0:m<=262144:=by rw[hm];exact O.few
 replace hm:=Aa hm;replace h:=Aa h;replace O:=Aa O
 go_in
 go_wp2_with fail
 go_loopw [3,11] (fun s3 s11 wr=>∃(i:Nat) (la:List UInt8),s3 = .string ⟨la.toArray⟩/\s11 = .int .i64 (i:Int)/\i<=m/\Hid (la=lastT l i)/\Hid (Ext w wr)) (fun _ s11 _=>m - (intOf s11).toNat)
 case atStart=>exact⟨0,[],rfl,rfl,by omega,Aa rfl,Aa (Ext.refl w)⟩
 case round =>
  obtain⟨i,la,rfl,rfl,hi,m0,hE⟩:=hrel;by_cases j0:i<m
  ·obtain⟨x,J⟩:∃x,l[i]? = some x:=⟨_,List.getElem?_eq_getElem (by rw[<-hm.out];exact j0)⟩
   obtain⟨g,o,hA,x0,x1,x2,x3⟩:=AX (h.out.ext hE.out) J;subst hA;have H:=Px O.out J;rw[<-m0.out]at H;obtain⟨⟨b1,b2,b3,b4⟩,t0⟩:=O.out.each x (List.mem_of_getElem? J);have q0:Hid (x.t=lastT l (i+1)):=Aa (Dp J).symm;obtain⟨t,off,len,n⟩:=x;simp only at x0 x1 x2 x3 H b1 b2 b3 b4 q0;have v0:(⟨t.toArray⟩:ByteArray).size=t.length:=ByteArray.size_mk_toArray t;obtain⟨tl,G⟩:=Ab t.length;rw[<-G]at v0 b1;have q1:Op.bytesLess t la=false:=by rw[Bm];exact decide_eq_false fun h2=>List.lt_asymm H h2
   have q2:(t==la)=false:=beq_eq_false_iff_ne.2 fun e=>by rw[e]at H;exact List.lt_irrefl _ H
   obtain⟨W5,U⟩:=Ab (wr.alloc (.cells #[.string ⟨t.toArray⟩,.int .i64 (off:Int),.int .i64 (len:Int),.int .i64 (n:Int)] 100));obtain⟨g5,T⟩:=Ab wr.heap.size;have Y:Row W5 g5 100 #[.string ⟨t.toArray⟩,.int .i64 (off:Int),.int .i64 (len:Int),.int .i64 (n:Int)]:=by rw[U,T];exact Row.new wr _ _
   have Z:Ext w W5:=by rw[U];exact hE.out.alloc _
   have y0:=Y.cell 0 rfl;have y1:=Y.cell 1 rfl;have y2:=Y.cell 2 rfl;have y3:=Y.cell 3 rfl;replace J:=Aa J;replace H:=Aa H;replace G:=Aa G;replace Y:=Aa Y;replace Z:=Aa Z;replace U:=Aa U;replace T:=Aa T;clear t0;go_upto_region 5 with (fail)
   rw[<-U.out,<-T.out];go_wp2_with fail
   go_loopw [6,32] (fun s6 s32 wv=>∃j:Nat,s6 = .bool true/\s32 = .int .i64 (j:Int)/\j<=3/\wv=W5) (fun _ s32 _=>3 - (intOf s32).toNat)
   case atStart=>exact⟨0,rfl,rfl,by omega,rfl⟩
   case round =>
    obtain⟨j,rfl,rfl,hj,rfl⟩:=hrel;by_cases g0:j<3
    ·have hx:=fun W=>I2 (a:=(off:Int)) (b:=(len:Int)) (c:=(n:Int)) g0 W;have I:=Qg (a:=(off:Int)) (b:=(len:Int)) (c:=(n:Int)) j (by omega) (by omega) (by omega);obtain⟨v,hv⟩:=Ab (thr (off:Int) (len:Int) (n:Int) j);rw[<-hv]at hx I;obtain⟨d0,e0⟩:=I;have h0:(j:Int)<3:=by omega
     replace hv:=Aa hv;go_wp2_with fail;exact⟨⟨j+1,rfl,by congr 1,by omega,trivial⟩,by simp only[intOf];omega⟩
    ·have h0:¬ (j:Int)<3:=by omega
     go_wp2_with fail;exact⟨⟨i+1,t,rfl,rfl,by omega,q0,Z⟩,by simp only[intOf];omega⟩
  ·obtain rfl:i=m:=by omega
   go_wp2_with fail;go_ret;exact⟨Bf (decide_eq_true (by omega)),hE.out⟩
end
section
open Go.RowKit
attribute [local go_sem] Oper.semAt_some AP
theorem Lp (A:Option Addr) (n c k:Nat) (w:World) (hk:1<=k) (h:k<=1000000) :
 Calls prog 136 #[.slice A n c,.int .i64 (k:Int)] w fun e w'=>∃b1 b2,e = .returned (.func (.func 180) #[] #[.pointer (some ⟨b1,0,none⟩),.pointer (some ⟨b2,0,none⟩)])/\Row w' b1 97 #[.slice A n c]/\Row w' b2 3 #[.int .i64 (k:Int)]/\w.heap.size<=b1/\w.heap.size<=b2/\b1<b2/\Ext w w':=by
 go_in
 go_wp2_with fail;go_ret;have h1:=Row.new w 97 #[.slice A n c];have h2:=Row.new (w.alloc (.cells #[.slice A n c] 97)) 3 #[.int .i64 (k:Int)];rw[World.size_alloc]at h2;exact⟨w.heap.size,w.heap.size+1,rfl,h1.alloc _,h2,Nat.le_refl _,by omega,by omega,((Ext.refl w).alloc _).alloc _⟩
theorem KS (j:z=(i:Int)) (hi:i<=n):∃A' c',∀W:World,(Instr.sliceAt 97 (.slice A n c) (some (.int .i64 z)) none none).run prog W = .ok (.slice A' (n - i) c') W:=by
 subst j;have ht:=underlying97;have h:prog.elem 97=100:=by unfold Program.elem;rw[ht]
 have hs:∀W:World,(sizeOf 100).run prog W = .ok 4 W:=fun W=>by kernel_rfl
 refine⟨if c=i then A else A.map fun a=>a.add (i*4),c - i,fun W=>?_⟩;rw[run_sliceAt_slice W _ _ _ _ _ (by rw[ht,h]),run_slice_l W _ A n c (by rw[ht,h]) .i64 i (by omega) (by omega),h,hs];simp only[Result.andThen_ok,sliced];rfl
theorem KT {n c i j:Nat} (Y:z=(i:Int)) (b:z1=((i+j:Nat):Int)) (H:z2=((i+j:Nat):Int)) (hi:i+j<=c) (J:0<j) (W:World) :
 (Instr.sliceAt 97 (.slice A n c) (some (.int .i64 z)) (some (.int .i64 z1)) (some (.int .i64 z2))).run prog W = .ok (.slice (A.map fun a=>a.add (i*4)) j j) W:=by
 subst Y b H;have ht:=underlying97;have h:prog.elem 97=100:=by unfold Program.elem;rw[ht]
 have hs:(sizeOf 100).run prog W = .ok 4 W:=by kernel_rfl
 rw[run_sliceAt_slice W _ _ _ _ _ (by rw[ht,h]),run_slice_lhm W _ A n c (by rw[ht,h]) .i64 .i64 .i64 i ((i+j:Nat):Int) ((i+j:Nat):Int) (by omega) (by omega) (by omega) (by omega),h,hs];simp only[Result.andThen_ok];congr 1;unfold sliced;rw[if_neg (by omega),show ((i+j:Nat):Int).toNat - (i:Int).toNat=j by omega];rfl
def chunkVC (A:Option Addr) (n k i:Nat):Value:= .slice (A.map fun a=>a.add (i*k*4)) (min k (n - i*k)) (min k (n - i*k))
def ChIterC (A:Option Addr) (n k b1 b2:Nat) (w:World):Prop :=
 Iter prog 180 #[.pointer (some ⟨b1,0,none⟩),.pointer (some ⟨b2,0,none⟩)] (fun i:Nat=>#[chunkVC A n k i]) Ext (fun pre i _=>i=pre.length/\i*k<n) (KeepB b1 b2) (fun xs W W'=>n<=xs.length*k/\xs=List.range xs.length/\(∀i∈xs,i*k<n)/\Ext W W') w
theorem JV (A:Option Addr) (n c k b1 b2:Nat) (w:World) (H:Row w b1 97 #[.slice A n c]) (Y:Row w b2 3 #[.int .i64 (k:Int)]) (hk:1<=k) (l0:k<=1000000) (hn:n<=1000000000) (hc:n<=c):ChIterC A n k b1 b2 w:=by
 intro l J W hE U hY h0;replace H:=H.ext hE;replace Y:=Y.ext hE;clear hE;replace H:=Aa H;replace Y:=Aa Y;replace hY:=Aa hY;replace U:=Aa U;replace h0:=Aa h0;refine(callsIn_wide (n:=0)).1 ?_;refine callsIn_of_wp func180 rfl trivial ?_;simp only[ntmps180,List.size_toArray,List.length_cons,List.length_nil,Nat.reduceAdd,Nat.reduceSub,Array.replicate_succ,Array.replicate_zero,List.push_toArray,List.append_toArray,List.nil_append,List.cons_append];gi_wp2_with fail
 gi_loopw [4] (fun s4 wr=>∃(i q:Nat) (pre:List Nat),s4 = .int .i64 (q:Int)/\Hid (q=i*k)/\q<=n+k/\Hid (pre.length=i)/\Hid (pre=List.range i)/\Hid (∀j∈pre,j*k<n)/\Hid (J pre wr)/\Hid (Row wr b1 97 #[.slice A n c])/\Hid (Row wr b2 3 #[.int .i64 (k:Int)])) (fun s4 _=>n - (intOf s4).toNat)
 case atStart=>exact⟨0,0,[],rfl,Aa (by simp),by omega,Aa rfl,Aa rfl,Aa nofun,h0,H,Y⟩
 case round =>
  obtain⟨i,q,pre,rfl,hq,r0,b,q0,G,hJ,r1,r2⟩:=hrel;have k1:=r1.out.cell 0 rfl;have k2:=r2.out.cell 0 rfl;by_cases Z:q<n
  ·obtain⟨m,hm⟩:∃m:Nat,(m:Int)=min (k:Int) ((n - q:Nat):Int):=⟨min k (n - q),by omega⟩
   have y0:0<m:=by omega
   have n0:m<=k:=by omega
   have o0:m<=n - q:=by omega
   have b0:m=k\/m=n - q:=by omega
   have e0:=fun(W:World)=>AQ (P:=prog) #[3,3] 3 hm W;have q1:=fun(W:World)=>KT (A:=A) (n:=n) (c:=c) (i:=q) (j:=m) (z:=(q:Int)) (z1:=(q:Int)+(m:Int)) (z2:=(q:Int)+(m:Int)) rfl (by omega) (by omega) (by omega) y0 W;obtain⟨A',c',h1⟩:=KS (A:=A) (n:=n) (c:=c) (i:=q) (z:=(q:Int)) rfl (by omega);replace hm:=Aa hm;have j0:=hY.out pre pre.length wr.drew (U.out _ _ _ hJ.out (Ext.refl wr).drew) ⟨rfl,by rw[b.out,<-hq.out];exact Z⟩;have O:chunkVC A n k pre.length = .slice (A.map fun a=>a.add (q*4)) m m:=by
    unfold chunkVC;rw[b.out,<-hq.out,show min k (n - q)=m by omega]
   rw[O]at j0;obtain⟨fn,tmps,assign,body,hy,hR⟩:=j0;have I:Hid (∀j∈pre ++ [pre.length],j*k<n):=Aa fun j hj=>by
    rcases List.mem_append.1 hj with h | h
    ·exact G.out j h
    ·rw[List.mem_singleton.1 h,b.out,<-hq.out];exact Z
   have p0:Hid (pre ++ [pre.length]=List.range (i+1)):=Aa (by rw[List.range_succ,b.out,q0.out]);have c0:Hid (q+k=(i+1)*k):=Aa (by rw[Nat.succ_mul,hq.out]);clear O b0 hY U;gi_wp2_with fail;refine wpIn_wide.2 (AE (fun K hK=>?_));go_wp2_with fail;refine⟨by kernel_rfl,?_⟩;gi_wp2_with fail;refine hR.mono ?_;rintro e W3 ⟨rfl,v0,T⟩;have r13:=Aa (show Row W3 b1 97 #[.slice A n c] from T.1 _ r1.out);have r23:=Aa (show Row W3 b2 3 #[.int .i64 (k:Int)] from T.2 _ r2.out);have k23:=r23.out.cell 0 rfl;gi_wp2_with fail;exact⟨⟨i+1,q+k,pre ++ [pre.length],by congr 1,c0,by omega,Aa (by rw[List.length_append,b.out];rfl),p0,I,Aa v0,r13,r23⟩,by simp only[intOf];omega⟩
  ·gi_wp2_with fail
   go_end0
   exact⟨⟨_,rfl⟩,pre,_,hJ.out,by rw[b.out,<-hq.out];omega,by rw[b.out];exact q0.out,G.out,Ext.refl _⟩
end
section
open Go.RowKit Go.Shelf
attribute [local go_sem] Oper.semAt_some AP Cp
theorem Ji {l:List En} (h:Cells w A (encells l)) (j:∀a,A=some a->a.spot=none) (i m:Nat):Cells w (A.map fun a=>a.add (i*4)) (encells ((l.drop i).take m)):=by
 unfold encells;rw[Bh (f:=En.cells) (k:=4) (fun _=>rfl),Bo (f:=En.cells) (k:=4) (fun _=>rfl)];exact h.part j _ _
def DEnc (base h1 b1 b2:Nat) (V:Value) (L:List UInt8) (w W:World):Prop :=
 (∃A c,Row W h1 24 #[.slice A L.length c]/\Own8 W base A L.length c L)/\Row W b1 97 #[V]/\Row W b2 3 #[.int .i64 16]/\Ext w W
theorem DEnc.alike {base h1 b1 b2 B:Nat} (h:DEnc base h1 b1 b2 V L w W) (j:Alike B W W1) (b:w.heap.size<=B):DEnc base h1 b1 b2 V L w W1:=by
 obtain⟨⟨A,c,r,o⟩,r1,r2,a⟩:=h;exact⟨⟨A,c,j.row r,o.1,j.buf o.2⟩,j.row r1,j.row r2,j.ext a b⟩
theorem DEnc.ext {base h1 b1 b2:Nat} (h:DEnc base h1 b1 b2 V L w W) (j:Ext W W1):DEnc base h1 b1 b2 V L w W1:=by
 obtain⟨⟨A,c,r,o⟩,r1,r2,b⟩:=h;exact⟨⟨A,c,r.ext j,o.ext j⟩,r1.ext j,r2.ext j,b.trans j⟩
def thrB (a b c:Nat) (j:Nat):List UInt8:=if j=0 then [] else if j=1 then vb a else if j=2 then vb a++vb b else vb a++vb b++vb c
theorem OP {a b c j:Nat} (H:j<3) {v:Nat} (h:(v:Int)=thr (a:Int) (b:Int) (c:Int) j):thrB a b c (j+1)=thrB a b c j++vb v:=by
 rcases (show j=0\/j=1\/j=2 by omega)with rfl | rfl | rfl
 ·have:v=a:=by unfold thr at h;simp at h;omega
  subst this;simp[thrB]
 ·have:v=b:=by unfold thr at h;simp at h;omega
  subst this;simp[thrB]
 ·have:v=c:=by unfold thr at h;simp at h;omega
  subst this;simp[thrB]
theorem GF (l:List En) (A:Option Addr) (m c:Nat) (w:World) (hm:m=l.length) (h:Cells w A (encells l)) (hA:∀a,A=some a->a.spot=none) (q7:m<=c) (d1:OkEs l) :
 Calls prog 86 #[.slice A m c] w fun e w'=>OwnB w w.heap.size (encEs l) e w':=by
 have f7:m<=262144:=by rw[hm];exact d1.few
 have n0:=Aa (fun A n c x l W h1 h2 h3 h4 h5=>Cm A n c x l W h1 h2 h3 h4 h5);have q6:=Aa (fun A n c l s W h1 h2 h3 h4 h5=>DR A n c l s W h1 h2 h3 h4 h5);have k7:=Aa (fun a b W h1 h2=>Ms a b W h1 h2);have p8:=AH (m:=m) (by omega);replace hm:=Aa hm;replace h:=Aa h;replace d1:=Aa d1;replace hA:=Aa hA;refine(callsIn_wide (n:=0)).1 ?_;refine callsIn_of_wp_marks func86 rfl trivial ?_;simp only[ntmps86,List.size_toArray,List.length_cons,List.length_nil,Nat.reduceAdd,Nat.reduceSub,Array.replicate_succ,Array.replicate_zero,List.push_toArray,List.append_toArray,List.nil_append,List.cons_append];gi_wp2_with fail;refine(callsIn_wide.2 (n0.out none 0 0 m [] w rfl (.inl rfl) (fun _=>rfl) (by omega) (by omega))).mono ?_;rintro e w2 G;obtain⟨A2,c2,rfl,o0,i1⟩:=G;rw[List.nil_append]at o0 ⊢;obtain⟨k2,v0⟩:∃k,k=(vb m).length:=⟨_,rfl⟩
 rw[<-v0]at o0 ⊢;replace o0:=Aa o0;replace v0:=Aa v0;replace i1:=Aa i1;gi_wp2_with fail;obtain⟨W3,k1⟩:=Ab (w2.alloc (Obj.cells #[Value.slice A2 k2 c2] 24));rw[<-k1];obtain⟨h1,m1⟩:=Ab w2.heap.size;have q1:Row W3 h1 24 #[.slice A2 k2 c2]:=by rw[k1,m1];exact Row.new w2 _ _
 have q2:Ext w2 W3:=by rw[k1];exact(Ext.refl w2).alloc _
 have x4:W3.heap.size=h1+1:=by rw[k1,m1];simp
 have o5:w.heap.size<=h1:=by rw[m1];exact i1.out.size
 have r5:Own8 W3 w.heap.size A2 k2 c2 (vb m):=⟨v0.out,o0.out.ext q2⟩
 rw[<-m1];refine(callsIn_wide.2 (Lp A m c 16 W3 (by omega) (by omega))).mono ?_;rintro e w4 ⟨b1,b2,rfl,rb1,rb2,l6,n6,t4,e3⟩;have r0:DEnc w.heap.size h1 b1 b2 (.slice A m c) (vb m) w w4:=⟨⟨A2,c2,by rw[<-v0.out];exact q1.ext e3,by rw[<-v0.out];exact r5.ext e3⟩,rb1,rb2,(i1.out.trans q2).trans e3⟩
 have p4:=JV A m c 16 b1 b2 w4 rb1 rb2 (by omega) (by omega) (by omega) q7;rw[x4]at l6 n6;have g0:=r0.2.2.2.size;replace r0:=Aa r0;replace p4:=Aa p4;replace k1:=Aa k1;replace m1:=Aa m1;clear q1 e3 rb1 rb2 o0 q2 i1 v0 x4 r5;gi_wp2_with fail;unfold ChIterC at p4;refine C8 (gf:=180) (lb:=#[.pointer (some ⟨b1,0,none⟩),.pointer (some ⟨b2,0,none⟩)]) rfl (enters_of func180 (by kernel_rfl) rfl) p4.out (fun _=>rfl) (fun _ _ h=>h.others) (fun _ _ _ h=>h.2.2.2.others) (KeepB.trans b1 b2) ?kb
  (fun pre W=>DEnc w.heap.size h1 b1 b2 (.slice A m c) (vb m++partsE ((chunkL 16 l).take pre.length)) w W) (fun pre A B h ha=>h.alike ha g0) (fun pre A B h hE=>h.ext hE) ?h0 ?hround ?hdone
 case kb =>
  have f5:=(r0.out.2.1).lt;have i5:=(r0.out.2.2.1).lt;exact KeepB.alike f5 i5
 case h0 =>
  intro W ha;have:=r0.out.alike ha g0;simpa [partsE]using this
 case hround =>
  rintro rl pre i W hI ⟨hi,h7⟩;subst hi;have q3:=F7 (l:=l) (r:=pre.length) (by rw[<-hm.out];exact h7);obtain⟨j,hj⟩:=Ab (min 16 (m - pre.length*16));obtain⟨cb,j1⟩:=Ab ((l.drop (pre.length*16)).take 16);have e0:cb.length=j:=by rw[j1,hj,List.length_take,List.length_drop,hm.out]
  obtain⟨A',d3⟩:=Ab (A.map fun a=>a.add (pre.length*16*4):Option Addr);have p3:Cells w A' (encells cb):=by rw[d3,j1];exact Ji h.out hA.out _ _
  have y4:chunkVC A m 16 pre.length = .slice A' j j:=by unfold chunkVC;rw[d3,hj]
  have f0:∀x∈cb,okEn x:=fun x hx=>by rw[j1]at hx;exact(d1.out.each x (List.mem_of_mem_drop (List.mem_of_mem_take hx))).1
  rw[<-j1]at q3;obtain⟨L,hL⟩:=Ab (vb m++partsE ((chunkL 16 l).take pre.length));rw[<-hL]at hI;have f6:L.length<=60000010:=by
   have h1:=F8 (fun e he=>(d1.out.each e he).1) d1.out.few pre.length;have h2:=Ag (n:=m) (by omega);rw[hL,List.length_append];omega
  have v7:j<=16:=by omega
  obtain⟨Y,hY⟩:=Ab (blockE [] cb);have i6:Y.length<=3200:=by have:=Di (l:=cb) (last:= []) f0;rw[hY];omega
  rw[<-hY]at q3;rw[y4];clear y4;replace hI:=Aa hI;replace p3:=Aa p3;replace d3:=Aa d3;replace j1:=Aa j1;replace hj:=Aa hj;replace hL:=Aa hL;replace e0:=Aa e0;replace q3:=Aa q3;replace f0:=Aa f0;replace hY:=Aa hY;gi_wp2_with fail;refine⟨KeepsOthers.refl _,KeepB.refl _ _ _,fun W2 g5=>?_⟩;have i3:=Aa (hI.out.alike g5 g0);clear g5 hI;have t5:=Aa i3.out.2.2.2;gi_wp2_with fail
  gi_loopw [5,6,21] (fun s5 s6 s21 wr=>∃(i n5 c5:Nat) (A5:Option Addr) (X la:List UInt8),s5 = .slice A5 n5 c5/\s6 = .string ⟨la.toArray⟩/\s21 = .int .i64 (i:Int)/\i<=j/\n5<=3200/\la.length<=65/\Hid (Y=X++blockE la (cb.drop i))/\Hid (Own8 wr w.heap.size A5 n5 c5 X)/\Hid (Ext W2 wr)) (fun _ _ s21 _=>j - (intOf s21).toNat)
  case atStart=>exact⟨0,0,0,none,[],[],rfl,rfl,rfl,by omega,by omega,by simp,Aa (by rw[hY.out];rfl),Aa ⟨rfl,Buf.nil _ _ _⟩,Aa (Ext.refl _)⟩
  case round =>
   obtain⟨i,n5,c5,A5,X,la,rfl,rfl,rfl,e7,i7,y7,e5,k3,hE⟩:=hrel;have O:Hid (Ext w wr):=Aa (t5.out.trans hE.out);by_cases o6:i<j
   ·obtain⟨x,b3⟩:∃x,cb[i]? = some x:=⟨_,List.getElem?_eq_getElem (by rw[e0.out];exact o6)⟩
    obtain⟨g,o,c6,x0,x1,x2,x3⟩:=AX (p3.out.ext O.out) b3;subst c6;have m7:=f0.out x (List.mem_of_getElem? b3);have i2:=e5.out;rw[AY b3]at i2;obtain⟨t,off,len,n⟩:=x;obtain⟨b0,b1',b2',b3'⟩:=m7;simp only at x0 x1 x2 x3 b0 b1' b2' b3';obtain⟨k,hk⟩:=Ab (cpl la t);have r6:k<=t.length:=by rw[hk];exact(DC la t).2
    obtain⟨X1,o3⟩:=Ab (X++vb k);obtain⟨X2,d2⟩:=Ab (X1++txL (t.drop k));obtain⟨X3,f2⟩:=Ab (X2++thrB off len n 3);have c0:Y=X3++blockE t (cb.drop (i+1)):=by
     rw[i2,f2,d2,o3,hk];show X++(enB la _++blockE t _)=_;unfold enB thrB;simp
    have t7:X3.length<=3200:=by rw[c0,List.length_append]at i6;omega
    have b5:X2.length<=X3.length:=by rw[f2,List.length_append];omega
    have a5:X1.length<=X2.length:=by rw[d2,List.length_append];omega
    have j7:=fun W=>Ge t k r6 (z:=(k:Int)) rfl W;have x7:k<=65:=by omega
    have q8:=AH (m:=k) (by omega);have j6:=Aa (fun W=>k7.out la t W (by omega) (by omega));rw[<-hk]at j6;obtain⟨W5,a2⟩:=Ab (wr.alloc (.cells #[.string ⟨t.toArray⟩,.int .i64 (off:Int),.int .i64 (len:Int),.int .i64 (n:Int)] 100));obtain⟨g8,q4⟩:=Ab wr.heap.size;have r4:Row W5 g8 100 #[.string ⟨t.toArray⟩,.int .i64 (off:Int),.int .i64 (len:Int),.int .i64 (n:Int)]:=by rw[a2,q4];exact Row.new wr _ _
    have t0:Ext wr W5:=by rw[a2];exact(Ext.refl wr).alloc _
    have m6:(⟨t.toArray⟩:ByteArray).size=t.length:=ByteArray.size_mk_toArray t;replace o3:=Aa o3;replace d2:=Aa d2;replace f2:=Aa f2;replace c0:=Aa c0;replace hk:=Aa hk;replace b3:=Aa b3;replace r4:=Aa r4;replace t0:=Aa t0;replace a2:=Aa a2;replace q4:=Aa q4;replace m6:=Aa m6;clear i2;gi_wp2_with fail;rw[<-a2.out,<-q4.out];refine(Bb (j6.out W5)).mono ?_;rintro e w6 ⟨rfl,b4⟩;have p6:=Aa (r4.out.ext b4);have j2:=Aa (t0.out.trans b4);have y0:=p6.out.cell 0 rfl;have J:=k3.out.ext j2.out;have g6:w.heap.size<=w6.heap.size:=(O.out.trans j2.out).size;replace J:=Aa J;clear b4;gi_wp2_with fail;refine(Bb (n0.out A5 n5 c5 k X w6 J.out.1 J.out.2.cells J.out.nil_ (by omega) (by omega))).mono ?_;rintro e w7 G;obtain⟨A7,c7,rfl,Z,U⟩:=G;rw[<-o3.out]at Z ⊢;have k6:=Aa (p6.out.ext U);have y0:=k6.out.cell 0 rfl;have j4:=Aa (j2.out.trans U);have k4:Hid (Own8 w7 w.heap.size A7 X1.length c7 X1):=Aa ⟨rfl,Z.lower g6⟩;obtain⟨n7,I⟩:=Ab X1.length;rw[<-I]at k4 a5 ⊢;replace I:=Aa I;have z3:w.heap.size<=w7.heap.size:=(O.out.trans j4.out).size;clear Z U;gi_wp2_with fail;refine(Bb (q6.out A7 n7 c7 X1 (t.drop k) w7 k4.out.1 k4.out.2.cells k4.out.nil_ (by omega) (by rw[List.length_drop];omega))).mono ?_;rintro e w8 G;obtain⟨A8,c8,rfl,a4,c4⟩:=G;rw[<-d2.out]at a4 ⊢;have t3:=Aa (k6.out.ext c4);have y0:=t3.out.cell 0 rfl;have y1:=t3.out.cell 1 rfl;have y2:=t3.out.cell 2 rfl;have y3:=t3.out.cell 3 rfl;have g4:=Aa (j4.out.trans c4);have h6:Hid (Own8 w8 w.heap.size A8 X2.length c8 X2):=Aa ⟨rfl,a4.lower z3⟩;obtain⟨n8,n4⟩:=Ab X2.length;rw[<-n4]at h6 b5 ⊢;replace n4:=Aa n4;clear a4 c4;gi_wp2_with fail
    gi_loopw [5,46] (fun s5 s46 wv=>∃(q n9 c9:Nat) (A9:Option Addr),s5 = .slice A9 n9 c9/\s46 = .int .i64 (q:Int)/\q<=3/\n9<=3300+20*q/\Hid (Own8 wv w.heap.size A9 n9 c9 (X2++thrB off len n q))/\Hid (Ext w8 wv)) (fun _ s46 _=>3 - (intOf s46).toNat)
    case atStart=>exact⟨0,n8,c8,A8,rfl,rfl,by omega,by omega,Aa (by rw[show thrB off len n 0 = [] from rfl,List.append_nil];exact h6.out),Aa (Ext.refl _)⟩
    case round =>
     obtain⟨q,n9,c9,A9,rfl,rfl,o7,l7,a1,f3⟩:=hrel;by_cases hq:q<3
     ·have hx:=fun W=>I2 (a:=(off:Int)) (b:=(len:Int)) (c:=(n:Int)) hq W;have l5:=Qg (a:=(off:Int)) (b:=(len:Int)) (c:=(n:Int)) q (by omega) (by omega) (by omega);obtain⟨v,hv⟩:∃v:Nat,(v:Int)=thr (off:Int) (len:Int) (n:Int) q:=⟨(thr (off:Int) (len:Int) (n:Int) q).toNat,by omega⟩
      rw[<-hv]at hx l5;have r7:v<=67108864:=by omega
      have p7:(q:Int)<3:=by omega
      have k8:=AH (m:=v) (by omega);have o4:=OP hq hv;have k0:=Ag (n:=v) (by omega);obtain⟨X9,r3⟩:=Ab (X2++thrB off len n q);obtain⟨X10,p0⟩:=Ab (X9++vb v);rw[<-r3]at a1;have e4:X10=X2++thrB off len n (q+1):=by rw[p0,r3,o4,List.append_assoc]
      have d4:X10.length<=3300+20*(q+1):=by have:=a1.out.1;rw[p0,List.length_append];omega
      have a3:w.heap.size<=wr.heap.size:=((O.out.trans g4.out).trans f3.out).size;clear l5 k0;replace hv:=Aa hv;replace o4:=Aa o4;replace r3:=Aa r3;replace p0:=Aa p0;replace e4:=Aa e4;gi_wp2_with fail;refine(Bb (n0.out A9 n9 c9 v X9 wr a1.out.1 a1.out.2.cells a1.out.nil_ (by omega) (by omega))).mono ?_;rintro e w10 G;obtain⟨A10,c10,rfl,e1,H⟩:=G;rw[<-p0.out]at e1 ⊢;have j0:Hid (Own8 w10 w.heap.size A10 X10.length c10 (X2++thrB off len n (q+1))):=Aa (by rw[<-e4.out];exact⟨rfl,e1.lower a3⟩);obtain⟨n10,o2⟩:=Ab X10.length;rw[<-o2]at j0 d4 ⊢;replace o2:=Aa o2;have m0:=Aa (f3.out.trans H);clear e1 H;gi_wp2_with fail;exact⟨⟨q+1,n10,c10,A10,rfl,by congr 1,by omega,by omega,j0,m0⟩,by simp only[intOf];omega⟩
     ·have p7:¬ (q:Int)<3:=by omega
      have j3:q=3:=by omega
      have j0:Hid (Own8 wr w.heap.size A9 n9 c9 X3):=Aa (by rw[f2.out];have:=a1.out;rw[j3]at this;exact this);have z7:n9<=3200:=by have:=j0.out.1;omega
      have m3:=t3.out.ext f3.out;have y0:=m3.cell 0 rfl;have m0:Hid (Ext W2 wr):=Aa ((hE.out.trans g4.out).trans f3.out);have q5:t.length<=65:=b0;replace m3:=Aa m3;replace j3:=Aa j3;clear y1 y2 y3;gi_wp2_with fail;exact⟨⟨i+1,n9,c9,A9,X3,t,rfl,rfl,by congr 1,by omega,by omega,q5,c0,j0,m0⟩,by simp only[intOf];omega⟩
   ·have i4:Y=X:=by rw[e5.out,List.drop_eq_nil_of_le (by rw[e0.out];omega),blockE,List.append_nil]
    obtain⟨⟨A1,c1,r1,o1⟩,rb1,rb2,_⟩:=i3.out.ext hE.out;have f1:=r1.cell 0 rfl;have T:=k3.out.1;obtain⟨nl,q0⟩:=Ab L.length;rw[<-q0]at f1 o1 f6 r1;obtain⟨L1,m2⟩:=Ab (L++vb n5);have k0:=Ag (n:=n5) (by omega);have z5:L1.length<=60000020:=by rw[m2,List.length_append];omega
    have h8:=AH (m:=n5) (by omega);have a3:=O.out.size;have l0:L1++X=vb m++partsE ((chunkL 16 l).take (pre.length+1)):=by
     rw[q3.out,m2,hL.out,i4,<-T];simp
    have p5:=k3.out.2.cells;have f4:(X.map B8).length=n5:=by rw[List.length_map];exact T.symm
    replace q0:=Aa q0;replace m2:=Aa m2;replace i4:=Aa i4;replace r1:=Aa r1;replace o1:=Aa o1;replace rb1:=Aa rb1;replace rb2:=Aa rb2;replace T:=Aa T;replace l0:=Aa l0;replace p5:=Aa p5;replace f4:=Aa f4;clear k0;gi_wp2_with fail;refine(Bb (n0.out A1 nl c1 n5 L wr o1.out.1 o1.out.2.cells o1.out.nil_ (by omega) (by omega))).mono ?_;rintro e w7 G;obtain⟨A7,c7,rfl,Z,U⟩:=G;rw[<-m2.out]at Z ⊢;obtain⟨n7,I⟩:=Ab L1.length;rw[<-I]at Z z5 ⊢;have z3:=U.size;have g7:=Aa (Cells.ext p5.out U);replace I:=Aa I;replace Z:=Aa Z;replace U:=Aa U;have r17:=Aa (r1.out.ext U.out);gi_wp2_with (gi_at_builtin;refine Bu Aw Z.out g7.out (.tmp 61) (.tmp 62) rfl rfl rfl rfl rfl f4.out (Ai _) (by omega) z3 (fun A10 c10 w10 d0 v4 z4 k0=>?_);have H:=z4 wr U.out (Nat.le_refl _);have r210:=r1.out.ext H;have u0:=r210.cell 0 rfl;have u1:=r210.free 0;replace r210:=Aa r210;replace d0:=Aa d0;replace v4:=Aa v4;replace H:=Aa H;clear z4 k0);have t4:Buf (w10.setCell ⟨h1,0,none⟩ (.slice A10 (n7+n5) c10)) w.heap.size 5 A10 (n7+n5) c10 ((L1++X).map B8):=by
     rw[List.map_append];exact(d0.out.setCell (d0.out.unlike r210.out (by decide)) _).lower a3
    refine⟨((hE.out.others).trans H.out.others).trans (KeepsOthers.setCell _ _ _),KeepB.of i3.out.2.1 ((rb1.out.ext H.out).away (by simp;omega) _) i3.out.2.2.1 ((rb2.out.ext H.out).away (by simp;omega) _),⟨A10,c10,?_,?_⟩,(rb1.out.ext H.out).away (by simp;omega) _,(rb2.out.ext H.out).away (by simp;omega) _,(O.out.trans H.out).setCell (by simpa using o5) _⟩
    ·rw[show (pre ++ [pre.length]).length=pre.length+1 by simp,<-l0.out,List.length_append,<-I.out,<-T.out];exact r210.out.put 0 _
    ·rw[show (pre ++ [pre.length]).length=pre.length+1 by simp,<-l0.out];refine⟨rfl,?_⟩;rw[List.length_append,<-I.out,<-T.out];exact t4
 case hdone =>
  rintro D xs W2 W3 W5 hD hI ⟨v5,d6,e6,x5⟩ m5 hk;have i0:=It l xs.length (by rw[<-hm.out];exact v5);rw[<-hm.out]at i0;obtain⟨⟨A1,c1,r1,o1⟩,rb1,rb2,t0⟩:=(hI.ext x5).alike m5 g0;rw[<-i0]at r1 o1;have f1:=r1.cell 0 rfl;obtain⟨nl,q0⟩:=Ab ((encEs l).length);rw[<-q0]at f1 o1;replace q0:=Aa q0;replace r1:=Aa r1;replace o1:=Aa o1;replace rb1:=Aa rb1;replace rb2:=Aa rb2;replace t0:=Aa t0;replace i0:=Aa i0;replace hk:=Aa hk;clear hI v5 d6 e6 x5 m5;gi_wp2_with fail;refine BR (B:=w4.heap.size) rfl hk.out hD fun W ha=>⟨_,results_tmp rfl _ _ _,?_⟩
  exact⟨A1,c1,by rw[<-q0.out];rfl,by rw[<-q0.out];exact⟨o1.out.1,ha.buf o1.out.2⟩,ha.ext t0.out g0⟩
end
section
open Go.RowKit
theorem J0 (l:List En) (A:Option Addr) (m c:Nat) (w:World) (H:m=l.length) (h:Cells w A (encells l)) (Y:∀a,A=some a->a.spot=none) (U:m<=c) (j:OkEs l) :
 Calls prog 45 #[.slice A m c] w fun e w'=>OkB w (encEs l) e w':=by
 have h1:=Aa (J3 l A m c w H h j);have h2:=Aa (fun W (T:Ext w W)=>GF l A m c W H (h.ext T) Y U j);replace H:=Aa H;replace j:=Aa j;replace Y:=Aa Y;replace h:=Aa h
 go_in
 go_wp2_with fail;refine h1.out.mono ?_;rintro e w1 ⟨rfl,b⟩;go_wp2_with fail;refine(h2.out _ b).mono ?_;rintro e w2 ⟨A2,c2,rfl,O,J⟩;go_wp2_with fail;go_ret2;exact⟨A2,c2,rfl,⟨O.1,O.2.lower b.size⟩,b.trans J⟩
def RdD (w0:World) (g:Nat) (r:List UInt8) (W:World):Prop:=∃A c,Row W g 182 #[.slice A r.length c,.bool false]/\In8 w0 A r.length c r/\Ext w0 W
theorem RdD.ext (h:RdD w0 g r W) (j:Ext W W1):RdD w0 g r W1:=by
 obtain⟨A,c,r1,hi,b⟩:=h;exact⟨A,c,r1.ext j,hi,b.trans j⟩
def NumD (w0:World) (g q:Nat) (r:List UInt8) (W:World) (e:Ending) (W':World):Prop:=e = .returned (.int .i64 (q:Int))/\RdD w0 g r W'/\Chg (fun k=>k=g) W W'
theorem DD (w0 W:World) (g q:Nat) (r:List UInt8) (z:Int) (h:RdD w0 g (vb q++r) W) (J:w0.heap.size<=g) (G:(q:Int)<=z) (Z:z<=1099511627776) (H:(vb q++r).length<=1000000000) :
 Calls prog 97 #[.pointer (some ⟨g,0,none⟩),.int .i64 z] W fun e W'=>NumD w0 g q r W e W':=by
 obtain⟨A,c,r1,hi,Y⟩:=h;have a:=Cl A (vb q++r).length c (vb q++r) w0 W hi Y H;rw[BD (by omega)]at a;obtain⟨n,hn⟩:=Ab ((vb q++r).length);rw[<-hn]at a r1 H;obtain⟨b,hb⟩:∃b:Nat,z=(b:Int):=⟨z.toNat,by omega⟩
 subst hb;have k1:=r1.cell 0 rfl;have O:=AH (m:=b) (by omega);have T:=wrap_i64 (q:=q) (by omega);have U:¬ (b:Int)<(q:Int):=by omega
 replace a:=Aa a;replace r1:=Aa r1;replace hi:=Aa hi;replace Y:=Aa Y;replace hn:=Aa hn
 go_in
 go_wp2_with fail;refine a.out.mono ?_;rintro e w1 ⟨j,A1,c1,rfl,hi1⟩;have r11:=r1.out.ext j;have k3:=r11.cell 1 rfl;have k4:=r11.free 0;have k5:=r11.cell 0 rfl;replace r11:=Aa r11;replace j:=Aa j;replace hi1:=Aa hi1;go_wp2_with fail;go_ret;exact⟨rfl,⟨A1,c1,r11.out.put 0 _,hi1.out,(Y.out.trans j.out).setCell J _⟩,(Chg.of_ext j.out _).trans (Chg.of_set (S:=fun k=>k=g) w1 _ rfl) fun _ _ h=>h⟩
def TxtD (w0:World) (g:Nat) (s r:List UInt8) (W:World) (e:Ending) (W':World):Prop:=e = .returned (.string ⟨s.toArray⟩)/\RdD w0 g r W'/\Chg (fun k=>k=g) W W'
theorem Nz (w0 W:World) (g:Nat) (s r:List UInt8) (h:RdD w0 g (txL s++r) W) (Y:w0.heap.size<=g) (hs:s.length<=65) (a:(txL s++r).length<=1000000000) :
 Calls prog 148 #[.pointer (some ⟨g,0,none⟩)] W fun e W'=>TxtD w0 g s r W e W':=by
 obtain⟨A,c,r1,hi,H⟩:=h;have b:=DG A (txL s++r).length c 65 (txL s++r) w0 W hi H a (by omega);rw[GQ hs (by omega)]at b;obtain⟨n,hn⟩:=Ab ((txL s++r).length);rw[<-hn]at b r1 a;have k1:=r1.cell 0 rfl;replace b:=Aa b;replace r1:=Aa r1;replace hi:=Aa hi;replace H:=Aa H;replace hn:=Aa hn
 go_in
 go_wp2_with fail;refine b.out.mono ?_;rintro e w1 ⟨j,A1,c1,rfl,hi1⟩;have r11:=r1.out.ext j;have k3:=r11.cell 1 rfl;have k4:=r11.free 0;have k5:=r11.cell 0 rfl;replace r11:=Aa r11;replace j:=Aa j;replace hi1:=Aa hi1;go_wp2_with fail;go_ret;exact⟨rfl,⟨A1,c1,r11.out.put 0 _,hi1.out,(H.out.trans j.out).setCell Y _⟩,(Chg.of_ext j.out _).trans (Chg.of_set (S:=fun k=>k=g) w1 _ rfl) fun _ _ h=>h⟩
end
end Go.Proofs.YtfifdilapbeiiaaGreat
