/- Texts of one proof, joined. -/
import Derived.Test.YtpnlihgcboepeaaGreatPN06
import Derived.Maps.RangeRun
import Derived.Maps.Range
import Derived.Laws.IdiomRangeMap
set_option linter.unusedSimpArgs false
set_option linter.unusedVariables false
set_option maxRecDepth 100000
set_option maxHeartbeats 16000000
namespace Go.Proofs.YtpnlihgcboepeaaGreat
open _root_.Go.Proofs.Tryz
variable {a:Act} {ops:Array Oper} {Q:Exit → Act → World → Prop} {z z1 z2:Int} {ks ns:List (List UInt8)} {news us xs:List Value} {base c i j m n:Nat} {o:Oper} {A:Option Addr} {P:Program} {md:Region.Mode} {E T e t:TypeId} {v:Value} {w w0 w1:World}
section
open Go.RowKit
attribute [local go_sem] Oper.semAt_some AP Cp
def NewTm (w:World) (R:List (List UInt8×List Int)) (e:Ending) (w':World):Prop :=
 ∃L c D,e = .returned (.slice L D.length c)/\w'.ownsRow w.heap.size 125 2 (.slice L D.length c) D.length (tcs D)/\TmsOk w' w.heap.size D R/\Ext w w'
theorem OO (e:Ev) (A:Option Addr) (c:Nat) (w:World) (h:e.Ok w A) :
 Calls prog 58 #[e.val A c] w (NewTm w (termsL e)):=by
 have j3:=Aa (fun W (hE:Ext w W)=>Dj e A c W (h.ext hE));have j2:termsL e=if checkE e.fs=0 then grp (rawT 0 e.fs) else []:=rfl;have m3:=@AM e.fs;obtain⟨T,hT⟩:=Ab (termsL e);rw[<-hT]at j2 ⊢;obtain⟨at_,fs⟩:=e;have e4:=h.cells;unfold Ev.val at j3 ⊢;simp only at j2 j3 m3 e4 ⊢;obtain⟨z,hz⟩:=Ab (checkE fs);rw[<-hz]at j2 j3 m3;obtain⟨n,hn⟩:=Ab fs.length;rw[<-hn]at j3 m3 ⊢;replace j2:=Aa j2;replace m3:=Aa m3;replace e4:=Aa e4;replace hz:=Aa hz;replace hn:=Aa hn;clear h hT;refine(callsIn_wide (n:=0)).1 ?_;refine callsIn_of_wp_marks func58 rfl trivial ?_;simp only[ntmps58,List.size_toArray,List.length_cons,List.length_nil,Nat.reduceAdd,Nat.reduceSub,Array.replicate_succ,Array.replicate_zero,List.push_toArray,List.append_toArray,List.nil_append,List.cons_append];gi_wp2_with fail;obtain⟨W0,b3⟩:=Ab (w.alloc (Obj.cells #[.int .i64 at_,.slice A n c] 93));rw[<-b3];have c5:Ext w W0:=by rw[b3];exact(Ext.refl w).alloc _
 refine(callsIn_wide.2 (j3.out W0 c5)).mono ?_;rintro e w1 ⟨rfl,o2⟩;have r0:Row w1 w.heap.size 93 #[.int .i64 at_,.slice A n c]:=by
  refine Row.ext ?_ o2;rw[b3];exact Row.new w _ _
 have k0:=r0.cell 0 rfl;have k1:=r0.cell 1 rfl;replace o2:=Aa (c5.trans o2);replace r0:=Aa r0;replace b3:=Aa b3;clear c5 j3;by_cases a6:z=0
 ·obtain⟨e9,o3⟩:=m3.out a6;subst a6;have hT:=j2.out;rw[if_pos rfl]at hT;replace hT:=Aa hT;have b9:=r0.out.lt;gi_wp2_with fail;obtain⟨W2,d3⟩:=Ab (w1.alloc (Obj.cells #[Value.slice none 0 0] 122));rw[<-d3];obtain⟨h1,h4⟩:=Ab w1.heap.size;have q1:Row W2 h1 122 #[.slice none 0 0]:=by rw[d3,h4];exact Row.new w1 _ _
  have f6:Ext w1 W2:=by rw[d3];exact(Ext.refl w1).alloc _
  rw[<-h4];replace d3:=Aa d3;replace h4:=Aa h4;refine(callsIn_wide.2 (Nk at_ A n c W2)).mono ?_;rintro e w4 ⟨b0,rfl,rb0,o9,o0⟩;have d5:Ext w w4:=(o2.out.trans f6).trans o0;have e5:TI w.heap.size h1 [] w w4:=⟨none,0,[],q1.ext o0,World.ownsRow_nil _ _ _ _,TmsOk.nil _ _,d5⟩
  have e0:w.heap.size<=w4.heap.size:=d5.size;have o4:=Lf at_ fs A n c b0 w.heap.size w w4 hn.out e4.out (Nat.le_refl _) d5 (by omega) (fun f hf=>by have:=o3 f hf;omega) rb0;have z9:w.heap.size<=h1:=by rw[h4.out];exact o2.out.size
  replace e5:=Aa e5;replace o4:=Aa o4;clear q1 f6 o0 rb0;gi_wp2_with fail;unfold BsIter at o4;have q6:∀b,baseT 0 (fs.take b)<=1000000000:=fun b=>by
   have:=EN (k:=4096) (fs.take b) 0 (fun f hf=>(o3 f (List.mem_of_mem_take hf)).2);have h2:(fs.take b).length<=16:=by rw[List.length_take,<-hn.out];omega
   omega
  replace q6:=Aa q6;refine C8 (gf:=150) (lb:=#[.pointer (some ⟨b0,0,none⟩)]) rfl (enters_of func150 (by kernel_rfl) rfl) o4.out (fun _=>rfl) (fun _ _ h=>h.others) (fun _ _ _ h=>h.2.others) (KpT.trans w.heap.size) (KpT.alike e0)
   (fun pre W=>TI w.heap.size h1 (rawT 0 (fs.take pre.length)) w W) (fun pre A B hi ha=>hi.alike ha e0) (fun pre A B hi hE=>hi.ext hE) ?h0 ?hround ?hdone
  case h0 =>
   intro W ha;have:=e5.out.alike ha e0;simpa [rawT]using this
  case hround =>
   rintro l pre ⟨bs,nm,tx⟩ W hI ⟨hf,d4⟩;simp only at hf d4;unfold fdV;simp only;have d8:=o3 _ (List.mem_of_getElem? hf);simp only at d8;have x7:=q6.out pre.length;rw[<-d4]at x7;have k9:=CK tx;have m1:rawT 0 (fs.take (pre ++ [(bs,nm,tx)]).length)=rawT 0 (fs.take pre.length)++fieldT bs (nm,tx):=by
    rw[List.length_append,List.length_singleton,List.take_add_one,hf,He,<-d4];simp[rawT]
   obtain⟨Z,hZ⟩:=Ab (rawT 0 (fs.take pre.length));rw[<-hZ]at hI m1;obtain⟨Y,hY⟩:=Ab (fieldT bs (nm,tx));rw[<-hY]at m1;have n9:Z.length<=65536:=by
    have:=CH (k:=4096) (fs.take pre.length) 0 (fun f hf=>(o3 f (List.mem_of_mem_take hf)).2);have h2:(fs.take pre.length).length<=16:=by rw[List.length_take,<-hn.out];omega
    rw[hZ];omega
   clear hZ d4 hf;replace m1:=Aa m1;obtain⟨nt,t3⟩:=Ab ((tokL tx).length);obtain⟨W5,e3⟩:=Ab (W.alloc (Obj.cells #[.string ⟨nm.toArray⟩,.string ⟨tx.toArray⟩] 90));have f0:Ext W W5:=by rw[e3];exact(Ext.refl W).alloc _
   have q5:Row W5 W.heap.size 90 #[.string ⟨nm.toArray⟩,.string ⟨tx.toArray⟩]:=by rw[e3];exact Row.new W _ _
   have a1:=Aa (fun W=>HL tx W (by omega));rw[<-t3]at k9;replace t3:=Aa t3;replace hY:=Aa hY;replace hI:=Aa hI;gi_wp2_with fail;rw[<-e3];obtain⟨g5,f1⟩:=Ab W.heap.size;rw[<-f1]at q5 ⊢;refine⟨f0.others,KpT.ext f0,fun W6 a5=>?_⟩;have y4:=(hI.out.ext f0).alike a5 e0;have r6:=a5.row q5;have y0:=r6.cell 0 rfl;have y1:=r6.cell 1 rfl;replace y4:=Aa y4;replace e3:=Aa e3;replace f1:=Aa f1;clear hI q5 f0 a5;gi_wp2_with fail;refine(Bb (a1.out W6)).mono ?_;rintro e w7 ⟨A7,c7,rfl,U,H⟩;rw[<-t3.out]at U ⊢;have t8:=Aa (y4.out.ext H);have n7:=Aa (fun(W:World) (h:KpT w.heap.size w7 W) (i:Nat) (x:List UInt8) (hx:(tokL tx)[i]? = some x)=>Si U (w1:=W) (fun g cs hr=>h.2 g _ cs (by decide) (by decide) hr) hx);replace U:=Aa U;have r7:=Aa (r6.ext H);clear y0 y1 y4;gi_wp2_with fail
   gi_loopw [23] (fun s23 wr=>∃(i:Nat),s23 = .int .i64 (i:Int)/\i<=nt/\Hid (TI w.heap.size h1 (Z++Y.take i) w wr)/\Hid (KpT w.heap.size w7 wr)/\Hid (KeepsOthers w7 wr)) (fun s23 _=>nt - (intOf s23).toNat)
   case atStart=>exact⟨0,rfl,by omega,by rw[List.take_zero,List.append_nil];exact t8,Aa (KpT.ext (Ext.refl _)),Aa (KeepsOthers.refl _)⟩
   case round =>
    obtain⟨i,rfl,hi,i5,z4,h7⟩:=hrel;by_cases l4:i<nt
    ·obtain⟨wd,v4⟩:∃wd,(tokL tx)[i]? = some wd:=⟨_,List.getElem?_eq_getElem (by rw[<-t3.out];exact l4)⟩
     obtain⟨g7,o7,g8,x0,x1⟩:=n7.out wr z4.out i wd v4;subst g8;obtain⟨L,cl,D,r3,G,f2,m0⟩:=i5.out;have r5:=z4.out.2 _ _ _ (by decide) (by decide) r7.out;have z0:=r5.cell 0 rfl;have z3:=r3.cell 0 rfl;have c9:=r3.lt;have d9:=r5.lt;replace r3:=Aa r3;replace r5:=Aa r5;replace G:=Aa G;replace f2:=Aa f2;replace m0:=Aa m0;have pa:D.length<=100000:=by
      have:=f2.out.len;unfold oneT at this;rw[List.length_map,List.length_append,List.length_take]at this;omega
     have n5:Y[i]? = some (nm++58::wd,((bs+i:Nat):Int)):=by rw[hY.out];exact Iv v4
     replace n5:=Aa n5;have ga:=FU (List.mem_of_getElem? v4);replace v4:=Aa v4;have o5:(Z++Y.take (i+1))=(Z++Y.take i) ++ [(nm++58::wd,((bs+i:Nat):Int))]:=by rw[List.take_add_one,n5.out,List.append_assoc];rfl
     replace o5:=Aa o5;obtain⟨S,hS⟩:=Ab (nm++58::wd);have l3:ByteArray.mk nm.toArray++ByteArray.mk #[58]++ByteArray.mk wd.toArray=⟨S.toArray⟩:=by
      have h1:=Jg nm [58];have h2:=Jg (nm ++ [58]) wd;rw[hS,h1,h2];simp
     obtain⟨Wb,k3⟩:=Ab ((wr.alloc (Obj.cells #[Value.string ⟨wd.toArray⟩,Value.int IntKind.i64 (i:Int)] 185)).alloc (Obj.cells #[Value.int IntKind.i64 ((bs:Int)+(i:Int))] 3));obtain⟨Wa,p3⟩:=Ab (Wb.alloc (Obj.cells #[Value.string ⟨S.toArray⟩,Value.slice (some ⟨wr.heap.size+1,0,none⟩) 1 1] 125));have i6:Ext wr Wb:=by rw[k3];exact((Ext.refl wr).alloc _).alloc _
     have z5:Wb.heap.size=wr.heap.size+2:=by rw[k3];simp
     have i0:Ext wr Wa:=by rw[p3];exact i6.alloc _
     have qi:Row Wb (wr.heap.size+1) 3 #[Value.int IntKind.i64 ((bs:Int)+(i:Int))]:=by
      rw[k3];have:=Row.new (wr.alloc (Obj.cells #[Value.string ⟨wd.toArray⟩,Value.int IntKind.i64 (i:Int)] 185)) 3 #[Value.int IntKind.i64 ((bs:Int)+(i:Int))]
      rwa [World.size_alloc]at this
     have qi2:Row Wa (wr.heap.size+1) 3 #[Value.int IntKind.i64 ((bs:Int)+(i:Int))]:=by rw[p3];exact qi.alloc _
     have x6:Cells Wa (some ⟨wr.heap.size+2,0,none⟩) (tcell (S,some ⟨wr.heap.size+1,0,none⟩,1,1)):=by
      have:=AN Wb [Value.string ⟨S.toArray⟩,Value.slice (some ⟨wr.heap.size+1,0,none⟩) 1 1] 125;rw[z5]at this;rw[p3];exact this
     have j0:=i0.owns G.out;have l7:w.heap.size<=Wa.heap.size:=(m0.out.trans i0).size;replace qi2:=Aa qi2;replace x6:=Aa x6;replace j0:=Aa j0;replace i0:=Aa i0;have j7:Hid (((wr.alloc (Obj.cells #[Value.string ⟨wd.toArray⟩,Value.int IntKind.i64 (i:Int)] 185)).alloc (Obj.cells #[Value.int IntKind.i64 ((bs:Int)+(i:Int))] 3)).alloc (Obj.cells #[Value.string (ByteArray.mk nm.toArray++ByteArray.mk #[58]++ByteArray.mk wd.toArray),Value.slice (some ⟨wr.heap.size+1,0,none⟩) 1 1] 125)=Wa):=Aa (by rw[p3,k3,l3]);replace p3:=Aa p3;replace k3:=Aa k3;replace l3:=Aa l3;clear qi i6 z5;have ogr:=Aa (fun(w6:World) (J:Wa.grownBy w6 (Value.slice L D.length cl).ownBlock)=>Jn j0.out J (r3.out.ext i0.out) (by decide));gi_wp2_with (gi_at_builtin;rw[j7.out];refine DA Lx j0.out x6.out (.tmp 27) (.tmp 40) rfl rfl rfl rfl rfl rfl (by simp[tcell,Value.oneCell']) (by omega) l7 (fun A1 c1 w6 h5 J d7=>?_);have r16:=ogr.out w6 J;have u1:=r16.cell 0 rfl;have u2:=r16.free 0;replace r16:=Aa r16;replace h5:=Aa h5;replace J:=Aa J;replace d7:=Aa d7);have p8:∀w0:World,w0.heap.size<=w.heap.size->Ext w0 wr->Ext w0 (w6.setCell ⟨h1,0,none⟩ (.slice A1 (D.length+1) c1)):=fun w0 h0 hE=>(CX j0.out J.out (hE.trans i0.out) h0).setCell (p:=⟨h1,0,none⟩) (by show w0.heap.size<=h1;omega) _;have b8:∀A n c xs,Buf wr w.heap.size 3 A n c xs->Buf (w6.setCell ⟨h1,0,none⟩ (.slice A1 (D.length+1) c1)) w.heap.size 3 A n c xs:=fun A n c xs hb=>by
      have q:=Ci j0.out J.out (hb.ext i0.out) (by decide);exact q.setCell (q.unlike r16.out (by decide)) _
     have h6:Buf (w6.setCell ⟨h1,0,none⟩ (.slice A1 (D.length+1) c1)) w.heap.size 3 (some ⟨wr.heap.size+1,0,none⟩) 1 1 ([((bs+i:Nat):Int)].map IV):=by
      have q0:Buf Wa w.heap.size 3 (some ⟨wr.heap.size+1,0,none⟩) 1 1 ([((bs+i:Nat):Int)].map IV):=⟨rfl,Nat.le_refl _,.inr ⟨_,_,rfl,by have:=m0.out.size;omega,qi2.out,by simp,by simp[IV]⟩⟩
      have q:=Ci j0.out J.out q0 (by decide);exact q.setCell (q.unlike r16.out (by decide)) _
     have p9:∀g t cs,t≠122->t≠125->Row wr g t cs->Row (w6.setCell ⟨h1,0,none⟩ (.slice A1 (D.length+1) c1)) g t cs:=fun g t cs n1 n2 hr=>by
      have q:=Jn j0.out J.out (hr.ext i0.out) n2;exact q.away (q.unlike r16.out n1) _
     have q9:(w6.setCell ⟨h1,0,none⟩ (.slice A1 (D.length+1) c1)).ownsRow w.heap.size 125 2 (.slice A1 (D.length+1) c1) (D.length+1) (tcs D++tcell (S,some ⟨wr.heap.size+1,0,none⟩,1,1)) :=
      (Chg.of_set (S:=fun k=>k=h1) w6 _ rfl).owns h5.out fun g hg e8=>by
       obtain⟨cur,hc,_⟩:=Ae h5.out hg;exact hc.unlike r16.out (by decide) e8
     have a7:(D ++ [(S,(some ⟨wr.heap.size+1,0,none⟩:Option Addr),1,1)]).length=D.length+1:=by rw[List.length_append];rfl
     refine⟨⟨i+1,by first | rfl | (congr 1;omega),by omega,Aa ⟨A1,c1,D ++ [(S,some ⟨wr.heap.size+1,0,none⟩,1,1)],?_,?_,?_,p8 w (Nat.le_refl _) m0.out⟩,Aa (KpT.trans _ _ _ _ z4.out ⟨p8,p9⟩),Aa (h7.out.trans ((i0.out.others.trans (FH j0.out J.out)).trans (KeepsOthers.setCell _ _ _)))⟩,by simp only[intOf];omega⟩
     ·rw[a7];exact r16.out.put 0 _
     ·rw[a7,DX];exact q9
     ·rw[o5.out,N2];exact f2.out.snoc b8 hS h6 (fun a ha=>by cases ha;show wr.heap.size<=wr.heap.size+1;omega)
    ·have z8:Y.take i=Y:=by
      rw[List.take_of_length_le];rw[hY.out,CB,<-t3.out];omega
     rw[z8,<-m1.out]at i5;gi_wp2_with fail;exact⟨(H.others).trans h7.out,KpT.trans _ _ _ _ (KpT.ext H) z4.out,i5.out⟩
  case hdone =>
   rintro Dm xs W2' W3 W4 hD hI ⟨l6,n6⟩ d6 hk;have o6:=(hI.ext n6).alike d6 e0;rw[l6,List.take_length]at o6;obtain⟨L,cl,D,r3,G,t4,o0⟩:=o6;have m8:D.length<=65536:=by
    have h1:=t4.len;have h2:=CH (k:=4096) fs 0 (fun f hf=>(o3 f hf).2);unfold oneT at h1;rw[List.length_map]at h1;rw[<-hn.out]at h2;omega
   obtain⟨b4,d2,x4⟩:=t4.tz;have g0:=Mv w.heap.size L D.length cl D W4 G rfl (by omega);unfold cmpV at g0;obtain⟨n4,r4⟩:=Ab D.length;rw[<-r4]at g0 m8 G r3;have z3:=r3.cell 0 rfl;have t6:=o0.size;replace g0:=Aa g0;replace r3:=Aa r3;replace G:=Aa G;replace b4:=Aa b4;replace d2:=Aa d2;replace x4:=Aa x4;replace o0:=Aa o0;replace hk:=Aa hk;replace r4:=Aa r4;clear hI l6 n6 d6 t4;gi_wp2_with fail;refine(callsIn_wide.2 g0.out).mono ?_;rintro e w5 ⟨rfl,E,y2,f1,l2⟩;have x5:∀g t cs,t≠125->Row W4 g t cs->Row w5 g t cs:=fun g t cs ht hr=>l2.row hr fun hg=>by
    obtain⟨cur,hc,_⟩:=Ae G.out hg;exact hr.unlike hc ht rfl
   have t7:∀A n c xs,Buf W4 w.heap.size 3 A n c xs->Buf w5 w.heap.size 3 A n c xs:=fun A n c xs hb=>hb.chg l2 fun a ha hg=>by
    obtain⟨cur,hc,_⟩:=Ae G.out hg;exact hb.unlike hc (by decide) a ha rfl
   have f0:Ext w w5:=o0.out.chg l2 fun i hi hg=>by
    obtain⟨_,_,hl⟩:=Ae G.out hg;omega
   have q7:KeepsOthers W4 w5:=⟨l2.size,fun k o hk h9=>by
    refine(l2.block k (Array.getElem?_eq_some_iff.1 hk).1 fun hg=>?_).trans hk;obtain⟨cur,hc,_⟩:=Ae G.out hg;unfold Row at hc;rw[hc]at hk;injection hk with hk;subst hk;cases h9⟩
   have l8:=Aa (q7.same _ _ hk.out rfl);have r35:=x5 _ _ _ (by decide) r3.out;have z35:=r35.cell 0 rfl;have q3:E.length=n4:=by rw[r4.out];exact y2.2.len
   have q2:=y2.2.perm;have l5:TZ w5 w.heap.size (E.map fun x=>(x,(x.1,ptsOf W4 x.2))):=(b4.out.perm (q2.map _)).keep t7;have o1:∀x∈E,ptsOf W4 x.2 = [(ptsOf W4 x.2).headD 0]:=fun x hx=>d2.out x (q2.mem_iff.1 hx);have w3:(E.map fun x=>(x.1,(ptsOf W4 x.2).headD 0)).foldl joinS []=T:=by
    have h1:=(y2.stabM fun x=>(ptsOf W4 x).headD 0).grp;rw[h1,x4.out];exact hT.out.symm
   have y3:(E.map fun x=>(x.1,(ptsOf W4 x.2).headD 0)).length=n4:=by rw[List.length_map,q3]
   obtain⟨b5,p1⟩:=Ab w5.heap.size;have i2:w.heap.size<=b5:=by rw[p1];exact f0.size
   replace l5:=Aa l5;replace o1:=Aa o1;replace w3:=Aa w3;replace q3:=Aa q3;replace y3:=Aa y3;replace f0:=Aa f0;replace f1:=Aa f1;replace r35:=Aa r35;replace p1:=Aa p1;clear l2 x5 t7 q7 y2 q2 g0 b4 d2 x4 hk t6;gi_wp2_with fail
   gi_loopw [8,47] (fun s8 s47 wr=>∃(i m c:Nat) (O:Option Addr) (P:List TmP),s47 = .int .i64 (i:Int)/\s8 = .slice O m c/\i<=n4/\m<=i/\Hid (m=P.length)/\Hid (wr.ownsRow b5 125 2 (.slice O m c) m (tcs (P.map Prod.fst)))/\Hid (P.map Prod.snd=((E.map fun x=>(x.1,(ptsOf W4 x.2).headD 0)).take i).foldl joinS [])/\Hid (TZ wr w.heap.size (P++(E.map fun x=>(x,(x.1,ptsOf W4 x.2))).drop i))/\Hid (Ext w wr)/\Hid (∀g cs,g<b5->Row w5 g 125 cs->Row wr g 125 cs)/\Hid (KeepsOthers w5 wr)/\b5<=wr.heap.size) (fun _ s47 _=>n4 - (intOf s47).toNat)
   case atStart=>exact⟨0,0,0,none,[],rfl,rfl,by omega,by omega,Aa rfl,Aa (World.ownsRow_nil _ _ _ _),Aa rfl,Aa (by rw[List.drop_zero];exact l5.out),f0,Aa (fun _ _ _ h=>h),Aa (KeepsOthers.refl _),by rw[p1.out];exact Nat.le_refl _⟩
   case round =>
    obtain⟨i,m,c,O,P,rfl,rfl,hi,qa,q4,j4,a4,e1,m0,i4,p5,v7⟩:=hrel;by_cases l4:i<n4
    ·obtain⟨⟨ys,yA,yn,yc⟩,hy⟩:∃y,E[i]? = some y:=⟨_,List.getElem?_eq_getElem (by rw[q3.out];exact l4)⟩
     obtain⟨g,hL,r9,cs,m4,y7⟩:=f1.out (by omega);subst hL;have p2:=i4.out g cs (by rw[p1.out];exact m4.lt) m4;obtain⟨x0,x1⟩:=TR.at_ (w:=wr) (g:=g) (D:=E) ⟨cs,p2,y7⟩ hy;simp only at x0 x1;obtain⟨yz,y6⟩:=Ab ((ptsOf W4 (yA,yn,yc)).headD 0);have k8:ptsOf W4 (yA,yn,yc) = [yz]:=by rw[y6];exact o1.out _ (List.mem_of_getElem? hy)
     have b7:(E.map fun x=>(x,(x.1,ptsOf W4 x.2))).drop i=((ys,yA,yn,yc),(ys,[yz]))::(E.map fun x=>(x,(x.1,ptsOf W4 x.2))).drop (i+1):=by
      rw[List.drop_eq_getElem_cons (by rw[List.length_map,q3.out];exact l4),List.getElem_map];have:=(List.getElem?_eq_some_iff.1 hy).2;rw[this];simp only[k8]
     have a1:((E.map fun x=>(x.1,(ptsOf W4 x.2).headD 0)).take (i+1)).foldl joinS []=joinS (((E.map fun x=>(x.1,(ptsOf W4 x.2).headD 0)).take i).foldl joinS []) (ys,yz):=by
      rw[List.take_add_one,List.foldl_append,List.getElem?_map,hy,y6];rfl
     rw[b7]at e1;rw[<-a4.out]at a1;obtain⟨R,hR⟩:=Ab ((E.map fun x=>(x,(x.1,ptsOf W4 x.2))).drop (i+1));rw[<-hR]at e1;have a3:∀z∈P.map Prod.snd,z.2.length<=i:=fun z hz=>by
      rw[a4.out]at hz;have:=Kc _ [] 0 nofun z hz;rw[List.length_take]at this;omega
     replace a3:=Aa a3;replace hR:=Aa hR;replace a1:=Aa a1;replace hy:=Aa hy;replace p2:=Aa p2;clear b7 y6 k8 m4 y7 a4;rcases List.eq_nil_or_concat P with p0 | ⟨P0,x,p0⟩
     ·have r8:m=0:=by rw[q4.out,p0];rfl
      subst r8;have p4:Hid (joinS (P.map Prod.snd) (ys,yz)=P.map Prod.snd ++ [(ys,[yz])]):=Aa (by rw[p0];rfl);replace p0:=Aa p0;gi_wp2_with fail;obtain⟨W6,c0⟩:=Ab (wr.alloc (Obj.cells #[Value.string ⟨ys.toArray⟩,Value.slice yA yn yc] 125));rw[<-c0];obtain⟨g6,J⟩:=Ab wr.heap.size;have r6:Row W6 g6 125 #[Value.string ⟨ys.toArray⟩,Value.slice yA yn yc]:=by rw[c0,J];exact Row.new wr _ _
      rw[<-J];have I:Ext wr W6:=by rw[c0];exact(Ext.refl wr).alloc _
      have t0:=r6.cell 0 rfl;have t1:=r6.cell 1 rfl;replace r6:=Aa r6;replace I:=Aa I;replace c0:=Aa c0;replace J:=Aa J;refine wpIn_wide.2 (AE (fun K hK=>?_));go_wp2_with fail;refine⟨by kernel_rfl,?_⟩;obtain⟨W7,d0⟩:=Ab ((W6.alloc (Obj.cells #[Value.string ⟨ys.toArray⟩,Value.slice yA yn yc] 125)).drew);have H:Ext wr W7:=by rw[d0];exact(I.out.alloc _).drew
      have U:=H.owns j4.out;have m2:Cells W7 (some ⟨W6.heap.size,0,none⟩) (tcell (ys,yA,yn,yc)):=by rw[d0];exact AN W6 [Value.string ⟨ys.toArray⟩,Value.slice yA yn yc] _
      have i3:b5<=W7.heap.size:=Nat.le_trans v7 H.size;replace H:=Aa H;replace U:=Aa U;replace m2:=Aa m2;replace d0:=Aa d0;gi_wp2_with (gi_at_builtin;rw[<-d0.out];refine DA Lx U.out m2.out (.tmp 78) (.tmp 80) rfl rfl rfl rfl rfl rfl (by simp[tcell,Value.oneCell']) (by omega) i3 (fun A1 c1 w8 l1 d l0=>?_);replace l1:=Aa l1;replace d:=Aa d;replace l0:=Aa l0);have k2:∀g cs,g<b5->Row wr g 125 cs->Row w8 g 125 cs:=fun g cs n0 hr=>(hr.ext H.out).grown d.out fun h=>by obtain⟨_,_,hl⟩:=Ae U.out h.symm;omega
      refine⟨⟨i+1,_,c1,A1,P ++ [((ys,yA,yn,yc),(ys,[yz]))],by first | rfl | (congr 1;omega),rfl,by omega,by omega,Aa (by rw[List.length_append,<-q4.out];rfl),Aa ?_,Aa ?_,Aa ?_,Aa (CX U.out d.out (m0.out.trans H.out) i2),Aa (fun g cs n0 hr=>k2 g cs n0 (i4.out g cs n0 hr)),Aa (p5.out.trans (H.out.others.trans (FH U.out d.out))),Nat.le_trans i3 d.out.size⟩,by simp only[intOf];omega⟩
      ·rw[List.map_append,List.map_singleton,DX];exact l1.out
      ·rw[a1.out,p4.out,List.map_append,List.map_singleton]
      ·rw[List.append_assoc,<-hR.out];exact e1.out.keep fun A n c xs hb=>Ci U.out d.out (hb.ext H.out) (by decide)
     ·rw[List.concat_eq_append]at p0;have e7:m=P0.length+1:=by rw[q4.out,p0,List.length_append];rfl
      obtain⟨k,hk⟩:=Ab P0.length;rw[<-hk]at e7;subst e7;obtain⟨⟨xs',xA,xn,xc⟩,xk,xl⟩:=x;obtain⟨go,cur,x8,f8,e2,v0,v1⟩:=Qe j4.out (i:=k) (x:=(xs',xA,xn,xc)) (by rw[p0,List.map_append,List.getElem?_append_right (by rw[List.length_map];omega),List.length_map,hk,Nat.sub_self];rfl);subst x8;simp only at v0 v1;have i8:=e2.lt;have g9:xs'=xk:=(e1.out.each ((xs',xA,xn,xc),xk,xl) (by rw[p0];simp)).1;have i1:joinS (P.map Prod.snd) (ys,yz)=if xk=ys then P0.map Prod.snd ++ [(xk,xl ++ [yz])] else P.map Prod.snd ++ [(ys,[yz])]:=by
       rw[p0,List.map_append,List.map_singleton,GU]
      subst g9;replace e2:=Aa e2;replace hk:=Aa hk;replace p0:=Aa p0;gi_wp2_with fail;obtain⟨W6,c0⟩:=Ab (wr.alloc (Obj.cells #[Value.string ⟨ys.toArray⟩,Value.slice yA yn yc] 125));rw[<-c0];obtain⟨g6,J⟩:=Ab wr.heap.size;have r6:Row W6 g6 125 #[Value.string ⟨ys.toArray⟩,Value.slice yA yn yc]:=by rw[c0,J];exact Row.new wr _ _
      rw[<-J];have I:Ext wr W6:=by rw[c0];exact(Ext.refl wr).alloc _
      have t0:=r6.cell 0 rfl;have t1:=r6.cell 1 rfl;replace r6:=Aa r6;replace I:=Aa I;replace c0:=Aa c0;replace J:=Aa J;have u0:=I.out.cell v0;have u1:=I.out.cell v1;by_cases j5:xs'=ys
      ·subst j5;rw[if_pos rfl]at i1;replace i1:=Aa i1;refine wpIn_wide.2 (AE (fun K hK=>?_));go_wp2_with fail;refine⟨by kernel_rfl,?_⟩;gi_wp2_with fail;have x2:=e1.out;rw[p0.out,List.append_assoc,List.singleton_append]at x2;have p6:=(x2.each ((xs',xA,xn,xc),xs',xl) (by simp)).2;have j6:=(x2.each ((xs',yA,yn,yc),xs',[yz]) (by simp)).2;simp only at p6 j6;have m9:xl.length=xn:=by have:=p6.1;rwa [List.length_map]at this
       have ma:xn<=i:=by
        have:=a3.out (xs',xl) (by rw[p0.out];simp);rw[<-m9];exact this
       have t9:1=yn:=by have:=j6.1;simpa using this
       subst t9;have j1:Hid (Buf W6.drew.drew w.heap.size 3 xA xn xc (xl.map IV)):=Aa (p6.ext I.out.drew.drew);have z7:Hid (Cells W6.drew.drew yA ([yz].map IV)):=Aa (j6.ext I.out.drew.drew).cells;have y5:Hid (Row W6.drew.drew go 125 cur):=Aa (e2.out.ext I.out.drew.drew);have q8:w.heap.size<=W6.drew.drew.heap.size:=(m0.out.trans I.out.drew.drew).size;have i7:Hid (W6.drew.drew.ownsRow b5 125 2 (.slice (some ⟨go,0,none⟩) (k+1) c) (k+1) (tcs (P.map Prod.fst))):=Aa (I.out.drew.drew.owns j4.out);have u19:=Aa (I.out.drew.drew.cell v1);refine wpIn_wide.2 (AE (fun K hK=>?_));go_wp2_with (at_builtin;refine Al FY j1.out z7.out (.tmp 72) (.tmp 74) rfl rfl rfl rfl rfl rfl (by simp[IV,Value.oneCell']) (by omega) q8 (fun A1 c1 w8 c4 d v6 l0=>?_);have r18:=Cu j1.out d y5.out (by decide);have v2:=r18.free (k*2+1);have v3:=(r18.get (k*2+1)).trans ((y5.out.get (k*2+1)).symm.trans u19.out);replace r18:=Aa r18;replace c4:=Aa c4;replace d:=Aa d;replace v6:=Aa v6;replace l0:=Aa l0);refine⟨by kernel_rfl,?_⟩;gi_wp2_with fail;have h3:=I.out.drew.drew;have o8:∀z∈P0++R,TmP.far z ((xs',xA,xn,xc),xs',xl)->TmP.ok wr w.heap.size z->TmP.ok (w8.setCell ⟨go,k*2+1,none⟩ (.slice A1 (xn+1) c1)) w.heap.size z:=fun z hz hf ho=>by
        have q:=Rs d.out (ho.2.ext h3) (fun p q hp hq=>hf p q hp hq);exact⟨ho.1,q.setCell (q.unlike r18.out (by decide)) _⟩
       have h6:Buf (w8.setCell ⟨go,k*2+1,none⟩ (.slice A1 (xn+1) c1)) w.heap.size 3 A1 (xn+1) c1 ((xl ++ [yz]).map IV):=by
        rw[List.map_append];exact c4.out.setCell (c4.out.unlike r18.out (by decide)) _
       have p7:=x2.join ((xs',A1,xn+1,c1),xs',xl ++ [yz]) o8 ⟨rfl,h6⟩ (by
        rcases l0.out with h | h
        ·exact .inl h
        ·exact .inr ⟨_,h,h3.size⟩)
       have g4:=M7 (Gr j1.out d.out i7.out (by decide)) (k*2+1) (.slice A1 (xn+1) c1);have h8:=Qf (P0.map Prod.fst) (xs',xA,xn,xc) (A1,xn+1,c1);rw[List.length_map,<-hk.out]at h8;have y8:P.map Prod.fst=P0.map Prod.fst ++ [(xs',xA,xn,xc)]:=by rw[p0.out,List.map_append];rfl
       rw[y8,h8]at g4;refine⟨⟨i+1,k+1,c,some ⟨go,0,none⟩,P0 ++ [((xs',A1,xn+1,c1),xs',xl ++ [yz])],by first | rfl | (congr 1;omega),rfl,by omega,by omega,Aa (by rw[List.length_append,<-hk.out];rfl),Aa ?_,Aa ?_,Aa ?_,Aa ?_,Aa (fun g cs n0 hr=>?_),Aa (p5.out.trans (h3.others.trans ((BL j1.out d.out).trans (KeepsOthers.setCell _ _ _)))),?_⟩,by simp only[intOf];omega⟩
       ·rw[List.map_append];exact g4
       ·rw[a1.out,i1.out,List.map_append];rfl
       ·rw[List.append_assoc,<-hR.out];exact p7
       ·exact(v6.out w (m0.out.trans h3) (Nat.le_refl _)).setCell (p:=⟨go,k*2+1,none⟩) (Nat.le_trans i2 f8) _
       ·exact(Cu j1.out d.out ((i4.out g cs n0 hr).ext h3) (by decide)).away (by show g≠go;omega) _
       ·have h1:=d.out.size;have h2:=h3.size;show b5<=(w8.setCell _ _).heap.size;simp only[World.setCell,Array.size_modify];omega
      ·rw[if_neg j5]at i1;have p4:Hid (joinS (P.map Prod.snd) (ys,yz)=P.map Prod.snd ++ [(ys,[yz])]):=Aa i1;have y9:¬ (ByteArray.mk xs'.toArray=ByteArray.mk ys.toArray):=fun h=>j5 (by injection h with h;simpa using h);clear i1;have x9:(xs'==ys)=false:=beq_eq_false_iff_ne.2 j5;refine wpIn_wide.2 (AE (fun K hK=>?_));go_wp2_with fail;refine⟨by kernel_rfl,?_⟩;obtain⟨W7,d0⟩:=Ab ((W6.alloc (Obj.cells #[Value.string ⟨ys.toArray⟩,Value.slice yA yn yc] 125)).drew);have H:Ext wr W7:=by rw[d0];exact(I.out.alloc _).drew
       have U:=H.owns j4.out;have m2:Cells W7 (some ⟨W6.heap.size,0,none⟩) (tcell (ys,yA,yn,yc)):=by rw[d0];exact AN W6 [Value.string ⟨ys.toArray⟩,Value.slice yA yn yc] _
       have i3:b5<=W7.heap.size:=Nat.le_trans v7 H.size;replace H:=Aa H;replace U:=Aa U;replace m2:=Aa m2;replace d0:=Aa d0;gi_wp2_with (gi_at_builtin;rw[<-d0.out];refine DA Lx U.out m2.out (.tmp 78) (.tmp 80) rfl rfl rfl rfl rfl rfl (by simp[tcell,Value.oneCell']) (by omega) i3 (fun A1 c1 w8 l1 d l0=>?_);replace l1:=Aa l1;replace d:=Aa d;replace l0:=Aa l0);have k2:∀g cs,g<b5->Row wr g 125 cs->Row w8 g 125 cs:=fun g cs n0 hr=>(hr.ext H.out).grown d.out fun h=>by obtain⟨_,_,hl⟩:=Ae U.out h.symm;omega
       refine⟨⟨i+1,_,c1,A1,P ++ [((ys,yA,yn,yc),(ys,[yz]))],by first | rfl | (congr 1;omega),rfl,by omega,by omega,Aa (by rw[List.length_append,<-q4.out];rfl),Aa ?_,Aa ?_,Aa ?_,Aa (CX U.out d.out (m0.out.trans H.out) i2),Aa (fun g cs n0 hr=>k2 g cs n0 (i4.out g cs n0 hr)),Aa (p5.out.trans (H.out.others.trans (FH U.out d.out))),Nat.le_trans i3 d.out.size⟩,by simp only[intOf];omega⟩
       ·rw[List.map_append,List.map_singleton,DX];exact l1.out
       ·rw[a1.out,p4.out,List.map_append,List.map_singleton]
       ·rw[List.append_assoc,<-hR.out];exact e1.out.keep fun A n c xs hb=>Ci U.out d.out (hb.ext H.out) (by decide)
    ·have f5:P.map Prod.snd=T:=by
      rw[a4.out,List.take_of_length_le (by rw[y3.out];omega)];exact w3.out
     replace f5:=Aa f5;gi_wp2_with fail;have n8:=p5.out.same _ _ l8.out rfl;refine BR (B:=w4.heap.size) rfl n8 hD fun W ha=>⟨_,results_tmp rfl _ _ _,?_⟩
     have t5:=e1.out;rw[List.drop_eq_nil_of_le (by rw[List.length_map,q3.out];omega),List.append_nil]at t5;have f7:m=(P.map Prod.fst).length:=by rw[List.length_map];exact q4.out
     rw[<-f5.out];refine⟨O,c,P.map Prod.fst,?_,?_,(t5.keep fun _ _ _ _ hb=>ha.buf hb).tms,ha.ext m0.out e0⟩
     ·rw[<-f7];rfl
     ·rw[<-f7];exact ha.owns (AD j4.out i2)
 ·have hT:=j2.out;rw[if_neg a6]at hT;replace hT:=Aa hT;gi_wp2_with fail;rw[hT.out];exact F3 rfl (results_tmp rfl _ _ _) ⟨none,0,[],rfl,World.ownsRow_nil _ _ _ _,TmsOk.nil _ _,o2.out⟩
end
section
open Go.RowKit
theorem Qb {K:Act->World->Prop} {E0:Prop} {t e size bytes:Nat} (E:Elem P t e size bytes) (J:o.guard=none) (H:w.ownsRow base e size v n xs) (I:Cells w A news) (s x:Operand)
 (G:o.op = .call { callee:= .builtin .append,args:=#[s,x],argTypes:=#[t,t] })
 (hs:a.eval s=v) (hx:a.eval x = .slice A m c) (Z:news.length=m*size) (h1:∀u∈news,u.oneCell'=true) (U:n+m<=4294967296) (d:base<=w.heap.size)
 (h:∀A1 c1 w',w'.ownsRow base e size (.slice A1 (n+m) c1) (n+m) (xs++news)->w.grownBy w' v.ownBlock->K (a.put o.dst (.slice A1 (n+m) c1)) w') :
 if Region.wanted o (yielded ops a.tmps)=true then Oper.wp P o a w K Q else E0:=by
 rw[if_pos (by simp[Region.wanted,J])];obtain⟨A1,c1,w',Y,h2,O,h4⟩:=Ds (P:=P) E w o.type H (c:=c) I Z h1 U d;unfold Oper.wp execOp;simp only[G,resolve,invoke,builtin,Sem.run_bind,Sem.run_pure,Result.andThen_ok,List.map_toArray,List.map_cons,List.map_nil,hs,hx,Y];exact h A1 c1 w' h2 O
theorem OH {K:Act->World->Prop} {E0:Prop} {t e size bytes m k:Nat} (E:Elem P t e size bytes) (J:o.guard=none) (H:w0.ownsRow base e size v n xs) (hk:k=w0.heap.size) (s x:Operand)
 (G:o.op = .call { callee:= .builtin .append,args:=#[s,x],argTypes:=#[t,t] })
 (hs:a.eval s=v) (hx:a.eval x = .slice (some ⟨k,0,none⟩) m m) (Z:us.length=m*size) (h1:∀u∈us,u.oneCell'=true) (O:n+m<=4294967296) (Y:base<=w0.heap.size)
 (h:∀A1 c1 w',w'.ownsRow base e size (.slice A1 (n+m) c1) (n+m) (xs++us)->w0.grownBy w' v.ownBlock->K (a.put o.dst (.slice A1 (n+m) c1)) w') :
 if Region.wanted o (yielded ops a.tmps)=true then Oper.wp P o a (w0.alloc (.cells us.toArray T)) K Q else E0:=by
 subst hk;refine Qb E J (((Ext.refl w0).alloc _).owns H) (A:=some ⟨w0.heap.size,0,none⟩) (news:=us) (.inr ⟨w0.heap.size,0,rfl,fun i u I=>?_⟩) s x G hs hx Z h1 O (by simp;omega) fun A1 c1 w' h2 d=>?_
 ·rw[Nat.zero_add,cell_of_row _ _ _ _ _ _ (heap_alloc_new w0 _)];simpa using I
 ·exact h A1 c1 w' h2 ⟨d.os,d.tape,d.output,Nat.le_trans (by simp) d.size,fun k hk U=>(d.block k (by simp;omega) U).trans (Below.heap_alloc w0 _ k hk)⟩
end
section
open Go.RowKit Go.Maps Go.Sort
def sortK (ns:List (List UInt8)):List (List UInt8):=ns.mergeSort fun x y=>decide (x<=y)
theorem Hv (ns:List (List UInt8)):(sortK ns).Perm ns:=List.mergeSort_perm _ _
theorem Qa (ns:List (List UInt8)):(sortK ns).Pairwise (fun a b=>a<=b):=by
 have:=List.pairwise_mergeSort (le:=fun(x y:List UInt8)=>decide (x<=y)) (fun a b c h k=>decide_eq_true (List.le_trans (of_decide_eq_true h) (of_decide_eq_true k))) (fun a b=>by rcases List.le_total a b with h | h <;> simp[h]) ns;exact this.imp fun h=>of_decide_eq_true h
theorem P9 (h:ns.Perm ks) (hk:ks.Pairwise fun a b=>a<b):sortK ns=ks :=
 List.Perm.eq_of_pairwise (le:=fun(x y:List UInt8)=>x<=y) (fun x y _ _ h k=>List.le_antisymm h k) (Qa ns) (hk.imp fun h=>List.le_of_lt h) ((Hv ns).trans h)
theorem Mz (base:Nat) (A:Option Addr) (n c:Nat) (ns:List (List UInt8)) (w:World) (hn:n=ns.length) (hb:Buf w base 9 A n c (ns.map strV)) (j0:n<=1073741824) :
 Calls prog 216 #[.slice A n c] w fun e w'=>e = .returned (.tuple #[])/\Buf w' base 9 A n c ((sortK ns).map strV)/\Chg (fun k=>∃x,A=some x/\x.block=k) w w':=by
 subst hn;obtain⟨h1,h2,h3⟩:=hb;unfold sortK;rcases h3 with ⟨rfl,rfl⟩ | ⟨g,cur,rfl,J,d,hs,ht⟩
 ·have I:ns = []:=List.eq_nil_of_length_eq_zero (by omega);subst I;refine(Tryz.slices_Sort_string_none none 0 w).mono ?_;rintro e w' ⟨rfl,rfl⟩;exact⟨rfl,by simpa using Buf.nil _ _ _,Chg.refl _ _⟩
 ·have hH:Holds encStr w g 0 ns.toArray:=by
   intro j h;simp at h;refine⟨?_,d.free _⟩;rw[Nat.zero_add,cell_of_row w g j cur 9 (0,0) d];have:(cur.toList.take ns.length)[j]? = (ns.map strV)[j]? :=by rw[ht]
   rw[List.getElem?_take,if_pos h]at this;simp[h]at this;simpa [h,encStr,strV]using this
  refine(Tryz.slices_Sort_string g 0 c ns w hH d.lt (by omega)).mono ?_;rintro e w' ⟨rfl,k,os,rfl⟩;obtain⟨so,Y⟩:=Ab ((ns.mergeSort fun x y=>decide (x<=y)));have G:so.length=ns.length:=by rw[Y];exact List.length_mergeSort _
  rw[<-Y];have H:Row (grow (putRow encStr (Sort.ahead w k) g 0 so.toArray) os) g 9 (putCells encStr 0 so.toArray cur):=by
   show ((w.heap.modify g (onCells (putCells encStr 0 so.toArray)))++os)[g]? = _;rw[Array.getElem?_append_left (by simpa using d.lt),Array.getElem?_modify,if_pos rfl];have:w.heap[g]? = some (.cells cur 9 (0,0)):=d;rw[this];rfl
  refine⟨rfl,⟨by simp[G],h2,.inr ⟨g,_,rfl,J,H,?_,?_⟩⟩,⟨rfl,rfl,rfl,?_,?_⟩⟩
  ·simp[putCells];exact hs
  ·apply List.ext_getElem?;intro i;rw[List.getElem?_take];split
   ·rename_i hi;have U:i<cur.size:=by
     rw[List.length_map]at h1;omega
    have O:i<so.length:=by omega
    rw[Array.getElem?_toList];unfold putCells;rw[Array.getElem?_mapIdx,Array.getElem?_eq_getElem U];simp[O,encStr,strV]
   ·rename_i hi;rw[List.getElem?_eq_none (by rw[List.length_map];omega)]
  ·show w.heap.size<=((w.heap.modify g (onCells (putCells encStr 0 so.toArray)))++os).size;simp
  ·intro j h Z;show ((w.heap.modify g (onCells (putCells encStr 0 so.toArray)))++os)[j]? = _;rw[Array.getElem?_append_left (by simpa using h),Array.getElem?_modify,if_neg (fun e=>Z ⟨_,rfl,e⟩)]
theorem OE (base:Nat) (A:Option Addr) (n c:Nat) (ns:List (List UInt8)) (w:World) (H:n=ns.length) (hb:Buf w base 9 A n c (ns.map strV)) (d:n<=1073741824) :
 Calls prog 159 #[.slice A n c] w fun e w'=>e = .returned (.tuple #[])/\Buf w' base 9 A n c ((sortK ns).map strV)/\Chg (fun k=>∃x,A=some x/\x.block=k) w w':=by
 have h:=Aa (Mz base A n c ns w H hb d);clear hb H
 go_in
 go_wp2_with fail;refine h.out.mono ?_;rintro e w1 ⟨rfl,h1,h2⟩;go_wp2_with fail
 go_end0
 exact⟨rfl,h1,h2⟩
end
section
open Go.RowKit Go.Maps
open Go
structure RangeL (P:Program) (k:TypeId) (w:World) (m r:Nat) (L:List (Value×Value)) (done:List Value):Prop where
  ex:∃es clock since seen c0,w.heap[m]? = some (.map es clock)/\es.toList.map (fun e=>(e.key,e.val))=L/\es.toList.Pairwise (fun a b=>a.born≠b.born)/\(∀e∈es.toList,e.born<clock) /\
    w.heap[r]? = some (.mapIter (some m) since seen c0)/\(∀e∈es.toList,e.born<since)/\since<=c0/\since<=clock/\∀e∈es.toList,(seen.contains e.born=true↔e.key∈done)
  keys:∀p∈L,∃l,keyOf P k p.1=some l
  nodup:(L.map Prod.fst).Nodup
  dn:done.Nodup
  sub:∀x∈done,x∈L.map Prod.fst
section
variable {P:Program} {k:TypeId} {w w1:World} {m r:Nat} {L:List (Value×Value)} {done:List Value}
theorem RangeL.map (h:RangeL P k w m r L done):MapL P k w m L:=by
 obtain⟨es,cl,since,seen,c0,h1,h2,d,H,_⟩:=h.ex;exact⟨⟨es,cl,h1,h2,d,H⟩,h.keys,h.nodup⟩
theorem RangeL.keep (h:RangeL P k w m r L done) (U:w1.heap[m]? = w.heap[m]?) (Z:w1.heap[r]? = w.heap[r]?):RangeL P k w1 m r L done:=by
 obtain⟨⟨es,cl,since,seen,c0,h1,h2,d,H,Y,J⟩,hk,O,hd,hs⟩:=h;exact⟨⟨es,cl,since,seen,c0,U.trans h1,h2,d,H,Z.trans Y,J⟩,hk,O,hd,hs⟩
theorem RangeL.lt (h:RangeL P k w m r L done):r<w.heap.size:=by
 obtain⟨es,cl,since,seen,c0,_,_,_,_,d,_⟩:=h.ex;exact(Array.getElem?_eq_some_iff.1 d).1
theorem RangeL.ne (h:RangeL P k w m r L done):r≠m:=by
 obtain⟨es,cl,since,seen,c0,h1,_,_,_,d,_⟩:=h.ex;rintro rfl;rw[h1]at d;cases d
theorem RangeL.grown {row:Option Nat} (h:RangeL P k w m r L done) (d:w.grownBy w1 row) (h1:row≠some m) (h2:row≠some r):RangeL P k w1 m r L done :=
 h.keep (d.block m h.map.lt (fun e=>h1 e.symm)) (d.block r h.lt (fun e=>h2 e.symm))
theorem RangeL.drew (h:RangeL P k w m r L done):RangeL P k w.drew m r L done:=h.keep rfl rfl
theorem RangeL.alloc (h:RangeL P k w m r L done) (o:Obj):RangeL P k (w.alloc o) m r L done:=h.keep (Below.heap_alloc w o m h.map.lt) (Below.heap_alloc w o r h.lt)
theorem MapL.range (h:MapL P k w m L) (ht:P.underlying t=some (.map k E)) :
 ∃o,(Instr.range t (.map (some m))).run P w = .ok (.pointer (some ⟨w.heap.size,0,none⟩)) (w.alloc o)/\RangeL P k (w.alloc o) m w.heap.size L []:=by
 obtain⟨⟨es,cl,h1,h2,H,d⟩,hk,Y⟩:=h;refine⟨_,run_range_map w t k E m es cl ht h1,⟨⟨es,cl,cl,#[],cl,?_,h2,H,d,heap_alloc_new w _,d,Nat.le_refl _,Nat.le_refl _,fun e _=>by simp⟩,hk,Y,List.nodup_nil,by simp⟩⟩;exact(Below.heap_alloc w _ m (Array.getElem?_eq_some_iff.1 h1).1).trans h1
theorem Hq (w : World) (r : Nat) (o : Obj) : w.grownBy (ChangeMaps.setBlock w r o) (some r) :=
  ⟨rfl, rfl, rfl, by simp [ChangeMaps.setBlock], fun k _ h => by
    show (w.heap.setIfInBounds r o)[k]? = _
    rw [Array.getElem?_setIfInBounds_ne (fun e => h (by rw [e]))]⟩
theorem LS {es:Array MapEntry} {seen:Array Nat} {e:MapEntry} (d:e∈(leftOf es seen).toList):(leftOf es (seen.push e.born)).size<(leftOf es seen).size:=by
 have h1:leftOf es (seen.push e.born)=(leftOf es seen).filter (fun x=> !(x.born==e.born)):=by
  unfold leftOf;rw[Array.filter_filter];congr 1;funext x;rw[Array.contains_push];cases seen.contains x.born <;> cases (x.born==e.born) <;> rfl
 have h2:(leftOf es (seen.push e.born)).toList=(leftOf es seen).toList.filter (fun x=> !(x.born==e.born)):=by rw[h1,Array.toList_filter]
 have h:((leftOf es seen).toList.filter (fun x=> !(x.born==e.born))).length<(leftOf es seen).toList.length:=List.length_filter_lt_length_iff_exists.2 ⟨e,d,by simp⟩;rw[<-h2]at h;exact h
theorem RangeL.next (h:RangeL P k w m r L done) (ty:TypeId) :
 ((Instr.next (.pointer (some ⟨r,0,none⟩)) false ty).run P w = .ok (.tuple #[.bool false]) w/\∀p∈L,p.1∈done) \/
 ∃x v w1,(x,v)∈L/\x∉done/\(Instr.next (.pointer (some ⟨r,0,none⟩)) false ty).run P w = .ok (.tuple #[.bool true,x,v]) w1/\RangeL P k w1 m r L (done ++ [x])/\w.grownBy w1 (some r)/\w1.heap.size=w.heap.size /\
  (Instr.entry (.pointer (some ⟨r,0,none⟩))).run P w1 = .ok (.tuple #[x,v]) w1/\w1.rangeLeft m r<w.rangeLeft m r:=by
 have x0:=h.lt;have d0:=h.ne;obtain⟨⟨es,cl,since,seen,c0,h1,h2,h3,h4,h5,h6,h7,p0,h8⟩,hk,hn,hd,hs⟩:=h;rcases run_next_at (P:=P) w ty r m since c0 seen es cl h5 h1 h6 h7 with ⟨h0,Y⟩ | ⟨e,I,w0,j0,Y⟩
 ·refine .inl ⟨Y,fun p hp=>?_⟩;rw[<-h2]at hp;obtain⟨e,I,rfl⟩:=List.mem_map.1 hp;rw[<-h8 e I];by_cases G:seen.contains e.born=true
  ·exact G
  ·exfalso;have:e∈leftOf es seen:=by
    unfold leftOf;rw[Array.mem_filter];exact⟨by simpa using I,by simpa using G⟩
   have h9:=Array.size_pos_of_mem this;omega
 ·have H:e∈es.toList/\seen.contains e.born=false:=by
   unfold leftOf at I;have d:=Array.mem_toList_iff.1 I;rw[Array.mem_filter]at d;exact⟨by simpa using d.1,by simpa using d.2⟩
  have J:w0.heap=w.heap:=by rcases j0 with rfl | rfl <;> rfl
  have g0:w.grownBy w0 (some r):=by
   rcases j0 with rfl | rfl
   ·exact⟨rfl,rfl,rfl,Nat.le_refl _,fun _ _ _=>rfl⟩
   ·exact⟨rfl,rfl,rfl,Nat.le_refl _,fun _ _ _=>rfl⟩
  have k0:e.key∉done:=fun G=>by
   rw[<-h8 e H.1]at G;rw[H.2]at G;cases G
  have Z:(ChangeMaps.setBlock w0 r (.mapIter (some m) since (seen.push e.born) cl)).heap[r]? = some (.mapIter (some m) since (seen.push e.born) cl):=by
   show (w0.heap.setIfInBounds r _)[r]? = _;rw[Array.getElem?_setIfInBounds,if_pos rfl,if_pos (by rw[J];exact x0)]
  have O:(ChangeMaps.setBlock w0 r (.mapIter (some m) since (seen.push e.born) cl)).heap[m]? = some (.map es cl):=by
   show (w0.heap.setIfInBounds r _)[m]? = _;rw[Array.getElem?_setIfInBounds_ne d0,J,h1]
  have b0:(es.toList.map (fun x=>x.born)).Nodup:=by
   rw[List.Nodup,List.pairwise_map];exact h3
  refine .inr ⟨e.key,e.val,_,by rw[<-h2];exact List.mem_map.2 ⟨e,H.1,rfl⟩,k0,Y,⟨⟨es,cl,since,seen.push e.born,cl,O,h2,h3,h4,Z,h6,p0,p0,?_⟩,hk,hn,?_,?_⟩,g0.trans (Hq w0 r _),by simp[ChangeMaps.setBlock,J],run_entry_at _ r m since seen es cl e Z O H.1 b0,by unfold World.rangeLeft;rw[O,Z,h1,h5];exact LS I⟩
  ·intro e' d;have e0:(es.toList.map (·.key)).Nodup:=by rw[<-h2,List.map_map]at hn;exact hn
   obtain⟨i,hi⟩:=List.getElem?_of_mem H.1;obtain⟨j,U⟩:=List.getElem?_of_mem d;rw[Array.getElem?_toList]at hi U;have v0:e'.born=e.born↔e'.key=e.key:=by
    constructor
    ·intro hb;obtain rfl:=MM h3 U hi hb;rw[hi]at U;cases U;rfl
    ·intro hb;obtain rfl:=Kr e0 U hi hb;rw[hi]at U;cases U;rfl
   rw[Array.contains_push,Bool.or_eq_true,beq_iff_eq,h8 e' d,List.mem_append,List.mem_singleton,<-v0]
  ·rw[List.nodup_append];refine⟨hd,by simp,?_⟩;intro a ha b hb;simp at hb;rintro rfl;subst hb;exact k0 ha
  ·intro x hx;rcases List.mem_append.1 hx with hx | hx
   ·exact hs x hx
   ·simp at hx;subst hx;rw[<-h2,List.map_map];exact List.mem_map.2 ⟨e,H.1,rfl⟩
theorem MapL.len (h:MapL P k w m L) (ht:P.underlying t=some (.map k E)) (ty:TypeId):(Builtin.len_ #[t] ty #[.map (some m)]).run P w = .ok (.int .i64 L.length) w:=by
 obtain⟨⟨es,cl,h1,h2,_⟩,_,_⟩:=h;have d:(getObj m).run P w = .ok (.map es cl) w:=by simp[getObj,Sem.run,h1]
 have H:L.length=es.size:=by rw[<-h2];simp
 simp only[Builtin.len_,List.getElem?_toArray,List.getElem?_cons_zero,Sem.run_bind,run_underlying ht,Result.andThen_ok,d,Sem.run_pure];rw[H];rfl
end
end
section
open Go.RowKit Go.Maps
theorem Pc:Elem prog 66 127 2 32:=⟨underlying66,⟨_,_,rfl,rfl,rfl,rfl,rfl⟩,by omega,by omega⟩
def IdxM (w:World) (M:Nat) (rows:List (List UInt8×List Po)):Prop:=∃L,MapL prog 9 w M L/\∀r∈rows,∃(ps:List PoC) (A:Option Addr) (c:Nat),(strV r.1,Value.slice A ps.length c)∈L/\psP ps=r.2/\PosOk w A ps/\(∀a,A=some a->a.spot=none)/\ps.length<=c
def NewX (w:World) (rows:List (List UInt8×List Po)) (e:Ending) (w':World):Prop:=∃B n c M,e = .returned (.tuple #[.slice B n c,.map (some M)])/\n=rows.length/\Buf w' w.heap.size 9 B n c (rows.map fun r=>strV r.1)/\IdxM w' M rows/\Ext w w'
theorem OG {K:Act->World->Prop} {E0:Prop} {t e size bytes m k:Nat} (E:Elem P t e size bytes) (O:o.guard=none) (Y:w0.ownsRow base e size v n xs) (hk:k=w0.heap.size) (s x:Operand)
 (ho:o.op = .call { callee:= .builtin .append,args:=#[s,x],argTypes:=#[t,t] })
 (hs:a.eval s=v) (hx:a.eval x = .slice (some ⟨k,0,none⟩) m m) (I:us.length=m*size) (h1:∀u∈us,u.oneCell'=true) (G:n+m<=4294967296) (U:base<=w0.heap.size)
 (h:∀A1 c1 w',w'.ownsRow base e size (.slice A1 (n+m) c1) (n+m) (xs++us)->w0.grownBy w' v.ownBlock->((Value.slice A1 (n+m) c1).ownBlock=v.ownBlock\/∃k,(Value.slice A1 (n+m) c1).ownBlock=some k/\w0.heap.size<=k)->K (a.put o.dst (.slice A1 (n+m) c1)) w') :
 if Region.wanted o (yielded ops a.tmps)=true then Oper.wp P o a (w0.alloc (.cells us.toArray T)) K Q else E0:=by
 subst hk;have hr:Cells (w0.alloc (.cells us.toArray T)) (some ⟨w0.heap.size,0,none⟩) us:= .inr ⟨w0.heap.size,0,rfl,fun i u hu=>by
  rw[Nat.zero_add,cell_of_row _ _ _ _ _ _ (heap_alloc_new w0 _)];simpa using hu⟩
 rw[if_pos (by simp[Region.wanted,O])];obtain⟨A1,c1,w',J,h2,d,H⟩:=Ds (P:=P) E _ o.type (((Ext.refl w0).alloc _).owns Y) (c:=m) hr I h1 G (by simp;omega);unfold Oper.wp execOp;simp only[ho,resolve,invoke,builtin,Sem.run_bind,Sem.run_pure,Result.andThen_ok,List.map_toArray,List.map_cons,List.map_nil,hs,hx,J];refine h A1 c1 w' h2 ⟨d.os,d.tape,d.output,Nat.le_trans (by simp) d.size,fun k hk Z=>(d.block k (by simp;omega) Z).trans (Below.heap_alloc w0 _ k hk)⟩ ?_;rcases H with H | H
 ·exact .inl H
 ·exact .inr ⟨_,H,by simp⟩
theorem Sj {D:List TmV} (h:w.ownsRow base 125 2 (.slice A n c) n (tcs D)) (hk:∀g cs,Row w g 125 cs->Row w1 g 125 cs) {x:TmV} (U:D[i]? = some x) :
 ∃g,A=some ⟨g,0,none⟩/\w1.cell? ⟨g,i*2,none⟩=some (.string ⟨x.1.toArray⟩)/\w1.cell? ⟨g,i*2+1,none⟩=some (.slice x.2.1 x.2.2.1 x.2.2.2):=by
 obtain⟨g,cur,J,_,H,Y,h1⟩:=Qe h U;have d:=hk g cur H;refine⟨g,J,?_,?_⟩
 ·rw[d.get,<-H.get];exact Y
 ·rw[d.get,<-H.get];exact h1
theorem O2 (h:Buf w base e A n c xs) (hk:∀g cs,Row w g e cs->Row w1 g e cs):Buf w1 base e A n c xs:=by
 obtain⟨h1,h2,d⟩:=h;refine⟨h1,h2,?_⟩;rcases d with d | ⟨g,cur,H,hb,Y,r⟩
 ·exact .inl d
 ·exact .inr ⟨g,cur,H,hb,hk g cur Y,r⟩
theorem ER:Elem prog 44 9 1 16:=⟨underlying44,⟨_,_,rfl,rfl,rfl,rfl,rfl⟩,by omega,by omega⟩
theorem HY {α β:Type} (f:α->β) {l:List α} (h:(l.map f).Nodup):l.Nodup:=by
 rw[List.nodup_iff_pairwise_ne,List.pairwise_map]at h;rw[List.nodup_iff_pairwise_ne];exact h.imp fun h e=>h (by rw[e])
theorem K2 {α:Type}:∀(D E:List α),D.Nodup->(∀e∈D,e∈E)->D.length<=E.length
 | [],E,_,_=>Nat.zero_le _
 | a::D,E,d,hs=>by
  rw[List.nodup_cons]at d;obtain⟨E1,E2,rfl⟩:=List.append_of_mem (hs a (by simp));have:=K2 D (E1++E2) d.2 fun e H=>by
   have h1:=hs e (List.mem_cons_of_mem _ H);rcases List.mem_append.1 h1 with h2 | h2
   ·exact List.mem_append_left _ h2
   ·rcases List.mem_cons.1 h2 with h | h
    ·exact absurd (h ▸ H) d.1
    ·exact List.mem_append_right _ h
  simp only[List.length_append,List.length_cons]at *;omega
theorem NW (ds:List DocC) (A:Option Addr) (m c:Nat) (w:World) (hm:m=ds.length) (h:DocsOk w A ds) (v7:m<=65536) (hT:(pairsD 0 (dcs ds)).length<=1000000) :
 Calls prog 104 #[.slice A m c] w fun e w'=>NewX w (rowsD (dcs ds)) e w':=by
 have y2:=Aa (fun(x:DocC) (W:World) (hx:x.e.Ok W x.A)=>OO x.e x.A x.c W hx);replace h:=Aa h;replace hm:=Aa hm;replace hT:=Aa hT;have y7:=@run_makeMap prog
 go_in
 go_wp2_with fail;obtain⟨W1,l0⟩:=Ab (w.alloc (.map #[] 0));rw[<-l0];have e5:Ext w W1:=by rw[l0];exact(Ext.refl w).alloc _
 have a4:IX w.heap.size w.heap.size [] [] W1:=by rw[l0];exact IX.new
 obtain⟨M,hM⟩:=Ab w.heap.size;rw[<-hM];rw[<-hM]at a4;replace l0:=Aa l0;replace hM:=Aa hM
 go_loopw [14] (fun s14 wr=>∃(i:Nat) (E:List IdE),s14 = .int .i64 (i:Int)/\i<=m/\Hid (IX M M (pairsD 0 (dcs (ds.take i))) E wr)/\Hid (Ext w wr)) (fun s14 _=>m - (intOf s14).toNat)
 case atStart=>exact⟨0,[],rfl,by omega,Aa a4,Aa e5⟩
 case round =>
  obtain⟨i,E,rfl,hi,hI,hE⟩:=hrel;by_cases y6:i<m
  ·obtain⟨x,hx⟩:∃x,ds[i]? = some x:=⟨_,List.getElem?_eq_getElem (by rw[<-hm.out];exact y6)⟩
   have l3:=h.out.ext hE.out;obtain⟨g,o,hA,x0,x1,x2⟩:=AR l3.cells hx;subst hA;have j4:=(l3.each x (List.mem_of_getElem? hx)).1;replace j4:=Aa j4;replace hx:=Aa hx;clear l3;have y5:x.e.val x.A x.c = .agg #[.int .i64 x.e.at_,.slice x.A x.e.fs.length x.c]:=rfl;have a1:=y2.out x;rw[y5]at a1;have m1:pairsD 0 (dcs (ds.take (i+1)))=pairsD 0 (dcs (ds.take i))++(termsL x.e).map (fun p=>(p.1,((i:Int),p.2))):=by
    have h1:dcs (ds.take (i+1))=dcs (ds.take i) ++ [x.dc]:=by rw[List.take_add_one,hx.out];unfold dcs;rw[List.map_append];rfl
    have h2:(dcs (ds.take i)).length=i:=by unfold dcs;rw[List.length_map,List.length_take,<-hm.out];omega
    rw[h1,CG,h2,Nat.zero_add];show _++(_ ++ [])=_;rw[List.append_nil];rfl
   replace m1:=Aa m1;replace a1:=Aa a1;clear y5;go_wp2_with fail;obtain⟨W5,y3⟩:=Ab (wr.alloc (Obj.cells #[Value.int IntKind.i64 x.seq,Value.int IntKind.i64 x.e.at_,Value.slice x.A x.e.fs.length x.c] 109));have b0:Ext wr W5:=by rw[y3];exact(Ext.refl wr).alloc _
   rw[<-y3];refine(a1.out W5 (j4.out.ext b0)).mono ?_;rintro e w6 ⟨LT,DT,D,rfl,k2,i0,y4⟩;have h0:=i0.len;obtain⟨T,f0⟩:=Ab (termsL x.e);rw[<-f0]at h0 i0;have x3:∀p∈T,1<=p.1.length/\p.1.length<=65/\p.2.length<=65536:=fun p hp=>by
    rw[f0]at hp;exact⟨(EH hp).1,(EH hp).2,Jd hp⟩
   have j6:T.length<=65536:=by rw[f0];exact MD _
   rw[<-f0]at m1;obtain⟨nd,p2⟩:=Ab D.length;rw[<-p2]at k2 h0 ⊢;have p7:nd<=65536:=by rw[h0];exact j6
   have i5:=Aa ((hI.out.ext b0).ext y4);have x4:=Aa ((hE.out.trans b0).trans y4);have o5:M<=W5.heap.size:=by rw[hM.out];exact(hE.out.trans b0).size
   replace k2:=Aa k2;replace i0:=Aa i0;replace x3:=Aa x3;replace p2:=Aa p2;replace h0:=Aa h0;clear f0 b0 y3 a1;go_wp2_with fail
   go_loopw [23] (fun s23 wr=>∃(j:Nat) (E:List IdE),s23 = .int .i64 (j:Int)/\j<=nd/\Hid (IX M M (pairsD 0 (dcs (ds.take i))++((T.map fun p=>(p.1,((i:Int),p.2))).take j)) E wr)/\Hid (Ext w wr)/\Hid (∀g t cs,t≠127->Row w6 g t cs->Row wr g t cs)) (fun s23 _=>nd - (intOf s23).toNat)
   case atStart=>exact⟨0,E,rfl,by omega,by rw[List.take_zero,List.append_nil];exact i5,x4,Aa (fun _ _ _ _ h=>h)⟩
   case round =>
    obtain⟨j,E',rfl,hj,l1,y0,o2⟩:=hrel;by_cases n4:j<nd
    ·obtain⟨⟨ys,yA,yn,yc⟩,hy⟩:∃y,D[j]? = some y:=⟨_,List.getElem?_eq_getElem (by rw[<-p2.out];exact n4)⟩
     obtain⟨⟨ts,tl⟩,ht⟩:∃p,T[j]? = some p:=⟨_,List.getElem?_eq_getElem (by rw[<-h0.out];exact n4)⟩
     obtain⟨hs,r0⟩:=i0.out.each j _ _ hy ht;simp only at hs r0;subst hs;have f6:=x3.out _ (List.mem_of_getElem? ht);simp only at f6;have n6:tl.length=yn:=by have:=r0.1;rwa [List.length_map]at this
     subst n6;obtain⟨gT,x6,z0,z1⟩:=Sj k2.out (fun g cs hr=>o2.out g _ cs (by decide) hr) hy;subst x6;simp only at z0 z1;have j2:posAt M wr ⟨(i:Int),tl,yA,yc⟩:=⟨(O2 r0 (fun g cs hr=>o2.out g _ cs (by decide) hr)).lower o5,by show tl.length<=_;omega⟩
     obtain⟨xe,p4,d1,a2,q2⟩:=l1.out.get ys (by omega);have y1:pairsD 0 (dcs (ds.take i))++((T.map fun p=>(p.1,((i:Int),p.2))).take (j+1))=(pairsD 0 (dcs (ds.take i))++((T.map fun p=>(p.1,((i:Int),p.2))).take j)) ++ [(ys,((i:Int),tl))]:=by
      rw[List.take_add_one,List.getElem?_map,ht,List.append_assoc];rfl
     replace y1:=Aa y1;replace hy:=Aa hy;replace ht:=Aa ht;replace r0:=Aa r0;replace j2:=Aa j2;replace p4:=Aa p4;replace d1:=Aa d1;replace a2:=Aa a2;replace q2:=Aa q2;go_wp2_with fail;obtain⟨Wt,n0⟩:=Ab (wr.alloc (Obj.cells #[Value.string ⟨ys.toArray⟩,Value.slice yA tl.length yc] 125));rw[<-n0];obtain⟨g8,o1⟩:=Ab wr.heap.size;rw[<-o1];have Y:Ext wr Wt:=by rw[n0];exact(Ext.refl wr).alloc _
     have r8:Row Wt g8 125 #[Value.string ⟨ys.toArray⟩,Value.slice yA tl.length yc]:=by rw[n0,o1];exact Row.new wr _ _
     have a6:=q2.out Wt.drew Y.drew;have o4:=q2.out (Wt.drew.alloc (Obj.cells #[Value.int .i64 (i:Int),Value.slice yA tl.length yc] 127)) (Y.drew.alloc _);have r4:(Instr.lookup 54 (.map (some M)) (strV ys) false).run prog (Wt.alloc (Obj.cells #[Value.int .i64 (i:Int),Value.slice yA tl.length yc] 127)).drew = .ok (.slice xe.A xe.ps.length xe.c) (Wt.alloc (Obj.cells #[Value.int .i64 (i:Int),Value.slice yA tl.length yc] 127)).drew:=o4;unfold strV at a6 r4;clear o4;have m3:Wt.drew.cell? ⟨g8,0,none⟩=some (.string ⟨ys.toArray⟩)/\Wt.drew.cell? ⟨g8,1,none⟩=some (.slice yA tl.length yc):=⟨r8.cell 0 rfl,r8.cell 1 rfl⟩
     have r8b:Row (Wt.drew.alloc (Obj.cells #[Value.int .i64 (i:Int),Value.slice yA tl.length yc] 127)) g8 125 #[Value.string ⟨ys.toArray⟩,Value.slice yA tl.length yc]:=r8.drew.alloc _;have t3:(Wt.drew.alloc (Obj.cells #[Value.int .i64 (i:Int),Value.slice yA tl.length yc] 127)).cell? ⟨g8,0,none⟩=some (.string ⟨ys.toArray⟩)/\(Wt.drew.alloc (Obj.cells #[Value.int .i64 (i:Int),Value.slice yA tl.length yc] 127)).cell? ⟨g8,1,none⟩=some (.slice yA tl.length yc):=⟨r8b.cell 0 rfl,r8b.cell 1 rfl⟩
     have J:=Aa (Y.drew.owns d1.out);have x5:M<=Wt.drew.heap.size:=by rw[hM.out];exact(y0.out.trans Y.drew).size
     replace m3:=Aa m3;replace t3:=Aa t3;replace r8:=Aa r8;replace n0:=Aa n0;replace o1:=Aa o1;replace Y:=Aa Y;clear r8b;have f7:xe.ps.length<=1000000:=by
      have h1:xe.ps.length=(psP xe.ps).length:=by unfold psP;rw[List.length_map]
      rw[h1,a2.out];refine Nat.le_trans (HM _ _) ?_;have h2:pairsD 0 (dcs ds)=pairsD 0 (dcs (ds.take (i+1)))++pairsD (0+(dcs (ds.take (i+1))).length) (dcs (ds.drop (i+1))):=by
       rw[<-CG];congr 1;unfold dcs;rw[<-List.map_append,List.take_append_drop]
      have U:=hT.out;rw[h2,m1.out]at U;simp only[List.length_append,List.length_take]at U ⊢;omega
     have f3:∀w8 A8 c8,Wt.drew.grownBy w8 (Value.slice xe.A xe.ps.length xe.c).ownBlock->w8.ownsRow M 127 2 (.slice A8 (xe.ps.length+1) c8) (xe.ps.length+1) (pcells xe.ps ++ [Value.int .i64 (i:Int),Value.slice yA tl.length yc])->((Value.slice A8 (xe.ps.length+1) c8).ownBlock=(Value.slice xe.A xe.ps.length xe.c).ownBlock\/∃k,(Value.slice A8 (xe.ps.length+1) c8).ownBlock=some k/\Wt.drew.heap.size<=k) ->
      ∃w9,(Instr.mapUpdate 54 (.map (some M)) (.string ⟨ys.toArray⟩) (.slice A8 (xe.ps.length+1) c8)).run prog w8 = .ok () w9/\(w8.cell? ⟨g8,0,none⟩=some (.string ⟨ys.toArray⟩)/\w8.cell? ⟨g8,1,none⟩=some (.slice yA tl.length yc))/\(w9.cell? ⟨g8,0,none⟩=some (.string ⟨ys.toArray⟩)/\w9.cell? ⟨g8,1,none⟩=some (.slice yA tl.length yc))/\(∃E9,IX M M (pairsD 0 (dcs (ds.take i))++((T.map fun p=>(p.1,((i:Int),p.2))).take (j+1))) E9 w9)/\Ext w w9/\(∀g t cs,t≠127->Row w6 g t cs->Row w9 g t cs):=fun w8 A8 c8 hg ho hl=>by
      have c4:=l1.out.ext Y.out.drew;obtain⟨L,hL,hm⟩:=c4.map;have q3:=hL.grown hg (DK hL J.out);obtain⟨w9,L',I,r5,p5,d3,c7⟩:=q3.update Kk underlying54 (DJ (s:=ys) (by omega)) (.slice A8 (xe.ps.length+1) c8);have g5:∀g t cs,t≠127->Row Wt.drew g t cs->Row w9 g t cs:=fun g t cs ht hr=>by
       have q:=Jn J.out hg hr ht;exact q.grown d3 fun e=>DL q3 q (by injection e)
      have r8d:=r8.out.drew;have q8:=Jn J.out hg r8d (by decide);have q9:=g5 _ _ _ (by decide) r8d;have b4:=c4.put (w9:=w9) (y:=⟨(i:Int),tl,yA,yc⟩) p4.out J.out a2.out hg ho hl ⟨j2.out.1.ext Y.out.drew,j2.out.2⟩ (fun L1 n5 x7=>by
       obtain rfl:=q3.same n5;exact⟨L',r5,p5,d3⟩)
      have e2:=b4;show ∃_,_;rw[show (PoC.po ⟨(i:Int),tl,yA,yc⟩)=((i:Int),tl)from rfl,<-y1.out]at e2;refine⟨w9,I,⟨q8.cell 0 rfl,q8.cell 1 rfl⟩,⟨q9.cell 0 rfl,q9.cell 1 rfl⟩,⟨_,e2⟩,?_,fun g t cs ht hr=>g5 g t cs ht ((o2.out g t cs ht hr).ext Y.out.drew)⟩
      ·exact(CX J.out hg (y0.out.trans Y.out.drew) (by rw[hM.out];exact Nat.le_refl _)).grown d3 fun k hk=>by
        injection hk with hk;rw[<-hk,hM.out];exact Nat.le_refl _
     replace f3:=Aa f3
     go_region_held3 (fun x=>x.cell? ⟨g8,0,none⟩=some (.string ⟨ys.toArray⟩)/\x.cell? ⟨g8,1,none⟩=some (.slice yA tl.length yc)) (first | exact m3.out | exact t3.out | exact q6 | exact p6) (first | (refine OG (us:= [.int .i64 (i:Int),.slice yA tl.length yc]) (m:=1) Pc rfl J.out rfl (.tmp 33) (.tmp 38) rfl rfl rfl rfl (by simp[Value.oneCell']) (by omega) x5 (fun A9 c9 w8 d6 l4 b6=>?_);obtain⟨w9,d7,q6,p6,c0,f5,l5⟩:=f3.out w8 A9 c9 l4 d6 b6))
     all_goals (go_wp2_with fail)
     all_goals (obtain⟨E9,c0⟩:=c0;exact⟨⟨j+1,E9,by first | rfl | (congr 1;omega),by omega,Aa c0,Aa f5,Aa l5⟩,by simp only[intOf];omega⟩)
    ·have g6:(T.map fun p=>(p.1,((i:Int),p.2))).take j=T.map fun p=>(p.1,((i:Int),p.2)):=List.take_of_length_le (by rw[List.length_map,<-h0.out];omega);rw[g6,<-m1.out]at l1;go_wp2_with fail;exact⟨⟨i+1,E',by first | rfl | (congr 1;omega),by omega,l1,y0⟩,by simp only[intOf];omega⟩
  ·have o0:ds.take i=ds:=List.take_of_length_le (by rw[<-hm.out];omega);rw[o0]at hI;obtain⟨wo,i6⟩:=Ab wr;subst i6;have d:rowsD (dcs ds)=grp (pairsD 0 (dcs ds)):=rfl;obtain⟨PS,k3⟩:=Ab (pairsD 0 (dcs ds));rw[<-k3]at hI d hT;obtain⟨R,hR⟩:=Ab (rowsD (dcs ds));rw[<-hR]at d;obtain⟨L,hL,Z⟩:=hI.out.map;obtain⟨ob,k0,d0⟩:=hL.range underlying54;have i1:Ext wo (wo.alloc ob):=(Ext.refl wo).alloc ob;obtain⟨rb,G⟩:=Ab wo.heap.size;have l2:rb+1<=(wo.alloc ob).heap.size:=by rw[G];simp
   have q7:M<rb:=by rw[G];exact hL.lt
   rw[<-G]at k0 d0;replace Z:=Aa Z;replace G:=Aa G;replace k3:=Aa k3;replace hR:=Aa hR;replace d:=Aa d;obtain⟨Wq,z3⟩:=Ab (wo.alloc ob);rw[<-z3]at k0 d0 i1 l2;replace d0:=Aa d0;replace i1:=Aa i1;replace z3:=Aa z3;replace hL:=Aa hL;go_wp2_with fail
   go_loopw [9] (fun s9 wr=>∃(D:List IdE) (n:Nat) (A:Option Addr) (c:Nat),s9 = .slice A n c/\Hid (n=D.length)/\Hid (wr.ownsRow (rb+1) 9 1 (.slice A n c) n (D.map fun e=>strV e.s))/\Hid (RangeL prog 9 wr M rb L (D.map fun e=>strV e.s))/\Hid (∀e∈D,e∈E)/\rb+1<=wr.heap.size/\Hid (Ext wo wr)) (fun _ wr=>wr.rangeLeft M rb)
   case atStart=>exact⟨[],0,none,0,rfl,Aa rfl,Aa (World.ownsRow_nil _ _ _ _),d0,Aa (by simp),l2,i1⟩
   case round =>
    obtain⟨D,n,A,c,rfl,p1,hO,d4,hD,e6,z4⟩:=hrel;have j0:(D.map (·.s)).Nodup:=by
     have:=d4.out.dn;have h2:(D.map fun e=>strV e.s)=(D.map (·.s)).map strV:=by rw[List.map_map];rfl
     rw[h2]at this;exact HY strV this
    have q0:D.length<=1000000:=by
     have h1:=K2 (D.map (·.s)) (PS.map (·.1)) j0 fun t ht=>by
      obtain⟨e,he,rfl⟩:=List.mem_map.1 ht;have U:=hI.out.own e (hD.out e he);have h4:valsOf PS e.s ≠ []:=by rw[<-U.2.1];unfold psP;simpa using U.2.2
      obtain⟨q,hq,t0⟩:=Fv h4;exact List.mem_map.2 ⟨q,hq,t0⟩
     rw[List.length_map,List.length_map]at h1;have:=hT.out;omega
    replace q0:=Aa q0;rcases d4.out.next 0 with ⟨I,o0⟩ | ⟨x,v,w2,l6,e7,I,j3,i4,r3,i2,e3⟩
    ·have p0:Buf wr (rb+1) 9 A n c ((D.map (·.s)).map strV):=by
      rw[List.map_map];exact Buf.of_own hO.out
     have z7:n<=1000000:=by rw[p1.out];exact q0.out
     have m2:sortK (D.map (·.s))=R.map (·.1):=by
      have H:=BM PS;rw[<-d.out]at H;refine P9 ?_ (by rw[List.pairwise_map];exact H.up);refine(List.perm_ext_iff_of_nodup j0 ?_).2 fun t=>?_
      ·rw[List.nodup_iff_pairwise_ne,List.pairwise_map];exact H.up.imp fun h e=>by rw[e]at h;exact List.lt_irrefl _ h
      ·constructor
       ·intro ht;obtain⟨e,he,rfl⟩:=List.mem_map.1 ht;have U:=hI.out.own e (hD.out e he);exact List.mem_map.2 ⟨(e.s,psP e.ps),(H.mem _).2 ⟨U.2.1,by unfold psP;simpa using U.2.2⟩,rfl⟩
       ·intro ht;obtain⟨r,hr,rfl⟩:=List.mem_map.1 ht;have U:=(H.mem r).1 hr;have h4:valsOf PS r.1 ≠ []:=by rw[<-U.1];exact U.2
        obtain⟨q,hq,t0⟩:=Fv h4;obtain⟨y,hy,d2⟩:=hI.out.all q hq;have h5:=o0 _ ((Z.out _).2 ⟨y,hy,rfl⟩);obtain⟨e,he,v6⟩:=List.mem_map.1 h5;exact List.mem_map.2 ⟨e,he,by rw[HG v6,d2,t0]⟩
     replace m2:=Aa m2;have hs:=OE (rb+1) A n c (D.map (·.s)) wr (by rw[List.length_map];exact p1.out) p0 (by omega);have i3:n=R.length:=by
      have h1:=congrArg List.length m2.out;rw[List.length_map,(Hv _).length_eq,List.length_map]at h1;rw[p1.out,h1]
     replace i3:=Aa i3;have m6:=p0.base_le;replace hs:=Aa hs;replace p0:=Aa p0;replace j0:=Aa j0;go_wp2_with fail;refine hs.out.mono ?_;rintro e w3 ⟨rfl,a3,f4⟩;have O:Ext wo w3:=z4.out.chg f4 (by
      rintro i hi ⟨a,ha,hk⟩;have:=m6 a ha;have:=G.out;omega)
     replace O:=Aa O;replace a3:=Aa a3;clear f4;go_wp2_with fail;go_ret2;rw[<-hR.out];refine⟨A,n,c,M,rfl,i3.out,?_,⟨L,hL.out.ext O.out,fun r hr=>?_⟩,hE.out.trans O.out⟩
     ·have h1:(R.map fun r=>strV r.1)=(sortK (D.map (·.s))).map strV:=by rw[m2.out,List.map_map];rfl
      rw[h1];exact a3.out.lower (by have:=hM.out;omega)
     ·have H:=BM PS;rw[<-d.out]at H;have U:=(H.mem r).1 hr;have h4:valsOf PS r.1 ≠ []:=by rw[<-U.1];exact U.2
      obtain⟨q,hq,t0⟩:=Fv h4;obtain⟨y,hy,d2⟩:=hI.out.all q hq;have h5:=hI.out.own y hy;have h6:=BN h5.1;refine⟨y.ps,y.A,y.c,(Z.out _).2 ⟨y,hy,by rw[d2,t0];rfl⟩,by rw[h5.2.1,d2,t0,<-U.1],⟨Cells.of_own (O.out.owns h5.1),fun z hz=>?_⟩,h6.2,h6.1⟩;have h7:=hI.out.pos y hy z hz;exact⟨(h7.1.ext O.out).cells,h7.2⟩
    ·obtain⟨e0,t6,z6⟩:=(Z.out _).1 l6;injection z6 with hx1 hv1;subst hx1;subst hv1;have y0:Ext wo w2:=z4.out.grown i4 (fun k hk=>by injection hk with hk;rw[<-hk,G.out];exact Nat.le_refl _);have t5:rb+1<=w2.heap.size:=by rw[r3];exact e6
     have p3:w2.ownsRow (rb+1) 9 1 (.slice A n c) n (D.map fun e=>strV e.s):=by
      refine(Chg.of_grown (S:=fun k=>k=rb) i4 (fun k _ hk=>by injection hk with hk;exact hk.symm)).owns hO.out ?_;rintro g hg m7;obtain⟨cur,_,h9⟩:=Ae hO.out hg;omega
     have a7:n+1<=1000001:=by rw[p1.out];have:=q0.out;omega
     have m0:(Value.slice A n c).ownBlock≠some M/\(Value.slice A n c).ownBlock≠some rb:=by
      constructor
      ·intro hg;obtain⟨cur,_,h9⟩:=Ae hO.out hg;omega
      ·intro hg;obtain⟨cur,_,h9⟩:=Ae hO.out hg;omega
     have H:∀k,(Value.slice A n c).ownBlock=some k->wo.heap.size<=k:=by
      intro k hg;obtain⟨cur,_,h9⟩:=Ae hO.out hg;have:=G.out;omega
     replace m0:=Aa m0;replace H:=Aa H;replace r3:=Aa r3;replace j0:=Aa j0;replace p3:=Aa p3;have m5:strV e0.s = .string ⟨e0.s.toArray⟩:=rfl;have b3:=i2;have o3:=I;rw[m5]at b3 o3;clear i2 I;go_wp2_with (at_builtin;refine La (us:= [.string ⟨e0.s.toArray⟩]) ER p3.out (.tmp 48) (.tmp 50) rfl rfl rfl rfl (by simp[Value.oneCell']) (by simp;omega) (by omega) (fun A3 c3 w3 c6 q1 r4=>?_));have O:Ext wo w3:=y0.grown q1 H.out;have w5:RangeL prog 9 w3 M rb L ((D ++ [e0]).map fun e=>strV e.s):=by
      rw[List.map_append,List.map_cons,List.map_nil];exact j3.grown q1 m0.out.1 m0.out.2
     have q5:w3.ownsRow (rb+1) 9 1 (.slice A3 (n+1) c3) (n+1) ((D ++ [e0]).map fun e=>strV e.s):=by
      rw[List.map_append,List.map_cons,List.map_nil];exact c6
     have v5:rb+1<=w3.heap.size:=Nat.le_trans t5 q1.size;have w4:w3.rangeLeft M rb<wr.rangeLeft M rb:=by
      have h1:w3.heap[M]? = w2.heap[M]? :=q1.block M j3.map.lt (fun e=>m0.out.1 e.symm);have h2:w3.heap[rb]? = w2.heap[rb]? :=q1.block _ j3.lt (fun e=>m0.out.2 e.symm);have U:w3.rangeLeft M rb=w2.rangeLeft M rb:=by unfold World.rangeLeft;rw[h1,h2]
      rw[U];exact e3
     go_roundw
     case rel=>exact⟨D ++ [e0],n+1,A3,c3,rfl,Aa (by rw[List.length_append];simp;exact p1.out),q5,w5,Aa (fun e he=>by
      rcases List.mem_append.1 he with he | he
      ·exact hD.out e he
      ·simp at he;subst he;exact t6),v5,Aa O⟩
     case measure=>exact w4
end
section
open Go.RowKit
section
variable {β:Type}
def gsum (f:β->Nat) (r:List (List UInt8×List β)):Nat:=(r.map fun x=>(x.2.map f).sum).sum
theorem Ki (f:β->Nat) (p:List UInt8×β):∀(l:List (List UInt8×List β)),gsum f (addG p l)=gsum f l+f p.2
 | []=>by simp[addG,gsum]
 | x::xs=>by
  have ih:=Ki f p xs;unfold gsum at ih ⊢;unfold addG;split
  ·simp only[List.map_cons,List.sum_cons];omega
  ·split
   ·simp only[List.map_cons,List.sum_cons,List.map_append,List.sum_append,List.map_nil,List.sum_nil];omega
   ·simp only[List.map_cons,List.sum_cons,List.map_nil,List.sum_nil];omega
theorem IC (f:β->Nat):∀(ps:List (List UInt8×β)) (l:List (List UInt8×List β)),gsum f (ps.foldl (fun l p=>addG p l) l)=gsum f l+(ps.map fun p=>f p.2).sum
 | [],l=>by simp
 | p::ps,l=>by
  rw[List.foldl_cons,IC f ps,Ki,List.map_cons,List.sum_cons];omega
theorem EZ (f:β->Nat) (ps:List (List UInt8×β)):gsum f (grp ps)=(ps.map fun p=>f p.2).sum:=by
 unfold grp;rw[IC];simp[gsum]
theorem GR (r:List (List UInt8×List β)):gsum (fun _=>1) r=(r.map fun x=>x.2.length).sum:=by
 unfold gsum;congr 1;refine List.map_congr_left fun x _=>?_
 induction x.2 with
 | nil=>rfl
 | cons y ys ih=>rw[List.map_cons,List.sum_cons,ih,List.length_cons];omega
theorem JE (ps:List β):(ps.map fun _=>1).sum=ps.length:=by
 induction ps with
 | nil=>rfl
 | cons y ys ih=>rw[List.map_cons,List.sum_cons,ih,List.length_cons];omega
end
theorem Hf:∀(fs:List Fd) (b:Nat),(rawT b fs).length<=(putFs fs).length
 | [],b=>by simp[rawT]
 | f::fs,b=>by
  have h1:=Hf fs (nextT b f);have h2:=CK f.2;have d:f.2.length<=(putF f).length:=by unfold putF txL;simp only[List.length_append];omega
  have h:putFs (f::fs)=putF f++putFs fs:=rfl;unfold rawT;rw[h,List.length_append,CB,List.length_append];omega
theorem MF (e:Ev):((termsL e).map fun p=>p.2.length).sum<=(putE e).length:=by
 unfold termsL;split
 ·have h1:=EZ (fun _=>1) (rawT 0 e.fs);rw[GR,JE]at h1;rw[h1];have h2:=Hf e.fs 0;unfold putE;simp only[List.length_append];omega
 ·simp
theorem K3 (e:Ev):(termsL e).length<=(putE e).length:=by
 unfold termsL;split
 ·have h1:=EX (rawT 0 e.fs);have h2:=Hf e.fs 0;unfold putE;simp only[List.length_append];omega
 ·simp
theorem G6:∀(P:List Dc) (i:Nat) (lo:Int),((pairsD i P).map fun p=>p.2.2.length).sum<=(blockD lo P).length
 | [],i,lo=>by simp[pairsD]
 | d::t,i,lo=>by
  have h1:=G6 t (i+1) d.1;have h2:=MF d.2;unfold pairsD blockD oneD;rw[List.map_append,List.sum_append,List.map_map];simp only[List.length_append];have h:(((termsL d.2).map ((fun(p:List UInt8×Po)=>p.2.2.length)∘fun p=>(p.1,((i:Int),p.2))))).sum=((termsL d.2).map fun p=>p.2.length).sum:=rfl;omega
theorem G4:∀(P:List Dc) (i:Nat) (lo:Int),(pairsD i P).length<=(blockD lo P).length
 | [],i,lo=>by simp[pairsD]
 | d::t,i,lo=>by
  have h1:=G4 t (i+1) d.1;have h2:=K3 d.2;unfold pairsD blockD oneD;rw[List.length_append,List.length_map];simp only[List.length_append];omega
theorem Nc {n:Int}:∀ {l:List Int} {lo:Int},l.Pairwise (fun a b=>a<b)->(∀x∈l,lo<x/\x<n)->risB n lo l=true
 | [],lo,_,_=>rfl
 | x::t,lo,Y,h=>by
  obtain⟨h1,h2⟩:=List.pairwise_cons.1 Y;have d:=h x (List.mem_cons_self ..);unfold risB;rw[Nc h2 fun y H=>⟨h1 y H,(h y (List.mem_cons_of_mem _ H)).2⟩];simp[d.1,d.2]
theorem Nb:∀(fs:List Fd) (b:Nat),(rawT b fs).Pairwise (fun x y=>x.2<y.2)/\∀x∈rawT b fs,(b:Int)<=x.2/\x.2<(baseT b fs:Nat)
 | [],b=>⟨List.Pairwise.nil,nofun⟩
 | f::fs,b=>by
  obtain⟨h1,h2⟩:=Nb fs (nextT b f);have Y:nextT b f<=baseT (nextT b f) fs:=by
   have key:∀(fs:List Fd) (b:Nat),b<=baseT b fs:=fun fs=>by
    induction fs with
    | nil=>exact fun b=>Nat.le_refl _
    | cons g gs ih=>exact fun b=>Nat.le_trans (by unfold nextT;omega) (ih (nextT b g))
   exact key _ _
  have U:nextT b f=b+(64+(tokL f.2).length):=rfl;have d:∀x∈fieldT b f,(b:Int)<=x.2/\x.2<(b+(tokL f.2).length:Nat):=fun x h=>by
   unfold fieldT at h;obtain⟨p,O,rfl⟩:=List.mem_map.1 h;have:=List.mem_zipIdx O;simp only;omega
  have H:(fieldT b f).Pairwise (fun x y=>x.2<y.2):=by
   unfold fieldT;rw[List.pairwise_map];rw[List.pairwise_iff_getElem];intro i j hi G J;simp only[List.getElem_zipIdx];omega
  unfold rawT baseT;refine⟨List.pairwise_append.2 ⟨H,h1,fun x h y Z=>?_⟩,fun x h=>?_⟩
  ·have a1:=d x h;have a2:=h2 y Z;omega
  ·rcases List.mem_append.1 h with h | h
   ·have a1:=d x h;omega
   ·have a2:=h2 x h;omega
theorem ME {e:Ev} {p:List UInt8×List Int} (h:p∈termsL e):risB 1048576 (-1) p.2=true:=by
 obtain⟨d,h1,h2⟩:=Dw h;obtain⟨r1,r2⟩:=Nb e.fs 0;have hb:=EN (k:=4096) e.fs 0 fun f H=>((AM d).2 f H).2;have U:=(AM d).1;rw[h1];unfold valsOf;refine Nc ?_ fun x J=>?_
 ·rw[List.pairwise_map];exact r1.sublist List.filter_sublist
 ·obtain⟨q,Y,rfl⟩:=List.mem_map.1 J;have:=r2 q (List.mem_filter.1 Y).1;omega
theorem KD {β:Type} {s:List UInt8}:∀ {l:List (List UInt8×β)},Ris l->(valsOf l s).length<=1
 | [],_=>by simp[valsOf]
 | x::t,h=>by
  obtain⟨h1,h2⟩:=List.pairwise_cons.1 h;have ih:=KD (s:=s) h2;rw[K7];split
  ·rename_i d;rw[Df fun y H e=>by
    have:=h1 y H;rw[e,d]at this;exact List.lt_irrefl _ this]
   simp
  ·simpa using ih
theorem ED (s:List UInt8):∀(P:List Dc) (i:Nat) (lo:Int),lo<i->i+P.length<=65536 ->
 risB 65536 lo ((valsOf (pairsD i P) s).map (·.1))=true/\∀x∈valsOf (pairsD i P) s,(decide (0<x.2.length)&&risB 1048576 (-1) x.2)=true
 | [],i,lo,_,_=>⟨rfl,nofun⟩
 | d::t,i,lo,h1,h2=>by
  rw[List.length_cons]at h2;unfold pairsD;rw[AK,EJ (fun x:List Int=>((i:Int),x))];have Z:Ris (termsL d.2):=by
   unfold termsL;split
   ·exact(BM _).up
   ·exact List.Pairwise.nil
  have H:=KD (s:=s) Z;have h:∀x∈valsOf (termsL d.2) s,(decide (0<x.length)&&risB 1048576 (-1) x)=true:=fun x O=>by
   unfold valsOf at O;obtain⟨p,Y,rfl⟩:=List.mem_map.1 O;have Y:=(List.mem_filter.1 Y).1;rw[ME Y,Bool.and_true];exact decide_eq_true (List.length_pos_iff.2 (Dw Y).2.2)
  cases G:valsOf (termsL d.2) s with
  | nil =>
   have ih:=ED s t (i+1) lo (by omega) (by omega);simpa using ih
  | cons x xs =>
   rw[G]at H h;have J:xs = []:=by
    cases xs with
    | nil=>rfl
    | cons y ys=>simp at H
   subst J;have ih:=ED s t (i+1) i (by omega) (by omega);refine⟨?_,fun y U=>?_⟩
   ·show risB 65536 lo ((i:Int)::(valsOf (pairsD (i+1) t) s).map (·.1))=true;unfold risB;rw[ih.1];simp[h1];omega
   ·rcases List.mem_cons.1 U with rfl | U
    ·exact h x (List.mem_cons_self ..)
    ·exact ih.2 y U
theorem Q5 {P:List Dc} (Y:P.length<=65536) {r:List UInt8×List Po} (H:r∈rowsD P):okPs r.2=true/\r.2 ≠ []/\r.2=valsOf (pairsD 0 P) r.1:=by
 have h:=((BM (pairsD 0 P)).mem r).1 H;have d:=ED r.1 P 0 (-1) (by omega) (by omega);rw[<-h.1]at d;refine⟨?_,h.2,h.1⟩;unfold okPs;rw[d.1,Bool.true_and];exact List.all_eq_true.2 d.2
theorem G5:∀ {P:List Dc} {i:Nat} {q:List UInt8×Po},q∈pairsD i P->∃d∈P,∃p∈termsL d.2,p.1=q.1
 | [],i,q,h=>by cases h
 | d::t,i,q,h=>by
  unfold pairsD at h;rcases List.mem_append.1 h with h | h
  ·obtain⟨p,H,rfl⟩:=List.mem_map.1 h;exact⟨d,List.mem_cons_self ..,p,H,rfl⟩
  ·obtain⟨d',hd,r⟩:=G5 h;exact⟨d',List.mem_cons_of_mem _ hd,r⟩
theorem DW {P:List Dc} {r:List UInt8×List Po} (O:r∈rowsD P):1<=r.1.length/\r.1.length<=65:=by
 have h:=((BM (pairsD 0 P)).mem r).1 O;have h2:=h.2;rw[h.1]at h2;obtain⟨q,U,Y⟩:=Fv h2;obtain⟨d,_,p,J,H⟩:=G5 U;have:=EH J;rw[H,Y]at this;exact this
theorem Jx (P:List Dc):Ris (rowsD P):=(BM (pairsD 0 P)).up
theorem Ja:∀(l:List Int) (lo:Int),-1<=lo->risB 1048576 lo l=true->(stepsL lo l).length<=10*l.length
 | [],lo,_,_=>by simp[stepsL]
 | n::t,lo,H,h=>by
  obtain⟨h1,h2,d⟩:=BW h;have ih:=Ja t n (by omega) d;have Y:=Ag (n:=(n - lo - 1).toNat) (by omega);unfold stepsL;rw[List.length_append,List.length_cons];omega
theorem Gz:∀(L:List Po) (lo:Int),-1<=lo->risB 65536 lo (L.map (·.1))=true->(∀x∈L,(decide (0<x.2.length)&&risB 1048576 (-1) x.2)=true)->(blockPo lo L).length<=20*L.length+10*(L.map fun x=>x.2.length).sum
 | [],lo,_,_,_=>by simp[blockPo]
 | p::t,lo,Z,h,H=>by
  rw[List.map_cons]at h;obtain⟨h1,h2,Y⟩:=BW h;have d:=H p (List.mem_cons_self ..);rw[Bool.and_eq_true]at d;have ih:=Gz t p.1 (by omega) Y fun x O=>H x (List.mem_cons_of_mem _ O);have hs:=Ja p.2 (-1) (by omega) d.2;have G:=DU d.2 (by omega);have J:=Ag (n:=(p.1 - lo - 1).toNat) (by omega);have U:=Ag (n:=p.2.length) (by omega);unfold blockPo onePo;simp only[List.length_append,List.length_cons,List.map_cons,List.sum_cons];omega
theorem GA {L:List Po} (h:okPs L=true):(blockPo (-1) L).length<=20*L.length+10*(L.map fun x=>x.2.length).sum:=by
 unfold okPs at h;rw[Bool.and_eq_true]at h;exact Gz L (-1) (by omega) h.1 (List.all_eq_true.1 h.2)
theorem J7 {L:List Po} (h:okPs L=true) (hs:20*L.length+10*(L.map fun x=>x.2.length).sum<=50000000):(encPs L).length<=10+40*L.length+10*(L.map fun x=>x.2.length).sum:=by
 have h1:=GA h;have h2:=E8 h (by omega) (chunkL 32 L).length;rw[List.take_length]at h2;have d:=AO (k:=32) (by omega) L;have H:=Ag (n:=L.length) (by omega);unfold encPs;simp only[List.length_append];omega
end
section
open Go.RowKit
theorem F5 {α:Type} {f g:α->Nat}:∀(l:List α),(∀x∈l,f x<=g x)->(l.map f).sum<=(l.map g).sum
 | [],_=>Nat.le_refl _
 | x::t,h=>by
  have h1:=h x (List.mem_cons_self ..);have h2:=F5 t fun y d=>h y (List.mem_cons_of_mem _ d);simp only[List.map_cons,List.sum_cons];omega
theorem Dq {α:Type} {f:α->Nat}:∀ {l:List α} {x:α},x∈l->f x<=(l.map f).sum
 | y::t,x,h=>by
  rw[List.map_cons,List.sum_cons];rcases List.mem_cons.1 h with rfl | h
  ·omega
  ·have:=Dq (f:=f) h;omega
theorem Nh {α:Type} (f g:α->Nat) (a b c:Nat):∀(l:List α),(l.map fun x=>a+b*f x+c*g x).sum=a*l.length+b*(l.map f).sum+c*(l.map g).sum
 | []=>by simp
 | x::t=>by
  have ih:=Nh f g a b c t;simp only[List.map_cons,List.sum_cons,List.length_cons,Nat.mul_add];omega
theorem N5 (rs:List (List UInt8×List Po)):(postB rs).length=(rs.map fun r=>(encPs r.2).length).sum:=by
 unfold postB
 induction rs with
 | nil=>rfl
 | cons r t ih=>rw[List.flatMap_cons,List.length_append,ih,List.map_cons,List.sum_cons]
theorem Cc:∀(rs:List (List UInt8×List Po)) (o:Nat),(enOf o rs).length=rs.length
 | [],o=>rfl
 | r::t,o=>by
  unfold enOf;rw[List.length_cons,Cc t,List.length_cons]
theorem GH:∀(rs:List (List UInt8×List Po)) (o:Nat) (e:En),e∈enOf o rs->∃r∈rs,e.t=r.1/\o<=e.off/\e.off+e.len<=o+(postB rs).length/\e.len=(encPs r.2).length/\e.n=r.2.length
 | [],o,e,h=>by cases h
 | r::t,o,e,h=>by
  unfold enOf at h;have H:(postB (r::t)).length=(encPs r.2).length+(postB t).length:=by unfold postB;rw[List.flatMap_cons,List.length_append]
  rcases List.mem_cons.1 h with rfl | h
  ·exact⟨r,List.mem_cons_self ..,rfl,Nat.le_refl _,by simp only[H];omega,rfl,rfl⟩
  ·obtain⟨r',d,h1,h2,U,Y,J⟩:=GH t _ e h;exact⟨r',List.mem_cons_of_mem _ d,h1,by omega,by rw[H];omega,Y,J⟩
theorem MU:∀(rs:List (List UInt8×List Po)) (o:Nat),Ris rs->(enOf o rs).Pairwise fun a b=>a.t<b.t
 | [],o,_=>List.Pairwise.nil
 | r::t,o,h=>by
  obtain⟨h1,h2⟩:=List.pairwise_cons.1 h;unfold enOf;refine List.pairwise_cons.2 ⟨fun e Y=>?_,MU t _ h2⟩;obtain⟨r',d,H,_⟩:=GH t _ e Y;rw[H];exact h1 r' d
structure SmP (P:List Dc):Prop where
  ok:okDs P=true
  sz:(blockD 0 P).length<=70000
structure SegB (P:List Dc):Prop where
  n:P.length<=65536
  pairs:(pairsD 0 P).length<=70000
  rows:(rowsD P).length<=70000
  each:∀r∈rowsD P,okPs r.2=true/\r.2 ≠ []/\r.2.length<=70000/\(blockPo (-1) r.2).length<=50000000/\(encPs r.2).length<=5000000
  posts:(postB (rowsD P)).length<=5000000
  ens:OkEs (enOf 0 (rowsD P))
  dic:(encEs (enOf 0 (rowsD P))).length<=16777216
  docs:(encDs P).length<=16777216
  times:(timesD 0 P).length<=16777216
  bits:8<=(ofB ((rowsD P).map (·.1))).length/\(ofB ((rowsD P).map (·.1))).length<=131072
theorem SmP.seg {P:List Dc} (h:SmP P):SegB P:=by
 have H:=h.ok;have t0:=h.sz;have hn:P.length<=65536:=by
  unfold okDs at H;rw[Bool.and_eq_true]at H;exact of_decide_eq_true H.1
 have k0:=G4 P 0 0;have j0:=G6 P 0 0;have m0:(rowsD P).length<=(pairsD 0 P).length:=EX _;have U:=EZ (fun _=>1) (pairsD 0 P);rw[GR,JE]at U;have O:=EZ (fun x:Po=>x.2.length) (pairsD 0 P);unfold gsum at O;have h0:grp (pairsD 0 P)=rowsD P:=rfl;rw[h0]at U O;have J:∀r∈rowsD P,okPs r.2=true/\r.2 ≠ []/\r.2.length<=70000/\(r.2.map fun x=>x.2.length).sum<=70000:=fun r d=>by
  have h1:=Q5 hn d;have h2:=Dq (f:=fun x:List UInt8×List Po=>x.2.length) d;have Z:=Dq (f:=fun x:List UInt8×List Po=>(x.2.map fun(y:Po)=>y.2.length).sum) d;exact⟨h1.1,h1.2.1,by omega,by omega⟩
 have I:(postB (rowsD P)).length<=5000000:=by
  rw[N5];refine Nat.le_trans (F5 (g:=fun r:List UInt8×List Po=>10+40*r.2.length+10*(r.2.map fun(x:Po)=>x.2.length).sum) _ fun r d=>?_) ?_
  ·have:=J r d;exact J7 this.1 (by omega)
  ·rw[Nh (fun r:List UInt8×List Po=>r.2.length) (fun r:List UInt8×List Po=>(r.2.map fun(x:Po)=>x.2.length).sum)];omega
 have Y:∀e∈enOf 0 (rowsD P),okEn e/\e.t ≠ []:=fun e G=>by
  obtain⟨r,d,h1,h2,Z,h4,h5⟩:=GH _ _ e G;have hk:=DW d;have g0:=J r d;refine⟨⟨by rw[h1];exact hk.2,by omega,by omega,by omega⟩,fun e0=>?_⟩;rw[h1]at e0;rw[e0]at hk;simp at hk
 refine⟨hn,by omega,by omega,fun r d=>?_,I,⟨by rw[Cc];omega,Y,MU _ _ (Jx P)⟩,?_,?_,?_,?_⟩
 ·have h1:=J r d;have h2:=GA h1.1;have Z:=J7 h1.1 (by omega);exact⟨h1.1,h1.2.1,h1.2.2.1,by omega,by omega⟩
 ·have h1:=EE (cs:=chunkL 16 (enOf 0 (rowsD P))) fun c hc=>⟨fun e G=>(Y e (GB (by omega) hc e G)).1,(Fz (by omega) hc).2⟩
  have h2:=AO (k:=16) (by omega) (enOf 0 (rowsD P));rw[Cc]at h2;have Z:=Ag (n:=(enOf 0 (rowsD P)).length) (by rw[Cc];omega);unfold encEs;rw[List.length_append];omega
 ·have h1:=Gy H (by omega) (chunkL 16 P).length;rw[List.take_length]at h1;have h2:=AO (k:=16) (by omega) P;have Z:=Ag (n:=P.length) (by omega);unfold encDs;simp only[List.length_append];omega
 ·have:=Dx P 0;omega
 ·rw[QW];exact EU _
end
section
open Go.RowKit
attribute [local go_sem] Oper.semAt_some AP
theorem Lo (A:Option Addr) (n c k:Nat) (w:World) (hk:1<=k) (h:k<=1000000) :
 Calls prog 214 #[.slice A n c,.int .i64 (k:Int)] w fun e w'=>∃b1 b2,e = .returned (.func (.func 258) #[] #[.pointer (some ⟨b1,0,none⟩),.pointer (some ⟨b2,0,none⟩)])/\Row w' b1 31 #[.slice A n c]/\Row w' b2 3 #[.int .i64 (k:Int)]/\w.heap.size<=b1/\w.heap.size<=b2/\b1<b2/\Ext w w':=by
 go_in
 go_wp2_with fail;go_ret;have h1:=Row.new w 31 #[.slice A n c];have h2:=Row.new (w.alloc (.cells #[.slice A n c] 31)) 3 #[.int .i64 (k:Int)];rw[World.size_alloc]at h2;exact⟨w.heap.size,w.heap.size+1,rfl,h1.alloc _,h2,Nat.le_refl _,by omega,by omega,((Ext.refl w).alloc _).alloc _⟩
theorem KQ (d:z=(i:Int)) (hi:i<=n):∃A' c',∀W:World,(Instr.sliceAt 31 (.slice A n c) (some (.int .i64 z)) none none).run prog W = .ok (.slice A' (n - i) c') W:=by
 subst d;have ht:=underlying31;have h:prog.elem 31=109:=by unfold Program.elem;rw[ht]
 have hs:∀W:World,(sizeOf 109).run prog W = .ok 3 W:=fun W=>by kernel_rfl
 refine⟨if c=i then A else A.map fun a=>a.add (i*3),c - i,fun W=>?_⟩;rw[run_sliceAt_slice W _ _ _ _ _ (by rw[ht,h]),run_slice_l W _ A n c (by rw[ht,h]) .i64 i (by omega) (by omega),h,hs];simp only[Result.andThen_ok,sliced];rfl
theorem KR (Y:z=(i:Int)) (d:z1=((i+j:Nat):Int)) (H:z2=((i+j:Nat):Int)) (hi:i+j<=c) (J:0<j) (W:World) :
 (Instr.sliceAt 31 (.slice A n c) (some (.int .i64 z)) (some (.int .i64 z1)) (some (.int .i64 z2))).run prog W = .ok (.slice (A.map fun a=>a.add (i*3)) j j) W:=by
 subst Y d H;have ht:=underlying31;have h:prog.elem 31=109:=by unfold Program.elem;rw[ht]
 have hs:(sizeOf 109).run prog W = .ok 3 W:=by kernel_rfl
 rw[run_sliceAt_slice W _ _ _ _ _ (by rw[ht,h]),run_slice_lhm W _ A n c (by rw[ht,h]) .i64 .i64 .i64 i ((i+j:Nat):Int) ((i+j:Nat):Int) (by omega) (by omega) (by omega) (by omega),h,hs];simp only[Result.andThen_ok];congr 1;unfold sliced;rw[if_neg (by omega),show ((i+j:Nat):Int).toNat - (i:Int).toNat=j by omega];rfl
def chunkVB (A:Option Addr) (n k i:Nat):Value:= .slice (A.map fun a=>a.add (i*k*3)) (min k (n - i*k)) (min k (n - i*k))
def ChIterB (A:Option Addr) (n k b1 b2:Nat) (w:World):Prop :=
 Iter prog 258 #[.pointer (some ⟨b1,0,none⟩),.pointer (some ⟨b2,0,none⟩)] (fun i:Nat=>#[chunkVB A n k i]) Ext (fun pre i _=>i=pre.length/\i*k<n) (KeepB b1 b2) (fun xs W W'=>n<=xs.length*k/\xs=List.range xs.length/\(∀i∈xs,i*k<n)/\Ext W W') w
theorem JU (A:Option Addr) (n c k b1 b2:Nat) (w:World) (H:Row w b1 31 #[.slice A n c]) (Y:Row w b2 3 #[.int .i64 (k:Int)]) (hk:1<=k) (n0:k<=1000000) (hn:n<=1000000000) (hc:n<=c):ChIterB A n k b1 b2 w:=by
 intro l J W hE U hY h0;replace H:=H.ext hE;replace Y:=Y.ext hE;clear hE;replace H:=Aa H;replace Y:=Aa Y;replace hY:=Aa hY;replace U:=Aa U;replace h0:=Aa h0;refine(callsIn_wide (n:=0)).1 ?_;refine callsIn_of_wp func258 rfl trivial ?_;simp only[ntmps258,List.size_toArray,List.length_cons,List.length_nil,Nat.reduceAdd,Nat.reduceSub,Array.replicate_succ,Array.replicate_zero,List.push_toArray,List.append_toArray,List.nil_append,List.cons_append];gi_wp2_with fail
 gi_loopw [4] (fun s4 wr=>∃(i q:Nat) (pre:List Nat),s4 = .int .i64 (q:Int)/\Hid (q=i*k)/\q<=n+k/\Hid (pre.length=i)/\Hid (pre=List.range i)/\Hid (∀j∈pre,j*k<n)/\Hid (J pre wr)/\Hid (Row wr b1 31 #[.slice A n c])/\Hid (Row wr b2 3 #[.int .i64 (k:Int)])) (fun s4 _=>n - (intOf s4).toNat)
 case atStart=>exact⟨0,0,[],rfl,Aa (by simp),by omega,Aa rfl,Aa rfl,Aa nofun,h0,H,Y⟩
 case round =>
  obtain⟨i,q,pre,rfl,hq,h1,d,p0,I,hJ,r1,r2⟩:=hrel;have k1:=r1.out.cell 0 rfl;have k2:=r2.out.cell 0 rfl;by_cases G:q<n
  ·obtain⟨m,hm⟩:∃m:Nat,(m:Int)=min (k:Int) ((n - q:Nat):Int):=⟨min k (n - q),by omega⟩
   have b0:0<m:=by omega
   have o0:m<=k:=by omega
   have r0:m<=n - q:=by omega
   have c0:m=k\/m=n - q:=by omega
   have f0:=fun(W:World)=>AQ (P:=prog) #[3,3] 3 hm W;have p1:=fun(W:World)=>KR (A:=A) (n:=n) (c:=c) (i:=q) (j:=m) (z:=(q:Int)) (z1:=(q:Int)+(m:Int)) (z2:=(q:Int)+(m:Int)) rfl (by omega) (by omega) (by omega) b0 W;obtain⟨A',c',q1⟩:=KQ (A:=A) (n:=n) (c:=c) (i:=q) (z:=(q:Int)) rfl (by omega);replace hm:=Aa hm;have g0:=hY.out pre pre.length wr.drew (U.out _ _ _ hJ.out (Ext.refl wr).drew) ⟨rfl,by rw[d.out,<-hq.out];exact G⟩;have O:chunkVB A n k pre.length = .slice (A.map fun a=>a.add (q*3)) m m:=by
    unfold chunkVB;rw[d.out,<-hq.out,show min k (n - q)=m by omega]
   rw[O]at g0;obtain⟨fn,tmps,assign,body,hy,hR⟩:=g0;have q0:Hid (∀j∈pre ++ [pre.length],j*k<n):=Aa fun j hj=>by
    rcases List.mem_append.1 hj with h | h
    ·exact I.out j h
    ·rw[List.mem_singleton.1 h,d.out,<-hq.out];exact G
   have k0:Hid (pre ++ [pre.length]=List.range (i+1)):=Aa (by rw[List.range_succ,d.out,p0.out]);have d0:Hid (q+k=(i+1)*k):=Aa (by rw[Nat.succ_mul,hq.out]);clear O c0 hY U;gi_wp2_with fail;refine wpIn_wide.2 (AE (fun K hK=>?_));go_wp2_with fail;refine⟨by kernel_rfl,?_⟩;gi_wp2_with fail;refine hR.mono ?_;rintro e W3 ⟨rfl,x0,Z⟩;have r13:=Aa (show Row W3 b1 31 #[.slice A n c] from Z.1 _ r1.out);have r23:=Aa (show Row W3 b2 3 #[.int .i64 (k:Int)] from Z.2 _ r2.out);have k23:=r23.out.cell 0 rfl;gi_wp2_with fail;exact⟨⟨i+1,q+k,pre ++ [pre.length],by congr 1,d0,by omega,Aa (by rw[List.length_append,d.out];rfl),k0,q0,Aa x0,r13,r23⟩,by simp only[intOf];omega⟩
  ·gi_wp2_with fail
   go_end0
   exact⟨⟨_,rfl⟩,pre,_,hJ.out,by rw[d.out,<-hq.out];omega,by rw[d.out];exact p0.out,I.out,Ext.refl _⟩
end
section
open Go.RowKit
def OnlyN (Q:Exit->Act->World->Prop):Exit->Act->World->Prop
 | .normal,a,w=>Q .normal a w
 | _,_,_=>False
theorem OnlyN.imp (e:Exit) (a:Act) (w:World) (h:OnlyN Q e a w):Q e a w:=by
 cases e <;> first | exact h | exact h.elim
def calmOps (ops:Array Oper):Bool:=ops.all fun o=>match o.op with | .defer _=>false | _=>true
theorem O3 (h:calmOps ops=true) (Y:ops[i]? = some o):∀c,o.op ≠ .defer c:=by
 intro c d;unfold calmOps at h;rw[Array.all_eq_true]at h;obtain⟨hi,H⟩:=Array.getElem?_eq_some_iff.1 Y;have:=h i hi;rw[H,d]at this;cases this
theorem Q4 {row:String} {args:Array Value} {R:Value->World->Prop} (h:Rows P row args w R):RowsIn Fence.wide n P row args w R :=
 fun c cs _=>let ⟨v,w',r,s⟩:=h c cs;⟨v,w',r,stepsIn_wide.2 s⟩
theorem AL {l:Nat} (Y:calmOps ops=true) :
 ∀(fuel:Nat) (listed:Array Bool) (a:Act) (w:World),wpAny P md ops (OnlyN Q) fuel listed a w->wpAnyIn (Fence.wide.inRound l) 0 P md ops (OnlyN Q) fuel listed a w
 | 0,listed,a,w,h=>h
 | fuel+1,listed,a,w,h=>⟨h.1,fun i hi=>by
  have H:=h.2 i hi;unfold wpOp at H;unfold wpOpIn;cases O:ops[i]? with
  | none=>rw[O]at H;exact AL Y fuel _ a w H
  | some o =>
   rw[O]at H;simp only at H ⊢;split
   ·rename_i J;rw[if_pos J]at H;rcases H with H | ⟨_,G⟩
    ·refine⟨fun _ _=>trivial,?_⟩;rw[Oper.semAt_plain _ _ _ (O3 Y O)];unfold Oper.wp at H;generalize (execOp a.eval o).run P w=r at H ⊢;cases r with
     | ok nx w' =>
      cases nx with
      | value v=>exact AL Y fuel _ _ _ H
      | skip=>exact AL Y fuel _ _ _ H
      | defer d=>exact AL Y fuel _ _ _ H
      | enter f args =>
       refine⟨fun h=>by simp[Fence.wide]at h,CallsIn.inRound l (callsIn_wide.2 (Calls.mono H ?_))⟩;intro e w'' U;cases e with
       | returned v=>exact AL Y fuel _ _ _ U
       | panicked ch=>exact U
       | outgrown=>exact U
      | row row args =>
       exact⟨fun h=>by simp[Fence.wide]at h,Q4 (Rows.mono H fun v w'' U=>AL Y fuel _ _ _ U)⟩
      | _=>exact H.elim
     | halt x w' =>
      cases x with
      | panic v=>exact H
      | _=>exact H
    ·obtain⟨a1,w1,Z⟩:=G;exact Z.elim
   ·rename_i J;rw[if_neg J]at H;exact⟨fun _ _=>trivial,AL Y fuel _ _ _ H⟩⟩
theorem HV {id:Nat} {l:Nat} (S:World->Prop) (H:P.follows .mixedOrders=true) (d:calmOps ops=true)
 (h:wpAnyH P .any ops (OnlyN Q) S ops.size (Array.replicate ops.size false) a w.drew):(Code.region id ops true).wpIn (Fence.wide.inRound l) 0 P Q a w :=
 wpIn_mono (wpIn_region_any H (AL d _ _ _ _ (wpAny_of_held _ _ _ _ h))) OnlyN.imp
end
end Go.Proofs.YtpnlihgcboepeaaGreat
