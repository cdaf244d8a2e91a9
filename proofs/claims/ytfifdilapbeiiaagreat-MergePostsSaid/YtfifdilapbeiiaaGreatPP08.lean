/- Texts of one proof, joined. -/
import Derived.Test.YtfifdilapbeiiaaGreatPP07
import Derived.Maps.RangeRun
import Derived.Maps.Range
import Derived.Laws.IdiomRangeMap
import Derived.Shelf.RegionOpen
set_option linter.unusedSimpArgs false
set_option linter.unusedVariables false
set_option maxRecDepth 100000
set_option maxHeartbeats 16000000
namespace Go.Proofs.YtfifdilapbeiiaaGreat
open _root_.Go.Proofs.Tryz
variable {ops:Array Oper} {cs:Array Value} {Q:Exit → Act → World → Prop} {z z1 z2:Int} {ks ns:List (List UInt8)} {us xs:List Value} {B c g i n:Nat} {o:Oper} {A:Option Addr} {P:Program} {md:Region.Mode} {E e t:TypeId} {v:Value} {w w0 w1:World}
section
open Go.RowKit
attribute [local go_sem] Oper.semAt_some AP Cp
def NewTm (w:World) (R:List (List UInt8×List Int)) (e:Ending) (w':World):Prop :=
 ∃L c D,e = .returned (.slice L D.length c)/\w'.ownsRow w.heap.size 157 2 (.slice L D.length c) D.length (tcs D)/\TmsOk w' w.heap.size D R/\Ext w w'
theorem OO (e:Ev) (A:Option Addr) (c:Nat) (w:World) (h:e.Ok w A) :
 Calls prog 81 #[e.val A c] w (NewTm w (termsL e)):=by
 have b3:=Aa (fun W (hE:Ext w W)=>Dj e A c W (h.ext hE));have a2:termsL e=if checkE e.fs=0 then grp (rawT 0 e.fs) else []:=rfl;have d3:=@AM e.fs;obtain⟨T,hT⟩:=Ab (termsL e);rw[<-hT]at a2 ⊢;obtain⟨at_,fs⟩:=e;have h5:=h.cells;unfold Ev.val at b3 ⊢;simp only at a2 b3 d3 h5 ⊢;obtain⟨z,hz⟩:=Ab (checkE fs);rw[<-hz]at a2 b3 d3;obtain⟨n,hn⟩:=Ab fs.length;rw[<-hn]at b3 d3 ⊢;replace a2:=Aa a2;replace d3:=Aa d3;replace h5:=Aa h5;replace hz:=Aa hz;replace hn:=Aa hn;clear h hT;refine(callsIn_wide (n:=0)).1 ?_;refine callsIn_of_wp_marks func81 rfl trivial ?_;simp only[ntmps81,List.size_toArray,List.length_cons,List.length_nil,Nat.reduceAdd,Nat.reduceSub,Array.replicate_succ,Array.replicate_zero,List.push_toArray,List.append_toArray,List.nil_append,List.cons_append];gi_wp2_with fail;obtain⟨W0,o3⟩:=Ab (w.alloc (Obj.cells #[.int .i64 at_,.slice A n c] 69));rw[<-o3];have l5:Ext w W0:=by rw[o3];exact(Ext.refl w).alloc _
 refine(callsIn_wide.2 (b3.out W0 l5)).mono ?_;rintro e w1 ⟨rfl,m3⟩;have r0:Row w1 w.heap.size 69 #[.int .i64 at_,.slice A n c]:=by
  refine Row.ext ?_ m3;rw[o3];exact Row.new w _ _
 have k0:=r0.cell 0 rfl;have k1:=r0.cell 1 rfl;replace m3:=Aa (l5.trans m3);replace r0:=Aa r0;replace o3:=Aa o3;clear l5 b3;by_cases d6:z=0
 ·obtain⟨i9,g4⟩:=d3.out d6;subst d6;have hT:=a2.out;rw[if_pos rfl]at hT;replace hT:=Aa hT;have d9:=r0.out.lt;gi_wp2_with fail;obtain⟨W2,h4⟩:=Ab (w1.alloc (Obj.cells #[Value.slice none 0 0] 155));rw[<-h4];obtain⟨h1,t4⟩:=Ab w1.heap.size;have q1:Row W2 h1 155 #[.slice none 0 0]:=by rw[h4,t4];exact Row.new w1 _ _
  have n6:Ext w1 W2:=by rw[h4];exact(Ext.refl w1).alloc _
  rw[<-t4];replace h4:=Aa h4;replace t4:=Aa t4;refine(callsIn_wide.2 (Nk at_ A n c W2)).mono ?_;rintro e w4 ⟨b0,rfl,rb0,qa,o0⟩;have n5:Ext w w4:=(m3.out.trans n6).trans o0;have o5:TI w.heap.size h1 [] w w4:=⟨none,0,[],q1.ext o0,World.ownsRow_nil _ _ _ _,TmsOk.nil _ _,n5⟩
  have e0:w.heap.size<=w4.heap.size:=n5.size;have m5:=Lf at_ fs A n c b0 w.heap.size w w4 hn.out h5.out (Nat.le_refl _) n5 (by omega) (fun f hf=>by have:=g4 f hf;omega) rb0;have b9:w.heap.size<=h1:=by rw[t4.out];exact m3.out.size
  replace o5:=Aa o5;replace m5:=Aa m5;clear q1 n6 o0 rb0;gi_wp2_with fail;unfold BsIter at m5;have t6:∀b,baseT 0 (fs.take b)<=1000000000:=fun b=>by
   have:=EN (k:=4096) (fs.take b) 0 (fun f hf=>(g4 f (List.mem_of_mem_take hf)).2);have h2:(fs.take b).length<=16:=by rw[List.length_take,<-hn.out];omega
   omega
  replace t6:=Aa t6;refine C8 (gf:=172) (lb:=#[.pointer (some ⟨b0,0,none⟩)]) rfl (enters_of func172 (by kernel_rfl) rfl) m5.out (fun _=>rfl) (fun _ _ h=>h.others) (fun _ _ _ h=>h.2.others) (KpT.trans w.heap.size) (KpT.alike e0)
   (fun pre W=>TI w.heap.size h1 (rawT 0 (fs.take pre.length)) w W) (fun pre A B hi ha=>hi.alike ha e0) (fun pre A B hi hE=>hi.ext hE) ?h0 ?hround ?hdone
  case h0 =>
   intro W ha;have:=o5.out.alike ha e0;simpa [rawT]using this
  case hround =>
   rintro l pre ⟨bs,nm,tx⟩ W hI ⟨hf,r4⟩;simp only at hf r4;unfold fdV;simp only;have f8:=g4 _ (List.mem_of_getElem? hf);simp only at f8;have z7:=t6.out pre.length;rw[<-r4]at z7;have g9:=CK tx;have a1:rawT 0 (fs.take (pre ++ [(bs,nm,tx)]).length)=rawT 0 (fs.take pre.length)++fieldT bs (nm,tx):=by
    rw[List.length_append,List.length_singleton,List.take_add_one,hf,He,<-r4];simp[rawT]
   obtain⟨Z,hZ⟩:=Ab (rawT 0 (fs.take pre.length));rw[<-hZ]at hI a1;obtain⟨Y,hY⟩:=Ab (fieldT bs (nm,tx));rw[<-hY]at a1;have r9:Z.length<=65536:=by
    have:=CH (k:=4096) (fs.take pre.length) 0 (fun f hf=>(g4 f (List.mem_of_mem_take hf)).2);have h2:(fs.take pre.length).length<=16:=by rw[List.length_take,<-hn.out];omega
    rw[hZ];omega
   clear hZ r4 hf;replace a1:=Aa a1;obtain⟨nt,e3⟩:=Ab ((tokL tx).length);obtain⟨W5,q4⟩:=Ab (W.alloc (Obj.cells #[.string ⟨nm.toArray⟩,.string ⟨tx.toArray⟩] 91));have f0:Ext W W5:=by rw[q4];exact(Ext.refl W).alloc _
   have q5:Row W5 W.heap.size 91 #[.string ⟨nm.toArray⟩,.string ⟨tx.toArray⟩]:=by rw[q4];exact Row.new W _ _
   have d1:=Aa (fun W=>HL tx W (by omega));rw[<-e3]at g9;replace e3:=Aa e3;replace hY:=Aa hY;replace hI:=Aa hI;gi_wp2_with fail;rw[<-q4];obtain⟨g5,o1⟩:=Ab W.heap.size;rw[<-o1]at q5 ⊢;refine⟨f0.others,KpT.ext f0,fun W6 i5=>?_⟩;have e4:=(hI.out.ext f0).alike i5 e0;have r6:=i5.row q5;have y0:=r6.cell 0 rfl;have y1:=r6.cell 1 rfl;replace e4:=Aa e4;replace q4:=Aa q4;replace o1:=Aa o1;clear hI q5 f0 i5;gi_wp2_with fail;refine(Bb (d1.out W6)).mono ?_;rintro e w7 ⟨A7,c7,rfl,U,H⟩;rw[<-e3.out]at U ⊢;have x8:=Aa (e4.out.ext H);have q8:=Aa (fun(W:World) (h:KpT w.heap.size w7 W) (i:Nat) (x:List UInt8) (hx:(tokL tx)[i]? = some x)=>Si U (w1:=W) (fun g cs hr=>h.2 g _ cs (by decide) (by decide) hr) hx);replace U:=Aa U;have r7:=Aa (r6.ext H);clear y0 y1 e4;gi_wp2_with fail
   gi_loopw [23] (fun s23 wr=>∃(i:Nat),s23 = .int .i64 (i:Int)/\i<=nt/\Hid (TI w.heap.size h1 (Z++Y.take i) w wr)/\Hid (KpT w.heap.size w7 wr)/\Hid (KeepsOthers w7 wr)) (fun s23 _=>nt - (intOf s23).toNat)
   case atStart=>exact⟨0,rfl,by omega,by rw[List.take_zero,List.append_nil];exact x8,Aa (KpT.ext (Ext.refl _)),Aa (KeepsOthers.refl _)⟩
   case round =>
    obtain⟨i,rfl,hi,q6,f4,k7⟩:=hrel;by_cases j5:i<nt
    ·obtain⟨wd,c4⟩:∃wd,(tokL tx)[i]? = some wd:=⟨_,List.getElem?_eq_getElem (by rw[<-e3.out];exact j5)⟩
     obtain⟨g7,o7,t8,x0,x1⟩:=q8.out wr f4.out i wd c4;subst t8;obtain⟨L,cl,D,r3,G,p3,m0⟩:=q6.out;have r5:=f4.out.2 _ _ _ (by decide) (by decide) r7.out;have z0:=r5.cell 0 rfl;have z3:=r3.cell 0 rfl;have e9:=r3.lt;have f9:=r5.lt;replace r3:=Aa r3;replace r5:=Aa r5;replace G:=Aa G;replace p3:=Aa p3;replace m0:=Aa m0;have ja:D.length<=100000:=by
      have:=p3.out.len;unfold oneT at this;rw[List.length_map,List.length_append,List.length_take]at this;omega
     have k6:Y[i]? = some (nm++58::wd,((bs+i:Nat):Int)):=by rw[hY.out];exact Iv c4
     replace k6:=Aa k6;have ta:=FU (List.mem_of_getElem? c4);replace c4:=Aa c4;have j6:(Z++Y.take (i+1))=(Z++Y.take i) ++ [(nm++58::wd,((bs+i:Nat):Int))]:=by rw[List.take_add_one,k6.out,List.append_assoc];rfl
     replace j6:=Aa j6;obtain⟨S,hS⟩:=Ab (nm++58::wd);have j4:ByteArray.mk nm.toArray++ByteArray.mk #[58]++ByteArray.mk wd.toArray=⟨S.toArray⟩:=by
      have h1:=Jg nm [58];have h2:=Jg (nm ++ [58]) wd;rw[hS,h1,h2];simp
     obtain⟨Wb,a3⟩:=Ab ((wr.alloc (Obj.cells #[Value.string ⟨wd.toArray⟩,Value.int IntKind.i64 (i:Int)] 207)).alloc (Obj.cells #[Value.int IntKind.i64 ((bs:Int)+(i:Int))] 3));obtain⟨Wa,y3⟩:=Ab (Wb.alloc (Obj.cells #[Value.string ⟨S.toArray⟩,Value.slice (some ⟨wr.heap.size+1,0,none⟩) 1 1] 157));have o6:Ext wr Wb:=by rw[a3];exact((Ext.refl wr).alloc _).alloc _
     have f5:Wb.heap.size=wr.heap.size+2:=by rw[a3];simp
     have i0:Ext wr Wa:=by rw[y3];exact o6.alloc _
     have qi:Row Wb (wr.heap.size+1) 3 #[Value.int IntKind.i64 ((bs:Int)+(i:Int))]:=by
      rw[a3];have:=Row.new (wr.alloc (Obj.cells #[Value.string ⟨wd.toArray⟩,Value.int IntKind.i64 (i:Int)] 207)) 3 #[Value.int IntKind.i64 ((bs:Int)+(i:Int))]
      rwa [World.size_alloc]at this
     have qi2:Row Wa (wr.heap.size+1) 3 #[Value.int IntKind.i64 ((bs:Int)+(i:Int))]:=by rw[y3];exact qi.alloc _
     have a6:Cells Wa (some ⟨wr.heap.size+2,0,none⟩) (tcell (S,some ⟨wr.heap.size+1,0,none⟩,1,1)):=by
      have:=AN Wb [Value.string ⟨S.toArray⟩,Value.slice (some ⟨wr.heap.size+1,0,none⟩) 1 1] 157;rw[f5]at this;rw[y3];exact this
     have j0:=i0.owns G.out;have h8:w.heap.size<=Wa.heap.size:=(m0.out.trans i0).size;replace qi2:=Aa qi2;replace a6:=Aa a6;replace j0:=Aa j0;replace i0:=Aa i0;have t7:Hid (((wr.alloc (Obj.cells #[Value.string ⟨wd.toArray⟩,Value.int IntKind.i64 (i:Int)] 207)).alloc (Obj.cells #[Value.int IntKind.i64 ((bs:Int)+(i:Int))] 3)).alloc (Obj.cells #[Value.string (ByteArray.mk nm.toArray++ByteArray.mk #[58]++ByteArray.mk wd.toArray),Value.slice (some ⟨wr.heap.size+1,0,none⟩) 1 1] 157)=Wa):=Aa (by rw[y3,a3,j4]);replace y3:=Aa y3;replace a3:=Aa a3;replace j4:=Aa j4;clear qi o6 f5;have ogr:=Aa (fun(w6:World) (J:Wa.grownBy w6 (Value.slice L D.length cl).ownBlock)=>Jn j0.out J (r3.out.ext i0.out) (by decide));gi_wp2_with (gi_at_builtin;rw[t7.out];refine DA Lx j0.out a6.out (.tmp 27) (.tmp 40) rfl rfl rfl rfl rfl rfl (by simp[tcell,Value.oneCell']) (by omega) h8 (fun A1 c1 w6 v5 J f7=>?_);have r16:=ogr.out w6 J;have u1:=r16.cell 0 rfl;have u2:=r16.free 0;replace r16:=Aa r16;replace v5:=Aa v5;replace J:=Aa J;replace f7:=Aa f7);have j8:∀w0:World,w0.heap.size<=w.heap.size->Ext w0 wr->Ext w0 (w6.setCell ⟨h1,0,none⟩ (.slice A1 (D.length+1) c1)):=fun w0 h0 hE=>(CX j0.out J.out (hE.trans i0.out) h0).setCell (p:=⟨h1,0,none⟩) (by show w0.heap.size<=h1;omega) _;have e8:∀A n c xs,Buf wr w.heap.size 3 A n c xs->Buf (w6.setCell ⟨h1,0,none⟩ (.slice A1 (D.length+1) c1)) w.heap.size 3 A n c xs:=fun A n c xs hb=>by
      have q:=Ci j0.out J.out (hb.ext i0.out) (by decide);exact q.setCell (q.unlike r16.out (by decide)) _
     have m6:Buf (w6.setCell ⟨h1,0,none⟩ (.slice A1 (D.length+1) c1)) w.heap.size 3 (some ⟨wr.heap.size+1,0,none⟩) 1 1 ([((bs+i:Nat):Int)].map IV):=by
      have q0:Buf Wa w.heap.size 3 (some ⟨wr.heap.size+1,0,none⟩) 1 1 ([((bs+i:Nat):Int)].map IV):=⟨rfl,Nat.le_refl _,.inr ⟨_,_,rfl,by have:=m0.out.size;omega,qi2.out,by simp,by simp[IV]⟩⟩
      have q:=Ci j0.out J.out q0 (by decide);exact q.setCell (q.unlike r16.out (by decide)) _
     have j9:∀g t cs,t≠155->t≠157->Row wr g t cs->Row (w6.setCell ⟨h1,0,none⟩ (.slice A1 (D.length+1) c1)) g t cs:=fun g t cs n1 n2 hr=>by
      have q:=Jn j0.out J.out (hr.ext i0.out) n2;exact q.away (q.unlike r16.out n1) _
     have k9:(w6.setCell ⟨h1,0,none⟩ (.slice A1 (D.length+1) c1)).ownsRow w.heap.size 157 2 (.slice A1 (D.length+1) c1) (D.length+1) (tcs D++tcell (S,some ⟨wr.heap.size+1,0,none⟩,1,1)) :=
      (Chg.of_set (S:=fun k=>k=h1) w6 _ rfl).owns v5.out fun g hg i8=>by
       obtain⟨cur,hc,_⟩:=Ae v5.out hg;exact hc.unlike r16.out (by decide) i8
     have d7:(D ++ [(S,(some ⟨wr.heap.size+1,0,none⟩:Option Addr),1,1)]).length=D.length+1:=by rw[List.length_append];rfl
     refine⟨⟨i+1,by first | rfl | (congr 1;omega),by omega,Aa ⟨A1,c1,D ++ [(S,some ⟨wr.heap.size+1,0,none⟩,1,1)],?_,?_,?_,j8 w (Nat.le_refl _) m0.out⟩,Aa (KpT.trans _ _ _ _ f4.out ⟨j8,j9⟩),Aa (k7.out.trans ((i0.out.others.trans (FH j0.out J.out)).trans (KeepsOthers.setCell _ _ _)))⟩,by simp only[intOf];omega⟩
     ·rw[d7];exact r16.out.put 0 _
     ·rw[d7,DX];exact k9
     ·rw[j6.out,N2];exact p3.out.snoc e8 hS m6 (fun a ha=>by cases ha;show wr.heap.size<=wr.heap.size+1;omega)
    ·have b8:Y.take i=Y:=by
      rw[List.take_of_length_le];rw[hY.out,CB,<-e3.out];omega
     rw[b8,<-a1.out]at q6;gi_wp2_with fail;exact⟨(H.others).trans k7.out,KpT.trans _ _ _ _ (KpT.ext H) f4.out,q6.out⟩
  case hdone =>
   rintro Dm xs W2' W3 W4 hD hI ⟨h7,q7⟩ i6 hk;have p7:=(hI.ext q7).alike i6 e0;rw[h7,List.take_length]at p7;obtain⟨L,cl,D,r3,G,b4,o0⟩:=p7;have v8:D.length<=65536:=by
    have h1:=b4.len;have h2:=CH (k:=4096) fs 0 (fun f hf=>(g4 f hf).2);unfold oneT at h1;rw[List.length_map]at h1;rw[<-hn.out]at h2;omega
   obtain⟨l4,h3,d4⟩:=b4.tz;have g0:=Mv w.heap.size L D.length cl D W4 G rfl (by omega);unfold cmpV at g0;obtain⟨n4,t5⟩:=Ab D.length;rw[<-t5]at g0 v8 G r3;have z3:=r3.cell 0 rfl;have y6:=o0.size;replace g0:=Aa g0;replace r3:=Aa r3;replace G:=Aa G;replace l4:=Aa l4;replace h3:=Aa h3;replace d4:=Aa d4;replace o0:=Aa o0;replace hk:=Aa hk;replace t5:=Aa t5;clear hI h7 q7 i6 b4;gi_wp2_with fail;refine(callsIn_wide.2 g0.out).mono ?_;rintro e w5 ⟨rfl,E,i2,o1,j3⟩;have d5:∀g t cs,t≠157->Row W4 g t cs->Row w5 g t cs:=fun g t cs ht hr=>j3.row hr fun hg=>by
    obtain⟨cur,hc,_⟩:=Ae G.out hg;exact hr.unlike hc ht rfl
   have x7:∀A n c xs,Buf W4 w.heap.size 3 A n c xs->Buf w5 w.heap.size 3 A n c xs:=fun A n c xs hb=>hb.chg j3 fun a ha hg=>by
    obtain⟨cur,hc,_⟩:=Ae G.out hg;exact hb.unlike hc (by decide) a ha rfl
   have f0:Ext w w5:=o0.out.chg j3 fun i hi hg=>by
    obtain⟨_,_,hl⟩:=Ae G.out hg;omega
   have j7:KeepsOthers W4 w5:=⟨j3.size,fun k o hk p9=>by
    refine(j3.block k (Array.getElem?_eq_some_iff.1 hk).1 fun hg=>?_).trans hk;obtain⟨cur,hc,_⟩:=Ae G.out hg;unfold Row at hc;rw[hc]at hk;injection hk with hk;subst hk;cases p9⟩
   have o8:=Aa (j7.same _ _ hk.out rfl);have r35:=d5 _ _ _ (by decide) r3.out;have z35:=r35.cell 0 rfl;have x3:E.length=n4:=by rw[t5.out];exact i2.2.len
   have m2:=i2.2.perm;have p6:TZ w5 w.heap.size (E.map fun x=>(x,(x.1,ptsOf W4 x.2))):=(l4.out.perm (m2.map _)).keep x7;have j2:∀x∈E,ptsOf W4 x.2 = [(ptsOf W4 x.2).headD 0]:=fun x hx=>h3.out x (m2.mem_iff.1 hx);have m4:(E.map fun x=>(x.1,(ptsOf W4 x.2).headD 0)).foldl joinS []=T:=by
    have h1:=(i2.stabM fun x=>(ptsOf W4 x).headD 0).grp;rw[h1,d4.out];exact hT.out.symm
   have i3:(E.map fun x=>(x.1,(ptsOf W4 x.2).headD 0)).length=n4:=by rw[List.length_map,x3]
   obtain⟨b5,j1⟩:=Ab w5.heap.size;have k3:w.heap.size<=b5:=by rw[j1];exact f0.size
   replace p6:=Aa p6;replace j2:=Aa j2;replace m4:=Aa m4;replace x3:=Aa x3;replace i3:=Aa i3;replace f0:=Aa f0;replace o1:=Aa o1;replace r35:=Aa r35;replace j1:=Aa j1;clear j3 d5 x7 j7 i2 m2 g0 l4 h3 d4 hk y6;gi_wp2_with fail
   gi_loopw [8,47] (fun s8 s47 wr=>∃(i m c:Nat) (O:Option Addr) (P:List TmP),s47 = .int .i64 (i:Int)/\s8 = .slice O m c/\i<=n4/\m<=i/\Hid (m=P.length)/\Hid (wr.ownsRow b5 157 2 (.slice O m c) m (tcs (P.map Prod.fst)))/\Hid (P.map Prod.snd=((E.map fun x=>(x.1,(ptsOf W4 x.2).headD 0)).take i).foldl joinS [])/\Hid (TZ wr w.heap.size (P++(E.map fun x=>(x,(x.1,ptsOf W4 x.2))).drop i))/\Hid (Ext w wr)/\Hid (∀g cs,g<b5->Row w5 g 157 cs->Row wr g 157 cs)/\Hid (KeepsOthers w5 wr)/\b5<=wr.heap.size) (fun _ s47 _=>n4 - (intOf s47).toNat)
   case atStart=>exact⟨0,0,0,none,[],rfl,rfl,by omega,by omega,Aa rfl,Aa (World.ownsRow_nil _ _ _ _),Aa rfl,Aa (by rw[List.drop_zero];exact p6.out),f0,Aa (fun _ _ _ h=>h),Aa (KeepsOthers.refl _),by rw[j1.out];exact Nat.le_refl _⟩
   case round =>
    obtain⟨i,m,c,O,P,rfl,rfl,hi,ka,v4,y4,i4,i1,m0,k5,x5,y7⟩:=hrel;by_cases j5:i<n4
    ·obtain⟨⟨ys,yA,yn,yc⟩,hy⟩:∃y,E[i]? = some y:=⟨_,List.getElem?_eq_getElem (by rw[x3.out];exact j5)⟩
     obtain⟨g,hL,pa,cs,a4,a7⟩:=o1.out (by omega);subst hL;have x2:=k5.out g cs (by rw[j1.out];exact a4.lt) a4;obtain⟨x0,x1⟩:=TR.at_ (w:=wr) (g:=g) (D:=E) ⟨cs,x2,a7⟩ hy;simp only at x0 x1;obtain⟨yz,b6⟩:=Ab ((ptsOf W4 (yA,yn,yc)).headD 0);have g8:ptsOf W4 (yA,yn,yc) = [yz]:=by rw[b6];exact j2.out _ (List.mem_of_getElem? hy)
     have e7:(E.map fun x=>(x,(x.1,ptsOf W4 x.2))).drop i=((ys,yA,yn,yc),(ys,[yz]))::(E.map fun x=>(x,(x.1,ptsOf W4 x.2))).drop (i+1):=by
      rw[List.drop_eq_getElem_cons (by rw[List.length_map,x3.out];exact j5),List.getElem_map];have:=(List.getElem?_eq_some_iff.1 hy).2;rw[this];simp only[g8]
     have d1:((E.map fun x=>(x.1,(ptsOf W4 x.2).headD 0)).take (i+1)).foldl joinS []=joinS (((E.map fun x=>(x.1,(ptsOf W4 x.2).headD 0)).take i).foldl joinS []) (ys,yz):=by
      rw[List.take_add_one,List.foldl_append,List.getElem?_map,hy,b6];rfl
     rw[e7]at i1;rw[<-i4.out]at d1;obtain⟨R,hR⟩:=Ab ((E.map fun x=>(x,(x.1,ptsOf W4 x.2))).drop (i+1));rw[<-hR]at i1;have l3:∀z∈P.map Prod.snd,z.2.length<=i:=fun z hz=>by
      rw[i4.out]at hz;have:=Kc _ [] 0 nofun z hz;rw[List.length_take]at this;omega
     replace l3:=Aa l3;replace hR:=Aa hR;replace d1:=Aa d1;replace hy:=Aa hy;replace x2:=Aa x2;clear e7 b6 g8 a4 a7 i4;rcases List.eq_nil_or_concat P with p0 | ⟨P0,x,p0⟩
     ·have q9:m=0:=by rw[v4.out,p0];rfl
      subst q9;have x4:Hid (joinS (P.map Prod.snd) (ys,yz)=P.map Prod.snd ++ [(ys,[yz])]):=Aa (by rw[p0];rfl);replace p0:=Aa p0;gi_wp2_with fail;obtain⟨W6,c0⟩:=Ab (wr.alloc (Obj.cells #[Value.string ⟨ys.toArray⟩,Value.slice yA yn yc] 157));rw[<-c0];obtain⟨g6,J⟩:=Ab wr.heap.size;have r6:Row W6 g6 157 #[Value.string ⟨ys.toArray⟩,Value.slice yA yn yc]:=by rw[c0,J];exact Row.new wr _ _
      rw[<-J];have I:Ext wr W6:=by rw[c0];exact(Ext.refl wr).alloc _
      have t0:=r6.cell 0 rfl;have t1:=r6.cell 1 rfl;replace r6:=Aa r6;replace I:=Aa I;replace c0:=Aa c0;replace J:=Aa J;refine wpIn_wide.2 (AE (fun K hK=>?_));go_wp2_with fail;refine⟨by kernel_rfl,?_⟩;obtain⟨W7,d0⟩:=Ab ((W6.alloc (Obj.cells #[Value.string ⟨ys.toArray⟩,Value.slice yA yn yc] 157)).drew);have H:Ext wr W7:=by rw[d0];exact(I.out.alloc _).drew
      have U:=H.owns y4.out;have d2:Cells W7 (some ⟨W6.heap.size,0,none⟩) (tcell (ys,yA,yn,yc)):=by rw[d0];exact AN W6 [Value.string ⟨ys.toArray⟩,Value.slice yA yn yc] _
      have k4:b5<=W7.heap.size:=Nat.le_trans y7 H.size;replace H:=Aa H;replace U:=Aa U;replace d2:=Aa d2;replace d0:=Aa d0;gi_wp2_with (gi_at_builtin;rw[<-d0.out];refine DA Lx U.out d2.out (.tmp 78) (.tmp 80) rfl rfl rfl rfl rfl rfl (by simp[tcell,Value.oneCell']) (by omega) k4 (fun A1 c1 w8 k2 j l0=>?_);replace k2:=Aa k2;replace j:=Aa j;replace l0:=Aa l0);have y2:∀g cs,g<b5->Row wr g 157 cs->Row w8 g 157 cs:=fun g cs n0 hr=>(hr.ext H.out).grown j.out fun h=>by obtain⟨_,_,hl⟩:=Ae U.out h.symm;omega
      refine⟨⟨i+1,_,c1,A1,P ++ [((ys,yA,yn,yc),(ys,[yz]))],by first | rfl | (congr 1;omega),rfl,by omega,by omega,Aa (by rw[List.length_append,<-v4.out];rfl),Aa ?_,Aa ?_,Aa ?_,Aa (CX U.out j.out (m0.out.trans H.out) k3),Aa (fun g cs n0 hr=>y2 g cs n0 (k5.out g cs n0 hr)),Aa (x5.out.trans (H.out.others.trans (FH U.out j.out))),Nat.le_trans k4 j.out.size⟩,by simp only[intOf];omega⟩
      ·rw[List.map_append,List.map_singleton,DX];exact k2.out
      ·rw[d1.out,x4.out,List.map_append,List.map_singleton]
      ·rw[List.append_assoc,<-hR.out];exact i1.out.keep fun A n c xs hb=>Ci U.out j.out (hb.ext H.out) (by decide)
     ·rw[List.concat_eq_append]at p0;have i7:m=P0.length+1:=by rw[v4.out,p0,List.length_append];rfl
      obtain⟨k,hk⟩:=Ab P0.length;rw[<-hk]at i7;subst i7;obtain⟨⟨xs',xA,xn,xc⟩,xk,xl⟩:=x;obtain⟨go,cur,z8,l8,q3,v0,v1⟩:=Qe y4.out (i:=k) (x:=(xs',xA,xn,xc)) (by rw[p0,List.map_append,List.getElem?_append_right (by rw[List.length_map];omega),List.length_map,hk,Nat.sub_self];rfl);subst z8;simp only at v0 v1;have n8:=q3.lt;have t9:xs'=xk:=(i1.out.each ((xs',xA,xn,xc),xk,xl) (by rw[p0];simp)).1;have q2:joinS (P.map Prod.snd) (ys,yz)=if xk=ys then P0.map Prod.snd ++ [(xk,xl ++ [yz])] else P.map Prod.snd ++ [(ys,[yz])]:=by
       rw[p0,List.map_append,List.map_singleton,GU]
      subst t9;replace q3:=Aa q3;replace hk:=Aa hk;replace p0:=Aa p0;gi_wp2_with fail;obtain⟨W6,c0⟩:=Ab (wr.alloc (Obj.cells #[Value.string ⟨ys.toArray⟩,Value.slice yA yn yc] 157));rw[<-c0];obtain⟨g6,J⟩:=Ab wr.heap.size;have r6:Row W6 g6 157 #[Value.string ⟨ys.toArray⟩,Value.slice yA yn yc]:=by rw[c0,J];exact Row.new wr _ _
      rw[<-J];have I:Ext wr W6:=by rw[c0];exact(Ext.refl wr).alloc _
      have t0:=r6.cell 0 rfl;have t1:=r6.cell 1 rfl;replace r6:=Aa r6;replace I:=Aa I;replace c0:=Aa c0;replace J:=Aa J;have u0:=I.out.cell v0;have u1:=I.out.cell v1;by_cases y5:xs'=ys
      ·subst y5;rw[if_pos rfl]at q2;replace q2:=Aa q2;refine wpIn_wide.2 (AE (fun K hK=>?_));go_wp2_with fail;refine⟨by kernel_rfl,?_⟩;gi_wp2_with fail;have f2:=i1.out;rw[p0.out,List.append_assoc,List.singleton_append]at f2;have v6:=(f2.each ((xs',xA,xn,xc),xs',xl) (by simp)).2;have x6:=(f2.each ((xs',yA,yn,yc),xs',[yz]) (by simp)).2;simp only at v6 x6;have v9:xl.length=xn:=by have:=v6.1;rwa [List.length_map]at this
       have va:xn<=i:=by
        have:=l3.out (xs',xl) (by rw[p0.out];simp);rw[<-v9];exact this
       have x9:1=yn:=by have:=x6.1;simpa using this
       subst x9;have m1:Hid (Buf W6.drew.drew w.heap.size 3 xA xn xc (xl.map IV)):=Aa (v6.ext I.out.drew.drew);have b7:Hid (Cells W6.drew.drew yA ([yz].map IV)):=Aa (x6.ext I.out.drew.drew).cells;have e5:Hid (Row W6.drew.drew go 157 cur):=Aa (q3.out.ext I.out.drew.drew);have k8:w.heap.size<=W6.drew.drew.heap.size:=(m0.out.trans I.out.drew.drew).size;have n7:Hid (W6.drew.drew.ownsRow b5 157 2 (.slice (some ⟨go,0,none⟩) (k+1) c) (k+1) (tcs (P.map Prod.fst))):=Aa (I.out.drew.drew.owns y4.out);have u19:=Aa (I.out.drew.drew.cell v1);refine wpIn_wide.2 (AE (fun K hK=>?_));go_wp2_with (at_builtin;refine Al FY m1.out b7.out (.tmp 72) (.tmp 74) rfl rfl rfl rfl rfl rfl (by simp[IV,Value.oneCell']) (by omega) k8 (fun A1 c1 w8 o4 j z6 l0=>?_);have r18:=Cu m1.out j e5.out (by decide);have v2:=r18.free (k*2+1);have v3:=(r18.get (k*2+1)).trans ((e5.out.get (k*2+1)).symm.trans u19.out);replace r18:=Aa r18;replace o4:=Aa o4;replace j:=Aa j;replace z6:=Aa z6;replace l0:=Aa l0);refine⟨by kernel_rfl,?_⟩;gi_wp2_with fail;have t3:=I.out.drew.drew;have h9:∀z∈P0++R,TmP.far z ((xs',xA,xn,xc),xs',xl)->TmP.ok wr w.heap.size z->TmP.ok (w8.setCell ⟨go,k*2+1,none⟩ (.slice A1 (xn+1) c1)) w.heap.size z:=fun z hz hf ho=>by
        have q:=Rs j.out (ho.2.ext t3) (fun p q hp hq=>hf p q hp hq);exact⟨ho.1,q.setCell (q.unlike r18.out (by decide)) _⟩
       have m6:Buf (w8.setCell ⟨go,k*2+1,none⟩ (.slice A1 (xn+1) c1)) w.heap.size 3 A1 (xn+1) c1 ((xl ++ [yz]).map IV):=by
        rw[List.map_append];exact o4.out.setCell (o4.out.unlike r18.out (by decide)) _
       have m7:=f2.join ((xs',A1,xn+1,c1),xs',xl ++ [yz]) h9 ⟨rfl,m6⟩ (by
        rcases l0.out with h | h
        ·exact .inl h
        ·exact .inr ⟨_,h,t3.size⟩)
       have z4:=M7 (Gr m1.out j.out n7.out (by decide)) (k*2+1) (.slice A1 (xn+1) c1);have p8:=Qf (P0.map Prod.fst) (xs',xA,xn,xc) (A1,xn+1,c1);rw[List.length_map,<-hk.out]at p8;have a8:P.map Prod.fst=P0.map Prod.fst ++ [(xs',xA,xn,xc)]:=by rw[p0.out,List.map_append];rfl
       rw[a8,p8]at z4;refine⟨⟨i+1,k+1,c,some ⟨go,0,none⟩,P0 ++ [((xs',A1,xn+1,c1),xs',xl ++ [yz])],by first | rfl | (congr 1;omega),rfl,by omega,by omega,Aa (by rw[List.length_append,<-hk.out];rfl),Aa ?_,Aa ?_,Aa ?_,Aa ?_,Aa (fun g cs n0 hr=>?_),Aa (x5.out.trans (t3.others.trans ((BL m1.out j.out).trans (KeepsOthers.setCell _ _ _)))),?_⟩,by simp only[intOf];omega⟩
       ·rw[List.map_append];exact z4
       ·rw[d1.out,q2.out,List.map_append];rfl
       ·rw[List.append_assoc,<-hR.out];exact m7
       ·exact(z6.out w (m0.out.trans t3) (Nat.le_refl _)).setCell (p:=⟨go,k*2+1,none⟩) (Nat.le_trans k3 l8) _
       ·exact(Cu m1.out j.out ((k5.out g cs n0 hr).ext t3) (by decide)).away (by show g≠go;omega) _
       ·have h1:=j.out.size;have h2:=t3.size;show b5<=(w8.setCell _ _).heap.size;simp only[World.setCell,Array.size_modify];omega
      ·rw[if_neg y5]at q2;have x4:Hid (joinS (P.map Prod.snd) (ys,yz)=P.map Prod.snd ++ [(ys,[yz])]):=Aa q2;have a9:¬ (ByteArray.mk xs'.toArray=ByteArray.mk ys.toArray):=fun h=>y5 (by injection h with h;simpa using h);clear q2;have z9:(xs'==ys)=false:=beq_eq_false_iff_ne.2 y5;refine wpIn_wide.2 (AE (fun K hK=>?_));go_wp2_with fail;refine⟨by kernel_rfl,?_⟩;obtain⟨W7,d0⟩:=Ab ((W6.alloc (Obj.cells #[Value.string ⟨ys.toArray⟩,Value.slice yA yn yc] 157)).drew);have H:Ext wr W7:=by rw[d0];exact(I.out.alloc _).drew
       have U:=H.owns y4.out;have d2:Cells W7 (some ⟨W6.heap.size,0,none⟩) (tcell (ys,yA,yn,yc)):=by rw[d0];exact AN W6 [Value.string ⟨ys.toArray⟩,Value.slice yA yn yc] _
       have k4:b5<=W7.heap.size:=Nat.le_trans y7 H.size;replace H:=Aa H;replace U:=Aa U;replace d2:=Aa d2;replace d0:=Aa d0;gi_wp2_with (gi_at_builtin;rw[<-d0.out];refine DA Lx U.out d2.out (.tmp 78) (.tmp 80) rfl rfl rfl rfl rfl rfl (by simp[tcell,Value.oneCell']) (by omega) k4 (fun A1 c1 w8 k2 j l0=>?_);replace k2:=Aa k2;replace j:=Aa j;replace l0:=Aa l0);have y2:∀g cs,g<b5->Row wr g 157 cs->Row w8 g 157 cs:=fun g cs n0 hr=>(hr.ext H.out).grown j.out fun h=>by obtain⟨_,_,hl⟩:=Ae U.out h.symm;omega
       refine⟨⟨i+1,_,c1,A1,P ++ [((ys,yA,yn,yc),(ys,[yz]))],by first | rfl | (congr 1;omega),rfl,by omega,by omega,Aa (by rw[List.length_append,<-v4.out];rfl),Aa ?_,Aa ?_,Aa ?_,Aa (CX U.out j.out (m0.out.trans H.out) k3),Aa (fun g cs n0 hr=>y2 g cs n0 (k5.out g cs n0 hr)),Aa (x5.out.trans (H.out.others.trans (FH U.out j.out))),Nat.le_trans k4 j.out.size⟩,by simp only[intOf];omega⟩
       ·rw[List.map_append,List.map_singleton,DX];exact k2.out
       ·rw[d1.out,x4.out,List.map_append,List.map_singleton]
       ·rw[List.append_assoc,<-hR.out];exact i1.out.keep fun A n c xs hb=>Ci U.out j.out (hb.ext H.out) (by decide)
    ·have h6:P.map Prod.snd=T:=by
      rw[i4.out,List.take_of_length_le (by rw[i3.out];omega)];exact m4.out
     replace h6:=Aa h6;gi_wp2_with fail;have r8:=x5.out.same _ _ o8.out rfl;refine BR (B:=w4.heap.size) rfl r8 hD fun W ha=>⟨_,results_tmp rfl _ _ _,?_⟩
     have a5:=i1.out;rw[List.drop_eq_nil_of_le (by rw[List.length_map,x3.out];omega),List.append_nil]at a5;have l7:m=(P.map Prod.fst).length:=by rw[List.length_map];exact v4.out
     rw[<-h6.out];refine⟨O,c,P.map Prod.fst,?_,?_,(a5.keep fun _ _ _ _ hb=>ha.buf hb).tms,ha.ext m0.out e0⟩
     ·rw[<-l7];rfl
     ·rw[<-l7];exact ha.owns (AD y4.out k3)
 ·have hT:=a2.out;rw[if_neg d6]at hT;replace hT:=Aa hT;gi_wp2_with fail;rw[hT.out];exact F3 rfl (results_tmp rfl _ _ _) ⟨none,0,[],rfl,World.ownsRow_nil _ _ _ _,TmsOk.nil _ _,m3.out⟩
end
section
open Go.RowKit Go.Maps Go.Sort
def sortK (ns:List (List UInt8)):List (List UInt8):=ns.mergeSort fun x y=>decide (x<=y)
theorem Hv (ns:List (List UInt8)):(sortK ns).Perm ns:=List.mergeSort_perm _ _
theorem Qa (ns:List (List UInt8)):(sortK ns).Pairwise (fun a b=>a<=b):=by
 have:=List.pairwise_mergeSort (le:=fun(x y:List UInt8)=>decide (x<=y)) (fun a b c h k=>decide_eq_true (List.le_trans (of_decide_eq_true h) (of_decide_eq_true k))) (fun a b=>by rcases List.le_total a b with h | h <;> simp[h]) ns;exact this.imp fun h=>of_decide_eq_true h
theorem P9 (h:ns.Perm ks) (hk:ks.Pairwise fun a b=>a<b):sortK ns=ks :=
 List.Perm.eq_of_pairwise (le:=fun(x y:List UInt8)=>x<=y) (fun x y _ _ h k=>List.le_antisymm h k) (Qa ns) (hk.imp fun h=>List.le_of_lt h) ((Hv ns).trans h)
theorem Mz (base:Nat) (A:Option Addr) (n c:Nat) (ns:List (List UInt8)) (w:World) (hn:n=ns.length) (hb:Buf w base 9 A n c (ns.map strV)) (q0:n<=1073741824) :
 Calls prog 134 #[.slice A n c] w fun e w'=>e = .returned (.tuple #[])/\Buf w' base 9 A n c ((sortK ns).map strV)/\Chg (fun k=>∃x,A=some x/\x.block=k) w w':=by
 subst hn;obtain⟨h1,h2,G⟩:=hb;unfold sortK;rcases G with ⟨rfl,rfl⟩ | ⟨g,cur,rfl,Y,b,hs,ht⟩
 ·have Z:ns = []:=List.eq_nil_of_length_eq_zero (by omega);subst Z;refine(Tryz.slices_Sort_string_none none 0 w).mono ?_;rintro e w' ⟨rfl,rfl⟩;exact⟨rfl,by simpa using Buf.nil _ _ _,Chg.refl _ _⟩
 ·have I:Holds encStr w g 0 ns.toArray:=by
   intro j h;simp at h;refine⟨?_,b.free _⟩;rw[Nat.zero_add,cell_of_row w g j cur 9 (0,0) b];have:(cur.toList.take ns.length)[j]? = (ns.map strV)[j]? :=by rw[ht]
   rw[List.getElem?_take,if_pos h]at this;simp[h]at this;simpa [h,encStr,strV]using this
  refine(Tryz.slices_Sort_string g 0 c ns w I b.lt (by omega)).mono ?_;rintro e w' ⟨rfl,k,os,rfl⟩;obtain⟨so,H⟩:=Ab ((ns.mergeSort fun x y=>decide (x<=y)));have T:so.length=ns.length:=by rw[H];exact List.length_mergeSort _
  rw[<-H];have a:Row (grow (putRow encStr (Sort.ahead w k) g 0 so.toArray) os) g 9 (putCells encStr 0 so.toArray cur):=by
   show ((w.heap.modify g (onCells (putCells encStr 0 so.toArray)))++os)[g]? = _;rw[Array.getElem?_append_left (by simpa using b.lt),Array.getElem?_modify,if_pos rfl];have:w.heap[g]? = some (.cells cur 9 (0,0)):=b;rw[this];rfl
  refine⟨rfl,⟨by simp[T],h2,.inr ⟨g,_,rfl,Y,a,?_,?_⟩⟩,⟨rfl,rfl,rfl,?_,?_⟩⟩
  ·simp[putCells];exact hs
  ·apply List.ext_getElem?;intro i;rw[List.getElem?_take];split
   ·rename_i hi;have J:i<cur.size:=by
     rw[List.length_map]at h1;omega
    have U:i<so.length:=by omega
    rw[Array.getElem?_toList];unfold putCells;rw[Array.getElem?_mapIdx,Array.getElem?_eq_getElem J];simp[U,encStr,strV]
   ·rename_i hi;rw[List.getElem?_eq_none (by rw[List.length_map];omega)]
  ·show w.heap.size<=((w.heap.modify g (onCells (putCells encStr 0 so.toArray)))++os).size;simp
  ·intro j h O;show ((w.heap.modify g (onCells (putCells encStr 0 so.toArray)))++os)[j]? = _;rw[Array.getElem?_append_left (by simpa using h),Array.getElem?_modify,if_neg (fun e=>O ⟨_,rfl,e⟩)]
theorem OE (base:Nat) (A:Option Addr) (n c:Nat) (ns:List (List UInt8)) (w:World) (hn:n=ns.length) (hb:Buf w base 9 A n c (ns.map strV)) (j:n<=1073741824) :
 Calls prog 82 #[.slice A n c] w fun e w'=>e = .returned (.tuple #[])/\Buf w' base 9 A n c ((sortK ns).map strV)/\Chg (fun k=>∃x,A=some x/\x.block=k) w w':=by
 have h:=Aa (Mz base A n c ns w hn hb j);clear hb hn
 go_in
 go_wp2_with fail;refine h.out.mono ?_;rintro e w1 ⟨rfl,h1,h2⟩;go_wp2_with fail
 go_end0
 exact⟨rfl,h1,h2⟩
end
section
open Go.RowKit Go.Maps
open Go
structure RangeL (P:Program) (k:TypeId) (w:World) (m r:Nat) (L:List (Value×Value)) (done:List Value):Prop where
  ex:∃es clock since seen c0,w.heap[m]? = some (.map es clock)/\es.toList.map (fun e=>(e.key,e.val))=L/\es.toList.Pairwise (fun a b=>a.born≠b.born)/\(∀e∈es.toList,e.born<clock) /\
    w.heap[r]? = some (.mapIter (some m) since seen c0)/\(∀e∈es.toList,e.born<since)/\since<=c0/\since<=clock/\∀e∈es.toList,(seen.contains e.born=true↔e.key∈done)
  keys:∀p∈L,∃l,keyOf P k p.1=some l
  nodup:(L.map Prod.fst).Nodup
  dn:done.Nodup
  sub:∀x∈done,x∈L.map Prod.fst
section
variable {P:Program} {k:TypeId} {w w1:World} {m r:Nat} {L:List (Value×Value)} {done:List Value}
theorem RangeL.map (h:RangeL P k w m r L done):MapL P k w m L:=by
 obtain⟨es,cl,since,seen,c0,h1,h2,j,b,_⟩:=h.ex;exact⟨⟨es,cl,h1,h2,j,b⟩,h.keys,h.nodup⟩
theorem RangeL.keep (h:RangeL P k w m r L done) (Y:w1.heap[m]? = w.heap[m]?) (J:w1.heap[r]? = w.heap[r]?):RangeL P k w1 m r L done:=by
 obtain⟨⟨es,cl,since,seen,c0,h1,h2,j,b,a,H⟩,hk,hn,hd,hs⟩:=h;exact⟨⟨es,cl,since,seen,c0,Y.trans h1,h2,j,b,J.trans a,H⟩,hk,hn,hd,hs⟩
theorem RangeL.lt (h:RangeL P k w m r L done):r<w.heap.size:=by
 obtain⟨es,cl,since,seen,c0,_,_,_,_,j,_⟩:=h.ex;exact(Array.getElem?_eq_some_iff.1 j).1
theorem RangeL.ne (h:RangeL P k w m r L done):r≠m:=by
 obtain⟨es,cl,since,seen,c0,h1,_,_,_,j,_⟩:=h.ex;rintro rfl;rw[h1]at j;cases j
theorem RangeL.grown {row:Option Nat} (h:RangeL P k w m r L done) (j:w.grownBy w1 row) (h1:row≠some m) (h2:row≠some r):RangeL P k w1 m r L done :=
 h.keep (j.block m h.map.lt (fun e=>h1 e.symm)) (j.block r h.lt (fun e=>h2 e.symm))
theorem RangeL.drew (h:RangeL P k w m r L done):RangeL P k w.drew m r L done:=h.keep rfl rfl
theorem RangeL.alloc (h:RangeL P k w m r L done) (o:Obj):RangeL P k (w.alloc o) m r L done:=h.keep (Below.heap_alloc w o m h.map.lt) (Below.heap_alloc w o r h.lt)
theorem MapL.range (h:MapL P k w m L) (ht:P.underlying t=some (.map k E)) :
 ∃o,(Instr.range t (.map (some m))).run P w = .ok (.pointer (some ⟨w.heap.size,0,none⟩)) (w.alloc o)/\RangeL P k (w.alloc o) m w.heap.size L []:=by
 obtain⟨⟨es,cl,h1,h2,b,j⟩,hk,hn⟩:=h;refine⟨_,run_range_map w t k E m es cl ht h1,⟨⟨es,cl,cl,#[],cl,?_,h2,b,j,heap_alloc_new w _,j,Nat.le_refl _,Nat.le_refl _,fun e _=>by simp⟩,hk,hn,List.nodup_nil,by simp⟩⟩;exact(Below.heap_alloc w _ m (Array.getElem?_eq_some_iff.1 h1).1).trans h1
theorem Hq (w : World) (r : Nat) (o : Obj) : w.grownBy (ChangeMaps.setBlock w r o) (some r) :=
  ⟨rfl, rfl, rfl, by simp [ChangeMaps.setBlock], fun k _ h => by
    show (w.heap.setIfInBounds r o)[k]? = _
    rw [Array.getElem?_setIfInBounds_ne (fun e => h (by rw [e]))]⟩
theorem LS {es:Array MapEntry} {seen:Array Nat} {e:MapEntry} (j:e∈(leftOf es seen).toList):(leftOf es (seen.push e.born)).size<(leftOf es seen).size:=by
 have h1:leftOf es (seen.push e.born)=(leftOf es seen).filter (fun x=> !(x.born==e.born)):=by
  unfold leftOf;rw[Array.filter_filter];congr 1;funext x;rw[Array.contains_push];cases seen.contains x.born <;> cases (x.born==e.born) <;> rfl
 have h2:(leftOf es (seen.push e.born)).toList=(leftOf es seen).toList.filter (fun x=> !(x.born==e.born)):=by rw[h1,Array.toList_filter]
 have h:((leftOf es seen).toList.filter (fun x=> !(x.born==e.born))).length<(leftOf es seen).toList.length:=List.length_filter_lt_length_iff_exists.2 ⟨e,j,by simp⟩;rw[<-h2]at h;exact h
theorem RangeL.next (h:RangeL P k w m r L done) (ty:TypeId) :
 ((Instr.next (.pointer (some ⟨r,0,none⟩)) false ty).run P w = .ok (.tuple #[.bool false]) w/\∀p∈L,p.1∈done) \/
 ∃x v w1,(x,v)∈L/\x∉done/\(Instr.next (.pointer (some ⟨r,0,none⟩)) false ty).run P w = .ok (.tuple #[.bool true,x,v]) w1/\RangeL P k w1 m r L (done ++ [x])/\w.grownBy w1 (some r)/\w1.heap.size=w.heap.size /\
  (Instr.entry (.pointer (some ⟨r,0,none⟩))).run P w1 = .ok (.tuple #[x,v]) w1/\w1.rangeLeft m r<w.rangeLeft m r:=by
 have x0:=h.lt;have d0:=h.ne;obtain⟨⟨es,cl,since,seen,c0,h1,h2,h3,h4,h5,h6,h7,p0,h8⟩,hk,hn,hd,hs⟩:=h;rcases run_next_at (P:=P) w ty r m since c0 seen es cl h5 h1 h6 h7 with ⟨h0,J⟩ | ⟨e,I,w0,j0,J⟩
 ·refine .inl ⟨J,fun p hp=>?_⟩;rw[<-h2]at hp;obtain⟨e,I,rfl⟩:=List.mem_map.1 hp;rw[<-h8 e I];by_cases G:seen.contains e.born=true
  ·exact G
  ·exfalso;have:e∈leftOf es seen:=by
    unfold leftOf;rw[Array.mem_filter];exact⟨by simpa using I,by simpa using G⟩
   have h9:=Array.size_pos_of_mem this;omega
 ·have Y:e∈es.toList/\seen.contains e.born=false:=by
   unfold leftOf at I;have H:=Array.mem_toList_iff.1 I;rw[Array.mem_filter]at H;exact⟨by simpa using H.1,by simpa using H.2⟩
  have U:w0.heap=w.heap:=by rcases j0 with rfl | rfl <;> rfl
  have g0:w.grownBy w0 (some r):=by
   rcases j0 with rfl | rfl
   ·exact⟨rfl,rfl,rfl,Nat.le_refl _,fun _ _ _=>rfl⟩
   ·exact⟨rfl,rfl,rfl,Nat.le_refl _,fun _ _ _=>rfl⟩
  have k0:e.key∉done:=fun G=>by
   rw[<-h8 e Y.1]at G;rw[Y.2]at G;cases G
  have Z:(ChangeMaps.setBlock w0 r (.mapIter (some m) since (seen.push e.born) cl)).heap[r]? = some (.mapIter (some m) since (seen.push e.born) cl):=by
   show (w0.heap.setIfInBounds r _)[r]? = _;rw[Array.getElem?_setIfInBounds,if_pos rfl,if_pos (by rw[U];exact x0)]
  have T:(ChangeMaps.setBlock w0 r (.mapIter (some m) since (seen.push e.born) cl)).heap[m]? = some (.map es cl):=by
   show (w0.heap.setIfInBounds r _)[m]? = _;rw[Array.getElem?_setIfInBounds_ne d0,U,h1]
  have y0:(es.toList.map (fun x=>x.born)).Nodup:=by
   rw[List.Nodup,List.pairwise_map];exact h3
  refine .inr ⟨e.key,e.val,_,by rw[<-h2];exact List.mem_map.2 ⟨e,Y.1,rfl⟩,k0,J,⟨⟨es,cl,since,seen.push e.born,cl,T,h2,h3,h4,Z,h6,p0,p0,?_⟩,hk,hn,?_,?_⟩,g0.trans (Hq w0 r _),by simp[ChangeMaps.setBlock,U],run_entry_at _ r m since seen es cl e Z T Y.1 y0,by unfold World.rangeLeft;rw[T,Z,h1,h5];exact LS I⟩
  ·intro e' H;have e0:(es.toList.map (·.key)).Nodup:=by rw[<-h2,List.map_map]at hn;exact hn
   obtain⟨i,hi⟩:=List.getElem?_of_mem Y.1;obtain⟨j,O⟩:=List.getElem?_of_mem H;rw[Array.getElem?_toList]at hi O;have v0:e'.born=e.born↔e'.key=e.key:=by
    constructor
    ·intro hb;obtain rfl:=MM h3 O hi hb;rw[hi]at O;cases O;rfl
    ·intro hb;obtain rfl:=Kr e0 O hi hb;rw[hi]at O;cases O;rfl
   rw[Array.contains_push,Bool.or_eq_true,beq_iff_eq,h8 e' H,List.mem_append,List.mem_singleton,<-v0]
  ·rw[List.nodup_append];refine⟨hd,by simp,?_⟩;intro a ha b hb;simp at hb;rintro rfl;subst hb;exact k0 ha
  ·intro x hx;rcases List.mem_append.1 hx with hx | hx
   ·exact hs x hx
   ·simp at hx;subst hx;rw[<-h2,List.map_map];exact List.mem_map.2 ⟨e,Y.1,rfl⟩
theorem MapL.len (h:MapL P k w m L) (ht:P.underlying t=some (.map k E)) (ty:TypeId):(Builtin.len_ #[t] ty #[.map (some m)]).run P w = .ok (.int .i64 L.length) w:=by
 obtain⟨⟨es,cl,h1,h2,_⟩,_,_⟩:=h;have j:(getObj m).run P w = .ok (.map es cl) w:=by simp[getObj,Sem.run,h1]
 have b:L.length=es.size:=by rw[<-h2];simp
 simp only[Builtin.len_,List.getElem?_toArray,List.getElem?_cons_zero,Sem.run_bind,run_underlying ht,Result.andThen_ok,j,Sem.run_pure];rw[b];rfl
end
end
section
open Go.RowKit Go.Maps
theorem Pc:Elem prog 47 89 2 32:=⟨underlying47,⟨_,_,rfl,rfl,rfl,rfl,rfl⟩,by omega,by omega⟩
def IdxM (w:World) (M:Nat) (rows:List (List UInt8×List Po)):Prop:=∃L,MapL prog 9 w M L/\∀r∈rows,∃(ps:List PoC) (A:Option Addr) (c:Nat),(strV r.1,Value.slice A ps.length c)∈L/\psP ps=r.2/\PosOk w A ps/\(∀a,A=some a->a.spot=none)/\ps.length<=c
def NewX (w:World) (rows:List (List UInt8×List Po)) (e:Ending) (w':World):Prop:=∃B n c M,e = .returned (.tuple #[.slice B n c,.map (some M)])/\n=rows.length/\Buf w' w.heap.size 9 B n c (rows.map fun r=>strV r.1)/\IdxM w' M rows/\Ext w w'
theorem OG {a:Act} {K:Act->World->Prop} {E0:Prop} {T:TypeId} {t e size bytes m k:Nat} (E:Elem P t e size bytes) (U:o.guard=none)
 {base:Nat} (H:w0.ownsRow base e size v n xs) (hk:k=w0.heap.size) (s x:Operand)
 (I:o.op = .call { callee:= .builtin .append,args:=#[s,x],argTypes:=#[t,t] })
 (hs:a.eval s=v) (hx:a.eval x = .slice (some ⟨k,0,none⟩) m m) (G:us.length=m*size) (h1:∀u∈us,u.oneCell'=true) (Z:n+m<=4294967296) (J:base<=w0.heap.size)
 (h:∀A1 c1 w',w'.ownsRow base e size (.slice A1 (n+m) c1) (n+m) (xs++us)->w0.grownBy w' v.ownBlock->((Value.slice A1 (n+m) c1).ownBlock=v.ownBlock\/∃k,(Value.slice A1 (n+m) c1).ownBlock=some k/\w0.heap.size<=k)->K (a.put o.dst (.slice A1 (n+m) c1)) w') :
 if Region.wanted o (yielded ops a.tmps)=true then Oper.wp P o a (w0.alloc (.cells us.toArray T)) K Q else E0:=by
 subst hk;have hr:Cells (w0.alloc (.cells us.toArray T)) (some ⟨w0.heap.size,0,none⟩) us:= .inr ⟨w0.heap.size,0,rfl,fun i u hu=>by
  rw[Nat.zero_add,cell_of_row _ _ _ _ _ _ (heap_alloc_new w0 _)];simpa using hu⟩
 rw[if_pos (by simp[Region.wanted,U])];obtain⟨A1,c1,w',Y,h2,j,b⟩:=Ds (P:=P) E _ o.type (((Ext.refl w0).alloc _).owns H) (c:=m) hr G h1 Z (by simp;omega);unfold Oper.wp execOp;simp only[I,resolve,invoke,builtin,Sem.run_bind,Sem.run_pure,Result.andThen_ok,List.map_toArray,List.map_cons,List.map_nil,hs,hx,Y];refine h A1 c1 w' h2 ⟨j.os,j.tape,j.output,Nat.le_trans (by simp) j.size,fun k hk O=>(j.block k (by simp;omega) O).trans (Below.heap_alloc w0 _ k hk)⟩ ?_;rcases b with b | b
 ·exact .inl b
 ·exact .inr ⟨_,b,by simp⟩
theorem Sj {base n c:Nat} {D:List TmV} (h:w.ownsRow base 157 2 (.slice A n c) n (tcs D)) (hk:∀g cs,Row w g 157 cs->Row w1 g 157 cs) {x:TmV} (Y:D[i]? = some x) :
 ∃g,A=some ⟨g,0,none⟩/\w1.cell? ⟨g,i*2,none⟩=some (.string ⟨x.1.toArray⟩)/\w1.cell? ⟨g,i*2+1,none⟩=some (.slice x.2.1 x.2.2.1 x.2.2.2):=by
 obtain⟨g,cur,H,_,b,a,h1⟩:=Qe h Y;have j:=hk g cur b;refine⟨g,H,?_,?_⟩
 ·rw[j.get,<-b.get];exact a
 ·rw[j.get,<-b.get];exact h1
theorem O2 {base n c:Nat} (h:Buf w base e A n c xs) (hk:∀g cs,Row w g e cs->Row w1 g e cs):Buf w1 base e A n c xs:=by
 obtain⟨h1,h2,j⟩:=h;refine⟨h1,h2,?_⟩;rcases j with j | ⟨g,cur,b,hb,a,r⟩
 ·exact .inl j
 ·exact .inr ⟨g,cur,b,hb,hk g cur a,r⟩
theorem ER:Elem prog 93 9 1 16:=⟨underlying93,⟨_,_,rfl,rfl,rfl,rfl,rfl⟩,by omega,by omega⟩
theorem HY {α β:Type} (f:α->β) {l:List α} (h:(l.map f).Nodup):l.Nodup:=by
 rw[List.nodup_iff_pairwise_ne,List.pairwise_map]at h;rw[List.nodup_iff_pairwise_ne];exact h.imp fun h e=>h (by rw[e])
theorem K2 {α:Type}:∀(D E:List α),D.Nodup->(∀e∈D,e∈E)->D.length<=E.length
 | [],E,_,_=>Nat.zero_le _
 | a::D,E,hn,hs=>by
  rw[List.nodup_cons]at hn;obtain⟨E1,E2,rfl⟩:=List.append_of_mem (hs a (by simp));have:=K2 D (E1++E2) hn.2 fun e j=>by
   have h1:=hs e (List.mem_cons_of_mem _ j);rcases List.mem_append.1 h1 with h2 | h2
   ·exact List.mem_append_left _ h2
   ·rcases List.mem_cons.1 h2 with h | h
    ·exact absurd (h ▸ j) hn.1
    ·exact List.mem_append_right _ h
  simp only[List.length_append,List.length_cons]at *;omega
theorem NW (ds:List DocC) (A:Option Addr) (m c:Nat) (w:World) (hm:m=ds.length) (h:DocsOk w A ds) (z7:m<=65536) (hT:(pairsD 0 (dcs ds)).length<=1000000) :
 Calls prog 43 #[.slice A m c] w fun e w'=>NewX w (rowsD (dcs ds)) e w':=by
 have o2:=Aa (fun(x:DocC) (W:World) (hx:x.e.Ok W x.A)=>OO x.e x.A x.c W hx);replace h:=Aa h;replace hm:=Aa hm;replace hT:=Aa hT;have b7:=@run_makeMap prog
 go_in
 go_wp2_with fail;obtain⟨W1,n0⟩:=Ab (w.alloc (.map #[] 0));rw[<-n0];have o5:Ext w W1:=by rw[n0];exact(Ext.refl w).alloc _
 have i4:IX w.heap.size w.heap.size [] [] W1:=by rw[n0];exact IX.new
 obtain⟨M,hM⟩:=Ab w.heap.size;rw[<-hM];rw[<-hM]at i4;replace n0:=Aa n0;replace hM:=Aa hM
 go_loopw [14] (fun s14 wr=>∃(i:Nat) (E:List IdE),s14 = .int .i64 (i:Int)/\i<=m/\Hid (IX M M (pairsD 0 (dcs (ds.take i))) E wr)/\Hid (Ext w wr)) (fun s14 _=>m - (intOf s14).toNat)
 case atStart=>exact⟨0,[],rfl,by omega,Aa i4,Aa o5⟩
 case round =>
  obtain⟨i,E,rfl,hi,hI,hE⟩:=hrel;by_cases c6:i<m
  ·obtain⟨x,hx⟩:∃x,ds[i]? = some x:=⟨_,List.getElem?_eq_getElem (by rw[<-hm.out];exact c6)⟩
   have g4:=h.out.ext hE.out;obtain⟨g,o,hA,x0,x1,x2⟩:=AR g4.cells hx;subst hA;have y4:=(g4.each x (List.mem_of_getElem? hx)).1;replace y4:=Aa y4;replace hx:=Aa hx;clear g4;have d5:x.e.val x.A x.c = .agg #[.int .i64 x.e.at_,.slice x.A x.e.fs.length x.c]:=rfl;have d1:=o2.out x;rw[d5]at d1;have y1:pairsD 0 (dcs (ds.take (i+1)))=pairsD 0 (dcs (ds.take i))++(termsL x.e).map (fun p=>(p.1,((i:Int),p.2))):=by
    have h1:dcs (ds.take (i+1))=dcs (ds.take i) ++ [x.dc]:=by rw[List.take_add_one,hx.out];unfold dcs;rw[List.map_append];rfl
    have h2:(dcs (ds.take i)).length=i:=by unfold dcs;rw[List.length_map,List.length_take,<-hm.out];omega
    rw[h1,CG,h2,Nat.zero_add];show _++(_ ++ [])=_;rw[List.append_nil];rfl
   replace y1:=Aa y1;replace d1:=Aa d1;clear d5;go_wp2_with fail;obtain⟨W5,i3⟩:=Ab (wr.alloc (Obj.cells #[Value.int IntKind.i64 x.seq,Value.int IntKind.i64 x.e.at_,Value.slice x.A x.e.fs.length x.c] 71));have c0:Ext wr W5:=by rw[i3];exact(Ext.refl wr).alloc _
   rw[<-i3];refine(d1.out W5 (y4.out.ext c0)).mono ?_;rintro e w6 ⟨LT,DT,D,rfl,d2,l0,e4⟩;have h0:=l0.len;obtain⟨T,i0⟩:=Ab (termsL x.e);rw[<-i0]at h0 l0;have f3:∀p∈T,1<=p.1.length/\p.1.length<=65/\p.2.length<=65536:=fun p hp=>by
    rw[i0]at hp;exact⟨(EH hp).1,(EH hp).2,Jd hp⟩
   have v6:T.length<=65536:=by rw[i0];exact MD _
   rw[<-i0]at y1;obtain⟨nd,a2⟩:=Ab D.length;rw[<-a2]at d2 h0 ⊢;have m7:nd<=65536:=by rw[h0];exact v6
   have w5:=Aa ((hI.out.ext c0).ext e4);have d4:=Aa ((hE.out.trans c0).trans e4);have k6:M<=W5.heap.size:=by rw[hM.out];exact(hE.out.trans c0).size
   replace d2:=Aa d2;replace l0:=Aa l0;replace f3:=Aa f3;replace a2:=Aa a2;replace h0:=Aa h0;clear i0 c0 i3 d1;go_wp2_with fail
   go_loopw [23] (fun s23 wr=>∃(j:Nat) (E:List IdE),s23 = .int .i64 (j:Int)/\j<=nd/\Hid (IX M M (pairsD 0 (dcs (ds.take i))++((T.map fun p=>(p.1,((i:Int),p.2))).take j)) E wr)/\Hid (Ext w wr)/\Hid (∀g t cs,t≠89->Row w6 g t cs->Row wr g t cs)) (fun s23 _=>nd - (intOf s23).toNat)
   case atStart=>exact⟨0,E,rfl,by omega,by rw[List.take_zero,List.append_nil];exact w5,d4,Aa (fun _ _ _ _ h=>h)⟩
   case round =>
    obtain⟨j,E',rfl,hj,k2,y0,x3⟩:=hrel;by_cases k5:j<nd
    ·obtain⟨⟨ys,yA,yn,yc⟩,hy⟩:∃y,D[j]? = some y:=⟨_,List.getElem?_eq_getElem (by rw[<-a2.out];exact k5)⟩
     obtain⟨⟨ts,tl⟩,ht⟩:∃p,T[j]? = some p:=⟨_,List.getElem?_eq_getElem (by rw[<-h0.out];exact k5)⟩
     obtain⟨hs,q1⟩:=l0.out.each j _ _ hy ht;simp only at hs q1;subst hs;have o6:=f3.out _ (List.mem_of_getElem? ht);simp only at o6;have p7:tl.length=yn:=by have:=q1.1;rwa [List.length_map]at this
     subst p7;obtain⟨gT,b6,z0,z1⟩:=Sj d2.out (fun g cs hr=>x3.out g _ cs (by decide) hr) hy;subst b6;simp only at z0 z1;have f2:posAt M wr ⟨(i:Int),tl,yA,yc⟩:=⟨(O2 q1 (fun g cs hr=>x3.out g _ cs (by decide) hr)).lower k6,by show tl.length<=_;omega⟩
     obtain⟨xe,x4,f1,q3,y2⟩:=k2.out.get ys (by omega);have a1:pairsD 0 (dcs (ds.take i))++((T.map fun p=>(p.1,((i:Int),p.2))).take (j+1))=(pairsD 0 (dcs (ds.take i))++((T.map fun p=>(p.1,((i:Int),p.2))).take j)) ++ [(ys,((i:Int),tl))]:=by
      rw[List.take_add_one,List.getElem?_map,ht,List.append_assoc];rfl
     replace a1:=Aa a1;replace hy:=Aa hy;replace ht:=Aa ht;replace q1:=Aa q1;replace f2:=Aa f2;replace x4:=Aa x4;replace f1:=Aa f1;replace q3:=Aa q3;replace y2:=Aa y2;go_wp2_with fail;obtain⟨Wt,o0⟩:=Ab (wr.alloc (Obj.cells #[Value.string ⟨ys.toArray⟩,Value.slice yA tl.length yc] 157));rw[<-o0];obtain⟨g8,m2⟩:=Ab wr.heap.size;rw[<-m2];have Y:Ext wr Wt:=by rw[o0];exact(Ext.refl wr).alloc _
     have r8:Row Wt g8 157 #[Value.string ⟨ys.toArray⟩,Value.slice yA tl.length yc]:=by rw[o0,m2];exact Row.new wr _ _
     have e6:=y2.out Wt.drew Y.drew;have j5:=y2.out (Wt.drew.alloc (Obj.cells #[Value.int .i64 (i:Int),Value.slice yA tl.length yc] 89)) (Y.drew.alloc _);have g5:(Instr.lookup 94 (.map (some M)) (strV ys) false).run prog (Wt.alloc (Obj.cells #[Value.int .i64 (i:Int),Value.slice yA tl.length yc] 89)).drew = .ok (.slice xe.A xe.ps.length xe.c) (Wt.alloc (Obj.cells #[Value.int .i64 (i:Int),Value.slice yA tl.length yc] 89)).drew:=j5;unfold strV at e6 g5;clear j5;have d3:Wt.drew.cell? ⟨g8,0,none⟩=some (.string ⟨ys.toArray⟩)/\Wt.drew.cell? ⟨g8,1,none⟩=some (.slice yA tl.length yc):=⟨r8.cell 0 rfl,r8.cell 1 rfl⟩
     have r8b:Row (Wt.drew.alloc (Obj.cells #[Value.int .i64 (i:Int),Value.slice yA tl.length yc] 89)) g8 157 #[Value.string ⟨ys.toArray⟩,Value.slice yA tl.length yc]:=r8.drew.alloc _;have e3:(Wt.drew.alloc (Obj.cells #[Value.int .i64 (i:Int),Value.slice yA tl.length yc] 89)).cell? ⟨g8,0,none⟩=some (.string ⟨ys.toArray⟩)/\(Wt.drew.alloc (Obj.cells #[Value.int .i64 (i:Int),Value.slice yA tl.length yc] 89)).cell? ⟨g8,1,none⟩=some (.slice yA tl.length yc):=⟨r8b.cell 0 rfl,r8b.cell 1 rfl⟩
     have J:=Aa (Y.drew.owns f1.out);have c5:M<=Wt.drew.heap.size:=by rw[hM.out];exact(y0.out.trans Y.drew).size
     replace d3:=Aa d3;replace e3:=Aa e3;replace r8:=Aa r8;replace o0:=Aa o0;replace m2:=Aa m2;replace Y:=Aa Y;clear r8b;have n7:xe.ps.length<=1000000:=by
      have h1:xe.ps.length=(psP xe.ps).length:=by unfold psP;rw[List.length_map]
      rw[h1,q3.out];refine Nat.le_trans (HM _ _) ?_;have h2:pairsD 0 (dcs ds)=pairsD 0 (dcs (ds.take (i+1)))++pairsD (0+(dcs (ds.take (i+1))).length) (dcs (ds.drop (i+1))):=by
       rw[<-CG];congr 1;unfold dcs;rw[<-List.map_append,List.take_append_drop]
      have U:=hT.out;rw[h2,y1.out]at U;simp only[List.length_append,List.length_take]at U ⊢;omega
     have k4:∀w8 A8 c8,Wt.drew.grownBy w8 (Value.slice xe.A xe.ps.length xe.c).ownBlock->w8.ownsRow M 89 2 (.slice A8 (xe.ps.length+1) c8) (xe.ps.length+1) (pcells xe.ps ++ [Value.int .i64 (i:Int),Value.slice yA tl.length yc])->((Value.slice A8 (xe.ps.length+1) c8).ownBlock=(Value.slice xe.A xe.ps.length xe.c).ownBlock\/∃k,(Value.slice A8 (xe.ps.length+1) c8).ownBlock=some k/\Wt.drew.heap.size<=k) ->
      ∃w9,(Instr.mapUpdate 94 (.map (some M)) (.string ⟨ys.toArray⟩) (.slice A8 (xe.ps.length+1) c8)).run prog w8 = .ok () w9/\(w8.cell? ⟨g8,0,none⟩=some (.string ⟨ys.toArray⟩)/\w8.cell? ⟨g8,1,none⟩=some (.slice yA tl.length yc))/\(w9.cell? ⟨g8,0,none⟩=some (.string ⟨ys.toArray⟩)/\w9.cell? ⟨g8,1,none⟩=some (.slice yA tl.length yc))/\(∃E9,IX M M (pairsD 0 (dcs (ds.take i))++((T.map fun p=>(p.1,((i:Int),p.2))).take (j+1))) E9 w9)/\Ext w w9/\(∀g t cs,t≠89->Row w6 g t cs->Row w9 g t cs):=fun w8 A8 c8 hg ho hl=>by
      have n4:=k2.out.ext Y.out.drew;obtain⟨L,hL,hm⟩:=n4.map;have y3:=hL.grown hg (DK hL J.out);obtain⟨w9,L',I,j6,v5,q4,f7⟩:=y3.update Kk underlying94 (DJ (s:=ys) (by omega)) (.slice A8 (xe.ps.length+1) c8);have y5:∀g t cs,t≠89->Row Wt.drew g t cs->Row w9 g t cs:=fun g t cs ht hr=>by
       have q:=Jn J.out hg hr ht;exact q.grown q4 fun e=>DL y3 q (by injection e)
      have r8d:=r8.out.drew;have q8:=Jn J.out hg r8d (by decide);have q9:=y5 _ _ _ (by decide) r8d;have l4:=n4.put (w9:=w9) (y:=⟨(i:Int),tl,yA,yc⟩) x4.out J.out q3.out hg ho hl ⟨f2.out.1.ext Y.out.drew,f2.out.2⟩ (fun L1 p6 a7=>by
       obtain rfl:=y3.same p6;exact⟨L',j6,v5,q4⟩)
      have k3:=l4;show ∃_,_;rw[show (PoC.po ⟨(i:Int),tl,yA,yc⟩)=((i:Int),tl)from rfl,<-a1.out]at k3;refine⟨w9,I,⟨q8.cell 0 rfl,q8.cell 1 rfl⟩,⟨q9.cell 0 rfl,q9.cell 1 rfl⟩,⟨_,k3⟩,?_,fun g t cs ht hr=>y5 g t cs ht ((x3.out g t cs ht hr).ext Y.out.drew)⟩
      ·exact(CX J.out hg (y0.out.trans Y.out.drew) (by rw[hM.out];exact Nat.le_refl _)).grown q4 fun k hk=>by
        injection hk with hk;rw[<-hk,hM.out];exact Nat.le_refl _
     replace k4:=Aa k4
     go_region_held3 (fun x=>x.cell? ⟨g8,0,none⟩=some (.string ⟨ys.toArray⟩)/\x.cell? ⟨g8,1,none⟩=some (.slice yA tl.length yc)) (first | exact d3.out | exact e3.out | exact m6 | exact t6) (first | (refine OG (us:= [.int .i64 (i:Int),.slice yA tl.length yc]) (m:=1) Pc rfl J.out rfl (.tmp 33) (.tmp 38) rfl rfl rfl rfl (by simp[Value.oneCell']) (by omega) c5 (fun A9 c9 w8 l6 p5 f6=>?_);obtain⟨w9,i7,m6,t6,d0,r5,q6⟩:=k4.out w8 A9 c9 p5 l6 f6))
     all_goals (go_wp2_with fail)
     all_goals (obtain⟨E9,d0⟩:=d0;exact⟨⟨j+1,E9,by first | rfl | (congr 1;omega),by omega,Aa d0,Aa r5,Aa q6⟩,by simp only[intOf];omega⟩)
    ·have x6:(T.map fun p=>(p.1,((i:Int),p.2))).take j=T.map fun p=>(p.1,((i:Int),p.2)):=List.take_of_length_le (by rw[List.length_map,<-h0.out];omega);rw[x6,<-y1.out]at k2;go_wp2_with fail;exact⟨⟨i+1,E',by first | rfl | (congr 1;omega),by omega,k2,y0⟩,by simp only[intOf];omega⟩
  ·have r0:ds.take i=ds:=List.take_of_length_le (by rw[<-hm.out];omega);rw[r0]at hI;obtain⟨wo,r6⟩:=Ab wr;subst r6;have b:rowsD (dcs ds)=grp (pairsD 0 (dcs ds)):=rfl;obtain⟨PS,a3⟩:=Ab (pairsD 0 (dcs ds));rw[<-a3]at hI b hT;obtain⟨R,hR⟩:=Ab (rowsD (dcs ds));rw[<-hR]at b;obtain⟨L,hL,Z⟩:=hI.out.map;obtain⟨ob,k0,f0⟩:=hL.range underlying94;have q2:Ext wo (wo.alloc ob):=(Ext.refl wo).alloc ob;obtain⟨rb,G⟩:=Ab wo.heap.size;have t3:rb+1<=(wo.alloc ob).heap.size:=by rw[G];simp
   have g7:M<rb:=by rw[G];exact hL.lt
   rw[<-G]at k0 f0;replace Z:=Aa Z;replace G:=Aa G;replace a3:=Aa a3;replace hR:=Aa hR;replace b:=Aa b;obtain⟨Wq,l3⟩:=Ab (wo.alloc ob);rw[<-l3]at k0 f0 q2 t3;replace f0:=Aa f0;replace q2:=Aa q2;replace l3:=Aa l3;replace hL:=Aa hL;go_wp2_with fail
   go_loopw [9] (fun s9 wr=>∃(D:List IdE) (n:Nat) (A:Option Addr) (c:Nat),s9 = .slice A n c/\Hid (n=D.length)/\Hid (wr.ownsRow (rb+1) 9 1 (.slice A n c) n (D.map fun e=>strV e.s))/\Hid (RangeL prog 9 wr M rb L (D.map fun e=>strV e.s))/\Hid (∀e∈D,e∈E)/\rb+1<=wr.heap.size/\Hid (Ext wo wr)) (fun _ wr=>wr.rangeLeft M rb)
   case atStart=>exact⟨[],0,none,0,rfl,Aa rfl,Aa (World.ownsRow_nil _ _ _ _),f0,Aa (by simp),t3,q2⟩
   case round =>
    obtain⟨D,n,A,c,rfl,j1,hO,o4,hD,n6,f4⟩:=hrel;have j0:(D.map (·.s)).Nodup:=by
     have:=o4.out.dn;have h2:(D.map fun e=>strV e.s)=(D.map (·.s)).map strV:=by rw[List.map_map];rfl
     rw[h2]at this;exact HY strV this
    have q0:D.length<=1000000:=by
     have h1:=K2 (D.map (·.s)) (PS.map (·.1)) j0 fun t ht=>by
      obtain⟨e,he,rfl⟩:=List.mem_map.1 ht;have U:=hI.out.own e (hD.out e he);have h4:valsOf PS e.s ≠ []:=by rw[<-U.2.1];unfold psP;simpa using U.2.2
      obtain⟨q,hq,t0⟩:=Fv h4;exact List.mem_map.2 ⟨q,hq,t0⟩
     rw[List.length_map,List.length_map]at h1;have:=hT.out;omega
    replace q0:=Aa q0;rcases o4.out.next 0 with ⟨I,r0⟩ | ⟨x,v,w2,q7,l7,I,b3,q5,t4,m3,p4⟩
    ·have p0:Buf wr (rb+1) 9 A n c ((D.map (·.s)).map strV):=by
      rw[List.map_map];exact Buf.of_own hO.out
     have c7:n<=1000000:=by rw[j1.out];exact q0.out
     have i2:sortK (D.map (·.s))=R.map (·.1):=by
      have H:=BM PS;rw[<-b.out]at H;refine P9 ?_ (by rw[List.pairwise_map];exact H.up);refine(List.perm_ext_iff_of_nodup j0 ?_).2 fun t=>?_
      ·rw[List.nodup_iff_pairwise_ne,List.pairwise_map];exact H.up.imp fun h e=>by rw[e]at h;exact List.lt_irrefl _ h
      ·constructor
       ·intro ht;obtain⟨e,he,rfl⟩:=List.mem_map.1 ht;have U:=hI.out.own e (hD.out e he);exact List.mem_map.2 ⟨(e.s,psP e.ps),(H.mem _).2 ⟨U.2.1,by unfold psP;simpa using U.2.2⟩,rfl⟩
       ·intro ht;obtain⟨r,hr,rfl⟩:=List.mem_map.1 ht;have U:=(H.mem r).1 hr;have h4:valsOf PS r.1 ≠ []:=by rw[<-U.1];exact U.2
        obtain⟨q,hq,t0⟩:=Fv h4;obtain⟨y,hy,p3⟩:=hI.out.all q hq;have h5:=r0 _ ((Z.out _).2 ⟨y,hy,rfl⟩);obtain⟨e,he,a6⟩:=List.mem_map.1 h5;exact List.mem_map.2 ⟨e,he,by rw[HG a6,p3,t0]⟩
     replace i2:=Aa i2;have hs:=OE (rb+1) A n c (D.map (·.s)) wr (by rw[List.length_map];exact j1.out) p0 (by omega);have j4:n=R.length:=by
      have h1:=congrArg List.length i2.out;rw[List.length_map,(Hv _).length_eq,List.length_map]at h1;rw[j1.out,h1]
     replace j4:=Aa j4;have y6:=p0.base_le;replace hs:=Aa hs;replace p0:=Aa p0;replace j0:=Aa j0;go_wp2_with fail;refine hs.out.mono ?_;rintro e w3 ⟨rfl,o3,w4⟩;have O:Ext wo w3:=f4.out.chg w4 (by
      rintro i hi ⟨a,ha,hk⟩;have:=y6 a ha;have:=G.out;omega)
     replace O:=Aa O;replace o3:=Aa o3;clear w4;go_wp2_with fail;go_ret2;rw[<-hR.out];refine⟨A,n,c,M,rfl,j4.out,?_,⟨L,hL.out.ext O.out,fun r hr=>?_⟩,hE.out.trans O.out⟩
     ·have h1:(R.map fun r=>strV r.1)=(sortK (D.map (·.s))).map strV:=by rw[i2.out,List.map_map];rfl
      rw[h1];exact o3.out.lower (by have:=hM.out;omega)
     ·have H:=BM PS;rw[<-b.out]at H;have U:=(H.mem r).1 hr;have h4:valsOf PS r.1 ≠ []:=by rw[<-U.1];exact U.2
      obtain⟨q,hq,t0⟩:=Fv h4;obtain⟨y,hy,p3⟩:=hI.out.all q hq;have h5:=hI.out.own y hy;have h6:=BN h5.1;refine⟨y.ps,y.A,y.c,(Z.out _).2 ⟨y,hy,by rw[p3,t0];rfl⟩,by rw[h5.2.1,p3,t0,<-U.1],⟨Cells.of_own (O.out.owns h5.1),fun z hz=>?_⟩,h6.2,h6.1⟩;have h7:=hI.out.pos y hy z hz;exact⟨(h7.1.ext O.out).cells,h7.2⟩
    ·obtain⟨e0,z6,d6⟩:=(Z.out _).1 q7;injection d6 with hx1 hv1;subst hx1;subst hv1;have y0:Ext wo w2:=f4.out.grown q5 (fun k hk=>by injection hk with hk;rw[<-hk,G.out];exact Nat.le_refl _);have a5:rb+1<=w2.heap.size:=by rw[t4];exact n6
     have z3:w2.ownsRow (rb+1) 9 1 (.slice A n c) n (D.map fun e=>strV e.s):=by
      refine(Chg.of_grown (S:=fun k=>k=rb) q5 (fun k _ hk=>by injection hk with hk;exact hk.symm)).owns hO.out ?_;rintro g hg x7;obtain⟨cur,_,h9⟩:=Ae hO.out hg;omega
     have d7:n+1<=1000001:=by rw[j1.out];have:=q0.out;omega
     have m0:(Value.slice A n c).ownBlock≠some M/\(Value.slice A n c).ownBlock≠some rb:=by
      constructor
      ·intro hg;obtain⟨cur,_,h9⟩:=Ae hO.out hg;omega
      ·intro hg;obtain⟨cur,_,h9⟩:=Ae hO.out hg;omega
     have H:∀k,(Value.slice A n c).ownBlock=some k->wo.heap.size<=k:=by
      intro k hg;obtain⟨cur,_,h9⟩:=Ae hO.out hg;have:=G.out;omega
     replace m0:=Aa m0;replace H:=Aa H;replace t4:=Aa t4;replace j0:=Aa j0;replace z3:=Aa z3;have z5:strV e0.s = .string ⟨e0.s.toArray⟩:=rfl;have r3:=m3;have m4:=I;rw[z5]at r3 m4;clear m3 I;go_wp2_with (at_builtin;refine La (us:= [.string ⟨e0.s.toArray⟩]) ER z3.out (.tmp 48) (.tmp 50) rfl rfl rfl rfl (by simp[Value.oneCell']) (by simp;omega) (by omega) (fun A3 c3 w3 i6 k1 g5=>?_));have O:Ext wo w3:=y0.grown k1 H.out;have g6:RangeL prog 9 w3 M rb L ((D ++ [e0]).map fun e=>strV e.s):=by
      rw[List.map_append,List.map_cons,List.map_nil];exact b3.grown k1 m0.out.1 m0.out.2
     have t5:w3.ownsRow (rb+1) 9 1 (.slice A3 (n+1) c3) (n+1) ((D ++ [e0]).map fun e=>strV e.s):=by
      rw[List.map_append,List.map_cons,List.map_nil];exact i6
     have b5:rb+1<=w3.heap.size:=Nat.le_trans a5 k1.size;have m5:w3.rangeLeft M rb<wr.rangeLeft M rb:=by
      have h1:w3.heap[M]? = w2.heap[M]? :=k1.block M b3.map.lt (fun e=>m0.out.1 e.symm);have h2:w3.heap[rb]? = w2.heap[rb]? :=k1.block _ b3.lt (fun e=>m0.out.2 e.symm);have U:w3.rangeLeft M rb=w2.rangeLeft M rb:=by unfold World.rangeLeft;rw[h1,h2]
      rw[U];exact p4
     go_roundw
     case rel=>exact⟨D ++ [e0],n+1,A3,c3,rfl,Aa (by rw[List.length_append];simp;exact j1.out),t5,g6,Aa (fun e he=>by
      rcases List.mem_append.1 he with he | he
      ·exact hD.out e he
      ·simp at he;subst he;exact z6),b5,Aa O⟩
     case measure=>exact m5
end
section
open Go.RowKit
attribute [local go_sem] Oper.semAt_some AP
theorem Lo (A:Option Addr) (n c k:Nat) (w:World) (hk:1<=k) (h:k<=1000000) :
 Calls prog 127 #[.slice A n c,.int .i64 (k:Int)] w fun e w'=>∃b1 b2,e = .returned (.func (.func 170) #[] #[.pointer (some ⟨b1,0,none⟩),.pointer (some ⟨b2,0,none⟩)])/\Row w' b1 30 #[.slice A n c]/\Row w' b2 3 #[.int .i64 (k:Int)]/\w.heap.size<=b1/\w.heap.size<=b2/\b1<b2/\Ext w w':=by
 go_in
 go_wp2_with fail;go_ret;have h1:=Row.new w 30 #[.slice A n c];have h2:=Row.new (w.alloc (.cells #[.slice A n c] 30)) 3 #[.int .i64 (k:Int)];rw[World.size_alloc]at h2;exact⟨w.heap.size,w.heap.size+1,rfl,h1.alloc _,h2,Nat.le_refl _,by omega,by omega,((Ext.refl w).alloc _).alloc _⟩
theorem KQ (j:z=(i:Int)) (hi:i<=n):∃A' c',∀W:World,(Instr.sliceAt 30 (.slice A n c) (some (.int .i64 z)) none none).run prog W = .ok (.slice A' (n - i) c') W:=by
 subst j;have ht:=underlying30;have h:prog.elem 30=71:=by unfold Program.elem;rw[ht]
 have hs:∀W:World,(sizeOf 71).run prog W = .ok 3 W:=fun W=>by kernel_rfl
 refine⟨if c=i then A else A.map fun a=>a.add (i*3),c - i,fun W=>?_⟩;rw[run_sliceAt_slice W _ _ _ _ _ (by rw[ht,h]),run_slice_l W _ A n c (by rw[ht,h]) .i64 i (by omega) (by omega),h,hs];simp only[Result.andThen_ok,sliced];rfl
theorem KR {n c i j:Nat} (Y:z=(i:Int)) (b:z1=((i+j:Nat):Int)) (H:z2=((i+j:Nat):Int)) (hi:i+j<=c) (J:0<j) (W:World) :
 (Instr.sliceAt 30 (.slice A n c) (some (.int .i64 z)) (some (.int .i64 z1)) (some (.int .i64 z2))).run prog W = .ok (.slice (A.map fun a=>a.add (i*3)) j j) W:=by
 subst Y b H;have ht:=underlying30;have h:prog.elem 30=71:=by unfold Program.elem;rw[ht]
 have hs:(sizeOf 71).run prog W = .ok 3 W:=by kernel_rfl
 rw[run_sliceAt_slice W _ _ _ _ _ (by rw[ht,h]),run_slice_lhm W _ A n c (by rw[ht,h]) .i64 .i64 .i64 i ((i+j:Nat):Int) ((i+j:Nat):Int) (by omega) (by omega) (by omega) (by omega),h,hs];simp only[Result.andThen_ok];congr 1;unfold sliced;rw[if_neg (by omega),show ((i+j:Nat):Int).toNat - (i:Int).toNat=j by omega];rfl
def chunkVB (A:Option Addr) (n k i:Nat):Value:= .slice (A.map fun a=>a.add (i*k*3)) (min k (n - i*k)) (min k (n - i*k))
def ChIterB (A:Option Addr) (n k b1 b2:Nat) (w:World):Prop :=
 Iter prog 170 #[.pointer (some ⟨b1,0,none⟩),.pointer (some ⟨b2,0,none⟩)] (fun i:Nat=>#[chunkVB A n k i]) Ext (fun pre i _=>i=pre.length/\i*k<n) (KeepB b1 b2) (fun xs W W'=>n<=xs.length*k/\xs=List.range xs.length/\(∀i∈xs,i*k<n)/\Ext W W') w
theorem JU (A:Option Addr) (n c k b1 b2:Nat) (w:World) (H:Row w b1 30 #[.slice A n c]) (Y:Row w b2 3 #[.int .i64 (k:Int)]) (hk:1<=k) (n0:k<=1000000) (hn:n<=1000000000) (hc:n<=c):ChIterB A n k b1 b2 w:=by
 intro l J W hE U hY h0;replace H:=H.ext hE;replace Y:=Y.ext hE;clear hE;replace H:=Aa H;replace Y:=Aa Y;replace hY:=Aa hY;replace U:=Aa U;replace h0:=Aa h0;refine(callsIn_wide (n:=0)).1 ?_;refine callsIn_of_wp func170 rfl trivial ?_;simp only[ntmps170,List.size_toArray,List.length_cons,List.length_nil,Nat.reduceAdd,Nat.reduceSub,Array.replicate_succ,Array.replicate_zero,List.push_toArray,List.append_toArray,List.nil_append,List.cons_append];gi_wp2_with fail
 gi_loopw [4] (fun s4 wr=>∃(i q:Nat) (pre:List Nat),s4 = .int .i64 (q:Int)/\Hid (q=i*k)/\q<=n+k/\Hid (pre.length=i)/\Hid (pre=List.range i)/\Hid (∀j∈pre,j*k<n)/\Hid (J pre wr)/\Hid (Row wr b1 30 #[.slice A n c])/\Hid (Row wr b2 3 #[.int .i64 (k:Int)])) (fun s4 _=>n - (intOf s4).toNat)
 case atStart=>exact⟨0,0,[],rfl,Aa (by simp),by omega,Aa rfl,Aa rfl,Aa nofun,h0,H,Y⟩
 case round =>
  obtain⟨i,q,pre,rfl,hq,h1,b,q0,G,hJ,r1,r2⟩:=hrel;have k1:=r1.out.cell 0 rfl;have k2:=r2.out.cell 0 rfl;by_cases Z:q<n
  ·obtain⟨m,hm⟩:∃m:Nat,(m:Int)=min (k:Int) ((n - q:Nat):Int):=⟨min k (n - q),by omega⟩
   have y0:0<m:=by omega
   have o0:m<=k:=by omega
   have r0:m<=n - q:=by omega
   have c0:m=k\/m=n - q:=by omega
   have f0:=fun(W:World)=>AQ (P:=prog) #[3,3] 3 hm W;have j1:=fun(W:World)=>KR (A:=A) (n:=n) (c:=c) (i:=q) (j:=m) (z:=(q:Int)) (z1:=(q:Int)+(m:Int)) (z2:=(q:Int)+(m:Int)) rfl (by omega) (by omega) (by omega) y0 W;obtain⟨A',c',q1⟩:=KQ (A:=A) (n:=n) (c:=c) (i:=q) (z:=(q:Int)) rfl (by omega);replace hm:=Aa hm;have j0:=hY.out pre pre.length wr.drew (U.out _ _ _ hJ.out (Ext.refl wr).drew) ⟨rfl,by rw[b.out,<-hq.out];exact Z⟩;have O:chunkVB A n k pre.length = .slice (A.map fun a=>a.add (q*3)) m m:=by
    unfold chunkVB;rw[b.out,<-hq.out,show min k (n - q)=m by omega]
   rw[O]at j0;obtain⟨fn,tmps,assign,body,hy,hR⟩:=j0;have I:Hid (∀j∈pre ++ [pre.length],j*k<n):=Aa fun j hj=>by
    rcases List.mem_append.1 hj with h | h
    ·exact G.out j h
    ·rw[List.mem_singleton.1 h,b.out,<-hq.out];exact Z
   have p0:Hid (pre ++ [pre.length]=List.range (i+1)):=Aa (by rw[List.range_succ,b.out,q0.out]);have d0:Hid (q+k=(i+1)*k):=Aa (by rw[Nat.succ_mul,hq.out]);clear O c0 hY U;gi_wp2_with fail;refine wpIn_wide.2 (AE (fun K hK=>?_));go_wp2_with fail;refine⟨by kernel_rfl,?_⟩;gi_wp2_with fail;refine hR.mono ?_;rintro e W3 ⟨rfl,v0,T⟩;have r13:=Aa (show Row W3 b1 30 #[.slice A n c] from T.1 _ r1.out);have r23:=Aa (show Row W3 b2 3 #[.int .i64 (k:Int)] from T.2 _ r2.out);have k23:=r23.out.cell 0 rfl;gi_wp2_with fail;exact⟨⟨i+1,q+k,pre ++ [pre.length],by congr 1,d0,by omega,Aa (by rw[List.length_append,b.out];rfl),p0,I,Aa v0,r13,r23⟩,by simp only[intOf];omega⟩
  ·gi_wp2_with fail
   go_end0
   exact⟨⟨_,rfl⟩,pre,_,hJ.out,by rw[b.out,<-hq.out];omega,by rw[b.out];exact q0.out,G.out,Ext.refl _⟩
end
section
open Go.RowKit
def OnlyN (Q:Exit->Act->World->Prop):Exit->Act->World->Prop
 | .normal,a,w=>Q .normal a w
 | _,_,_=>False
theorem OnlyN.imp (e:Exit) (a:Act) (w:World) (h:OnlyN Q e a w):Q e a w:=by
 cases e <;> first | exact h | exact h.elim
def calmOps (ops:Array Oper):Bool:=ops.all fun o=>match o.op with | .defer _=>false | _=>true
theorem O3 (h:calmOps ops=true) (a:ops[i]? = some o):∀c,o.op ≠ .defer c:=by
 intro c j;unfold calmOps at h;rw[Array.all_eq_true]at h;obtain⟨hi,b⟩:=Array.getElem?_eq_some_iff.1 a;have:=h i hi;rw[b,j]at this;cases this
theorem Q4 {row:String} {args:Array Value} {R:Value->World->Prop} (h:Rows P row args w R):RowsIn Fence.wide n P row args w R :=
 fun c cs _=>let ⟨v,w',r,s⟩:=h c cs;⟨v,w',r,stepsIn_wide.2 s⟩
theorem AL {l:Nat} (b:calmOps ops=true) :
 ∀(fuel:Nat) (listed:Array Bool) (a:Act) (w:World),wpAny P md ops (OnlyN Q) fuel listed a w->wpAnyIn (Fence.wide.inRound l) 0 P md ops (OnlyN Q) fuel listed a w
 | 0,listed,a,w,h=>h
 | fuel+1,listed,a,w,h=>⟨h.1,fun i hi=>by
  have j:=h.2 i hi;unfold wpOp at j;unfold wpOpIn;cases J:ops[i]? with
  | none=>rw[J]at j;exact AL b fuel _ a w j
  | some o =>
   rw[J]at j;simp only at j ⊢;split
   ·rename_i H;rw[if_pos H]at j;rcases j with j | ⟨_,O⟩
    ·refine⟨fun _ _=>trivial,?_⟩;rw[Oper.semAt_plain _ _ _ (O3 b J)];unfold Oper.wp at j;generalize (execOp a.eval o).run P w=r at j ⊢;cases r with
     | ok nx w' =>
      cases nx with
      | value v=>exact AL b fuel _ _ _ j
      | skip=>exact AL b fuel _ _ _ j
      | defer d=>exact AL b fuel _ _ _ j
      | enter f args =>
       refine⟨fun h=>by simp[Fence.wide]at h,CallsIn.inRound l (callsIn_wide.2 (Calls.mono j ?_))⟩;intro e w'' Y;cases e with
       | returned v=>exact AL b fuel _ _ _ Y
       | panicked ch=>exact Y
       | outgrown=>exact Y
      | row row args =>
       exact⟨fun h=>by simp[Fence.wide]at h,Q4 (Rows.mono j fun v w'' Y=>AL b fuel _ _ _ Y)⟩
      | _=>exact j.elim
     | halt x w' =>
      cases x with
      | panic v=>exact j
      | _=>exact j
    ·obtain⟨a1,w1,U⟩:=O;exact U.elim
   ·rename_i H;rw[if_neg H]at j;exact⟨fun _ _=>trivial,AL b fuel _ _ _ j⟩⟩
theorem HV {id:Nat} {a:Act} {l:Nat} (S:World->Prop) (b:P.follows .mixedOrders=true) (j:calmOps ops=true)
 (h:wpAnyH P .any ops (OnlyN Q) S ops.size (Array.replicate ops.size false) a w.drew):(Code.region id ops true).wpIn (Fence.wide.inRound l) 0 P Q a w :=
 wpIn_mono (wpIn_region_any b (AL j _ _ _ _ (wpAny_of_held _ _ _ _ h))) OnlyN.imp
end
section
open Go.RowKit
attribute [local go_sem] Oper.semAt_some AP Cp
theorem BP (h1 : -9223372036854775808<=z) (h2:z<9223372036854775808):IntKind.i64.wrap z=z:=by
 simp[IntKind.wrap,IntKind.bits,IntKind.signed];omega
structure Blk where
  last:Int
  b:List UInt8
  A:Option Addr
  c:Nat
def Blk.args (x:Blk):Array Value:=#[.int .i64 x.last,.slice x.A x.b.length x.c]
def StB (W A B:World):Prop:=Chg (fun k=>W.heap.size<=k/\∀t cs,Row A k t cs->t=3) A B
theorem StB.ext {W A B:World} (h:Ext A B):StB W A B:=Chg.of_ext h _
theorem StB.alike {W A B:World} {X:Nat} (h:Alike X A B) (a:W.heap.size<=X):StB W A B :=
 ⟨h.os,h.tape,h.output,h.size,fun k hk hn=>h.block k hk fun j=>hn ⟨by have:=j.1;omega,fun t cs b=>(NC.not_row b j).elim⟩⟩
theorem StB.num {W A B : World} (h : Chg (fun k => k = g) A B) (H : W.heap.size ≤ g) (b : Row A g 3 cs) : StB W A B :=
  ⟨h.os, h.tape, h.output, h.size, fun k hk hn => h.block k hk fun a => hn ⟨by omega, fun t cs' j => by
    rw [a] at j
    unfold Row at b j
    rw [b] at j
    injection j with e
    injection e with _ e
    exact e.symm⟩⟩
theorem StB.old {W A B:World} (h:StB W A B) (k:Nat) (o:Obj) (hk:k<W.heap.size) (j:A.heap[k]? = some o) (_:o.isCells=false):B.heap[k]? = some o :=
 (h.block k (Array.getElem?_eq_some_iff.1 j).1 fun hn=>by have:=hn.1;omega).trans j
def KpB (B:Nat) (W W':World):Prop:=(∀w0:World,w0.heap.size<=B->Ext w0 W->Ext w0 W')/\∀g t cs,t≠24->t≠5->Row W g t cs->Row W' g t cs
theorem KpB.trans (B:Nat) (A C D:World) (h:KpB B A C) (k:KpB B C D):KpB B A D:=⟨fun w0 j b=>k.1 w0 j (h.1 w0 j b),fun g t cs h1 h2 a=>k.2 g t cs h1 h2 (h.2 g t cs h1 h2 a)⟩
theorem KpB.alike {B X:Nat} (a:B<=X) (A C:World) (h:Alike X A C):KpB B A C:=⟨fun _ hs j=>h.ext j (by omega),fun _ _ _ _ _ b=>h.row b⟩
theorem KpB.ext {A C:World} (h:Ext A C):KpB B A C:=⟨fun _ _ j=>j.trans h,fun _ _ _ _ _ b=>b.ext h⟩
def NxB (P:List Dc) (pre:List Blk) (x:Blk) (W:World):Prop:=pre.length*16<P.length/\x.last=lastD (lastD 0 (P.take (pre.length*16))) ((P.drop (pre.length*16)).take 16)/\x.b=blockD (lastD 0 (P.take (pre.length*16))) ((P.drop (pre.length*16)).take 16)/\∃base,Buf W base 5 x.A x.b.length x.c (x.b.map B8)
def BlkIter (P:List Dc) (B b0:Nat) (w:World):Prop :=
 IterS prog 126 #[.pointer (some ⟨b0,0,none⟩)] Blk.args StB (NxB P) (KpB B) (fun xs A B=>P.length<=xs.length*16/\B=A) w
def BkI (b0 b1 b2 gy gl l:Nat) (V:Value) (P:List Dc) (J:List Blk->World->Prop) (W w0:World) (r:Nat) (X:World):Prop :=
 (∃xs:List Blk,xs.length=r/\J xs X)/\Row X b0 30 #[V]/\Row X b1 30 #[V]/\Row X b2 3 #[.int .i64 16]/\Row X gy 209 #[.func (.yield l) #[] #[]]/\Row X gl 3 #[.int .i64 (lastD 0 (P.take (r*16)))]/\Ext w0 X/\W.heap.size<=X.heap.size
theorem Li (A:Option Addr) (n c:Nat) (w:World) :
 Calls prog 80 #[.slice A n c] w fun e w'=>∃b0,e = .returned (.func (.func 126) #[] #[.pointer (some ⟨b0,0,none⟩)])/\Row w' b0 30 #[.slice A n c]/\w.heap.size<=b0/\Ext w w':=by
 go_in
 go_wp2_with fail;go_ret;exact⟨w.heap.size,rfl,Row.new w _ _,Nat.le_refl _,(Ext.refl w).alloc _⟩
theorem JR (ds:List DocC) (A:Option Addr) (m c b0 B:Nat) (w0 w:World) (hm:m=ds.length) (h:DocsOk w0 A ds) (hA:∀a,A=some a->a.spot=none) (j7:m<=c) (q3:okDs (dcs ds)=true) (j3:(blockD 0 (dcs ds)).length<=50000000)
 (hB:w0.heap.size<=B) (hw:Ext w0 w) (f1:Row w b0 30 #[.slice A m c]):BlkIter (dcs ds) B b0 w:=by
 intro l J W hE o1 hY h0;have y1:(dcs ds).length=m:=by unfold dcs;rw[List.length_map,hm]
 have w7:m<=65536:=by
  have:=q3;unfold okDs at this;rw[Bool.and_eq_true]at this;have:=of_decide_eq_true this.1;omega
 obtain⟨P,hP⟩:=Ab (dcs ds);rw[<-hP]at y1 q3 j3 hY ⊢;replace f1:=Aa (f1.ext hE);replace hw:=Aa (hw.trans hE);clear hE;replace hm:=Aa hm;replace h:=Aa h;replace hA:=Aa hA;replace hP:=Aa hP;replace q3:=Aa q3;replace j3:=Aa j3;replace y1:=Aa y1;replace hY:=Aa hY;replace o1:=Aa o1;replace h0:=Aa h0;refine(callsIn_wide (n:=0)).1 ?_;refine callsIn_of_wp_marks func126 rfl trivial ?_;simp only[ntmps126,List.size_toArray,List.length_cons,List.length_nil,Nat.reduceAdd,Nat.reduceSub,Array.replicate_succ,Array.replicate_zero,List.push_toArray,List.append_toArray,List.nil_append,List.cons_append];have k0:=f1.out.cell 0 rfl;have k0l:=f1.out.lt;gi_wp2_with fail;obtain⟨W3,y0⟩:=Ab ((W.alloc (Obj.cells #[Value.func (.yield l) #[] #[]] 209)).alloc (Obj.cells #[Value.int IntKind.i64 0] 3));rw[<-y0];obtain⟨gy,d0⟩:=Ab W.heap.size;rw[<-d0];have qy:Row W3 gy 209 #[Value.func (.yield l) #[] #[]]:=by rw[y0,d0];exact(Row.new W _ _).alloc _
 have ql:Row W3 (gy+1) 3 #[.int .i64 0]:=by
  have:=Row.new (W.alloc (Obj.cells #[Value.func (.yield l) #[] #[]] 209)) 3 #[.int .i64 0];rw[World.size_alloc,<-d0]at this;rw[y0];exact this
 have v0:Ext W W3:=by rw[y0];exact((Ext.refl W).alloc _).alloc _
 have t4:W3.heap.size=gy+2:=by rw[y0,d0];simp
 refine(callsIn_wide.2 (Lo A m c 16 W3 (by omega) (by omega))).mono ?_;rintro e w4 ⟨b1,b2,rfl,rb1,rb2,i6,l6,v7,Z⟩;have a3:BkI b0 b1 b2 gy (gy+1) l (.slice A m c) P J W w0 0 w4:=⟨⟨[],rfl,o1.out _ _ _ h0.out (StB.ext (v0.trans Z))⟩,(f1.out.ext v0).ext Z,rb1,rb2,qy.ext Z,by rw[Nat.zero_mul,List.take_zero];exact ql.ext Z,hw.out.trans (v0.trans Z),(v0.trans Z).size⟩
 have q4:=JU A m c 16 b1 b2 w4 rb1 rb2 (by omega) (by omega) (by omega) j7;rw[t4]at i6 l6;have k6:W.heap.size<=w4.heap.size:=(v0.trans Z).size;have x5:=rb2.lt;have i7:B<=w4.heap.size\/w4.heap.size<B:=by omega
 have p6:w0.heap.size<=w4.heap.size:=(hw.out.trans (v0.trans Z)).size;have O:∀r A2 B2,BkI b0 b1 b2 gy (gy+1) l (.slice A m c) P J W w0 r A2->Alike w4.heap.size A2 B2->BkI b0 b1 b2 gy (gy+1) l (.slice A m c) P J W w0 r B2:=by
  rintro r A2 B2 ⟨⟨xs,hx,hj⟩,r1,r2,r3,r4,r5,he,hs⟩ U;exact⟨⟨xs,hx,o1.out _ _ _ hj (StB.alike U k6)⟩,U.row r1,U.row r2,U.row r3,U.row r4,U.row r5,U.ext he p6,Nat.le_trans hs U.size⟩
 have k1:∀r A2 B2,BkI b0 b1 b2 gy (gy+1) l (.slice A m c) P J W w0 r A2->Ext A2 B2->BkI b0 b1 b2 gy (gy+1) l (.slice A m c) P J W w0 r B2:=by
  rintro r A2 B2 ⟨⟨xs,hx,hj⟩,r1,r2,r3,r4,r5,he,hs⟩ U;exact⟨⟨xs,hx,o1.out _ _ _ hj (StB.ext U)⟩,r1.ext U,r2.ext U,r3.ext U,r4.ext U,r5.ext U,he.trans U,Nat.le_trans hs U.size⟩
 replace a3:=Aa a3;replace q4:=Aa q4;replace y0:=Aa y0;replace d0:=Aa d0;replace O:=Aa O;replace k1:=Aa k1;clear qy ql v0 Z rb1 rb2 t4 k0 k0l f1;gi_wp2_with fail;unfold ChIterB at q4;refine C8 (gf:=170) (lb:=#[.pointer (some ⟨b1,0,none⟩),.pointer (some ⟨b2,0,none⟩)]) rfl (enters_of func170 (by kernel_rfl) rfl) q4.out (fun _=>rfl) (fun _ _ h=>h.others) (fun _ _ _ h=>h.2.2.2.others) (KeepB.trans b1 b2) ?kb
  (fun pre X=>BkI b0 b1 b2 gy (gy+1) l (.slice A m c) P J W w0 pre.length X) (fun pre A B h U=>O.out _ _ _ h U) (fun pre A B h hE=>k1.out _ _ _ h hE) ?h0 ?hround ?hdone
 case kb =>
  have v5:=(a3.out.2.2.1).lt;exact KeepB.alike v5 x5
 case h0=>exact fun X U=>O.out _ _ _ a3.out U
 case hround =>
  rintro l2 pre i X hI ⟨hi,e5⟩;subst hi;have hR:=Ho q3.out j3.out (r:=pre.length) (by rw[y1.out];exact e5);obtain⟨j,hj⟩:=Ab (min 16 (m - pre.length*16));obtain⟨cb,a2⟩:=Ab ((ds.drop (pre.length*16)).take 16);have f0:cb.length=j:=by rw[a2,hj,List.length_take,List.length_drop,hm.out]
  obtain⟨A',y3⟩:=Ab (A.map fun a=>a.add (pre.length*16*3):Option Addr);have o0:DocsOk w0 A' cb:=by rw[y3,a2];exact h.out.part hA.out _ _
  have v4:chunkVB A m 16 pre.length = .slice A' j j:=by unfold chunkVB;rw[y3,hj]
  obtain⟨bP,i1⟩:=Ab ((P.drop (pre.length*16)).take 16);have e0:bP=cb.map DocC.dc:=by rw[i1,a2,hP.out,dcs,<-List.map_drop,<-List.map_take]
  obtain⟨lst,T⟩:=Ab (lastD 0 (P.take (pre.length*16)));rw[<-i1,<-T]at hR;have y7:j<=16:=by omega
  have p3:pre.length*16<P.length:=by rw[y1.out];exact e5
  replace hI:=Aa hI;replace hR:=Aa hR;rw[v4];clear v4;replace o0:=Aa o0;replace y3:=Aa y3;replace a2:=Aa a2;replace hj:=Aa hj;replace i1:=Aa i1;replace T:=Aa T;replace f0:=Aa f0;replace e0:=Aa e0;replace p3:=Aa p3;gi_wp2_with fail;refine⟨KeepsOthers.refl _,KeepB.refl _ _ _,fun X2 i4=>?_⟩;have a6:=O.out _ _ _ hI.out i4;clear i4 hI;obtain⟨⟨xs,d4,z4⟩,rr0,rr1,rr2,rry,rrl,k2,q8⟩:=a6;rw[<-T.out]at rrl;obtain⟨Y,m2⟩:=Ab (blockD lst bP);obtain⟨lz,o2⟩:=Ab (lastD lst bP);have k7:=hR.out.lo;have q7:=hR.out.hi;have f6:Y.length<=50000000:=by have:=hR.out.len;have:=j3.out;rw[m2];omega
  have x7:W.heap.size<=gy:=Nat.le_of_eq d0.out.symm;have b7:=hw.out.size;have w5:=Aa (fun A n c x l W h1 h2 h3 h4 h5=>Cm A n c x l W h1 h2 h3 h4 h5);have b5:=Aa (fun A n c l e B d W h1 h2 h3 h4 h5 h6 h7=>ND A n c l e B d W h1 h2 h3 h4 h5 h6 h7);replace d4:=Aa d4;replace z4:=Aa z4;replace rr0:=Aa rr0;replace rr1:=Aa rr1;replace rr2:=Aa rr2;replace rry:=Aa rry;replace rrl:=Aa rrl;replace k2:=Aa k2;replace m2:=Aa m2;replace o2:=Aa o2;gi_wp2_with fail
  gi_loopw [5,13] (fun s5 s13 wr=>∃(i n5 c5:Nat) (A5:Option Addr) (Xb:List UInt8) (la:Int),s5 = .slice A5 n5 c5/\s13 = .int .i64 (i:Int)/\i<=j/\n5<=50000000/\0<=la/\la<1099511627777/\Hid (Y=Xb++blockD la (bP.drop i))/\Hid (risB 1099511627777 la ((bP.drop i).map (·.1))=true)/\Hid (lastD la (bP.drop i)=lz)/\Hid (Own8 wr 0 A5 n5 c5 Xb)/\Hid (Row wr (gy+1) 3 #[.int .i64 la])/\Hid (Chg (fun k=>k=gy+1) X2 wr)) (fun _ s13 _=>j - (intOf s13).toNat)
  case atStart=>exact⟨0,0,0,none,[],lst,rfl,rfl,by omega,by omega,k7,q7,Aa (by rw[m2.out];rfl),Aa hR.out.ris,Aa (by rw[o2.out];rfl),Aa ⟨rfl,Buf.nil _ _ _⟩,rrl,Aa (Chg.refl _ _)⟩
  case round =>
   obtain⟨i,n5,c5,A5,Xb,la,rfl,rfl,r7,h8,z7,a7,t5,g7,d5,t0,k3,I⟩:=hrel;have j2:Hid (Ext w0 wr):=Aa (k2.out.chg I.out fun k hk e=>by omega);by_cases p7:i<j
   ·obtain⟨x,m3⟩:∃x,cb[i]? = some x:=⟨_,List.getElem?_eq_getElem (by rw[f0.out];exact p7)⟩
    obtain⟨g,o,y6,x0,x1,x2⟩:=AR (o0.out.cells.ext j2.out) m3;subst y6;have t3:=o0.out.each x (List.mem_of_getElem? m3);have e3:bP[i]? = some x.dc:=by rw[e0.out,List.getElem?_map,m3];rfl
    have g4:=hR.out.pos x.dc (List.mem_of_getElem? e3);have y2:=t5.out;have r0:=g7.out;have f2:=d5.out;rw[AY e3]at y2 r0 f2;rw[List.map_cons]at r0;obtain⟨f3,i3,q1⟩:=BW r0;obtain⟨W5,c0⟩:=Ab (wr.alloc (Obj.cells #[Value.int IntKind.i64 x.seq,Value.int IntKind.i64 x.e.at_,Value.slice x.A x.e.fs.length x.c] 71));have m1:Ext wr W5:=by rw[c0];exact(Ext.refl wr).alloc _
    have rp:Row W5 wr.heap.size 71 #[Value.int IntKind.i64 x.seq,Value.int IntKind.i64 x.e.at_,Value.slice x.A x.e.fs.length x.c]:=by rw[c0];exact Row.new wr _ _
    obtain⟨q,hq⟩:∃q:Nat,(q:Int)=x.seq - la - 1:=⟨(x.seq - la - 1).toNat,by have:la<x.seq:=f3;omega⟩
    obtain⟨X1,d3⟩:=Ab (Xb++vb q);obtain⟨X3,d1⟩:=Ab (X1++putE x.e);have g0:Y=X3++blockD x.seq (bP.drop (i+1)):=by
     rw[y2,d1,d3];show Xb++((vb (x.seq - la - 1).toNat++putE x.e)++_)=_;rw[show (x.seq - la - 1).toNat=q by omega];simp[DocC.dc]
    have g5:X3.length<=50000000:=by rw[g0,List.length_append]at f6;omega
    have m4:X1.length<=X3.length:=by rw[d1,List.length_append];omega
    have p4:checkE x.e.fs=0:=by unfold okD at g4;exact of_decide_eq_true g4
    have f3:la<x.seq:=f3;have i3:x.seq<1099511627777:=i3;have k4:=k3.out.ext m1;have l0:lastD x.seq (bP.drop (i+1))=lz:=f2;obtain⟨seq,⟨at_,fs⟩,Bx,cB⟩:=x;simp only at x0 x1 x2 c0 rp hq d1 g0 p4 f3 i3 q1 l0 t3;obtain⟨fl,l3⟩:=Ab fs.length;rw[<-l3]at x2 c0 rp;obtain⟨gd,o3⟩:=Ab wr.heap.size;rw[<-o3]at rp;have p0:=rp.cell 0 rfl;have p1:=rp.cell 1 rfl;have p2:=rp.cell 2 rfl;have pl:=k4.cell 0 rfl;replace l3:=Aa l3;replace o3:=Aa o3;replace c0:=Aa c0;replace rp:=Aa rp;replace k4:=Aa k4;replace m1:=Aa m1;replace d3:=Aa d3;replace d1:=Aa d1;replace g0:=Aa g0;replace hq:=Aa hq;replace p4:=Aa p4;replace t3:=Aa t3;replace q1:=Aa q1;replace l0:=Aa l0;replace e3:=Aa e3;replace g4:=Aa g4;replace m3:=Aa m3;clear y2 r0 f2;gi_wp2_with fail;rw[<-c0.out,<-o3.out];have i5:prog.follows .mixedOrders=true:=by kernel_rfl
    have p8:IntKind.i64.wrap (seq - la)=seq - la:=BP (by omega) (by omega);have k8:IntKind.i64.wrap (seq - la - 1)=(q:Int):=by rw[BP (by omega) (by omega)];exact hq.out.symm
    have j8:=AH (m:=q) (by have:=hq.out;omega);have q0:=Aa (w5.out A5 n5 c5 q Xb W5.drew t0.out.1 (t0.out.2.ext (m1.out.trans (Ext.refl W5).drew)).cells t0.out.nil_ (by omega) (by have:=hq.out;omega));rw[<-d3.out]at q0;obtain⟨n6,j4⟩:=Ab X1.length;have d2:Hid (∀A6 c6 W6,Buf W6 W5.drew.heap.size 5 A6 n6 c6 (X1.map B8)->Ext w0 W6->Calls prog 128 #[.slice A6 n6 c6,.agg #[.int .i64 at_,.slice Bx fl cB]] W6 (fun e w'=>OkB' W6 X3 e w')):=Aa fun A6 c6 W6 hb he=>by
     have:=b5.out A6 n6 c6 X1 ⟨at_,fs⟩ Bx cB W6 j4 hb.cells hb.none_cap (by omega) (t3.out.1.ext he) p4.out t3.out.2.1;unfold Ev.val at this;rw[<-d1.out]at this;simp only at this;rw[<-l3.out]at this;exact this
    obtain⟨n8,c4⟩:=Ab X3.length;have o4:Hid (Ext w0 W5.drew):=Aa (j2.out.trans (m1.out.trans (Ext.refl W5).drew));have rpd:Hid (Row W5.drew gd 71 #[Value.int IntKind.i64 seq,Value.int IntKind.i64 at_,Value.slice Bx fl cB]):=Aa rp.out.drew;have i2:=Aa k4.out.drew;unfold NewB at q0;unfold OkB' at d2;rw[<-j4]at q0 m4;rw[<-c4]at d2 g5 m4;replace j4:=Aa j4;replace c4:=Aa c4;have G:W5.drew.cell? ⟨gd,0,none⟩=some (.int .i64 seq)/\W5.drew.cell? ⟨gd,1,none⟩=some (.int .i64 at_)/\W5.drew.cell? ⟨gd,2,none⟩=some (.slice Bx fl cB)/\W5.drew.cell? ⟨gy+1,0,none⟩=some (.int .i64 la):=⟨p0,p1,p2,pl⟩
    refine HV (fun X=>X.cell? ⟨gd,0,none⟩=some (.int .i64 seq)/\X.cell? ⟨gd,1,none⟩=some (.int .i64 at_)/\X.cell? ⟨gd,2,none⟩=some (.slice Bx fl cB)/\X.cell? ⟨gy+1,0,none⟩=some (.int .i64 la)) i5 (by kernel_rfl) ?_;refine wpAnyH_take (i:=0) (v:=?_) rfl (by kernel_rfl) (by kernel_rfl) (by kernel_rfl) (fun _ _ _ h=>h) (Or.inl ⟨by rfl,?_⟩) G ?_;rotate_left
    ·intro wx b;obtain⟨s0,s1,s2,s3⟩:=b;go_simp
     try with_reducible rfl
    try simp only[Act.put,Bv,Bw,By]
    refine wpAnyH_take (i:=1) (v:=?_) rfl (by kernel_rfl) (by kernel_rfl) (by kernel_rfl) (fun _ _ _ h=>h) (Or.inl ⟨by rfl,?_⟩) G ?_;rotate_left
    ·intro wx b;obtain⟨s0,s1,s2,s3⟩:=b;go_simp
     try with_reducible rfl
    try simp only[Act.put,Bv,Bw,By]
    refine wpAnyH_take (i:=2) (v:=?_) rfl (by kernel_rfl) (by kernel_rfl) (by kernel_rfl) (fun _ _ _ h=>h) (Or.inl ⟨by rfl,?_⟩) G ?_;rotate_left
    ·intro wx b;obtain⟨s0,s1,s2,s3⟩:=b;go_simp
     try with_reducible rfl
    try simp only[Act.put,Bv,Bw,By]
    refine wpAnyH_take (i:=3) (v:=?_) rfl (by kernel_rfl) (by kernel_rfl) (by kernel_rfl) (fun _ _ _ h=>h) (Or.inl ⟨by rfl,?_⟩) G ?_;rotate_left
    ·intro wx b;obtain⟨s0,s1,s2,s3⟩:=b;go_simp
     try with_reducible rfl
    try simp only[Act.put,Bv,Bw,By]
    refine wpAnyH_take (i:=4) (v:=?_) rfl (by kernel_rfl) (by kernel_rfl) (by kernel_rfl) (fun _ _ _ h=>h) (Or.inl ⟨by rfl,?_⟩) G ?_;rotate_left
    ·intro wx b;obtain⟨s0,s1,s2,s3⟩:=b;go_simp
     try with_reducible rfl
    try simp only[Act.put,Bv,Bw,By]
    refine wpAnyH_take (i:=5) (v:=?_) rfl (by kernel_rfl) (by kernel_rfl) (by kernel_rfl) (fun _ _ _ h=>h) (Or.inl ⟨by rfl,?_⟩) G ?_;rotate_left
    ·intro wx b;obtain⟨s0,s1,s2,s3⟩:=b;go_simp
     try with_reducible rfl
    try simp only[Act.put,Bv,Bw,By]
    refine wpAnyH_take (i:=6) (v:=?_) rfl (by kernel_rfl) (by kernel_rfl) (by kernel_rfl) (fun _ _ _ h=>h) (Or.inl ⟨by rfl,?_⟩) G ?_;rotate_left
    ·intro wx b;obtain⟨s0,s1,s2,s3⟩:=b;go_simp
     try with_reducible rfl
    try simp only[Act.put,Bv,Bw,By]
    refine wpAnyH_take (i:=8) (v:=?_) rfl (by kernel_rfl) (by kernel_rfl) (by kernel_rfl) (fun _ _ _ h=>h) (Or.inl ⟨by rfl,?_⟩) G ?_;rotate_left
    ·intro wx b;obtain⟨s0,s1,s2,s3⟩:=b;go_simp
     try with_reducible rfl
    try simp only[Act.put,Bv,Bw,By]
    refine wpAnyH_take (i:=9) (v:=?_) rfl (by kernel_rfl) (by kernel_rfl) (by kernel_rfl) (fun _ _ _ h=>h) (Or.inl ⟨by rfl,?_⟩) G ?_;rotate_left
    ·intro wx b;obtain⟨s0,s1,s2,s3⟩:=b;go_simp
     try with_reducible rfl
    try simp only[Act.put,Bv,Bw,By]
    refine wpAnyH_ready (rs:= [7]) (by kernel_rfl) (by simp) ?_;refine AllReadyH.cons rfl (fun K hK=>?_) AllReadyH.nil;go_simp;refine q0.out.mono ?_;rintro e w6 ⟨A6,c6,rfl,x4,H⟩;have r6:=Aa (d2.out A6 c6 w6 x4 (o4.out.trans H));have e6:w6.cell? ⟨gd,0,none⟩=some (.int .i64 seq)/\w6.cell? ⟨gd,1,none⟩=some (.int .i64 at_)/\w6.cell? ⟨gd,2,none⟩=some (.slice Bx fl cB)/\w6.cell? ⟨gy+1,0,none⟩=some (.int .i64 la):=⟨(rpd.out.ext H).cell 0 rfl,(rpd.out.ext H).cell 1 rfl,(rpd.out.ext H).cell 2 rfl,(i2.out.ext H).cell 0 rfl⟩
    replace x4:=Aa x4;replace H:=Aa H;refine hK.out _ _ e6 (fun _=>?_);clear hK K
    try simp only[Act.put,Bv,Bw,By]
    refine wpAnyH_ready (rs:= [10]) (by kernel_rfl) (by simp) ?_;refine AllReadyH.cons rfl (fun K hK=>?_) AllReadyH.nil;go_simp;refine r6.out.mono ?_;rintro e w8 ⟨A8,c8,rfl,q2,j0⟩;have a1:w8.cell? ⟨gd,0,none⟩=some (.int .i64 seq)/\w8.cell? ⟨gd,1,none⟩=some (.int .i64 at_)/\w8.cell? ⟨gd,2,none⟩=some (.slice Bx fl cB)/\w8.cell? ⟨gy+1,0,none⟩=some (.int .i64 la):=⟨((rpd.out.ext H.out).ext j0).cell 0 rfl,((rpd.out.ext H.out).ext j0).cell 1 rfl,((rpd.out.ext H.out).ext j0).cell 2 rfl,((i2.out.ext H.out).ext j0).cell 0 rfl⟩
    have r8:=Aa ((i2.out.ext H.out).ext j0);have v1:=r8.out.free 0;have q5:=Aa (m1.out.trans ((Ext.refl W5).drew.trans (H.out.trans j0)));replace q2:=Aa q2;replace j0:=Aa j0;refine hK.out _ _ a1 (fun _=>?_);clear hK K
    try simp only[Act.put,Bv,Bw,By]
    refine wpAnyH_take (i:=11) (v:=?_) rfl (by kernel_rfl) (by kernel_rfl) (by kernel_rfl) (fun _ _ _ h=>h) (Or.inl ⟨by rfl,?_⟩) a1 ?_;rotate_left
    ·intro wx b;obtain⟨s0,s1,s2,s3⟩:=b;go_simp
     try with_reducible rfl
    try simp only[Act.put,Bv,Bw,By]
    refine wpAnyH_take (i:=12) (v:=?_) rfl (by kernel_rfl) (by kernel_rfl) (by kernel_rfl) (fun _ _ _ h=>h) (Or.inl ⟨by rfl,?_⟩) a1 ?_;rotate_left
    ·intro wx b;obtain⟨s0,s1,s2,s3⟩:=b;go_simp
     try with_reducible rfl
    try simp only[Act.put,Bv,Bw,By]
    refine wpAnyH_take (i:=13) (v:=?_) rfl (by kernel_rfl) (by kernel_rfl) (by kernel_rfl) (fun _ _ _ h=>h) (Or.inl ⟨by rfl,?_⟩) a1 ?_;rotate_left
    ·intro wx b;obtain⟨s0,s1,s2,s3⟩:=b;go_simp
     try with_reducible rfl
    try simp only[Act.put,Bv,Bw,By]
    refine wpAnyH_take (i:=14) (v:=?_) rfl (by kernel_rfl) (by kernel_rfl) (by kernel_rfl) (fun _ _ _ h=>h) (Or.inl ⟨by rfl,?_⟩) a1 ?_;rotate_left
    ·intro wx b;obtain⟨s0,s1,s2,s3⟩:=b;go_simp
     try with_reducible rfl
    try simp only[Act.put,Bv,Bw,By]
    refine wpAnyH_done (by kernel_rfl) ?_ _;dsimp only[OnlyN];obtain⟨z0,z1,z2,z3⟩:=a1;gi_wp2_with fail;have o5:Own8 (w8.setCell ⟨gy+1,0,none⟩ (.int .i64 seq)) 0 A8 n8 c8 X3:=⟨q2.out.1,(q2.out.2.lower (Nat.zero_le _)).setCell (q2.out.2.unlike r8.out (by decide)) _⟩
    have y5:Chg (fun k=>k=gy+1) X2 (w8.setCell ⟨gy+1,0,none⟩ (.int .i64 seq)):=(I.out.trans (Chg.of_ext q5.out _) fun _ _ h=>h).trans (Chg.of_set (S:=fun k=>k=gy+1) w8 _ rfl) fun _ _ h=>h;exact⟨⟨i+1,n8,c8,A8,X3,seq,rfl,rfl,by omega,by omega,by omega,i3,g0,q1,l0,Aa o5,Aa (r8.out.put 0 _),Aa y5⟩,by simp only[intOf];omega⟩
   ·obtain rfl:i=j:=by omega
    have z5:bP.drop i = []:=List.drop_eq_nil_of_le (by rw[e0.out,List.length_map,f0.out];exact Nat.le_refl _);have b4:Y=Xb:=by have:=t5.out;rw[z5]at this;simpa [blockD]using this
    have i0:la=lz:=by have:=d5.out;rw[z5]at this;exact this
    have a4:=o1.out _ _ _ z4.out (StB.num (W:=W) I.out (by omega) rrl.out);have ryr:=I.out.row rry.out (by omega);have r0r:=I.out.row rr0.out (fun e=>Row.unlike rr0.out rrl.out (by decide) e);have r1r:=I.out.row rr1.out (fun e=>Row.unlike rr1.out rrl.out (by decide) e);have r2r:=I.out.row rr2.out (by omega);have ky:=ryr.cell 0 rfl;have kl:=k3.out.cell 0 rfl;have j1:=d4.out;have n0:=t0.out.1;have t7:=hY.out xs ⟨la,Xb,A5,c5⟩ wr a4 ⟨by rw[j1];exact p3.out,by rw[j1,<-i1.out,<-T.out,i0,o2.out],by rw[j1,<-i1.out,<-T.out,<-b4,m2.out],0,by have:=t0.out.2;rw[n0]at this;exact this⟩;obtain⟨fn,tmps,assign,body,hy,j5⟩:=t7;simp only[Blk.args]at hy j5;rw[<-n0]at hy;replace n0:=Aa n0;replace a4:=Aa a4;replace ryr:=Aa ryr;replace r0r:=Aa r0r;replace r1r:=Aa r1r;replace r2r:=Aa r2r;replace b4:=Aa b4;replace i0:=Aa i0;clear hY;gi_wp2_with fail;refine RoundIn.mono (F:=Fence.wide.inRound l2) j5 ?_;rintro e W9 ⟨rfl,d6,m0,l5⟩;gi_wp2_with fail;have f5:(pre ++ [pre.length]).length=pre.length+1:=by rw[List.length_append];rfl
    refine⟨(I.out.others fun k hk=>⟨3,#[.int .i64 lst],by rw[hk];exact rrl.out⟩).trans l5,KeepB.of rr1.out (m0.2 _ _ _ (by decide) (by decide) r1r.out) rr2.out (m0.2 _ _ _ (by decide) (by decide) r2r.out),⟨_,?_,d6⟩,m0.2 _ _ _ (by decide) (by decide) r0r.out,m0.2 _ _ _ (by decide) (by decide) r1r.out,m0.2 _ _ _ (by decide) (by decide) r2r.out,m0.2 _ _ _ (by decide) (by decide) ryr.out,?_,m0.1 w0 hB j2.out,?_⟩
    ·rw[List.length_append,j1,f5];rfl
    ·rw[f5,hR.out.last2,<-o2.out,<-i0.out];exact m0.2 _ _ _ (by decide) (by decide) k3.out
    ·have:=I.out.size;have:=l5.size;omega
 case hdone =>
  rintro D xs X2 X3 X4 hD hI ⟨z6,n7,o7,p5⟩ l4 hk;have b6:=Aa (O.out _ _ _ (k1.out _ _ _ hI p5) l4);replace hk:=Aa hk;clear hI l4 p5;gi_wp2_with fail;refine BR (B:=w4.heap.size) rfl hk.out hD fun Wz U=>⟨_,results_none rfl _ _ _,?_⟩
  obtain⟨⟨bl,o6,hj⟩,_⟩:=O.out _ _ _ b6.out U;exact⟨⟨_,rfl⟩,bl,Wz,hj,by rw[o6,y1.out];exact z6,rfl⟩
end
section
open Go.RowKit Go.Shelf
attribute [local go_sem] Oper.semAt_some AP Cp
theorem HB.stb {base h1 h2:Nat} {Hd Bd:List UInt8} {W A B:World} (h:HB base h1 h2 Hd Bd A) (hs:StB W A B):HB base h1 h2 Hd Bd B:=by
 obtain⟨A1,A2,c1,c2,r1,r2,o1,o2,b⟩:=h;have hb:∀ {X:Option Addr} {n c:Nat} {xs:List Value},Buf A base 5 X n c xs->Buf B base 5 X n c xs:=fun hb=>hb.chg hs fun a j hn=>by
  rcases hb.2.2 with ⟨H,_⟩ | ⟨g,cur,Y,_,J,_⟩
  ·rw[H]at j;cases j
  ·rw[Y]at j;cases j;exact absurd (hn.2 _ _ J) (by decide)
 exact⟨A1,A2,c1,c2,hs.row r1 fun hn=>absurd (hn.2 _ _ r1) (by decide),hs.row r2 fun hn=>absurd (hn.2 _ _ r2) (by decide),⟨o1.1,hb o1.2⟩,⟨o2.1,hb o2.2⟩,b⟩
def SEnc (base h1 h2:Nat) (Hd Bd:List UInt8) (w W:World):Prop:=HB base h1 h2 Hd Bd W/\Ext w W
theorem Gh (ds:List DocC) (A:Option Addr) (m c:Nat) (w:World) (a:m=ds.length) (h:DocsOk w A ds) (H:m<=1000000000) (Y:okDs (dcs ds)=false) :
 Calls prog 42 #[.slice A m c] w fun e w'=>e = .returned (.tuple #[.slice none 0 0,.int .i64 120])/\Ext w w':=by
 have j:=Gg ds A m c w a h H;rw[Y,if_neg (by decide)]at j;replace j:=Aa j;replace a:=Aa a;replace h:=Aa h;refine(callsIn_wide (n:=0)).1 ?_;refine callsIn_of_wp_marks func42 rfl trivial ?_;simp only[ntmps42,List.size_toArray,List.length_cons,List.length_nil,Nat.reduceAdd,Nat.reduceSub,Array.replicate_succ,Array.replicate_zero,List.push_toArray,List.append_toArray,List.nil_append,List.cons_append];gi_wp2_with fail;refine(callsIn_wide.2 j.out).mono ?_;rintro e w1 ⟨rfl,b⟩;gi_wp2_with fail;exact F3 rfl (results_tmp2 rfl _ _ _) ⟨rfl,b⟩
theorem Du (ds:List DocC) (A:Option Addr) (m c:Nat) (w:World) (hm:m=ds.length) (h:DocsOk w A ds) (hA:∀a,A=some a->a.spot=none) (z5:m<=c) (G:okDs (dcs ds)=true) (Z:(blockD 0 (dcs ds)).length<=50000000) :
 Calls prog 42 #[.slice A m c] w fun e w'=>OkB w (encDs (dcs ds)) e w':=by
 have k6:m<=65536:=by
  have:=G;unfold okDs at this;rw[Bool.and_eq_true]at this;have:=of_decide_eq_true this.1;unfold dcs at this;rw[List.length_map]at this;omega
 have a2:=Gg ds A m c w hm h (by omega);rw[G,if_pos rfl]at a2;have y2:=fun B b0 W hB hw hb=>JR ds A m c b0 B w W hm h hA z5 G Z hB hw hb;obtain⟨P,hP⟩:=Ab (dcs ds);have f0:P.length=m:=by rw[hP,hm];exact List.length_map ..
 rw[<-hP]at G Z y2 ⊢;have k1:=Aa (fun A n c x l W h1 h2 h3 h4 h5=>Cm A n c x l W h1 h2 h3 h4 h5);have x6:=AH (m:=m) (by omega);replace a2:=Aa a2;replace y2:=Aa y2;replace f0:=Aa f0;replace hm:=Aa hm;replace h:=Aa h;replace hP:=Aa hP;replace G:=Aa G;replace Z:=Aa Z;replace hA:=Aa hA;refine(callsIn_wide (n:=0)).1 ?_;refine callsIn_of_wp_marks func42 rfl trivial ?_;simp only[ntmps42,List.size_toArray,List.length_cons,List.length_nil,Nat.reduceAdd,Nat.reduceSub,Array.replicate_succ,Array.replicate_zero,List.push_toArray,List.append_toArray,List.nil_append,List.cons_append];gi_wp2_with fail;refine(callsIn_wide.2 a2.out).mono ?_;rintro e w1 ⟨rfl,x4⟩;gi_wp2_with fail;refine(callsIn_wide.2 (k1.out none 0 0 m [] w1 rfl (.inl rfl) (fun _=>rfl) (by omega) (by omega))).mono ?_;rintro e w2 e0;obtain⟨A2,c2,rfl,k0,x0⟩:=e0;rw[List.nil_append]at k0 ⊢;obtain⟨k2,v0⟩:∃k,k=(vb m).length:=⟨_,rfl⟩
 rw[<-v0]at k0 ⊢;replace k0:=Aa k0;replace v0:=Aa v0;replace x0:=Aa (x4.trans x0);gi_wp2_with fail;obtain⟨W3,m0⟩:=Ab ((w2.alloc (Obj.cells #[Value.slice A2 k2 c2] 24)).alloc (Obj.cells #[Value.slice none 0 0] 24));rw[<-m0];obtain⟨h1,t0⟩:=Ab w2.heap.size;have q1:Row W3 h1 24 #[.slice A2 k2 c2]:=by rw[m0,t0];exact(Row.new w2 _ _).alloc _
 have q2:Row W3 (h1+1) 24 #[.slice none 0 0]:=by
  have:=Row.new (w2.alloc (Obj.cells #[Value.slice A2 k2 c2] 24)) 24 #[.slice none 0 0];rw[World.size_alloc,<-t0]at this;rw[m0];exact this
 have U:Ext w2 W3:=by rw[m0];exact((Ext.refl w2).alloc _).alloc _
 have e4:w.heap.size<=h1:=by rw[t0];exact x0.out.size
 have i1:HB w.heap.size h1 (h1+1) (vb m) [] W3:=⟨A2,none,c2,0,by rw[<-v0.out];exact q1,q2,⟨rfl,by rw[<-v0.out];exact(k0.out.lower x4.size).ext U⟩,⟨rfl,Buf.nil _ _ _⟩,fun _ _ _ e=>by cases e⟩
 replace U:=Aa (x0.out.trans U);rw[<-t0];refine(callsIn_wide.2 (Li A m c W3)).mono ?_;rintro e w4 ⟨b0,rfl,rb0,w5,y1⟩;have j2:SEnc w.heap.size h1 (h1+1) (vb m) [] w w4:=⟨i1.ext y1,U.out.trans y1⟩
 have i2:=y2.out w.heap.size b0 w4 (Nat.le_refl _) (U.out.trans y1) rb0;have j1:=j2.2.size;replace j2:=Aa j2;replace i2:=Aa i2;replace m0:=Aa m0;replace t0:=Aa t0;clear q1 q2 i1 y1 rb0 k0 U x0 v0;gi_wp2_with fail;unfold BlkIter at i2;have g0:∀Hd Bd X Y2,SEnc w.heap.size h1 (h1+1) Hd Bd w X->Alike w4.heap.size X Y2->SEnc w.heap.size h1 (h1+1) Hd Bd w Y2:=fun Hd Bd X Y2 hi ha=>⟨hi.1.alike ha,ha.ext hi.2 j1⟩
 have z3:∀Hd Bd W0 X Y2,Ext w4 W0->SEnc w.heap.size h1 (h1+1) Hd Bd w X->StB W0 X Y2->SEnc w.heap.size h1 (h1+1) Hd Bd w Y2:=fun Hd Bd W0 X Y2 h0 hi hs=>⟨hi.1.stb hs,hi.2.chg hs fun i hi hn=>by have:=hn.1;have:=h0.size;omega⟩
 replace g0:=Aa g0;replace z3:=Aa z3;refine Md (gf:=126) (lb:=#[.pointer (some ⟨b0,0,none⟩)]) rfl (enters_of func126 (by kernel_rfl) rfl) i2.out (fun _=>rfl) (fun W A B h k o hk ho hc=>h.old k o hk ho hc) (fun _ _ _ h=>by rw[h.2];exact KeepsOthers.refl _) (KpB.trans w.heap.size) (KpB.alike j1)
  (fun xs X=>SEnc w.heap.size h1 (h1+1) (vb m++headD 0 ((chunkL 16 P).take xs.length)) (blockD 0 (P.take (xs.length*16))) w X) (fun xs A B h ha=>g0.out _ _ _ _ h ha) (fun W0 xs A B h0 h hs=>z3.out _ _ _ _ _ h0 h hs) ?h0 ?hround ?hdone
 case h0 =>
  intro X ha;have:=g0.out _ _ _ _ j2.out ha;simpa [headD,blockD]using this
 case hround =>
  rintro l xs ⟨la,Xb,A9,c9⟩ X hI ⟨y5,l3,b3,base0,j0⟩;simp only at l3 b3 j0;unfold Blk.args;simp only;have hR:=Ho G.out Z.out (r:=xs.length) y5;have a5:=hR.ne;have b:=hR.head;have H:=hR.body;have hlen:=hR.len;have i3:=hR.hlen;have n0:=hR.hi2;rw[<-l3]at a5 b n0;rw[<-b3]at b H hlen;clear hR l3 b3;obtain⟨Hd,J⟩:=Ab (vb m++headD 0 ((chunkL 16 P).take xs.length));obtain⟨Bd,O⟩:=Ab (blockD 0 (P.take (xs.length*16)));rw[<-J,<-O]at hI;rw[<-O]at H hlen;have q4:(xs ++ [(⟨la,Xb,A9,c9⟩:Blk)]).length=xs.length+1:=by rw[List.length_append];rfl
  obtain⟨lN,x5⟩:∃lN:Nat,la=(lN:Int):=⟨la.toNat,by omega⟩
  subst x5;rw[Int.toNat_natCast]at b;have e5:lN<1099511627777:=by have:=n0.2;omega
  obtain⟨n9,r0⟩:=Ab Xb.length;rw[<-r0]at b hlen j0 ⊢;have r5:n9<=50000000:=by have:=Z.out;omega
  have d5:Bd.length<=50000000:=by have:=Z.out;omega
  have v6:=AH (m:=lN) (by omega);have t6:=AH (m:=n9) (by omega);have d4:Hd.length<=2000000:=by
   have h2:=Ag (n:=m) (by omega);have h6:=f0.out;rw[J,List.length_append];omega
  obtain⟨H1,c0⟩:=Ab (Hd++vb lN);obtain⟨H2,d0⟩:=Ab (H1++vb n9);have t5:=Ag (n:=lN) (by omega);have v5:=Ag (n:=n9) (by omega);have a4:H1.length<=2000010:=by rw[c0,List.length_append];omega
  have b4:H2.length<=2000020:=by rw[d0,List.length_append];omega
  replace hI:=Aa hI;replace j0:=Aa j0;replace J:=Aa J;replace O:=Aa O;replace c0:=Aa c0;replace d0:=Aa d0;replace r0:=Aa r0;replace b:=Aa b;replace H:=Aa H;replace q4:=Aa q4;clear t5 v5 hlen i3 n0;gi_wp2_with fail;refine⟨KeepsOthers.refl _,KpB.ext (Ext.refl _),fun W2 x3=>?_⟩;have g5:=g0.out _ _ _ _ hI.out x3;have k3:=Aa (x3.buf j0.out);clear x3 hI j0;obtain⟨T,I⟩:=g5;have c4:=T;obtain⟨A1,B1,c1,d1,r1,r2,o1,o2,d2⟩:=c4;have f1:=r1.cell 0 rfl;obtain⟨nh,r3⟩:=Ab Hd.length;rw[<-r3]at f1 d4 o1;have q5:=I.size;replace r3:=Aa r3;replace T:=Aa T;replace I:=Aa I;replace r1:=Aa r1;replace r2:=Aa r2;replace o1:=Aa o1;replace o2:=Aa o2;replace d2:=Aa d2;gi_wp2_with fail;refine(Bb (k1.out A1 nh c1 lN Hd W2 o1.out.1 o1.out.2.cells o1.out.nil_ (by omega) (by omega))).mono ?_;rintro e w7 e0;obtain⟨A7,c7,rfl,m1,y0⟩:=e0;rw[<-c0.out]at m1 ⊢;obtain⟨n7,q3⟩:=Ab H1.length;rw[<-q3]at m1 a4 ⊢;have p4:Hid (Own8 w7 w.heap.size A7 n7 c7 H1):=Aa ⟨q3,m1.lower q5⟩;replace q3:=Aa q3;replace y0:=Aa y0;clear m1;gi_wp2_with fail;refine(Bb (k1.out A7 n7 c7 n9 H1 w7 p4.out.1 p4.out.2.cells p4.out.nil_ (by omega) (by omega))).mono ?_;rintro e w8 e0;obtain⟨A8,c8,rfl,x1,y4⟩:=e0;rw[<-d0.out]at x1 ⊢;obtain⟨n8,p3⟩:=Ab H2.length;rw[<-p3]at x1 b4 ⊢;have j:Hid (Ext W2 w8):=Aa (y0.out.trans y4);have r18:=r1.out.ext j.out;have s0:=r18.cell 0 rfl;have s1:=r18.free 0;have j3:=Aa (T.out.head (W6:=w8) (B1:=w7.heap.size) (by omega) j.out p3 x1 y0.out.size (by have:=y0.out.size;omega));replace r18:=Aa r18;replace p3:=Aa p3;clear x1 y4;have q0:Ext w (w8.setCell ⟨h1,0,none⟩ (.slice A8 n8 c8)):=(I.out.trans j.out).setCell (by simpa using e4) _;have r28:Row (w8.setCell ⟨h1,0,none⟩ (.slice A8 n8 c8)) (h1+1) 24 #[.slice B1 Bd.length d1]:=(r2.out.ext j.out).away (by simp) _;have s2:=(r2.out.ext j.out).cell 0 rfl;have e3:Buf (w8.setCell ⟨h1,0,none⟩ (.slice A8 n8 c8)) w.heap.size 5 B1 Bd.length d1 (Bd.map B8):=(o2.out.2.ext j.out).setCell ((o2.out.2.ext j.out).unlike r18.out (by decide)) _;have m4:Cells (w8.setCell ⟨h1,0,none⟩ (.slice A8 n8 c8)) A9 (Xb.map B8):=((k3.out.ext j.out).setCell ((k3.out.ext j.out).unlike r18.out (by decide)) _).cells;have i0:(Xb.map B8).length=n9:=by rw[List.length_map];exact r0.out.symm
  have r4:=q0.size;replace q0:=Aa q0;replace r28:=Aa r28;replace e3:=Aa e3;replace m4:=Aa m4;replace i0:=Aa i0;gi_wp2_with (gi_at_builtin;refine Bu Aw e3.out m4.out (.tmp 30) (.tmp 31) rfl rfl rfl rfl rfl i0.out (Ai _) (by omega) r4 (fun A10 c10 w10 l0 p0 t3 o0=>?_);have r210:=HB.rows j3.out r28.out p0 r28.out (by decide);have u0:=r210.cell 0 rfl;have u1:=r210.free 0;replace r210:=Aa r210;replace l0:=Aa l0;replace p0:=Aa p0;replace t3:=Aa t3;replace o0:=Aa o0);obtain⟨g1,g2,g3,g4⟩:=HB.body (x:=Xb) j3.out (by omega) r28.out p0.out (by rw[List.length_append,<-r0.out]) (by rw[List.map_append];exact l0.out) o0.out;refine⟨(j.out.others.trans (KeepsOthers.setCell _ _ _)).trans g2,⟨fun w0 h0 he=>g4 w0 ((he.trans j.out).setCell (p:=⟨h1,0,none⟩) (by show w0.heap.size<=h1;omega) _) (by omega) (by omega),fun g t cs t1 t2 hr=>?_⟩,?_,g4 _ q0.out (Nat.le_refl _) (by omega)⟩
  ·have l4:=hr.ext j.out;have n4:=l4.away (p:=⟨h1,0,none⟩) (fun e=>Row.unlike l4 r18.out t1 e) (.slice A8 n8 c8);exact g3 _ _ _ n4 t2 (fun e=>Row.unlike n4 r28.out t1 e)
  ·rw[q4.out,b.out,H.out,<-List.append_assoc,<-List.append_assoc,<-J.out,<-c0.out,<-d0.out];exact g1
 case hdone =>
  rintro D xs W2 W3 W5 hD hI ⟨z4,rfl⟩ v4 hk;have Y:=Ir P xs.length z4;rw[f0.out]at Y;have y3:=g0.out _ _ _ _ hI v4;have i1:=y3.1;have a1:=y3.2;obtain⟨A1,B1,c1,d1,r1,r2,o1,o2,d2⟩:=i1;obtain⟨Hd,J⟩:=Ab (vb m++headD 0 ((chunkL 16 P).take xs.length));obtain⟨Bd,O⟩:=Ab (blockD 0 (P.take (xs.length*16)));rw[<-J]at r1 o1 Y;rw[<-O]at r2 o2 Y;have f1:=r1.cell 0 rfl;have f2:=r2.cell 0 rfl;have o5:Hd.length<=50000000:=by
   have h2:=Ag (n:=m) (by omega);have h1:=Gy G.out Z.out (chunkL 16 P).length;rw[List.take_length]at h1;have h3:(headD 0 ((chunkL 16 P).take xs.length)).length<=(headD 0 (chunkL 16 P)).length:=by
    have h4:=FD ((chunkL 16 P).take xs.length) ((chunkL 16 P).drop xs.length) 0;rw[List.take_append_drop]at h4;rw[h4,List.length_append];omega
   have h5:=AO (k:=16) (by omega) P;have h6:=f0.out;rw[J,List.length_append];omega
  have l5:Bd.length<=50000000:=by have:=CV P (xs.length*16);have:=Z.out;rw[O];omega
  have o4:=a1.size;have k4:=o2.2.cells;have x2:=o1.2;have o3:(Bd.map B8).length=Bd.length:=List.length_map ..;replace Y:=Aa Y;replace J:=Aa J;replace O:=Aa O;replace r1:=Aa r1;replace r2:=Aa r2;replace k4:=Aa k4;replace x2:=Aa x2;replace o3:=Aa o3;replace a1:=Aa a1;replace hk:=Aa hk;clear hI y3 z4 v4 o1 o2 d2;gi_wp2_with (gi_at_builtin;refine Bu Aw x2.out k4.out (.tmp 33) (.tmp 34) rfl rfl rfl rfl rfl o3.out (Ai _) (by omega) o4 (fun A6 c6 w6 d3 f3 j4 f4=>?_);replace d3:=Aa d3;replace f3:=Aa f3;replace j4:=Aa j4;replace f4:=Aa f4);have m5:w6.heap[D]? = some (.deferred (some [])):=(BL x2.out f3.out).same _ _ hk.out rfl;refine BR (B:=w4.heap.size) rfl m5 hD fun W ha=>⟨_,results_tmp2 rfl _ _ _,?_⟩
  refine⟨A6,c6,?_,⟨rfl,?_⟩,ha.ext (j4.out w a1.out (Nat.le_refl _)) j1⟩
  ·rw[Y.out,List.length_append];rfl
  ·rw[Y.out,List.length_append,List.map_append];exact ha.buf d3.out
end
end Go.Proofs.YtfifdilapbeiiaaGreat
