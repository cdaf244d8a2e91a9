/- Texts of one proof, joined. -/
import Derived.Test.YtkdcnhnaiknaaaaGreatPB07
import Derived.Test.YtkdcnhnaiknaaaaGreatPB03
import Derived.Test.YtkdcnhnaiknaaaaGreatPB02
import Derived.Deep.RegionHeld3
import Derived.Test.YtkdcnhnaiknaaaaGreatPBShelf
import Derived.Test.YtkdcnhnaiknaaaaGreatPB01
import Derived.Maps.RangeRun
import Derived.Maps.Range
import Derived.Laws.IdiomRangeMap
import Derived.Test.YtkdcnhnaiknaaaaGreatPB06
import Derived.Test.YtkdcnhnaiknaaaaGreatPB04
import Derived.Shelf.RegionOpen
set_option linter.unusedSimpArgs false
set_option linter.unusedVariables false
set_option maxRecDepth 100000
set_option maxHeartbeats 16000000
namespace Go.Proofs.YtkdcnhnaiknaaaaGreat
section
open Go.RowKit
attribute [local go_sem] Oper.semAt_some Za ZAw
def NewTm (w:World) (R:List (List UInt8×List Int)) (e:Ending) (w':World):Prop :=
 ∃L c D,e = .returned (.slice L D.length c)/\w'.ownsRow w.heap.size 150 2 (.slice L D.length c) D.length (tcs D)/\TmsOk w' w.heap.size D R/\Ext w w'
theorem ZJ7 (e:Ev) (A:Option Addr) (c:Nat) (w:World) (h:e.Ok w A) :
 Calls Tryz.prog 80 #[e.val A c] w (NewTm w (termsL e)):=by
 have q3:=ZA (fun W (hE:Ext w W)=>ZBQ e A c W (h.ext hE));have e2:termsL e=if checkE e.fs=0 then grp (rawT 0 e.fs) else []:=rfl;have p3:=@Zd e.fs;obtain⟨T,hT⟩:∃T,T=termsL e:=⟨_,rfl⟩
 rw[<-hT]at e2 ⊢;obtain⟨at_,fs⟩:=e;have p4:=h.cells;unfold Ev.val at q3 ⊢;simp only at e2 q3 p3 p4 ⊢;obtain⟨z,hz⟩:∃z,z=checkE fs:=⟨_,rfl⟩
 rw[<-hz]at e2 q3 p3;obtain⟨n,hn⟩:∃n,n=fs.length:=⟨_,rfl⟩
 rw[<-hn]at q3 p3 ⊢;replace e2:=ZA e2;replace p3:=ZA p3;replace p4:=ZA p4;replace hz:=ZA hz;replace hn:=ZA hn;clear h hT;refine(callsIn_wide (n:=0)).1 ?_;refine callsIn_of_wp_marks Tryz.func80 rfl trivial ?_;simp only[Tryz.ntmps80,List.size_toArray,List.length_cons,List.length_nil,Nat.reduceAdd,Nat.reduceSub,Array.replicate_succ,Array.replicate_zero,List.push_toArray,List.append_toArray,List.nil_append,List.cons_append];gi_wp2_with fail;obtain⟨W0,g3⟩:∃W0,W0=w.alloc (Obj.cells #[.int .i64 at_,.slice A n c] 37):=⟨_,rfl⟩
 rw[<-g3];have y4:Ext w W0:=by rw[g3];exact(Ext.refl w).alloc _
 refine(callsIn_wide.2 (q3.out W0 y4)).mono ?_;rintro e w1 ⟨rfl,o2⟩;have r0:Row w1 w.heap.size 37 #[.int .i64 at_,.slice A n c]:=by
  refine Row.ext ?_ o2;rw[g3];exact Row.new w _ _
 have k0:=r0.cell 0 rfl;have k1:=r0.cell 1 rfl;replace o2:=ZA (y4.trans o2);replace r0:=ZA r0;replace g3:=ZA g3;clear y4 q3;by_cases z5:z=0
 ·obtain⟨v7,x3⟩:=p3.out z5;subst z5;have hT:=e2.out;rw[if_pos rfl]at hT;replace hT:=ZA hT;have k7:=r0.out.lt;gi_wp2_with fail;obtain⟨W2,m3⟩:∃W2,W2=w1.alloc (Obj.cells #[Value.slice none 0 0] 148):=⟨_,rfl⟩
  rw[<-m3];obtain⟨h1,y3⟩:∃h1,h1=w1.heap.size:=⟨_,rfl⟩
  have q1:Row W2 h1 148 #[.slice none 0 0]:=by rw[m3,y3];exact Row.new w1 _ _
  have c5:Ext w1 W2:=by rw[m3];exact(Ext.refl w1).alloc _
  rw[<-y3];replace m3:=ZA m3;replace y3:=ZA y3;refine(callsIn_wide.2 (ZLW at_ A n c W2)).mono ?_;rintro e w4 ⟨b0,rfl,rb0,f7,p2⟩;have z4:Ext w w4:=(o2.out.trans c5).trans p2;have a4:TI w.heap.size h1 [] w w4:=⟨none,0,[],q1.ext p2,World.ownsRow_nil _ _ _ _,TmsOk.nil _ _,z4⟩
  have i0:w.heap.size<=w4.heap.size:=z4.size;have g4:=ZIw at_ fs A n c b0 w.heap.size w w4 hn.out p4.out (Nat.le_refl _) z4 (by omega) (fun f hf=>by have:=x3 f hf;omega) rb0;have s6:w.heap.size<=h1:=by rw[y3.out];exact o2.out.size
  replace a4:=ZA a4;replace g4:=ZA g4;clear q1 c5 p2 rb0;gi_wp2_with fail;unfold BsIter at g4;have s4:∀b,baseT 0 (fs.take b)<=1000000000:=fun b=>by
   have:=ZCu (k:=4096) (fs.take b) 0 (fun f hf=>(x3 f (List.mem_of_mem_take hf)).2);have h2:(fs.take b).length<=16:=by rw[List.length_take,<-hn.out];omega
   omega
  replace s4:=ZA s4;refine ZBC (gf:=175) (lb:=#[.pointer (some ⟨b0,0,none⟩)]) rfl (enters_of Tryz.func175 (by kernel_rfl) rfl) g4.out (fun _=>rfl) (fun _ _ h=>h.others) (fun _ _ _ h=>h.2.others) (KpT.trans w.heap.size) (KpT.alike i0)
   (fun pre W=>TI w.heap.size h1 (rawT 0 (fs.take pre.length)) w W) (fun pre A B hi ha=>hi.alike ha i0) (fun pre A B hi hE=>hi.ext hE) ?h0 ?hround ?hdone
  case h0 =>
   intro W ha;have:=a4.out.alike ha i0;simpa [rawT]using this
  case hround =>
   rintro l pre ⟨bs,nm,tx⟩ W hI ⟨hf,q4⟩;simp only at hf q4;unfold fdV;simp only;have l6:=x3 _ (List.mem_of_getElem? hf);simp only at l6;have r4:=s4.out pre.length;rw[<-q4]at r4;have z7:=ZA4 tx;have m1:rawT 0 (fs.take (pre ++ [(bs,nm,tx)]).length)=rawT 0 (fs.take pre.length)++fieldT bs (nm,tx):=by
    rw[List.length_append,List.length_singleton,List.take_add_one,hf,ZFS,<-q4];simp[rawT]
   obtain⟨Z,hZ⟩:∃Z,Z=rawT 0 (fs.take pre.length):=⟨_,rfl⟩
   rw[<-hZ]at hI m1;obtain⟨Y,hY⟩:∃Y,Y=fieldT bs (nm,tx):=⟨_,rfl⟩
   rw[<-hY]at m1;have e7:Z.length<=65536:=by
    have:=ZAy (k:=4096) (fs.take pre.length) 0 (fun f hf=>(x3 f (List.mem_of_mem_take hf)).2);have h2:(fs.take pre.length).length<=16:=by rw[List.length_take,<-hn.out];omega
    rw[hZ];omega
   clear hZ q4 hf;replace m1:=ZA m1;obtain⟨nt,k3⟩:∃nt,nt=(tokL tx).length:=⟨_,rfl⟩
   obtain⟨W5,t3⟩:∃W5,W5=W.alloc (Obj.cells #[.string ⟨nm.toArray⟩,.string ⟨tx.toArray⟩] 105):=⟨_,rfl⟩
   have b1:Ext W W5:=by rw[t3];exact(Ext.refl W).alloc _
   have q5:Row W5 W.heap.size 105 #[.string ⟨nm.toArray⟩,.string ⟨tx.toArray⟩]:=by rw[t3];exact Row.new W _ _
   have j2:=ZA (fun W=>ZEv tx W (by omega));rw[<-k3]at z7;replace k3:=ZA k3;replace hY:=ZA hY;replace hI:=ZA hI;gi_wp2_with fail;rw[<-t3];obtain⟨g5,y2⟩:∃g5,g5=W.heap.size:=⟨_,rfl⟩
   rw[<-y2]at q5 ⊢;refine⟨b1.others,KpT.ext b1,fun W6 x4=>?_⟩;have n3:=(hI.out.ext b1).alike x4 i0;have r6:=x4.row q5;have y0:=r6.cell 0 rfl;have y1:=r6.cell 1 rfl;replace n3:=ZA n3;replace t3:=ZA t3;replace y2:=ZA y2;clear hI q5 b1 x4;gi_wp2_with fail;refine(Zt (j2.out W6)).mono ?_;rintro e w7 ⟨A7,c7,rfl,a0,g0⟩;rw[<-k3.out]at a0 ⊢;have a6:=ZA (n3.out.ext g0);have t5:=ZA (fun(W:World) (h:KpT w.heap.size w7 W) (i:Nat) (x:List UInt8) (hx:(tokL tx)[i]? = some x)=>ZOp a0 (w1:=W) (fun g cs hr=>h.2 g _ cs (by decide) (by decide) hr) hx);replace a0:=ZA a0;have r7:=ZA (r6.ext g0);clear y0 y1 n3;gi_wp2_with fail
   gi_loopw [23] (fun s23 wr=>∃(i:Nat),s23 = .int .i64 (i:Int)/\i<=nt/\Hid (TI w.heap.size h1 (Z++Y.take i) w wr)/\Hid (KpT w.heap.size w7 wr)/\Hid (KeepsOthers w7 wr)) (fun s23 _=>nt - (intOf s23).toNat)
   case atStart=>exact⟨0,rfl,by omega,by rw[List.take_zero,List.append_nil];exact a6,ZA (KpT.ext (Ext.refl _)),ZA (KeepsOthers.refl _)⟩
   case round =>
    obtain⟨i,rfl,hi,c4,o3,l5⟩:=hrel;by_cases j4:i<nt
    ·obtain⟨wd,f3⟩:∃wd,(tokL tx)[i]? = some wd:=⟨_,List.getElem?_eq_getElem (by rw[<-k3.out];exact j4)⟩
     obtain⟨g7,o7,y6,x0,x1⟩:=t5.out wr o3.out i wd f3;subst y6;obtain⟨L,cl,D,r3,p0,s1,l0⟩:=c4.out;have r5:=o3.out.2 _ _ _ (by decide) (by decide) r7.out;have z0:=r5.cell 0 rfl;have z3:=r3.cell 0 rfl;have j7:=r3.lt;have m7:=r5.lt;replace r3:=ZA r3;replace r5:=ZA r5;replace p0:=ZA p0;replace s1:=ZA s1;replace l0:=ZA l0;have n7:D.length<=100000:=by
      have:=s1.out.len;unfold oneT at this;rw[List.length_map,List.length_append,List.length_take]at this;omega
     have i4:Y[i]? = some (nm++58::wd,((bs+i:Nat):Int)):=by rw[hY.out];exact ZGU f3
     replace i4:=ZA i4;have s7:=ZDW (List.mem_of_getElem? f3);replace f3:=ZA f3;have l4:(Z++Y.take (i+1))=(Z++Y.take i) ++ [(nm++58::wd,((bs+i:Nat):Int))]:=by rw[List.take_add_one,i4.out,List.append_assoc];rfl
     replace l4:=ZA l4;obtain⟨S,hS⟩:∃S,S=nm++58::wd:=⟨_,rfl⟩
     have x2:ByteArray.mk nm.toArray++ByteArray.mk #[58]++ByteArray.mk wd.toArray=⟨S.toArray⟩:=by
      have h1:=ZIQ nm [58];have h2:=ZIQ (nm ++ [58]) wd;rw[hS,h1,h2];simp
     obtain⟨Wb,h3⟩:∃Wb,Wb=(wr.alloc (Obj.cells #[Value.string ⟨wd.toArray⟩,Value.int IntKind.i64 (i:Int)] 123)).alloc (Obj.cells #[Value.int IntKind.i64 ((bs:Int)+(i:Int))] 3):=⟨_,rfl⟩
     obtain⟨Wa,w2⟩:∃Wa,Wa=Wb.alloc (Obj.cells #[Value.string ⟨S.toArray⟩,Value.slice (some ⟨wr.heap.size+1,0,none⟩) 1 1] 150):=⟨_,rfl⟩
     have d5:Ext wr Wb:=by rw[h3];exact((Ext.refl wr).alloc _).alloc _
     have e3:Wb.heap.size=wr.heap.size+2:=by rw[h3];simp
     have d1:Ext wr Wa:=by rw[w2];exact d5.alloc _
     have qi:Row Wb (wr.heap.size+1) 3 #[Value.int IntKind.i64 ((bs:Int)+(i:Int))]:=by
      rw[h3];have:=Row.new (wr.alloc (Obj.cells #[Value.string ⟨wd.toArray⟩,Value.int IntKind.i64 (i:Int)] 123)) 3 #[Value.int IntKind.i64 ((bs:Int)+(i:Int))]
      rwa [World.size_alloc]at this
     have qi2:Row Wa (wr.heap.size+1) 3 #[Value.int IntKind.i64 ((bs:Int)+(i:Int))]:=by rw[w2];exact qi.alloc _
     have x5:Cells Wa (some ⟨wr.heap.size+2,0,none⟩) (tcell (S,some ⟨wr.heap.size+1,0,none⟩,1,1)):=by
      have:=Zg Wb [Value.string ⟨S.toArray⟩,Value.slice (some ⟨wr.heap.size+1,0,none⟩) 1 1] 150;rw[e3]at this;rw[w2];exact this
     have d0:=d1.owns p0.out;have m5:w.heap.size<=Wa.heap.size:=(l0.out.trans d1).size;replace qi2:=ZA qi2;replace x5:=ZA x5;replace d0:=ZA d0;replace d1:=ZA d1;have f4:Hid (((wr.alloc (Obj.cells #[Value.string ⟨wd.toArray⟩,Value.int IntKind.i64 (i:Int)] 123)).alloc (Obj.cells #[Value.int IntKind.i64 ((bs:Int)+(i:Int))] 3)).alloc (Obj.cells #[Value.string (ByteArray.mk nm.toArray++ByteArray.mk #[58]++ByteArray.mk wd.toArray),Value.slice (some ⟨wr.heap.size+1,0,none⟩) 1 1] 150)=Wa):=ZA (by rw[w2,h3,x2]);replace w2:=ZA w2;replace h3:=ZA h3;replace x2:=ZA x2;clear qi d5 e3;have ogr:=ZA (fun(w6:World) (m0:Wa.grownBy w6 (Value.slice L D.length cl).ownBlock)=>ZID d0.out m0 (r3.out.ext d1.out) (by decide));gi_wp2_with (gi_at_builtin;rw[f4.out];refine ZBA ZLi d0.out x5.out (.tmp 27) (.tmp 40) rfl rfl rfl rfl rfl rfl (by simp[tcell,Value.oneCell']) (by omega) m5 (fun A1 c1 w6 t4 m0 j6=>?_);have r16:=ogr.out w6 m0;have u1:=r16.cell 0 rfl;have u2:=r16.free 0;replace r16:=ZA r16;replace t4:=ZA t4;replace m0:=ZA m0;replace j6:=ZA j6);have u6:∀w0:World,w0.heap.size<=w.heap.size->Ext w0 wr->Ext w0 (w6.setCell ⟨h1,0,none⟩ (.slice A1 (D.length+1) c1)):=fun w0 h0 hE=>(ZDw d0.out m0.out (hE.trans d1.out) h0).setCell (p:=⟨h1,0,none⟩) (by show w0.heap.size<=h1;omega) _;have f6:∀A n c xs,Buf wr w.heap.size 3 A n c xs->Buf (w6.setCell ⟨h1,0,none⟩ (.slice A1 (D.length+1) c1)) w.heap.size 3 A n c xs:=fun A n c xs hb=>by
      have q:=ZA7 d0.out m0.out (hb.ext d1.out) (by decide);exact q.setCell (q.unlike r16.out (by decide)) _
     have o4:Buf (w6.setCell ⟨h1,0,none⟩ (.slice A1 (D.length+1) c1)) w.heap.size 3 (some ⟨wr.heap.size+1,0,none⟩) 1 1 ([((bs+i:Nat):Int)].map IV):=by
      have q0:Buf Wa w.heap.size 3 (some ⟨wr.heap.size+1,0,none⟩) 1 1 ([((bs+i:Nat):Int)].map IV):=⟨rfl,Nat.le_refl _,.inr ⟨_,_,rfl,by have:=l0.out.size;omega,qi2.out,by simp,by simp[IV]⟩⟩
      have q:=ZA7 d0.out m0.out q0 (by decide);exact q.setCell (q.unlike r16.out (by decide)) _
     have y7:∀g t cs,t≠148->t≠150->Row wr g t cs->Row (w6.setCell ⟨h1,0,none⟩ (.slice A1 (D.length+1) c1)) g t cs:=fun g t cs n1 n2 hr=>by
      have q:=ZID d0.out m0.out (hr.ext d1.out) n2;exact q.away (q.unlike r16.out n1) _
     have x7:(w6.setCell ⟨h1,0,none⟩ (.slice A1 (D.length+1) c1)).ownsRow w.heap.size 150 2 (.slice A1 (D.length+1) c1) (D.length+1) (tcs D++tcell (S,some ⟨wr.heap.size+1,0,none⟩,1,1)) :=
      (Chg.of_set (S:=fun k=>k=h1) w6 _ rfl).owns t4.out fun g hg n6=>by
       obtain⟨cur,hc,_⟩:=ZC t4.out hg;exact hc.unlike r16.out (by decide) n6
     have q6:(D ++ [(S,(some ⟨wr.heap.size+1,0,none⟩:Option Addr),1,1)]).length=D.length+1:=by rw[List.length_append];rfl
     refine⟨⟨i+1,by first | rfl | (congr 1;omega),by omega,ZA ⟨A1,c1,D ++ [(S,some ⟨wr.heap.size+1,0,none⟩,1,1)],?_,?_,?_,u6 w (Nat.le_refl _) l0.out⟩,ZA (KpT.trans _ _ _ _ o3.out ⟨u6,y7⟩),ZA (l5.out.trans ((d1.out.others.trans (ZDG d0.out m0.out)).trans (KeepsOthers.setCell _ _ _)))⟩,by simp only[intOf];omega⟩
     ·rw[q6];exact r16.out.put 0 _
     ·rw[q6,ZCA];exact x7
     ·rw[l4.out,ZKC];exact s1.out.snoc f6 hS o4 (fun a ha=>by cases ha;show wr.heap.size<=wr.heap.size+1;omega)
    ·have d6:Y.take i=Y:=by
      rw[List.take_of_length_le];rw[hY.out,ZAf,<-k3.out];omega
     rw[d6,<-m1.out]at c4;gi_wp2_with fail;exact⟨(g0.others).trans l5.out,KpT.trans _ _ _ _ (KpT.ext g0) o3.out,c4.out⟩
  case hdone =>
   rintro Dm xs W2' W3 W4 hD hI ⟨e5,f5⟩ a5 hk;have i5:=(hI.ext f5).alike a5 i0;rw[e5,List.take_length]at i5;obtain⟨L,cl,D,r3,p0,f2,p2⟩:=i5;have z6:D.length<=65536:=by
    have h1:=f2.len;have h2:=ZAy (k:=4096) fs 0 (fun f hf=>(x3 f hf).2);unfold oneT at h1;rw[List.length_map]at h1;rw[<-hn.out]at h2;omega
   obtain⟨w3,o1,l3⟩:=f2.tz;have c0:=ZJO w.heap.size L D.length cl D W4 p0 rfl (by omega);unfold cmpV at c0;obtain⟨n4,m4⟩:∃n4,n4=D.length:=⟨_,rfl⟩
   rw[<-m4]at c0 z6 p0 r3;have z3:=r3.cell 0 rfl;have i3:=p2.size;replace c0:=ZA c0;replace r3:=ZA r3;replace p0:=ZA p0;replace w3:=ZA w3;replace o1:=ZA o1;replace l3:=ZA l3;replace p2:=ZA p2;replace hk:=ZA hk;replace m4:=ZA m4;clear hI e5 f5 a5 f2;gi_wp2_with fail;refine(callsIn_wide.2 c0.out).mono ?_;rintro e w5 ⟨rfl,E,f1,y2,l2⟩;have b3:∀g t cs,t≠150->Row W4 g t cs->Row w5 g t cs:=fun g t cs ht hr=>l2.row hr fun hg=>by
    obtain⟨cur,hc,_⟩:=ZC p0.out hg;exact hr.unlike hc ht rfl
   have o5:∀A n c xs,Buf W4 w.heap.size 3 A n c xs->Buf w5 w.heap.size 3 A n c xs:=fun A n c xs hb=>hb.chg l2 fun a ha hg=>by
    obtain⟨cur,hc,_⟩:=ZC p0.out hg;exact hb.unlike hc (by decide) a ha rfl
   have b1:Ext w w5:=p2.out.chg l2 fun i hi hg=>by
    obtain⟨_,_,hl⟩:=ZC p0.out hg;omega
   have n5:KeepsOthers W4 w5:=⟨l2.size,fun k o hk u7=>by
    refine(l2.block k (Array.getElem?_eq_some_iff.1 hk).1 fun hg=>?_).trans hk;obtain⟨cur,hc,_⟩:=ZC p0.out hg;unfold Row at hc;rw[hc]at hk;injection hk with hk;subst hk;cases u7⟩
   have h7:=ZA (n5.same _ _ hk.out rfl);have r35:=b3 _ _ _ (by decide) r3.out;have z35:=r35.cell 0 rfl;have s2:E.length=n4:=by rw[m4.out];exact f1.2.len
   have g1:=f1.2.perm;have d4:TZ w5 w.heap.size (E.map fun x=>(x,(x.1,ptsOf W4 x.2))):=(w3.out.perm (g1.map _)).keep o5;have j1:∀x∈E,ptsOf W4 x.2 = [(ptsOf W4 x.2).headD 0]:=fun x hx=>o1.out x (g1.mem_iff.1 hx);have z2:(E.map fun x=>(x.1,(ptsOf W4 x.2).headD 0)).foldl joinS []=T:=by
    have h1:=(f1.stabM fun x=>(ptsOf W4 x).headD 0).grp;rw[h1,l3.out];exact hT.out.symm
   have g2:(E.map fun x=>(x.1,(ptsOf W4 x.2).headD 0)).length=n4:=by rw[List.length_map,s2]
   obtain⟨b5,s0⟩:∃b5,b5=w5.heap.size:=⟨_,rfl⟩
   have q2:w.heap.size<=b5:=by rw[s0];exact b1.size
   replace d4:=ZA d4;replace j1:=ZA j1;replace z2:=ZA z2;replace s2:=ZA s2;replace g2:=ZA g2;replace b1:=ZA b1;replace y2:=ZA y2;replace r35:=ZA r35;replace s0:=ZA s0;clear l2 b3 o5 n5 f1 g1 c0 w3 o1 l3 hk i3;gi_wp2_with fail
   gi_loopw [8,47] (fun s8 s47 wr=>∃(i m c:Nat) (O:Option Addr) (P:List TmP),s47 = .int .i64 (i:Int)/\s8 = .slice O m c/\i<=n4/\m<=i/\Hid (m=P.length)/\Hid (wr.ownsRow b5 150 2 (.slice O m c) m (tcs (P.map Prod.fst)))/\Hid (P.map Prod.snd=((E.map fun x=>(x.1,(ptsOf W4 x.2).headD 0)).take i).foldl joinS [])/\Hid (TZ wr w.heap.size (P++(E.map fun x=>(x,(x.1,ptsOf W4 x.2))).drop i))/\Hid (Ext w wr)/\Hid (∀g cs,g<b5->Row w5 g 150 cs->Row wr g 150 cs)/\Hid (KeepsOthers w5 wr)/\b5<=wr.heap.size) (fun _ s47 _=>n4 - (intOf s47).toNat)
   case atStart=>exact⟨0,0,0,none,[],rfl,rfl,by omega,by omega,ZA rfl,ZA (World.ownsRow_nil _ _ _ _),ZA rfl,ZA (by rw[List.drop_zero];exact d4.out),b1,ZA (fun _ _ _ h=>h),ZA (KeepsOthers.refl _),by rw[s0.out];exact Nat.le_refl _⟩
   case round =>
    obtain⟨i,m,c,O,P,rfl,rfl,hi,l7,a3,c3,s3,t2,l0,k4,v4,s5⟩:=hrel;by_cases j4:i<n4
    ·obtain⟨⟨ys,yA,yn,yc⟩,hy⟩:∃y,E[i]? = some y:=⟨_,List.getElem?_eq_getElem (by rw[s2.out];exact j4)⟩
     obtain⟨g,hL,i7,cs,d2,h6⟩:=y2.out (by omega);subst hL;have z1:=k4.out g cs (by rw[s0.out];exact d2.lt) d2;obtain⟨x0,x1⟩:=TR.at_ (w:=wr) (g:=g) (D:=E) ⟨cs,z1,h6⟩ hy;simp only at x0 x1;obtain⟨yz,y5⟩:∃yz,yz=(ptsOf W4 (yA,yn,yc)).headD 0:=⟨_,rfl⟩
     have x6:ptsOf W4 (yA,yn,yc) = [yz]:=by rw[y5];exact j1.out _ (List.mem_of_getElem? hy)
     have p6:(E.map fun x=>(x,(x.1,ptsOf W4 x.2))).drop i=((ys,yA,yn,yc),(ys,[yz]))::(E.map fun x=>(x,(x.1,ptsOf W4 x.2))).drop (i+1):=by
      rw[List.drop_eq_getElem_cons (by rw[List.length_map,s2.out];exact j4),List.getElem_map];have:=(List.getElem?_eq_some_iff.1 hy).2;rw[this];simp only[x6]
     have j2:((E.map fun x=>(x.1,(ptsOf W4 x.2).headD 0)).take (i+1)).foldl joinS []=joinS (((E.map fun x=>(x.1,(ptsOf W4 x.2).headD 0)).take i).foldl joinS []) (ys,yz):=by
      rw[List.take_add_one,List.foldl_append,List.getElem?_map,hy,y5];rfl
     rw[p6]at t2;rw[<-s3.out]at j2;obtain⟨R,hR⟩:∃R,R=(E.map fun x=>(x,(x.1,ptsOf W4 x.2))).drop (i+1):=⟨_,rfl⟩
     rw[<-hR]at t2;have m2:∀z∈P.map Prod.snd,z.2.length<=i:=fun z hz=>by
      rw[s3.out]at hz;have:=ZH4 _ [] 0 nofun z hz;rw[List.length_take]at this;omega
     replace m2:=ZA m2;replace hR:=ZA hR;replace j2:=ZA j2;replace hy:=ZA hy;replace z1:=ZA z1;clear p6 y5 x6 d2 h6 s3;rcases List.eq_nil_or_concat P with f0 | ⟨P0,x,f0⟩
     ·have t7:m=0:=by rw[a3.out,f0];rfl
      subst t7;have b2:Hid (joinS (P.map Prod.snd) (ys,yz)=P.map Prod.snd ++ [(ys,[yz])]):=ZA (by rw[f0];rfl);replace f0:=ZA f0;gi_wp2_with fail;obtain⟨W6,n0⟩:∃W6,W6=wr.alloc (Obj.cells #[Value.string ⟨ys.toArray⟩,Value.slice yA yn yc] 150):=⟨_,rfl⟩
      rw[<-n0];obtain⟨g6,m0⟩:∃g6,g6=wr.heap.size:=⟨_,rfl⟩
      have r6:Row W6 g6 150 #[Value.string ⟨ys.toArray⟩,Value.slice yA yn yc]:=by rw[n0,m0];exact Row.new wr _ _
      rw[<-m0];have e0:Ext wr W6:=by rw[n0];exact(Ext.refl wr).alloc _
      have t0:=r6.cell 0 rfl;have t1:=r6.cell 1 rfl;replace r6:=ZA r6;replace e0:=ZA e0;replace n0:=ZA n0;replace m0:=ZA m0;refine wpIn_wide.2 (ZPw (fun K hK=>?_));go_wp2_with fail;refine⟨by kernel_rfl,?_⟩;obtain⟨W7,o0⟩:∃W7,W7=(W6.alloc (Obj.cells #[Value.string ⟨ys.toArray⟩,Value.slice yA yn yc] 150)).drew:=⟨_,rfl⟩
      have g0:Ext wr W7:=by rw[o0];exact(e0.out.alloc _).drew
      have a0:=g0.owns c3.out;have i2:Cells W7 (some ⟨W6.heap.size,0,none⟩) (tcell (ys,yA,yn,yc)):=by rw[o0];exact Zg W6 [Value.string ⟨ys.toArray⟩,Value.slice yA yn yc] _
      have u3:b5<=W7.heap.size:=Nat.le_trans s5 g0.size;replace g0:=ZA g0;replace a0:=ZA a0;replace i2:=ZA i2;replace o0:=ZA o0;gi_wp2_with (gi_at_builtin;rw[<-o0.out];refine ZBA ZLi a0.out i2.out (.tmp 78) (.tmp 80) rfl rfl rfl rfl rfl rfl (by simp[tcell,Value.oneCell']) (by omega) u3 (fun A1 c1 w8 c2 j0 i1=>?_);replace c2:=ZA c2;replace j0:=ZA j0;replace i1:=ZA i1);have a1:∀g cs,g<b5->Row wr g 150 cs->Row w8 g 150 cs:=fun g cs l1 hr=>(hr.ext g0.out).grown j0.out fun h=>by obtain⟨_,_,hl⟩:=ZC a0.out h.symm;omega
      refine⟨⟨i+1,_,c1,A1,P ++ [((ys,yA,yn,yc),(ys,[yz]))],by first | rfl | (congr 1;omega),rfl,by omega,by omega,ZA (by rw[List.length_append,<-a3.out];rfl),ZA ?_,ZA ?_,ZA ?_,ZA (ZDw a0.out j0.out (l0.out.trans g0.out) q2),ZA (fun g cs l1 hr=>a1 g cs l1 (k4.out g cs l1 hr)),ZA (v4.out.trans (g0.out.others.trans (ZDG a0.out j0.out))),Nat.le_trans u3 j0.out.size⟩,by simp only[intOf];omega⟩
      ·rw[List.map_append,List.map_singleton,ZCA];exact c2.out
      ·rw[j2.out,b2.out,List.map_append,List.map_singleton]
      ·rw[List.append_assoc,<-hR.out];exact t2.out.keep fun A n c xs hb=>ZA7 a0.out j0.out (hb.ext g0.out) (by decide)
     ·rw[List.concat_eq_append]at f0;have m6:m=P0.length+1:=by rw[a3.out,f0,List.length_append];rfl
      obtain⟨k,hk⟩:∃k,k=P0.length:=⟨_,rfl⟩
      rw[<-hk]at m6;subst m6;obtain⟨⟨xs',xA,xn,xc⟩,xk,xl⟩:=x;obtain⟨go,cur,b6,o6,r1,v0,v1⟩:=ZM7 c3.out (i:=k) (x:=(xs',xA,xn,xc)) (by rw[f0,List.map_append,List.getElem?_append_right (by rw[List.length_map];omega),List.length_map,hk,Nat.sub_self];rfl);subst b6;simp only at v0 v1;have k6:=r1.lt;have a7:xs'=xk:=(t2.out.each ((xs',xA,xn,xc),xk,xl) (by rw[f0];simp)).1;have a2:joinS (P.map Prod.snd) (ys,yz)=if xk=ys then P0.map Prod.snd ++ [(xk,xl ++ [yz])] else P.map Prod.snd ++ [(ys,[yz])]:=by
       rw[f0,List.map_append,List.map_singleton,ZEO]
      subst a7;replace r1:=ZA r1;replace hk:=ZA hk;replace f0:=ZA f0;gi_wp2_with fail;obtain⟨W6,n0⟩:∃W6,W6=wr.alloc (Obj.cells #[Value.string ⟨ys.toArray⟩,Value.slice yA yn yc] 150):=⟨_,rfl⟩
      rw[<-n0];obtain⟨g6,m0⟩:∃g6,g6=wr.heap.size:=⟨_,rfl⟩
      have r6:Row W6 g6 150 #[Value.string ⟨ys.toArray⟩,Value.slice yA yn yc]:=by rw[n0,m0];exact Row.new wr _ _
      rw[<-m0];have e0:Ext wr W6:=by rw[n0];exact(Ext.refl wr).alloc _
      have t0:=r6.cell 0 rfl;have t1:=r6.cell 1 rfl;replace r6:=ZA r6;replace e0:=ZA e0;replace n0:=ZA n0;replace m0:=ZA m0;have u0:=e0.out.cell v0;have u1:=e0.out.cell v1;by_cases u4:xs'=ys
      ·subst u4;rw[if_pos rfl]at a2;replace a2:=ZA a2;refine wpIn_wide.2 (ZPw (fun K hK=>?_));go_wp2_with fail;refine⟨by kernel_rfl,?_⟩;gi_wp2_with fail;have e1:=t2.out;rw[f0.out,List.append_assoc,List.singleton_append]at e1;have h5:=(e1.each ((xs',xA,xn,xc),xs',xl) (by simp)).2;have p5:=(e1.each ((xs',yA,yn,yc),xs',[yz]) (by simp)).2;simp only at h5 p5;have b7:xl.length=xn:=by have:=h5.1;rwa [List.length_map]at this
       have h8:xn<=i:=by
        have:=m2.out (xs',xl) (by rw[f0.out];simp);rw[<-b7];exact this
       have d7:1=yn:=by have:=p5.1;simpa using this
       subst d7;have p1:Hid (Buf W6.drew.drew w.heap.size 3 xA xn xc (xl.map IV)):=ZA (h5.ext e0.out.drew.drew);have k5:Hid (Cells W6.drew.drew yA ([yz].map IV)):=ZA (p5.ext e0.out.drew.drew).cells;have d3:Hid (Row W6.drew.drew go 150 cur):=ZA (r1.out.ext e0.out.drew.drew);have v5:w.heap.size<=W6.drew.drew.heap.size:=(l0.out.trans e0.out.drew.drew).size;have j5:Hid (W6.drew.drew.ownsRow b5 150 2 (.slice (some ⟨go,0,none⟩) (k+1) c) (k+1) (tcs (P.map Prod.fst))):=ZA (e0.out.drew.drew.owns c3.out);have u19:=ZA (e0.out.drew.drew.cell v1);refine wpIn_wide.2 (ZPw (fun K hK=>?_));go_wp2_with (at_builtin;refine ZG ZIu p1.out k5.out (.tmp 72) (.tmp 74) rfl rfl rfl rfl rfl rfl (by simp[IV,Value.oneCell']) (by omega) v5 (fun A1 c1 w8 h4 j0 u5 i1=>?_);have r18:=ZAk p1.out j0 d3.out (by decide);have v2:=r18.free (k*2+1);have v3:=(r18.get (k*2+1)).trans ((d3.out.get (k*2+1)).symm.trans u19.out);replace r18:=ZA r18;replace h4:=ZA h4;replace j0:=ZA j0;replace u5:=ZA u5;replace i1:=ZA i1);refine⟨by kernel_rfl,?_⟩;gi_wp2_with fail;have r2:=e0.out.drew.drew;have p7:∀z∈P0++R,TmP.far z ((xs',xA,xn,xc),xs',xl)->TmP.ok wr w.heap.size z->TmP.ok (w8.setCell ⟨go,k*2+1,none⟩ (.slice A1 (xn+1) c1)) w.heap.size z:=fun z hz hf ho=>by
        have q:=ZOY j0.out (ho.2.ext r2) (fun p q hp hq=>hf p q hp hq);exact⟨ho.1,q.setCell (q.unlike r18.out (by decide)) _⟩
       have o4:Buf (w8.setCell ⟨go,k*2+1,none⟩ (.slice A1 (xn+1) c1)) w.heap.size 3 A1 (xn+1) c1 ((xl ++ [yz]).map IV):=by
        rw[List.map_append];exact h4.out.setCell (h4.out.unlike r18.out (by decide)) _
       have e4:=e1.join ((xs',A1,xn+1,c1),xs',xl ++ [yz]) p7 ⟨rfl,o4⟩ (by
        rcases i1.out with h | h
        ·exact .inl h
        ·exact .inr ⟨_,h,r2.size⟩)
       have k2:=ZKz (ZFN p1.out j0.out j5.out (by decide)) (k*2+1) (.slice A1 (xn+1) c1);have v6:=ZMA (P0.map Prod.fst) (xs',xA,xn,xc) (A1,xn+1,c1);rw[List.length_map,<-hk.out]at v6;have c6:P.map Prod.fst=P0.map Prod.fst ++ [(xs',xA,xn,xc)]:=by rw[f0.out,List.map_append];rfl
       rw[c6,v6]at k2;refine⟨⟨i+1,k+1,c,some ⟨go,0,none⟩,P0 ++ [((xs',A1,xn+1,c1),xs',xl ++ [yz])],by first | rfl | (congr 1;omega),rfl,by omega,by omega,ZA (by rw[List.length_append,<-hk.out];rfl),ZA ?_,ZA ?_,ZA ?_,ZA ?_,ZA (fun g cs l1 hr=>?_),ZA (v4.out.trans (r2.others.trans ((ZAF p1.out j0.out).trans (KeepsOthers.setCell _ _ _)))),?_⟩,by simp only[intOf];omega⟩
       ·rw[List.map_append];exact k2
       ·rw[j2.out,a2.out,List.map_append];rfl
       ·rw[List.append_assoc,<-hR.out];exact e4
       ·exact(u5.out w (l0.out.trans r2) (Nat.le_refl _)).setCell (p:=⟨go,k*2+1,none⟩) (Nat.le_trans q2 o6) _
       ·exact(ZAk p1.out j0.out ((k4.out g cs l1 hr).ext r2) (by decide)).away (by show g≠go;omega) _
       ·have h1:=j0.out.size;have h2:=r2.size;show b5<=(w8.setCell _ _).heap.size;simp only[World.setCell,Array.size_modify];omega
      ·rw[if_neg u4]at a2;have b2:Hid (joinS (P.map Prod.snd) (ys,yz)=P.map Prod.snd ++ [(ys,[yz])]):=ZA a2;have i6:¬ (ByteArray.mk xs'.toArray=ByteArray.mk ys.toArray):=fun h=>u4 (by injection h with h;simpa using h);clear a2;have e6:(xs'==ys)=false:=beq_eq_false_iff_ne.2 u4;refine wpIn_wide.2 (ZPw (fun K hK=>?_));go_wp2_with fail;refine⟨by kernel_rfl,?_⟩;obtain⟨W7,o0⟩:∃W7,W7=(W6.alloc (Obj.cells #[Value.string ⟨ys.toArray⟩,Value.slice yA yn yc] 150)).drew:=⟨_,rfl⟩
       have g0:Ext wr W7:=by rw[o0];exact(e0.out.alloc _).drew
       have a0:=g0.owns c3.out;have i2:Cells W7 (some ⟨W6.heap.size,0,none⟩) (tcell (ys,yA,yn,yc)):=by rw[o0];exact Zg W6 [Value.string ⟨ys.toArray⟩,Value.slice yA yn yc] _
       have u3:b5<=W7.heap.size:=Nat.le_trans s5 g0.size;replace g0:=ZA g0;replace a0:=ZA a0;replace i2:=ZA i2;replace o0:=ZA o0;gi_wp2_with (gi_at_builtin;rw[<-o0.out];refine ZBA ZLi a0.out i2.out (.tmp 78) (.tmp 80) rfl rfl rfl rfl rfl rfl (by simp[tcell,Value.oneCell']) (by omega) u3 (fun A1 c1 w8 c2 j0 i1=>?_);replace c2:=ZA c2;replace j0:=ZA j0;replace i1:=ZA i1);have a1:∀g cs,g<b5->Row wr g 150 cs->Row w8 g 150 cs:=fun g cs l1 hr=>(hr.ext g0.out).grown j0.out fun h=>by obtain⟨_,_,hl⟩:=ZC a0.out h.symm;omega
       refine⟨⟨i+1,_,c1,A1,P ++ [((ys,yA,yn,yc),(ys,[yz]))],by first | rfl | (congr 1;omega),rfl,by omega,by omega,ZA (by rw[List.length_append,<-a3.out];rfl),ZA ?_,ZA ?_,ZA ?_,ZA (ZDw a0.out j0.out (l0.out.trans g0.out) q2),ZA (fun g cs l1 hr=>a1 g cs l1 (k4.out g cs l1 hr)),ZA (v4.out.trans (g0.out.others.trans (ZDG a0.out j0.out))),Nat.le_trans u3 j0.out.size⟩,by simp only[intOf];omega⟩
       ·rw[List.map_append,List.map_singleton,ZCA];exact c2.out
       ·rw[j2.out,b2.out,List.map_append,List.map_singleton]
       ·rw[List.append_assoc,<-hR.out];exact t2.out.keep fun A n c xs hb=>ZA7 a0.out j0.out (hb.ext g0.out) (by decide)
    ·have b4:P.map Prod.snd=T:=by
      rw[s3.out,List.take_of_length_le (by rw[g2.out];omega)];exact z2.out
     replace b4:=ZA b4;gi_wp2_with fail;have q7:=v4.out.same _ _ h7.out rfl;refine ZAO (B:=w4.heap.size) rfl q7 hD fun W ha=>⟨_,results_tmp rfl _ _ _,?_⟩
     have j3:=t2.out;rw[List.drop_eq_nil_of_le (by rw[List.length_map,s2.out];omega),List.append_nil]at j3;have t6:m=(P.map Prod.fst).length:=by rw[List.length_map];exact a3.out
     rw[<-b4.out];refine⟨O,c,P.map Prod.fst,?_,?_,(j3.keep fun _ _ _ _ hb=>ha.buf hb).tms,ha.ext l0.out i0⟩
     ·rw[<-t6];rfl
     ·rw[<-t6];exact ha.owns (ZN c3.out q2)
 ·have hT:=e2.out;rw[if_neg z5]at hT;replace hT:=ZA hT;gi_wp2_with fail;rw[hT.out];exact ZDJ rfl (results_tmp rfl _ _ _) ⟨none,0,[],rfl,World.ownsRow_nil _ _ _ _,TmsOk.nil _ _,o2.out⟩
end
section
open Go.RowKit
theorem ZMx {P:Program} {ops:Array Oper} {o:Oper} {a:Act} {w:World} {K:Act->World->Prop} {Q:Exit->Act->World->Prop} {E0:Prop} {t e size bytes:Nat} (E:Elem P t e size bytes) (k0:o.guard=none)
 {base:Nat} {v:Value} {n:Nat} {xs:List Value} {A:Option Addr} {m c:Nat} {news:List Value} (q0:w.ownsRow base e size v n xs) (hr:Cells w A news) (s x:Operand)
 (ho:o.op = .call { callee:= .builtin .append,args:=#[s,x],argTypes:=#[t,t] })
 (hs:a.eval s=v) (hx:a.eval x = .slice A m c) (hl:news.length=m*size) (h1:∀u∈news,u.oneCell'=true) (j0:n+m<=4294967296) (h0:base<=w.heap.size)
 (h:∀A1 c1 w',w'.ownsRow base e size (.slice A1 (n+m) c1) (n+m) (xs++news)->w.grownBy w' v.ownBlock->K (a.put o.dst (.slice A1 (n+m) c1)) w') :
 if Region.wanted o (yielded ops a.tmps)=true then Oper.wp P o a w K Q else E0:=by
 rw[if_pos (by simp[Region.wanted,k0])];obtain⟨A1,c1,w',p0,h2,h3,h4⟩:=ZBo (P:=P) E w o.type q0 (c:=c) hr hl h1 j0 h0;unfold Oper.wp execOp;simp only[ho,resolve,invoke,builtin,Sem.run_bind,Sem.run_pure,Result.andThen_ok,List.map_toArray,List.map_cons,List.map_nil,hs,hx,p0];exact h A1 c1 w' h2 h3
theorem ZKV {P:Program} {ops:Array Oper} {o:Oper} {a:Act} {w0:World} {K:Act->World->Prop} {Q:Exit->Act->World->Prop} {E0:Prop} {us:List Value} {T:TypeId} {t e size bytes m k:Nat} (E:Elem P t e size bytes) (p0:o.guard=none)
 {base:Nat} {v:Value} {n:Nat} {xs:List Value} (h0:w0.ownsRow base e size v n xs) (hk:k=w0.heap.size) (s x:Operand)
 (ho:o.op = .call { callee:= .builtin .append,args:=#[s,x],argTypes:=#[t,t] })
 (hs:a.eval s=v) (hx:a.eval x = .slice (some ⟨k,0,none⟩) m m) (hl:us.length=m*size) (h1:∀u∈us,u.oneCell'=true) (j0:n+m<=4294967296) (q0:base<=w0.heap.size)
 (h:∀A1 c1 w',w'.ownsRow base e size (.slice A1 (n+m) c1) (n+m) (xs++us)->w0.grownBy w' v.ownBlock->K (a.put o.dst (.slice A1 (n+m) c1)) w') :
 if Region.wanted o (yielded ops a.tmps)=true then Oper.wp P o a (w0.alloc (.cells us.toArray T)) K Q else E0:=by
 subst hk;refine ZMx E p0 (((Ext.refl w0).alloc _).owns h0) (A:=some ⟨w0.heap.size,0,none⟩) (news:=us) (.inr ⟨w0.heap.size,0,rfl,fun i u hu=>?_⟩) s x ho hs hx hl h1 j0 (by simp;omega) fun A1 c1 w' h2 h3=>?_
 ·rw[Nat.zero_add,cell_of_row _ _ _ _ _ _ (heap_alloc_new w0 _)];simpa using hu
 ·exact h A1 c1 w' h2 ⟨h3.os,h3.tape,h3.output,Nat.le_trans (by simp) h3.size,fun k hk k0=>(h3.block k (by simp;omega) k0).trans (Below.heap_alloc w0 _ k hk)⟩
end
section
open Go.RowKit Go.Maps Go.Sort
def sortK (ns:List (List UInt8)):List (List UInt8):=ns.mergeSort fun x y=>decide (x<=y)
theorem ZEI (ns:List (List UInt8)):(sortK ns).Perm ns:=List.mergeSort_perm _ _
theorem ZMV (ns:List (List UInt8)):(sortK ns).Pairwise (fun a b=>a<=b):=by
 have:=List.pairwise_mergeSort (le:=fun(x y:List UInt8)=>decide (x<=y)) (fun a b c h k=>decide_eq_true (List.le_trans (of_decide_eq_true h) (of_decide_eq_true k))) (fun a b=>by rcases List.le_total a b with h | h <;> simp[h]) ns;exact this.imp fun h=>of_decide_eq_true h
theorem ZMU {ns ks:List (List UInt8)} (h:ns.Perm ks) (hk:ks.Pairwise fun a b=>a<b):sortK ns=ks :=
 List.Perm.eq_of_pairwise (le:=fun(x y:List UInt8)=>x<=y) (fun x y _ _ h k=>List.le_antisymm h k) (ZMV ns) (hk.imp fun h=>List.le_of_lt h) ((ZEI ns).trans h)
theorem ZJI (base:Nat) (A:Option Addr) (n c:Nat) (ns:List (List UInt8)) (w:World) (hn:n=ns.length) (hb:Buf w base 9 A n c (ns.map strV)) (v0:n<=1073741824) :
 Calls Tryz.prog 139 #[.slice A n c] w fun e w'=>e = .returned (.tuple #[])/\Buf w' base 9 A n c ((sortK ns).map strV)/\Chg (fun k=>∃x,A=some x/\x.block=k) w w':=by
 subst hn;obtain⟨h1,h2,h3⟩:=hb;unfold sortK;rcases h3 with ⟨rfl,rfl⟩ | ⟨g,cur,rfl,k0,hg,hs,ht⟩
 ·have h0:ns = []:=List.eq_nil_of_length_eq_zero (by omega);subst h0;refine(Tryz.slices_Sort_string_none none 0 w).mono ?_;rintro e w' ⟨rfl,rfl⟩;exact⟨rfl,by simpa using Buf.nil _ _ _,Chg.refl _ _⟩
 ·have hH:Holds encStr w g 0 ns.toArray:=by
   intro j hj;simp at hj;refine⟨?_,hg.free _⟩;rw[Nat.zero_add,cell_of_row w g j cur 9 (0,0) hg];have:(cur.toList.take ns.length)[j]? = (ns.map strV)[j]? :=by rw[ht]
   rw[List.getElem?_take,if_pos hj]at this;simp[hj]at this;simpa [hj,encStr,strV]using this
  refine(Tryz.slices_Sort_string g 0 c ns w hH hg.lt (by omega)).mono ?_;rintro e w' ⟨rfl,k,os,rfl⟩;obtain⟨so,p0⟩:∃so,so=(ns.mergeSort fun x y=>decide (x<=y)):=⟨_,rfl⟩
  have t0:so.length=ns.length:=by rw[p0];exact List.length_mergeSort _
  rw[<-p0];have q0:Row (grow (putRow encStr (Sort.ahead w k) g 0 so.toArray) os) g 9 (putCells encStr 0 so.toArray cur):=by
   show ((w.heap.modify g (onCells (putCells encStr 0 so.toArray)))++os)[g]? = _;rw[Array.getElem?_append_left (by simpa using hg.lt),Array.getElem?_modify,if_pos rfl];have:w.heap[g]? = some (.cells cur 9 (0,0)):=hg;rw[this];rfl
  refine⟨rfl,⟨by simp[t0],h2,.inr ⟨g,_,rfl,k0,q0,?_,?_⟩⟩,⟨rfl,rfl,rfl,?_,?_⟩⟩
  ·simp[putCells];exact hs
  ·apply List.ext_getElem?;intro i;rw[List.getElem?_take];split
   ·rename_i hi;have j0:i<cur.size:=by
     rw[List.length_map]at h1;omega
    have g0:i<so.length:=by omega
    rw[Array.getElem?_toList];unfold putCells;rw[Array.getElem?_mapIdx,Array.getElem?_eq_getElem j0];simp[g0,encStr,strV]
   ·rename_i hi;rw[List.getElem?_eq_none (by rw[List.length_map];omega)]
  ·show w.heap.size<=((w.heap.modify g (onCells (putCells encStr 0 so.toArray)))++os).size;simp
  ·intro j hj m0;show ((w.heap.modify g (onCells (putCells encStr 0 so.toArray)))++os)[j]? = _;rw[Array.getElem?_append_left (by simpa using hj),Array.getElem?_modify,if_neg (fun e=>m0 ⟨_,rfl,e⟩)]
theorem ZKu (base:Nat) (A:Option Addr) (n c:Nat) (ns:List (List UInt8)) (w:World) (hn:n=ns.length) (hb:Buf w base 9 A n c (ns.map strV)) (h0:n<=1073741824) :
 Calls Tryz.prog 81 #[.slice A n c] w fun e w'=>e = .returned (.tuple #[])/\Buf w' base 9 A n c ((sortK ns).map strV)/\Chg (fun k=>∃x,A=some x/\x.block=k) w w':=by
 have h:=ZA (ZJI base A n c ns w hn hb h0);clear hb hn;go_enter Tryz.func81,Tryz.ntmps81;go_wp2_with fail;refine h.out.mono ?_;rintro e w1 ⟨rfl,h1,h2⟩;go_wp2_with fail
 go_end0
 exact⟨rfl,h1,h2⟩
end
section
open Go.RowKit Go.Maps
open Go
structure RangeL (P:Program) (k:TypeId) (w:World) (m r:Nat) (L:List (Value×Value)) (done:List Value):Prop where
  ex:∃es clock since seen c0,w.heap[m]? = some (.map es clock)/\es.toList.map (fun e=>(e.key,e.val))=L/\es.toList.Pairwise (fun a b=>a.born≠b.born)/\(∀e∈es.toList,e.born<clock) /\
    w.heap[r]? = some (.mapIter (some m) since seen c0)/\(∀e∈es.toList,e.born<since)/\since<=c0/\since<=clock/\∀e∈es.toList,(seen.contains e.born=true↔e.key∈done)
  keys:∀p∈L,∃l,keyOf P k p.1=some l
  nodup:(L.map Prod.fst).Nodup
  dn:done.Nodup
  sub:∀x∈done,x∈L.map Prod.fst
section
variable {P:Program} {k:TypeId} {w w1:World} {m r:Nat} {L:List (Value×Value)} {done:List Value}
theorem RangeL.map (h:RangeL P k w m r L done):MapL P k w m L:=by
 obtain⟨es,cl,since,seen,c0,h1,h2,h3,h4,_⟩:=h.ex;exact⟨⟨es,cl,h1,h2,h3,h4⟩,h.keys,h.nodup⟩
theorem RangeL.keep (h:RangeL P k w m r L done) (hm:w1.heap[m]? = w.heap[m]?) (hr:w1.heap[r]? = w.heap[r]?):RangeL P k w1 m r L done:=by
 obtain⟨⟨es,cl,since,seen,c0,h1,h2,h3,h4,h5,h6⟩,hk,hn,hd,hs⟩:=h;exact⟨⟨es,cl,since,seen,c0,hm.trans h1,h2,h3,h4,hr.trans h5,h6⟩,hk,hn,hd,hs⟩
theorem RangeL.lt (h:RangeL P k w m r L done):r<w.heap.size:=by
 obtain⟨es,cl,since,seen,c0,_,_,_,_,h5,_⟩:=h.ex;exact(Array.getElem?_eq_some_iff.1 h5).1
theorem RangeL.ne (h:RangeL P k w m r L done):r≠m:=by
 obtain⟨es,cl,since,seen,c0,h1,_,_,_,h5,_⟩:=h.ex;rintro rfl;rw[h1]at h5;cases h5
theorem RangeL.grown {row:Option Nat} (h:RangeL P k w m r L done) (hg:w.grownBy w1 row) (h1:row≠some m) (h2:row≠some r):RangeL P k w1 m r L done :=
 h.keep (hg.block m h.map.lt (fun e=>h1 e.symm)) (hg.block r h.lt (fun e=>h2 e.symm))
theorem RangeL.drew (h:RangeL P k w m r L done):RangeL P k w.drew m r L done:=h.keep rfl rfl
theorem RangeL.alloc (h:RangeL P k w m r L done) (o:Obj):RangeL P k (w.alloc o) m r L done:=h.keep (Below.heap_alloc w o m h.map.lt) (Below.heap_alloc w o r h.lt)
theorem MapL.range (h:MapL P k w m L) {t E:TypeId} (ht:P.underlying t=some (.map k E)) :
 ∃o,(Instr.range t (.map (some m))).run P w = .ok (.pointer (some ⟨w.heap.size,0,none⟩)) (w.alloc o)/\RangeL P k (w.alloc o) m w.heap.size L []:=by
 obtain⟨⟨es,cl,h1,h2,h3,h4⟩,hk,hn⟩:=h;refine⟨_,run_range_map w t k E m es cl ht h1,⟨⟨es,cl,cl,#[],cl,?_,h2,h3,h4,heap_alloc_new w _,h4,Nat.le_refl _,Nat.le_refl _,fun e _=>by simp⟩,hk,hn,List.nodup_nil,by simp⟩⟩;exact(Below.heap_alloc w _ m (Array.getElem?_eq_some_iff.1 h1).1).trans h1
theorem ZEC (w : World) (r : Nat) (o : Obj) : w.grownBy (ChangeMaps.setBlock w r o) (some r) :=
  ⟨rfl, rfl, rfl, by simp [ChangeMaps.setBlock], fun k _ h0 => by
    show (w.heap.setIfInBounds r o)[k]? = _
    rw [Array.getElem?_setIfInBounds_ne (fun e => h0 (by rw [e]))]⟩
theorem ZJR {es:Array MapEntry} {seen:Array Nat} {e:MapEntry} (he:e∈(leftOf es seen).toList):(leftOf es (seen.push e.born)).size<(leftOf es seen).size:=by
 have h1:leftOf es (seen.push e.born)=(leftOf es seen).filter (fun x=> !(x.born==e.born)):=by
  unfold leftOf;rw[Array.filter_filter];congr 1;funext x;rw[Array.contains_push];cases seen.contains x.born <;> cases (x.born==e.born) <;> rfl
 have h2:(leftOf es (seen.push e.born)).toList=(leftOf es seen).toList.filter (fun x=> !(x.born==e.born)):=by rw[h1,Array.toList_filter]
 have h3:((leftOf es seen).toList.filter (fun x=> !(x.born==e.born))).length<(leftOf es seen).toList.length:=List.length_filter_lt_length_iff_exists.2 ⟨e,he,by simp⟩;rw[<-h2]at h3;exact h3
theorem RangeL.next (h:RangeL P k w m r L done) (ty:TypeId) :
 ((Instr.next (.pointer (some ⟨r,0,none⟩)) false ty).run P w = .ok (.tuple #[.bool false]) w/\∀p∈L,p.1∈done) \/
 ∃x v w1,(x,v)∈L/\x∉done/\(Instr.next (.pointer (some ⟨r,0,none⟩)) false ty).run P w = .ok (.tuple #[.bool true,x,v]) w1/\RangeL P k w1 m r L (done ++ [x])/\w.grownBy w1 (some r)/\w1.heap.size=w.heap.size /\
  (Instr.entry (.pointer (some ⟨r,0,none⟩))).run P w1 = .ok (.tuple #[x,v]) w1/\w1.rangeLeft m r<w.rangeLeft m r:=by
 have z0:=h.lt;have b0:=h.ne;obtain⟨⟨es,cl,since,seen,c0,h1,h2,h3,h4,h5,h6,h7,v0,h8⟩,hk,hn,hd,hs⟩:=h;rcases run_next_at (P:=P) w ty r m since c0 seen es cl h5 h1 h6 h7 with ⟨h0,q0⟩ | ⟨e,he,w0,x0,q0⟩
 ·refine .inl ⟨q0,fun p hp=>?_⟩;rw[<-h2]at hp;obtain⟨e,he,rfl⟩:=List.mem_map.1 hp;rw[<-h8 e he];by_cases hc:seen.contains e.born=true
  ·exact hc
  ·exfalso;have:e∈leftOf es seen:=by
    unfold leftOf;rw[Array.mem_filter];exact⟨by simpa using he,by simpa using hc⟩
   have h9:=Array.size_pos_of_mem this;omega
 ·have k0:e∈es.toList/\seen.contains e.born=false:=by
   unfold leftOf at he;have p0:=Array.mem_toList_iff.1 he;rw[Array.mem_filter]at p0;exact⟨by simpa using p0.1,by simpa using p0.2⟩
  have j0:w0.heap=w.heap:=by rcases x0 with rfl | rfl <;> rfl
  have t0:w.grownBy w0 (some r):=by
   rcases x0 with rfl | rfl
   ·exact⟨rfl,rfl,rfl,Nat.le_refl _,fun _ _ _=>rfl⟩
   ·exact⟨rfl,rfl,rfl,Nat.le_refl _,fun _ _ _=>rfl⟩
  have u0:e.key∉done:=fun hc=>by
   rw[<-h8 e k0.1]at hc;rw[k0.2]at hc;cases hc
  have m0:(ChangeMaps.setBlock w0 r (.mapIter (some m) since (seen.push e.born) cl)).heap[r]? = some (.mapIter (some m) since (seen.push e.born) cl):=by
   show (w0.heap.setIfInBounds r _)[r]? = _;rw[Array.getElem?_setIfInBounds,if_pos rfl,if_pos (by rw[j0];exact z0)]
  have g0:(ChangeMaps.setBlock w0 r (.mapIter (some m) since (seen.push e.born) cl)).heap[m]? = some (.map es cl):=by
   show (w0.heap.setIfInBounds r _)[m]? = _;rw[Array.getElem?_setIfInBounds_ne b0,j0,h1]
  have a0:(es.toList.map (fun x=>x.born)).Nodup:=by
   rw[List.Nodup,List.pairwise_map];exact h3
  refine .inr ⟨e.key,e.val,_,by rw[<-h2];exact List.mem_map.2 ⟨e,k0.1,rfl⟩,u0,q0,⟨⟨es,cl,since,seen.push e.born,cl,g0,h2,h3,h4,m0,h6,v0,v0,?_⟩,hk,hn,?_,?_⟩,t0.trans (ZEC w0 r _),by simp[ChangeMaps.setBlock,j0],run_entry_at _ r m since seen es cl e m0 g0 k0.1 a0,by unfold World.rangeLeft;rw[g0,m0,h1,h5];exact ZJR he⟩
  ·intro e' p0;have d0:(es.toList.map (·.key)).Nodup:=by rw[<-h2,List.map_map]at hn;exact hn
   obtain⟨i,hi⟩:=List.getElem?_of_mem k0.1;obtain⟨j,hj⟩:=List.getElem?_of_mem p0;rw[Array.getElem?_toList]at hi hj;have y0:e'.born=e.born↔e'.key=e.key:=by
    constructor
    ·intro hb;obtain rfl:=ZLZ h3 hj hi hb;rw[hi]at hj;cases hj;rfl
    ·intro hb;obtain rfl:=ZIW d0 hj hi hb;rw[hi]at hj;cases hj;rfl
   rw[Array.contains_push,Bool.or_eq_true,beq_iff_eq,h8 e' p0,List.mem_append,List.mem_singleton,<-y0]
  ·rw[List.nodup_append];refine⟨hd,by simp,?_⟩;intro a ha b hb;simp at hb;rintro rfl;subst hb;exact u0 ha
  ·intro x hx;rcases List.mem_append.1 hx with hx | hx
   ·exact hs x hx
   ·simp at hx;subst hx;rw[<-h2,List.map_map];exact List.mem_map.2 ⟨e,k0.1,rfl⟩
theorem MapL.len (h:MapL P k w m L) {t E:TypeId} (ht:P.underlying t=some (.map k E)) (ty:TypeId):(Builtin.len_ #[t] ty #[.map (some m)]).run P w = .ok (.int .i64 L.length) w:=by
 obtain⟨⟨es,cl,h1,h2,_⟩,_,_⟩:=h;have hg:(getObj m).run P w = .ok (.map es cl) w:=by simp[getObj,Sem.run,h1]
 have hl:L.length=es.size:=by rw[<-h2];simp
 simp only[Builtin.len_,List.getElem?_toArray,List.getElem?_cons_zero,Sem.run_bind,run_underlying ht,Result.andThen_ok,hg,Sem.run_pure];rw[hl];rfl
end
end
section
open Go.RowKit Go.Maps
theorem ZMo:Elem Tryz.prog 43 107 2 32:=⟨Tryz.underlying43,⟨_,_,rfl,rfl,rfl,rfl,rfl⟩,by omega,by omega⟩
def IdxM (w:World) (M:Nat) (rows:List (List UInt8×List Po)):Prop:=∃L,MapL Tryz.prog 9 w M L/\∀r∈rows,∃(ps:List PoC) (A:Option Addr) (c:Nat),(strV r.1,Value.slice A ps.length c)∈L/\psP ps=r.2/\PosOk w A ps/\(∀a,A=some a->a.spot=none)/\ps.length<=c
def NewX (w:World) (rows:List (List UInt8×List Po)) (e:Ending) (w':World):Prop:=∃B n c M,e = .returned (.tuple #[.slice B n c,.map (some M)])/\n=rows.length/\Buf w' w.heap.size 9 B n c (rows.map fun r=>strV r.1)/\IdxM w' M rows/\Ext w w'
theorem ZKP {P:Program} {ops:Array Oper} {o:Oper} {a:Act} {w0:World} {K:Act->World->Prop} {Q:Exit->Act->World->Prop} {E0:Prop} {us:List Value} {T:TypeId} {t e size bytes m k:Nat} (E:Elem P t e size bytes) (k0:o.guard=none)
 {base:Nat} {v:Value} {n:Nat} {xs:List Value} (h0:w0.ownsRow base e size v n xs) (hk:k=w0.heap.size) (s x:Operand)
 (ho:o.op = .call { callee:= .builtin .append,args:=#[s,x],argTypes:=#[t,t] })
 (hs:a.eval s=v) (hx:a.eval x = .slice (some ⟨k,0,none⟩) m m) (hl:us.length=m*size) (h1:∀u∈us,u.oneCell'=true) (g0:n+m<=4294967296) (p0:base<=w0.heap.size)
 (h:∀A1 c1 w',w'.ownsRow base e size (.slice A1 (n+m) c1) (n+m) (xs++us)->w0.grownBy w' v.ownBlock->((Value.slice A1 (n+m) c1).ownBlock=v.ownBlock\/∃k,(Value.slice A1 (n+m) c1).ownBlock=some k/\w0.heap.size<=k)->K (a.put o.dst (.slice A1 (n+m) c1)) w') :
 if Region.wanted o (yielded ops a.tmps)=true then Oper.wp P o a (w0.alloc (.cells us.toArray T)) K Q else E0:=by
 subst hk;have hr:Cells (w0.alloc (.cells us.toArray T)) (some ⟨w0.heap.size,0,none⟩) us:= .inr ⟨w0.heap.size,0,rfl,fun i u hu=>by
  rw[Nat.zero_add,cell_of_row _ _ _ _ _ _ (heap_alloc_new w0 _)];simpa using hu⟩
 rw[if_pos (by simp[Region.wanted,k0])];obtain⟨A1,c1,w',q0,h2,h3,h4⟩:=ZBo (P:=P) E _ o.type (((Ext.refl w0).alloc _).owns h0) (c:=m) hr hl h1 g0 (by simp;omega);unfold Oper.wp execOp;simp only[ho,resolve,invoke,builtin,Sem.run_bind,Sem.run_pure,Result.andThen_ok,List.map_toArray,List.map_cons,List.map_nil,hs,hx,q0];refine h A1 c1 w' h2 ⟨h3.os,h3.tape,h3.output,Nat.le_trans (by simp) h3.size,fun k hk j0=>(h3.block k (by simp;omega) j0).trans (Below.heap_alloc w0 _ k hk)⟩ ?_;rcases h4 with h4 | h4
 ·exact .inl h4
 ·exact .inr ⟨_,h4,by simp⟩
theorem ZOg {w w1:World} {base n c:Nat} {A:Option Addr} {D:List TmV} (h:w.ownsRow base 150 2 (.slice A n c) n (tcs D)) (hk:∀g cs,Row w g 150 cs->Row w1 g 150 cs) {i:Nat} {x:TmV} (hx:D[i]? = some x) :
 ∃g,A=some ⟨g,0,none⟩/\w1.cell? ⟨g,i*2,none⟩=some (.string ⟨x.1.toArray⟩)/\w1.cell? ⟨g,i*2+1,none⟩=some (.slice x.2.1 x.2.2.1 x.2.2.2):=by
 obtain⟨g,cur,hA,_,hr,h0,h1⟩:=ZM7 h hx;have q0:=hk g cur hr;refine⟨g,hA,?_,?_⟩
 ·rw[q0.get,<-hr.get];exact h0
 ·rw[q0.get,<-hr.get];exact h1
theorem ZM2 {w w1:World} {base n c:Nat} {e:TypeId} {A:Option Addr} {xs:List Value} (h:Buf w base e A n c xs) (hk:∀g cs,Row w g e cs->Row w1 g e cs):Buf w1 base e A n c xs:=by
 obtain⟨h1,h2,h3⟩:=h;refine⟨h1,h2,?_⟩;rcases h3 with h3 | ⟨g,cur,hA,hb,hg,r⟩
 ·exact .inl h3
 ·exact .inr ⟨g,cur,hA,hb,hk g cur hg,r⟩
theorem ZLF:Elem Tryz.prog 23 9 1 16:=⟨Tryz.underlying23,⟨_,_,rfl,rfl,rfl,rfl,rfl⟩,by omega,by omega⟩
theorem ZE7 {α β:Type} (f:α->β) {l:List α} (h:(l.map f).Nodup):l.Nodup:=by
 rw[List.nodup_iff_pairwise_ne,List.pairwise_map]at h;rw[List.nodup_iff_pairwise_ne];exact h.imp fun h e=>h (by rw[e])
theorem ZIC {α:Type}:∀(D E:List α),D.Nodup->(∀e∈D,e∈E)->D.length<=E.length
 | [],E,_,_=>Nat.zero_le _
 | a::D,E,hn,hs=>by
  rw[List.nodup_cons]at hn;obtain⟨E1,E2,rfl⟩:=List.append_of_mem (hs a (by simp));have:=ZIC D (E1++E2) hn.2 fun e he=>by
   have h1:=hs e (List.mem_cons_of_mem _ he);rcases List.mem_append.1 h1 with h2 | h2
   ·exact List.mem_append_left _ h2
   ·rcases List.mem_cons.1 h2 with h3 | h3
    ·exact absurd (h3 ▸ he) hn.1
    ·exact List.mem_append_right _ h3
  simp only[List.length_append,List.length_cons]at *;omega
theorem ZLM (ds:List DocC) (A:Option Addr) (m c:Nat) (w:World) (hm:m=ds.length) (h:DocsOk w A ds) (p5:m<=65536) (hT:(pairsD 0 (dcs ds)).length<=1000000) :
 Calls Tryz.prog 39 #[.slice A m c] w fun e w'=>NewX w (rowsD (dcs ds)) e w':=by
 have f0:=ZA (fun(x:DocC) (W:World) (hx:x.e.Ok W x.A)=>ZJ7 x.e x.A x.c W hx);replace h:=ZA h;replace hm:=ZA hm;replace hT:=ZA hT;have j5:=@run_makeMap Tryz.prog;go_enter Tryz.func39,Tryz.ntmps39;go_wp2_with fail;obtain⟨W1,j1⟩:∃W1,W1=w.alloc (.map #[] 0):=⟨_,rfl⟩
 rw[<-j1];have n3:Ext w W1:=by rw[j1];exact(Ext.refl w).alloc _
 have x3:IX w.heap.size w.heap.size [] [] W1:=by rw[j1];exact IX.new
 obtain⟨M,hM⟩:∃M,M=w.heap.size:=⟨_,rfl⟩
 rw[<-hM];rw[<-hM]at x3;replace j1:=ZA j1;replace hM:=ZA hM
 go_loopw [14] (fun s14 wr=>∃(i:Nat) (E:List IdE),s14 = .int .i64 (i:Int)/\i<=m/\Hid (IX M M (pairsD 0 (dcs (ds.take i))) E wr)/\Hid (Ext w wr)) (fun s14 _=>m - (intOf s14).toNat)
 case atStart=>exact⟨0,[],rfl,by omega,ZA x3,ZA n3⟩
 case round =>
  obtain⟨i,E,rfl,hi,hI,hE⟩:=hrel;by_cases b4:i<m
  ·obtain⟨x,hx⟩:∃x,ds[i]? = some x:=⟨_,List.getElem?_eq_getElem (by rw[<-hm.out];exact b4)⟩
   have r2:=h.out.ext hE.out;obtain⟨g,o,hA,x0,x1,x2⟩:=ZU r2.cells hx;subst hA;have t3:=(r2.each x (List.mem_of_getElem? hx)).1;replace t3:=ZA t3;replace hx:=ZA hx;clear r2;have l3:x.e.val x.A x.c = .agg #[.int .i64 x.e.at_,.slice x.A x.e.fs.length x.c]:=rfl;have e1:=f0.out x;rw[l3]at e1;have c1:pairsD 0 (dcs (ds.take (i+1)))=pairsD 0 (dcs (ds.take i))++(termsL x.e).map (fun p=>(p.1,((i:Int),p.2))):=by
    have h1:dcs (ds.take (i+1))=dcs (ds.take i) ++ [x.dc]:=by rw[List.take_add_one,hx.out];unfold dcs;rw[List.map_append];rfl
    have h2:(dcs (ds.take i)).length=i:=by unfold dcs;rw[List.length_map,List.length_take,<-hm.out];omega
    rw[h1,ZAd,h2,Nat.zero_add];show _++(_ ++ [])=_;rw[List.append_nil];rfl
   replace c1:=ZA c1;replace e1:=ZA e1;clear l3;go_wp2_with fail;obtain⟨W5,b2⟩:∃W5,W5=wr.alloc (Obj.cells #[Value.int IntKind.i64 x.seq,Value.int IntKind.i64 x.e.at_,Value.slice x.A x.e.fs.length x.c] 39):=⟨_,rfl⟩
   have s0:Ext wr W5:=by rw[b2];exact(Ext.refl wr).alloc _
   rw[<-b2];refine(e1.out W5 (t3.out.ext s0)).mono ?_;rintro e w6 ⟨LT,DT,D,rfl,r1,k1,v3⟩;have b0:=k1.len;obtain⟨T,p1⟩:∃T,T=termsL x.e:=⟨_,rfl⟩
   rw[<-p1]at b0 k1;have a2:∀p∈T,1<=p.1.length/\p.1.length<=65/\p.2.length<=65536:=fun p hp=>by
    rw[p1]at hp;exact⟨(ZCJ hp).1,(ZCJ hp).2,ZGA hp⟩
   have v4:T.length<=65536:=by rw[p1];exact ZIy _
   rw[<-p1]at c1;obtain⟨nd,o1⟩:∃nd,nd=D.length:=⟨_,rfl⟩
   rw[<-o1]at r1 b0 ⊢;have f4:nd<=65536:=by rw[b0];exact v4
   have r3:=ZA ((hI.out.ext s0).ext v3);have k2:=ZA ((hE.out.trans s0).trans v3);have p4:M<=W5.heap.size:=by rw[hM.out];exact(hE.out.trans s0).size
   replace r1:=ZA r1;replace k1:=ZA k1;replace a2:=ZA a2;replace o1:=ZA o1;replace b0:=ZA b0;clear p1 s0 b2 e1;go_wp2_with fail
   go_loopw [23] (fun s23 wr=>∃(j:Nat) (E:List IdE),s23 = .int .i64 (j:Int)/\j<=nd/\Hid (IX M M (pairsD 0 (dcs (ds.take i))++((T.map fun p=>(p.1,((i:Int),p.2))).take j)) E wr)/\Hid (Ext w wr)/\Hid (∀g t cs,t≠107->Row w6 g t cs->Row wr g t cs)) (fun s23 _=>nd - (intOf s23).toNat)
   case atStart=>exact⟨0,E,rfl,by omega,by rw[List.take_zero,List.append_nil];exact r3,k2,ZA (fun _ _ _ _ h=>h)⟩
   case round =>
    obtain⟨j,E',rfl,hj,i1,r0,g2⟩:=hrel;by_cases d3:j<nd
    ·obtain⟨⟨ys,yA,yn,yc⟩,hy⟩:∃y,D[j]? = some y:=⟨_,List.getElem?_eq_getElem (by rw[<-o1.out];exact d3)⟩
     obtain⟨⟨ts,tl⟩,ht⟩:∃p,T[j]? = some p:=⟨_,List.getElem?_eq_getElem (by rw[<-b0.out];exact d3)⟩
     obtain⟨hs,m1⟩:=k1.out.each j _ _ hy ht;simp only at hs m1;subst hs;have o4:=a2.out _ (List.mem_of_getElem? ht);simp only at o4;have w4:tl.length=yn:=by have:=m1.1;rwa [List.length_map]at this
     subst w4;obtain⟨gT,a4,z0,z1⟩:=ZOg r1.out (fun g cs hr=>g2.out g _ cs (by decide) hr) hy;subst a4;simp only at z0 z1;have s1:posAt M wr ⟨(i:Int),tl,yA,yc⟩:=⟨(ZM2 m1 (fun g cs hr=>g2.out g _ cs (by decide) hr)).lower p4,by show tl.length<=_;omega⟩
     obtain⟨xe,m3,i0,q2,n1⟩:=i1.out.get ys (by omega);have d0:pairsD 0 (dcs (ds.take i))++((T.map fun p=>(p.1,((i:Int),p.2))).take (j+1))=(pairsD 0 (dcs (ds.take i))++((T.map fun p=>(p.1,((i:Int),p.2))).take j)) ++ [(ys,((i:Int),tl))]:=by
      rw[List.take_add_one,List.getElem?_map,ht,List.append_assoc];rfl
     replace d0:=ZA d0;replace hy:=ZA hy;replace ht:=ZA ht;replace m1:=ZA m1;replace s1:=ZA s1;replace m3:=ZA m3;replace i0:=ZA i0;replace q2:=ZA q2;replace n1:=ZA n1;go_wp2_with fail;obtain⟨Wt,g1⟩:∃Wt,Wt=wr.alloc (Obj.cells #[Value.string ⟨ys.toArray⟩,Value.slice yA tl.length yc] 150):=⟨_,rfl⟩
     rw[<-g1];obtain⟨g8,l1⟩:∃g8,g8=wr.heap.size:=⟨_,rfl⟩
     rw[<-l1];have m0:Ext wr Wt:=by rw[g1];exact(Ext.refl wr).alloc _
     have r8:Row Wt g8 150 #[Value.string ⟨ys.toArray⟩,Value.slice yA tl.length yc]:=by rw[g1,l1];exact Row.new wr _ _
     have d4:=n1.out Wt.drew m0.drew;have e3:=n1.out (Wt.drew.alloc (Obj.cells #[Value.int .i64 (i:Int),Value.slice yA tl.length yc] 107)) (m0.drew.alloc _);have f3:(Instr.lookup 91 (.map (some M)) (strV ys) false).run Tryz.prog (Wt.alloc (Obj.cells #[Value.int .i64 (i:Int),Value.slice yA tl.length yc] 107)).drew = .ok (.slice xe.A xe.ps.length xe.c) (Wt.alloc (Obj.cells #[Value.int .i64 (i:Int),Value.slice yA tl.length yc] 107)).drew:=e3;unfold strV at d4 f3;clear e3;have y2:Wt.drew.cell? ⟨g8,0,none⟩=some (.string ⟨ys.toArray⟩)/\Wt.drew.cell? ⟨g8,1,none⟩=some (.slice yA tl.length yc):=⟨r8.cell 0 rfl,r8.cell 1 rfl⟩
     have r8b:Row (Wt.drew.alloc (Obj.cells #[Value.int .i64 (i:Int),Value.slice yA tl.length yc] 107)) g8 150 #[Value.string ⟨ys.toArray⟩,Value.slice yA tl.length yc]:=r8.drew.alloc _;have z2:(Wt.drew.alloc (Obj.cells #[Value.int .i64 (i:Int),Value.slice yA tl.length yc] 107)).cell? ⟨g8,0,none⟩=some (.string ⟨ys.toArray⟩)/\(Wt.drew.alloc (Obj.cells #[Value.int .i64 (i:Int),Value.slice yA tl.length yc] 107)).cell? ⟨g8,1,none⟩=some (.slice yA tl.length yc):=⟨r8b.cell 0 rfl,r8b.cell 1 rfl⟩
     have q0:=ZA (m0.drew.owns i0.out);have g3:M<=Wt.drew.heap.size:=by rw[hM.out];exact(r0.out.trans m0.drew).size
     replace y2:=ZA y2;replace z2:=ZA z2;replace r8:=ZA r8;replace g1:=ZA g1;replace l1:=ZA l1;replace m0:=ZA m0;clear r8b;have x5:xe.ps.length<=1000000:=by
      have h1:xe.ps.length=(psP xe.ps).length:=by unfold psP;rw[List.length_map]
      rw[h1,q2.out];refine Nat.le_trans (ZFf _ _) ?_;have h2:pairsD 0 (dcs ds)=pairsD 0 (dcs (ds.take (i+1)))++pairsD (0+(dcs (ds.take (i+1))).length) (dcs (ds.drop (i+1))):=by
       rw[<-ZAd];congr 1;unfold dcs;rw[<-List.map_append,List.take_append_drop]
      have h3:=hT.out;rw[h2,c1.out]at h3;simp only[List.length_append,List.length_take]at h3 ⊢;omega
     have l2:∀w8 A8 c8,Wt.drew.grownBy w8 (Value.slice xe.A xe.ps.length xe.c).ownBlock->w8.ownsRow M 107 2 (.slice A8 (xe.ps.length+1) c8) (xe.ps.length+1) (pcells xe.ps ++ [Value.int .i64 (i:Int),Value.slice yA tl.length yc])->((Value.slice A8 (xe.ps.length+1) c8).ownBlock=(Value.slice xe.A xe.ps.length xe.c).ownBlock\/∃k,(Value.slice A8 (xe.ps.length+1) c8).ownBlock=some k/\Wt.drew.heap.size<=k) ->
      ∃w9,(Instr.mapUpdate 91 (.map (some M)) (.string ⟨ys.toArray⟩) (.slice A8 (xe.ps.length+1) c8)).run Tryz.prog w8 = .ok () w9/\(w8.cell? ⟨g8,0,none⟩=some (.string ⟨ys.toArray⟩)/\w8.cell? ⟨g8,1,none⟩=some (.slice yA tl.length yc))/\(w9.cell? ⟨g8,0,none⟩=some (.string ⟨ys.toArray⟩)/\w9.cell? ⟨g8,1,none⟩=some (.slice yA tl.length yc))/\(∃E9,IX M M (pairsD 0 (dcs (ds.take i))++((T.map fun p=>(p.1,((i:Int),p.2))).take (j+1))) E9 w9)/\Ext w w9/\(∀g t cs,t≠107->Row w6 g t cs->Row w9 g t cs):=fun w8 A8 c8 hg ho hl=>by
      have y3:=i1.out.ext m0.out.drew;obtain⟨L,hL,hm⟩:=y3.map;have m2:=hL.grown hg (ZBn hL q0.out);obtain⟨w9,L',g0,k4,s2,e2,t5⟩:=m2.update ZLj Tryz.underlying91 (ZCC (s:=ys) (by omega)) (.slice A8 (xe.ps.length+1) c8);have i3:∀g t cs,t≠107->Row Wt.drew g t cs->Row w9 g t cs:=fun g t cs ht hr=>by
       have q:=ZID q0.out hg hr ht;exact q.grown e2 fun e=>ZBk m2 q (by injection e)
      have r8d:=r8.out.drew;have q8:=ZID q0.out hg r8d (by decide);have q9:=i3 _ _ _ (by decide) r8d;have j2:=y3.put (w9:=w9) (y:=⟨(i:Int),tl,yA,yc⟩) m3.out q0.out q2.out hg ho hl ⟨s1.out.1.ext m0.out.drew,s1.out.2⟩ (fun L1 q4 k5=>by
       obtain rfl:=m2.same q4;exact⟨L',k4,s2,e2⟩)
      have w0:=j2;show ∃_,_;rw[show (PoC.po ⟨(i:Int),tl,yA,yc⟩)=((i:Int),tl)from rfl,<-d0.out]at w0;refine⟨w9,g0,⟨q8.cell 0 rfl,q8.cell 1 rfl⟩,⟨q9.cell 0 rfl,q9.cell 1 rfl⟩,⟨_,w0⟩,?_,fun g t cs ht hr=>i3 g t cs ht ((g2.out g t cs ht hr).ext m0.out.drew)⟩
      ·exact(ZDw q0.out hg (r0.out.trans m0.out.drew) (by rw[hM.out];exact Nat.le_refl _)).grown e2 fun k hk=>by
        injection hk with hk;rw[<-hk,hM.out];exact Nat.le_refl _
     replace l2:=ZA l2
     go_region_held3 (fun x=>x.cell? ⟨g8,0,none⟩=some (.string ⟨ys.toArray⟩)/\x.cell? ⟨g8,1,none⟩=some (.slice yA tl.length yc)) (first | exact y2.out | exact z2.out | exact m4 | exact t4) (first | (refine ZKP (us:= [.int .i64 (i:Int),.slice yA tl.length yc]) (m:=1) ZMo rfl q0.out rfl (.tmp 33) (.tmp 38) rfl rfl rfl rfl (by simp[Value.oneCell']) (by omega) g3 (fun A9 c9 w8 l4 f2 e4=>?_);obtain⟨w9,v5,m4,t4,a0,o3,s3⟩:=l2.out w8 A9 c9 f2 l4 e4))
     all_goals (go_wp2_with fail)
     all_goals (obtain⟨E9,a0⟩:=a0;exact⟨⟨j+1,E9,by first | rfl | (congr 1;omega),by omega,ZA a0,ZA o3,ZA s3⟩,by simp only[intOf];omega⟩)
    ·have u4:(T.map fun p=>(p.1,((i:Int),p.2))).take j=T.map fun p=>(p.1,((i:Int),p.2)):=List.take_of_length_le (by rw[List.length_map,<-b0.out];omega);rw[u4,<-c1.out]at i1;go_wp2_with fail;exact⟨⟨i+1,E',by first | rfl | (congr 1;omega),by omega,i1,r0⟩,by simp only[intOf];omega⟩
  ·have c0:ds.take i=ds:=List.take_of_length_le (by rw[<-hm.out];omega);rw[c0]at hI;obtain⟨wo,r4⟩:∃wo,wo=wr:=⟨_,rfl⟩
   subst r4;have h0:rowsD (dcs ds)=grp (pairsD 0 (dcs ds)):=rfl;obtain⟨PS,v2⟩:∃PS,PS=pairsD 0 (dcs ds):=⟨_,rfl⟩
   rw[<-v2]at hI h0 hT;obtain⟨R,hR⟩:∃R,R=rowsD (dcs ds):=⟨_,rfl⟩
   rw[<-hR]at h0;obtain⟨L,hL,k0⟩:=hI.out.map;obtain⟨ob,j0,q1⟩:=hL.range Tryz.underlying91;have f1:Ext wo (wo.alloc ob):=(Ext.refl wo).alloc ob;obtain⟨rb,y0⟩:∃rb,rb=wo.heap.size:=⟨_,rfl⟩
   have d1:rb+1<=(wo.alloc ob).heap.size:=by rw[y0];simp
   have j4:M<rb:=by rw[y0];exact hL.lt
   rw[<-y0]at j0 q1;replace k0:=ZA k0;replace y0:=ZA y0;replace v2:=ZA v2;replace hR:=ZA hR;replace h0:=ZA h0;obtain⟨Wq,c2⟩:∃Wq,Wq=wo.alloc ob:=⟨_,rfl⟩
   rw[<-c2]at j0 q1 f1 d1;replace q1:=ZA q1;replace f1:=ZA f1;replace c2:=ZA c2;replace hL:=ZA hL;go_wp2_with fail
   go_loopw [9] (fun s9 wr=>∃(D:List IdE) (n:Nat) (A:Option Addr) (c:Nat),s9 = .slice A n c/\Hid (n=D.length)/\Hid (wr.ownsRow (rb+1) 9 1 (.slice A n c) n (D.map fun e=>strV e.s))/\Hid (RangeL Tryz.prog 9 wr M rb L (D.map fun e=>strV e.s))/\Hid (∀e∈D,e∈E)/\rb+1<=wr.heap.size/\Hid (Ext wo wr)) (fun _ wr=>wr.rangeLeft M rb)
   case atStart=>exact⟨[],0,none,0,rfl,ZA rfl,ZA (World.ownsRow_nil _ _ _ _),q1,ZA (by simp),d1,f1⟩
   case round =>
    obtain⟨D,n,A,c,rfl,a1,hO,z3,hD,n4,u3⟩:=hrel;have l0:(D.map (·.s)).Nodup:=by
     have:=z3.out.dn;have h2:(D.map fun e=>strV e.s)=(D.map (·.s)).map strV:=by rw[List.map_map];rfl
     rw[h2]at this;exact ZE7 strV this
    have t0:D.length<=1000000:=by
     have h1:=ZIC (D.map (·.s)) (PS.map (·.1)) l0 fun t ht=>by
      obtain⟨e,he,rfl⟩:=List.mem_map.1 ht;have h3:=hI.out.own e (hD.out e he);have h4:valsOf PS e.s ≠ []:=by rw[<-h3.2.1];unfold psP;simpa using h3.2.2
      obtain⟨q,hq,o0⟩:=ZDd h4;exact List.mem_map.2 ⟨q,hq,o0⟩
     rw[List.length_map,List.length_map]at h1;have:=hT.out;omega
    replace t0:=ZA t0;rcases z3.out.next 0 with ⟨g0,c0⟩ | ⟨x,v,w2,s4,u5,g0,u2,b3,q3,t1,y1⟩
    ·have v0:Buf wr (rb+1) 9 A n c ((D.map (·.s)).map strV):=by
      rw[List.map_map];exact Buf.of_own hO.out
     have g5:n<=1000000:=by rw[a1.out];exact t0.out
     have w1:sortK (D.map (·.s))=R.map (·.1):=by
      have p0:=ZA6 PS;rw[<-h0.out]at p0;refine ZMU ?_ (by rw[List.pairwise_map];exact p0.up);refine(List.perm_ext_iff_of_nodup l0 ?_).2 fun t=>?_
      ·rw[List.nodup_iff_pairwise_ne,List.pairwise_map];exact p0.up.imp fun h e=>by rw[e]at h;exact List.lt_irrefl _ h
      ·constructor
       ·intro ht;obtain⟨e,he,rfl⟩:=List.mem_map.1 ht;have h3:=hI.out.own e (hD.out e he);exact List.mem_map.2 ⟨(e.s,psP e.ps),(p0.mem _).2 ⟨h3.2.1,by unfold psP;simpa using h3.2.2⟩,rfl⟩
       ·intro ht;obtain⟨r,hr,rfl⟩:=List.mem_map.1 ht;have h3:=(p0.mem r).1 hr;have h4:valsOf PS r.1 ≠ []:=by rw[<-h3.1];exact h3.2
        obtain⟨q,hq,o0⟩:=ZDd h4;obtain⟨y,hy,p2⟩:=hI.out.all q hq;have h5:=c0 _ ((k0.out _).2 ⟨y,hy,rfl⟩);obtain⟨e,he,z4⟩:=List.mem_map.1 h5;exact List.mem_map.2 ⟨e,he,by rw[ZFa z4,p2,o0]⟩
     replace w1:=ZA w1;have hs:=ZKu (rb+1) A n c (D.map (·.s)) wr (by rw[List.length_map];exact a1.out) v0 (by omega);have n2:n=R.length:=by
      have h1:=congrArg List.length w1.out;rw[List.length_map,(ZEI _).length_eq,List.length_map]at h1;rw[a1.out,h1]
     replace n2:=ZA n2;have x4:=v0.base_le;replace hs:=ZA hs;replace v0:=ZA v0;replace l0:=ZA l0;go_wp2_with fail;refine hs.out.mono ?_;rintro e w3 ⟨rfl,d2,a3⟩;have u0:Ext wo w3:=u3.out.chg a3 (by
      rintro i hi ⟨a,ha,hk⟩;have:=x4 a ha;have:=y0.out;omega)
     replace u0:=ZA u0;replace d2:=ZA d2;clear a3;go_wp2_with fail;go_ret2;rw[<-hR.out];refine⟨A,n,c,M,rfl,n2.out,?_,⟨L,hL.out.ext u0.out,fun r hr=>?_⟩,hE.out.trans u0.out⟩
     ·have h1:(R.map fun r=>strV r.1)=(sortK (D.map (·.s))).map strV:=by rw[w1.out,List.map_map];rfl
      rw[h1];exact d2.out.lower (by have:=hM.out;omega)
     ·have p0:=ZA6 PS;rw[<-h0.out]at p0;have h3:=(p0.mem r).1 hr;have h4:valsOf PS r.1 ≠ []:=by rw[<-h3.1];exact h3.2
      obtain⟨q,hq,o0⟩:=ZDd h4;obtain⟨y,hy,p2⟩:=hI.out.all q hq;have h5:=hI.out.own y hy;have h6:=ZAL h5.1;refine⟨y.ps,y.A,y.c,(k0.out _).2 ⟨y,hy,by rw[p2,o0];rfl⟩,by rw[h5.2.1,p2,o0,<-h3.1],⟨Cells.of_own (u0.out.owns h5.1),fun z hz=>?_⟩,h6.2,h6.1⟩;have h7:=hI.out.pos y hy z hz;exact⟨(h7.1.ext u0.out).cells,h7.2⟩
    ·obtain⟨e0,y4,c4⟩:=(k0.out _).1 s4;injection c4 with hx1 hv1;subst hx1;subst hv1;have r0:Ext wo w2:=u3.out.grown b3 (fun k hk=>by injection hk with hk;rw[<-hk,y0.out];exact Nat.le_refl _);have k3:rb+1<=w2.heap.size:=by rw[q3];exact n4
     have t2:w2.ownsRow (rb+1) 9 1 (.slice A n c) n (D.map fun e=>strV e.s):=by
      refine(Chg.of_grown (S:=fun k=>k=rb) b3 (fun k _ hk=>by injection hk with hk;exact hk.symm)).owns hO.out ?_;rintro g hg q5;obtain⟨cur,_,h9⟩:=ZC hO.out hg;omega
     have m5:n+1<=1000001:=by rw[a1.out];have:=t0.out;omega
     have n0:(Value.slice A n c).ownBlock≠some M/\(Value.slice A n c).ownBlock≠some rb:=by
      constructor
      ·intro hg;obtain⟨cur,_,h9⟩:=ZC hO.out hg;omega
      ·intro hg;obtain⟨cur,_,h9⟩:=ZC hO.out hg;omega
     have p0:∀k,(Value.slice A n c).ownBlock=some k->wo.heap.size<=k:=by
      intro k hg;obtain⟨cur,_,h9⟩:=ZC hO.out hg;have:=y0.out;omega
     replace n0:=ZA n0;replace p0:=ZA p0;replace q3:=ZA q3;replace l0:=ZA l0;replace t2:=ZA t2;have p3:strV e0.s = .string ⟨e0.s.toArray⟩:=rfl;have v1:=t1;have b1:=g0;rw[p3]at v1 b1;clear t1 g0;go_wp2_with (at_builtin;refine ZHg (us:= [.string ⟨e0.s.toArray⟩]) ZLF t2.out (.tmp 48) (.tmp 50) rfl rfl rfl rfl (by simp[Value.oneCell']) (by simp;omega) (by omega) (fun A3 c3 w3 i4 u1 f3=>?_));have u0:Ext wo w3:=r0.grown u1 p0.out;have g4:RangeL Tryz.prog 9 w3 M rb L ((D ++ [e0]).map fun e=>strV e.s):=by
      rw[List.map_append,List.map_cons,List.map_nil];exact u2.grown u1 n0.out.1 n0.out.2
     have o2:w3.ownsRow (rb+1) 9 1 (.slice A3 (n+1) c3) (n+1) ((D ++ [e0]).map fun e=>strV e.s):=by
      rw[List.map_append,List.map_cons,List.map_nil];exact i4
     have j3:rb+1<=w3.heap.size:=Nat.le_trans k3 u1.size;have i2:w3.rangeLeft M rb<wr.rangeLeft M rb:=by
      have h1:w3.heap[M]? = w2.heap[M]? :=u1.block M u2.map.lt (fun e=>n0.out.1 e.symm);have h2:w3.heap[rb]? = w2.heap[rb]? :=u1.block _ u2.lt (fun e=>n0.out.2 e.symm);have h3:w3.rangeLeft M rb=w2.rangeLeft M rb:=by unfold World.rangeLeft;rw[h1,h2]
      rw[h3];exact y1
     go_roundw
     case rel=>exact⟨D ++ [e0],n+1,A3,c3,rfl,ZA (by rw[List.length_append];simp;exact a1.out),o2,g4,ZA (fun e he=>by
      rcases List.mem_append.1 he with he | he
      ·exact hD.out e he
      ·simp at he;subst he;exact y4),j3,ZA u0⟩
     case measure=>exact i2
end
section
open Go.RowKit
attribute [local go_sem] Oper.semAt_some Za
theorem ZIi (A:Option Addr) (n c k:Nat) (w:World) (hk:1<=k) (h0:k<=1000000) :
 Calls Tryz.prog 132 #[.slice A n c,.int .i64 (k:Int)] w fun e w'=>∃b1 b2,e = .returned (.func (.func 173) #[] #[.pointer (some ⟨b1,0,none⟩),.pointer (some ⟨b2,0,none⟩)])/\Row w' b1 22 #[.slice A n c]/\Row w' b2 3 #[.int .i64 (k:Int)]/\w.heap.size<=b1/\w.heap.size<=b2/\b1<b2/\Ext w w':=by
 go_enter Tryz.func132,Tryz.ntmps132;go_wp2_with fail;go_ret;have h1:=Row.new w 22 #[.slice A n c];have h2:=Row.new (w.alloc (.cells #[.slice A n c] 22)) 3 #[.int .i64 (k:Int)];rw[World.size_alloc]at h2;exact⟨w.heap.size,w.heap.size+1,rfl,h1.alloc _,h2,Nat.le_refl _,by omega,by omega,((Ext.refl w).alloc _).alloc _⟩
theorem ZG6 {A:Option Addr} {n c i:Nat} {z:Int} (hz:z=(i:Int)) (hi:i<=n):∃A' c',∀W:World,(Instr.sliceAt 22 (.slice A n c) (some (.int .i64 z)) none none).run Tryz.prog W = .ok (.slice A' (n - i) c') W:=by
 subst hz;have ht:=Tryz.underlying22;have he:Tryz.prog.elem 22=39:=by unfold Program.elem;rw[ht]
 have hs:∀W:World,(sizeOf 39).run Tryz.prog W = .ok 3 W:=fun W=>by kernel_rfl
 refine⟨if c=i then A else A.map fun a=>a.add (i*3),c - i,fun W=>?_⟩;rw[run_sliceAt_slice W _ _ _ _ _ (by rw[ht,he]),run_slice_l W _ A n c (by rw[ht,he]) .i64 i (by omega) (by omega),he,hs];simp only[Result.andThen_ok,sliced];rfl
theorem ZHp {A:Option Addr} {n c i j:Nat} {z z1 z2:Int} (hz:z=(i:Int)) (h0:z1=((i+j:Nat):Int)) (q0:z2=((i+j:Nat):Int)) (hi:i+j<=c) (hj:0<j) (W:World) :
 (Instr.sliceAt 22 (.slice A n c) (some (.int .i64 z)) (some (.int .i64 z1)) (some (.int .i64 z2))).run Tryz.prog W = .ok (.slice (A.map fun a=>a.add (i*3)) j j) W:=by
 subst hz h0 q0;have ht:=Tryz.underlying22;have he:Tryz.prog.elem 22=39:=by unfold Program.elem;rw[ht]
 have hs:(sizeOf 39).run Tryz.prog W = .ok 3 W:=by kernel_rfl
 rw[run_sliceAt_slice W _ _ _ _ _ (by rw[ht,he]),run_slice_lhm W _ A n c (by rw[ht,he]) .i64 .i64 .i64 i ((i+j:Nat):Int) ((i+j:Nat):Int) (by omega) (by omega) (by omega) (by omega),he,hs];simp only[Result.andThen_ok];congr 1;unfold sliced;rw[if_neg (by omega),show ((i+j:Nat):Int).toNat - (i:Int).toNat=j by omega];rfl
def chunkVB (A:Option Addr) (n k i:Nat):Value:= .slice (A.map fun a=>a.add (i*k*3)) (min k (n - i*k)) (min k (n - i*k))
def ChIterB (A:Option Addr) (n k b1 b2:Nat) (w:World):Prop :=
 Iter Tryz.prog 173 #[.pointer (some ⟨b1,0,none⟩),.pointer (some ⟨b2,0,none⟩)] (fun i:Nat=>#[chunkVB A n k i]) Ext (fun pre i _=>i=pre.length/\i*k<n) (KeepB b1 b2) (fun xs W W'=>n<=xs.length*k/\xs=List.range xs.length/\(∀i∈xs,i*k<n)/\Ext W W') w
theorem ZHP (A:Option Addr) (n c k b1 b2:Nat) (w:World) (p0:Row w b1 22 #[.slice A n c]) (k0:Row w b2 3 #[.int .i64 (k:Int)]) (hk:1<=k) (f0:k<=1000000) (hn:n<=1000000000) (hc:n<=c):ChIterB A n k b1 b2 w:=by
 intro l J W hE g0 hY h0;replace p0:=p0.ext hE;replace k0:=k0.ext hE;clear hE;replace p0:=ZA p0;replace k0:=ZA k0;replace hY:=ZA hY;replace g0:=ZA g0;replace h0:=ZA h0;refine(callsIn_wide (n:=0)).1 ?_;refine callsIn_of_wp Tryz.func173 rfl trivial ?_;simp only[Tryz.ntmps173,List.size_toArray,List.length_cons,List.length_nil,Nat.reduceAdd,Nat.reduceSub,Array.replicate_succ,Array.replicate_zero,List.push_toArray,List.append_toArray,List.nil_append,List.cons_append];gi_wp2_with fail
 gi_loopw [4] (fun s4 wr=>∃(i q:Nat) (pre:List Nat),s4 = .int .i64 (q:Int)/\Hid (q=i*k)/\q<=n+k/\Hid (pre.length=i)/\Hid (pre=List.range i)/\Hid (∀j∈pre,j*k<n)/\Hid (J pre wr)/\Hid (Row wr b1 22 #[.slice A n c])/\Hid (Row wr b2 3 #[.int .i64 (k:Int)])) (fun s4 _=>n - (intOf s4).toNat)
 case atStart=>exact⟨0,0,[],rfl,ZA (by simp),by omega,ZA rfl,ZA rfl,ZA nofun,h0,p0,k0⟩
 case round =>
  obtain⟨i,q,pre,rfl,hq,n0,q0,y0,x0,hJ,r1,r2⟩:=hrel;have k1:=r1.out.cell 0 rfl;have k2:=r2.out.cell 0 rfl;by_cases u0:q<n
  ·obtain⟨m,hm⟩:∃m:Nat,(m:Int)=min (k:Int) ((n - q:Nat):Int):=⟨min k (n - q),by omega⟩
   have b0:0<m:=by omega
   have i0:m<=k:=by omega
   have l0:m<=n - q:=by omega
   have d0:m=k\/m=n - q:=by omega
   have c0:=fun(W:World)=>Zf (P:=Tryz.prog) #[3,3] 3 hm W;have r0:=fun(W:World)=>ZHp (A:=A) (n:=n) (c:=c) (i:=q) (j:=m) (z:=(q:Int)) (z1:=(q:Int)+(m:Int)) (z2:=(q:Int)+(m:Int)) rfl (by omega) (by omega) (by omega) b0 W;obtain⟨A',c',o0⟩:=ZG6 (A:=A) (n:=n) (c:=c) (i:=q) (z:=(q:Int)) rfl (by omega);replace hm:=ZA hm;have z0:=hY.out pre pre.length wr.drew (g0.out _ _ _ hJ.out (Ext.refl wr).drew) ⟨rfl,by rw[q0.out,<-hq.out];exact u0⟩;have j0:chunkVB A n k pre.length = .slice (A.map fun a=>a.add (q*3)) m m:=by
    unfold chunkVB;rw[q0.out,<-hq.out,show min k (n - q)=m by omega]
   rw[j0]at z0;obtain⟨fn,tmps,assign,body,hy,hR⟩:=z0;have m0:Hid (∀j∈pre ++ [pre.length],j*k<n):=ZA fun j hj=>by
    rcases List.mem_append.1 hj with h | h
    ·exact x0.out j h
    ·rw[List.mem_singleton.1 h,q0.out,<-hq.out];exact u0
   have t0:Hid (pre ++ [pre.length]=List.range (i+1)):=ZA (by rw[List.range_succ,q0.out,y0.out]);have e0:Hid (q+k=(i+1)*k):=ZA (by rw[Nat.succ_mul,hq.out]);clear j0 d0 hY g0;gi_wp2_with fail;refine wpIn_wide.2 (ZPw (fun K hK=>?_));go_wp2_with fail;refine⟨by kernel_rfl,?_⟩;gi_wp2_with fail;refine hR.mono ?_;rintro e W3 ⟨rfl,a0,v0⟩;have r13:=ZA (show Row W3 b1 22 #[.slice A n c] from v0.1 _ r1.out);have r23:=ZA (show Row W3 b2 3 #[.int .i64 (k:Int)] from v0.2 _ r2.out);have k23:=r23.out.cell 0 rfl;gi_wp2_with fail;exact⟨⟨i+1,q+k,pre ++ [pre.length],by congr 1,e0,by omega,ZA (by rw[List.length_append,q0.out];rfl),t0,m0,ZA a0,r13,r23⟩,by simp only[intOf];omega⟩
  ·gi_wp2_with fail
   go_end0
   exact⟨⟨_,rfl⟩,pre,_,hJ.out,by rw[q0.out,<-hq.out];omega,by rw[q0.out];exact y0.out,x0.out,Ext.refl _⟩
end
section
open Go.RowKit
def OnlyN (Q:Exit->Act->World->Prop):Exit->Act->World->Prop
 | .normal,a,w=>Q .normal a w
 | _,_,_=>False
theorem OnlyN.imp {Q:Exit->Act->World->Prop} (e:Exit) (a:Act) (w:World) (h:OnlyN Q e a w):Q e a w:=by
 cases e <;> first | exact h | exact h.elim
def calmOps (ops:Array Oper):Bool:=ops.all fun o=>match o.op with | .defer _=>false | _=>true
theorem ZMq {ops:Array Oper} (h:calmOps ops=true) {i:Nat} {o:Oper} (ho:ops[i]? = some o):∀c,o.op ≠ .defer c:=by
 intro c hc;unfold calmOps at h;rw[Array.all_eq_true]at h;obtain⟨hi,he⟩:=Array.getElem?_eq_some_iff.1 ho;have:=h i hi;rw[he,hc]at this;cases this
theorem ZNw {n:Nat} {P:Program} {row:String} {args:Array Value} {w:World} {R:Value->World->Prop} (h:Rows P row args w R):RowsIn Fence.wide n P row args w R :=
 fun c cs _=>let ⟨v,w',r,s⟩:=h c cs;⟨v,w',r,stepsIn_wide.2 s⟩
theorem ZY {P:Program} {md:Region.Mode} {ops:Array Oper} {Q:Exit->Act->World->Prop} {l:Nat} (hc:calmOps ops=true) :
 ∀(fuel:Nat) (listed:Array Bool) (a:Act) (w:World),wpAny P md ops (OnlyN Q) fuel listed a w->wpAnyIn (Fence.wide.inRound l) 0 P md ops (OnlyN Q) fuel listed a w
 | 0,listed,a,w,h=>h
 | fuel+1,listed,a,w,h=>⟨h.1,fun i hi=>by
  have hw:=h.2 i hi;unfold wpOp at hw;unfold wpOpIn;cases ho:ops[i]? with
  | none=>rw[ho]at hw;exact ZY hc fuel _ a w hw
  | some o =>
   rw[ho]at hw;simp only at hw ⊢;split
   ·rename_i h0;rw[if_pos h0]at hw;rcases hw with hw | ⟨_,hl⟩
    ·refine⟨fun _ _=>trivial,?_⟩;rw[Oper.semAt_plain _ _ _ (ZMq hc ho)];unfold Oper.wp at hw;generalize (execOp a.eval o).run P w=r at hw ⊢;cases r with
     | ok nx w' =>
      cases nx with
      | value v=>exact ZY hc fuel _ _ _ hw
      | skip=>exact ZY hc fuel _ _ _ hw
      | defer d=>exact ZY hc fuel _ _ _ hw
      | enter f args =>
       refine⟨fun h=>by simp[Fence.wide]at h,CallsIn.inRound l (callsIn_wide.2 (Calls.mono hw ?_))⟩;intro e w'' he;cases e with
       | returned v=>exact ZY hc fuel _ _ _ he
       | panicked ch=>exact he
       | outgrown=>exact he
      | row row args =>
       exact⟨fun h=>by simp[Fence.wide]at h,ZNw (Rows.mono hw fun v w'' he=>ZY hc fuel _ _ _ he)⟩
      | _=>exact hw.elim
     | halt x w' =>
      cases x with
      | panic v=>exact hw
      | _=>exact hw
    ·obtain⟨a1,w1,hf⟩:=hl;exact hf.elim
   ·rename_i h0;rw[if_neg h0]at hw;exact⟨fun _ _=>trivial,ZY hc fuel _ _ _ hw⟩⟩
theorem ZFc {P:Program} {id:Nat} {ops:Array Oper} {Q:Exit->Act->World->Prop} {a:Act} {w:World} {l:Nat} (S:World->Prop) (hm:P.follows .mixedOrders=true) (hc:calmOps ops=true)
 (h:wpAnyH P .any ops (OnlyN Q) S ops.size (Array.replicate ops.size false) a w.drew):(Code.region id ops true).wpIn (Fence.wide.inRound l) 0 P Q a w :=
 wpIn_mono (wpIn_region_any hm (ZY hc _ _ _ _ (wpAny_of_held _ _ _ _ h))) OnlyN.imp
end
section
open Go.RowKit
attribute [local go_sem] Oper.semAt_some Za ZAw
theorem ZAK {z:Int} (h1 : -9223372036854775808<=z) (h2:z<9223372036854775808):IntKind.i64.wrap z=z:=by
 simp[IntKind.wrap,IntKind.bits,IntKind.signed];omega
structure Blk where
  last:Int
  b:List UInt8
  A:Option Addr
  c:Nat
def Blk.args (x:Blk):Array Value:=#[.int .i64 x.last,.slice x.A x.b.length x.c]
def StB (W A B:World):Prop:=Chg (fun k=>W.heap.size<=k/\∀t cs,Row A k t cs->t=3) A B
theorem StB.ext {W A B:World} (h:Ext A B):StB W A B:=Chg.of_ext h _
theorem StB.alike {W A B:World} {X:Nat} (h:Alike X A B) (hX:W.heap.size<=X):StB W A B :=
 ⟨h.os,h.tape,h.output,h.size,fun k hk hn=>h.block k hk fun hc=>hn ⟨by have:=hc.1;omega,fun t cs hr=>(NC.not_row hr hc).elim⟩⟩
theorem StB.num {W A B : World} {g : Nat} {cs : Array Value} (h : Chg (fun k => k = g) A B) (hg : W.heap.size ≤ g) (hr : Row A g 3 cs) : StB W A B :=
  ⟨h.os, h.tape, h.output, h.size, fun k hk hn => h.block k hk fun hc => hn ⟨by omega, fun t cs' h0 => by
    rw [hc] at h0
    unfold Row at hr h0
    rw [hr] at h0
    injection h0 with e
    injection e with _ e
    exact e.symm⟩⟩
theorem StB.old {W A B:World} (h:StB W A B) (k:Nat) (o:Obj) (hk:k<W.heap.size) (ho:A.heap[k]? = some o) (_:o.isCells=false):B.heap[k]? = some o :=
 (h.block k (Array.getElem?_eq_some_iff.1 ho).1 fun hn=>by have:=hn.1;omega).trans ho
def KpB (B:Nat) (W W':World):Prop:=(∀w0:World,w0.heap.size<=B->Ext w0 W->Ext w0 W')/\∀g t cs,t≠25->t≠5->Row W g t cs->Row W' g t cs
theorem KpB.trans (B:Nat) (A C D:World) (h:KpB B A C) (k:KpB B C D):KpB B A D:=⟨fun w0 h0 he=>k.1 w0 h0 (h.1 w0 h0 he),fun g t cs h1 h2 hr=>k.2 g t cs h1 h2 (h.2 g t cs h1 h2 hr)⟩
theorem KpB.alike {B X:Nat} (hX:B<=X) (A C:World) (h:Alike X A C):KpB B A C:=⟨fun _ hs he=>h.ext he (by omega),fun _ _ _ _ _ hr=>h.row hr⟩
theorem KpB.ext {B:Nat} {A C:World} (h:Ext A C):KpB B A C:=⟨fun _ _ he=>he.trans h,fun _ _ _ _ _ hr=>hr.ext h⟩
def NxB (P:List Dc) (pre:List Blk) (x:Blk) (W:World):Prop:=pre.length*16<P.length/\x.last=lastD (lastD 0 (P.take (pre.length*16))) ((P.drop (pre.length*16)).take 16)/\x.b=blockD (lastD 0 (P.take (pre.length*16))) ((P.drop (pre.length*16)).take 16)/\∃base,Buf W base 5 x.A x.b.length x.c (x.b.map B8)
def BlkIter (P:List Dc) (B b0:Nat) (w:World):Prop :=
 IterS Tryz.prog 131 #[.pointer (some ⟨b0,0,none⟩)] Blk.args StB (NxB P) (KpB B) (fun xs A B=>P.length<=xs.length*16/\B=A) w
def BkI (b0 b1 b2 gy gl l:Nat) (V:Value) (P:List Dc) (J:List Blk->World->Prop) (W w0:World) (r:Nat) (X:World):Prop :=
 (∃xs:List Blk,xs.length=r/\J xs X)/\Row X b0 22 #[V]/\Row X b1 22 #[V]/\Row X b2 3 #[.int .i64 16]/\Row X gy 204 #[.func (.yield l) #[] #[]]/\Row X gl 3 #[.int .i64 (lastD 0 (P.take (r*16)))]/\Ext w0 X/\W.heap.size<=X.heap.size
theorem ZJd (A:Option Addr) (n c:Nat) (w:World) :
 Calls Tryz.prog 79 #[.slice A n c] w fun e w'=>∃b0,e = .returned (.func (.func 131) #[] #[.pointer (some ⟨b0,0,none⟩)])/\Row w' b0 22 #[.slice A n c]/\w.heap.size<=b0/\Ext w w':=by
 go_enter Tryz.func79,Tryz.ntmps79;go_wp2_with fail;go_ret;exact⟨w.heap.size,rfl,Row.new w _ _,Nat.le_refl _,(Ext.refl w).alloc _⟩
theorem ZHY (ds:List DocC) (A:Option Addr) (m c b0 B:Nat) (w0 w:World) (hm:m=ds.length) (h:DocsOk w0 A ds) (hA:∀a,A=some a->a.spot=none) (b5:m<=c) (c2:okDs (dcs ds)=true) (d2:(blockD 0 (dcs ds)).length<=50000000)
 (hB:w0.heap.size<=B) (hw:Ext w0 w) (j2:Row w b0 22 #[.slice A m c]):BlkIter (dcs ds) B b0 w:=by
 intro l J W hE m2 hY h0;have w1:(dcs ds).length=m:=by unfold dcs;rw[List.length_map,hm]
 have q6:m<=65536:=by
  have:=c2;unfold okDs at this;rw[Bool.and_eq_true]at this;have:=of_decide_eq_true this.1;omega
 obtain⟨P,hP⟩:∃P,P=dcs ds:=⟨_,rfl⟩
 rw[<-hP]at w1 c2 d2 hY ⊢;replace j2:=ZA (j2.ext hE);replace hw:=ZA (hw.trans hE);clear hE;replace hm:=ZA hm;replace h:=ZA h;replace hA:=ZA hA;replace hP:=ZA hP;replace c2:=ZA c2;replace d2:=ZA d2;replace w1:=ZA w1;replace hY:=ZA hY;replace m2:=ZA m2;replace h0:=ZA h0;refine(callsIn_wide (n:=0)).1 ?_;refine callsIn_of_wp_marks Tryz.func131 rfl trivial ?_;simp only[Tryz.ntmps131,List.size_toArray,List.length_cons,List.length_nil,Nat.reduceAdd,Nat.reduceSub,Array.replicate_succ,Array.replicate_zero,List.push_toArray,List.append_toArray,List.nil_append,List.cons_append];have k0:=j2.out.cell 0 rfl;have k0l:=j2.out.lt;gi_wp2_with fail;obtain⟨W3,y1⟩:∃W3,W3=(W.alloc (Obj.cells #[Value.func (.yield l) #[] #[]] 204)).alloc (Obj.cells #[Value.int IntKind.i64 0] 3):=⟨_,rfl⟩
 rw[<-y1];obtain⟨gy,e1⟩:∃gy,gy=W.heap.size:=⟨_,rfl⟩
 rw[<-e1];have qy:Row W3 gy 204 #[Value.func (.yield l) #[] #[]]:=by rw[y1,e1];exact(Row.new W _ _).alloc _
 have ql:Row W3 (gy+1) 3 #[.int .i64 0]:=by
  have:=Row.new (W.alloc (Obj.cells #[Value.func (.yield l) #[] #[]] 204)) 3 #[.int .i64 0];rw[World.size_alloc,<-e1]at this;rw[y1];exact this
 have t1:Ext W W3:=by rw[y1];exact((Ext.refl W).alloc _).alloc _
 have e2:W3.heap.size=gy+2:=by rw[y1,e1];simp
 refine(callsIn_wide.2 (ZIi A m c 16 W3 (by omega) (by omega))).mono ?_;rintro e w4 ⟨b1,b2,rfl,rb1,rb2,p5,j5,k5,y0⟩;have w2:BkI b0 b1 b2 gy (gy+1) l (.slice A m c) P J W w0 0 w4:=⟨⟨[],rfl,m2.out _ _ _ h0.out (StB.ext (t1.trans y0))⟩,(j2.out.ext t1).ext y0,rb1,rb2,qy.ext y0,by rw[Nat.zero_mul,List.take_zero];exact ql.ext y0,hw.out.trans (t1.trans y0),(t1.trans y0).size⟩
 have t3:=ZHP A m c 16 b1 b2 w4 rb1 rb2 (by omega) (by omega) (by omega) b5;rw[e2]at p5 j5;have m4:W.heap.size<=w4.heap.size:=(t1.trans y0).size;have n3:=rb2.lt;have i5:B<=w4.heap.size\/w4.heap.size<B:=by omega
 have g4:w0.heap.size<=w4.heap.size:=(hw.out.trans (t1.trans y0)).size;have j0:∀r A2 B2,BkI b0 b1 b2 gy (gy+1) l (.slice A m c) P J W w0 r A2->Alike w4.heap.size A2 B2->BkI b0 b1 b2 gy (gy+1) l (.slice A m c) P J W w0 r B2:=by
  rintro r A2 B2 ⟨⟨xs,hx,hj⟩,r1,r2,r3,r4,r5,he,hs⟩ ha;exact⟨⟨xs,hx,m2.out _ _ _ hj (StB.alike ha m4)⟩,ha.row r1,ha.row r2,ha.row r3,ha.row r4,ha.row r5,ha.ext he g4,Nat.le_trans hs ha.size⟩
 have q1:∀r A2 B2,BkI b0 b1 b2 gy (gy+1) l (.slice A m c) P J W w0 r A2->Ext A2 B2->BkI b0 b1 b2 gy (gy+1) l (.slice A m c) P J W w0 r B2:=by
  rintro r A2 B2 ⟨⟨xs,hx,hj⟩,r1,r2,r3,r4,r5,he,hs⟩ ha;exact⟨⟨xs,hx,m2.out _ _ _ hj (StB.ext ha)⟩,r1.ext ha,r2.ext ha,r3.ext ha,r4.ext ha,r5.ext ha,he.trans ha,Nat.le_trans hs ha.size⟩
 replace w2:=ZA w2;replace t3:=ZA t3;replace y1:=ZA y1;replace e1:=ZA e1;replace j0:=ZA j0;replace q1:=ZA q1;clear qy ql t1 y0 rb1 rb2 e2 k0 k0l j2;gi_wp2_with fail;unfold ChIterB at t3;refine ZBC (gf:=173) (lb:=#[.pointer (some ⟨b1,0,none⟩),.pointer (some ⟨b2,0,none⟩)]) rfl (enters_of Tryz.func173 (by kernel_rfl) rfl) t3.out (fun _=>rfl) (fun _ _ h=>h.others) (fun _ _ _ h=>h.2.2.2.others) (KeepB.trans b1 b2) ?kb
  (fun pre X=>BkI b0 b1 b2 gy (gy+1) l (.slice A m c) P J W w0 pre.length X) (fun pre A B h ha=>j0.out _ _ _ h ha) (fun pre A B h hE=>q1.out _ _ _ h hE) ?h0 ?hround ?hdone
 case kb =>
  have l3:=(w2.out.2.2.1).lt;exact KeepB.alike l3 n3
 case h0=>exact fun X ha=>j0.out _ _ _ w2.out ha
 case hround =>
  rintro l2 pre i X hI ⟨hi,c4⟩;subst hi;have hR:=ZFX c2.out d2.out (r:=pre.length) (by rw[w1.out];exact c4);obtain⟨j,hj⟩:∃j,j=min 16 (m - pre.length*16):=⟨_,rfl⟩
  obtain⟨cb,y2⟩:∃cb,cb=(ds.drop (pre.length*16)).take 16:=⟨_,rfl⟩
  have d0:cb.length=j:=by rw[y2,hj,List.length_take,List.length_drop,hm.out]
  obtain⟨A',o2⟩:∃A':Option Addr,A'=A.map fun a=>a.add (pre.length*16*3):=⟨_,rfl⟩
  have n0:DocsOk w0 A' cb:=by rw[o2,y2];exact h.out.part hA.out _ _
  have f2:chunkVB A m 16 pre.length = .slice A' j j:=by unfold chunkVB;rw[o2,hj]
  obtain⟨bP,g2⟩:∃bP,bP=(P.drop (pre.length*16)).take 16:=⟨_,rfl⟩
  have c0:bP=cb.map DocC.dc:=by rw[g2,y2,hP.out,dcs,<-List.map_drop,<-List.map_take]
  obtain⟨lst,t0⟩:∃lst,lst=lastD 0 (P.take (pre.length*16)):=⟨_,rfl⟩
  rw[<-g2,<-t0]at hR;have x5:j<=16:=by omega
  have l1:pre.length*16<P.length:=by rw[w1.out];exact c4
  replace hI:=ZA hI;replace hR:=ZA hR;rw[f2];clear f2;replace n0:=ZA n0;replace o2:=ZA o2;replace y2:=ZA y2;replace hj:=ZA hj;replace g2:=ZA g2;replace t0:=ZA t0;replace d0:=ZA d0;replace c0:=ZA c0;replace l1:=ZA l1;gi_wp2_with fail;refine⟨KeepsOthers.refl _,KeepB.refl _ _ _,fun X2 v4=>?_⟩;have l4:=j0.out _ _ _ hI.out v4;clear v4 hI;obtain⟨⟨xs,t4,d3⟩,rr0,rr1,rr2,rry,rrl,m1,k6⟩:=l4;rw[<-t0.out]at rrl;obtain⟨Y,u2⟩:∃Y,Y=blockD lst bP:=⟨_,rfl⟩
  obtain⟨lz,a2⟩:∃lz,lz=lastD lst bP:=⟨_,rfl⟩
  have a5:=hR.out.lo;have v5:=hR.out.hi;have q5:Y.length<=50000000:=by have:=hR.out.len;have:=d2.out;rw[u2];omega
  have t5:W.heap.size<=gy:=Nat.le_of_eq e1.out.symm;have e5:=hw.out.size;have j4:=ZA (fun A n c x l W h1 h2 h3 h4 h5=>ZA3 A n c x l W h1 h2 h3 h4 h5);have w3:=ZA (fun A n c l e B d W h1 h2 h3 h4 h5 h6 h7=>ZJr A n c l e B d W h1 h2 h3 h4 h5 h6 h7);replace t4:=ZA t4;replace d3:=ZA d3;replace rr0:=ZA rr0;replace rr1:=ZA rr1;replace rr2:=ZA rr2;replace rry:=ZA rry;replace rrl:=ZA rrl;replace m1:=ZA m1;replace u2:=ZA u2;replace a2:=ZA a2;gi_wp2_with fail
  gi_loopw [5,13] (fun s5 s13 wr=>∃(i n5 c5:Nat) (A5:Option Addr) (Xb:List UInt8) (la:Int),s5 = .slice A5 n5 c5/\s13 = .int .i64 (i:Int)/\i<=j/\n5<=50000000/\0<=la/\la<1099511627777/\Hid (Y=Xb++blockD la (bP.drop i))/\Hid (risB 1099511627777 la ((bP.drop i).map (·.1))=true)/\Hid (lastD la (bP.drop i)=lz)/\Hid (Own8 wr 0 A5 n5 c5 Xb)/\Hid (Row wr (gy+1) 3 #[.int .i64 la])/\Hid (Chg (fun k=>k=gy+1) X2 wr)) (fun _ s13 _=>j - (intOf s13).toNat)
  case atStart=>exact⟨0,0,0,none,[],lst,rfl,rfl,by omega,by omega,a5,v5,ZA (by rw[u2.out];rfl),ZA hR.out.ris,ZA (by rw[a2.out];rfl),ZA ⟨rfl,Buf.nil _ _ _⟩,rrl,ZA (Chg.refl _ _)⟩
  case round =>
   obtain⟨i,n5,c5,A5,Xb,la,rfl,rfl,w5,p6,y5,z5,z4,d5,b4,u0,n1,e0⟩:=hrel;have u1:Hid (Ext w0 wr):=ZA (m1.out.chg e0.out fun k hk e=>by omega);by_cases u5:i<j
   ·obtain⟨x,i2⟩:∃x,cb[i]? = some x:=⟨_,List.getElem?_eq_getElem (by rw[d0.out];exact u5)⟩
    obtain⟨g,o,f4,x0,x1,x2⟩:=ZU (n0.out.cells.ext u1.out) i2;subst f4;have n2:=n0.out.each x (List.mem_of_getElem? i2);have p3:bP[i]? = some x.dc:=by rw[c0.out,List.getElem?_map,i2];rfl
    have y3:=hR.out.pos x.dc (List.mem_of_getElem? p3);have c1:=z4.out;have o0:=d5.out;have f1:=b4.out;rw[Zo p3]at c1 o0 f1;rw[List.map_cons]at o0;obtain⟨k3,j3,r0⟩:=ZAS o0;obtain⟨W5,a1⟩:∃W5,W5=wr.alloc (Obj.cells #[Value.int IntKind.i64 x.seq,Value.int IntKind.i64 x.e.at_,Value.slice x.A x.e.fs.length x.c] 39):=⟨_,rfl⟩
    have o1:Ext wr W5:=by rw[a1];exact(Ext.refl wr).alloc _
    have rp:Row W5 wr.heap.size 39 #[Value.int IntKind.i64 x.seq,Value.int IntKind.i64 x.e.at_,Value.slice x.A x.e.fs.length x.c]:=by rw[a1];exact Row.new wr _ _
    obtain⟨q,hq⟩:∃q:Nat,(q:Int)=x.seq - la - 1:=⟨(x.seq - la - 1).toNat,by have:la<x.seq:=k3;omega⟩
    obtain⟨X1,q3⟩:∃X1,X1=Xb++vb q:=⟨_,rfl⟩
    obtain⟨X3,k2⟩:∃X3,X3=X1++putE x.e:=⟨_,rfl⟩
    have v0:Y=X3++blockD x.seq (bP.drop (i+1)):=by
     rw[c1,k2,q3];show Xb++((vb (x.seq - la - 1).toNat++putE x.e)++_)=_;rw[show (x.seq - la - 1).toNat=q by omega];simp[DocC.dc]
    have f3:X3.length<=50000000:=by rw[v0,List.length_append]at q5;omega
    have v2:X1.length<=X3.length:=by rw[k2,List.length_append];omega
    have v3:checkE x.e.fs=0:=by unfold okD at y3;exact of_decide_eq_true y3
    have k3:la<x.seq:=k3;have j3:x.seq<1099511627777:=j3;have u3:=n1.out.ext o1;have i0:lastD x.seq (bP.drop (i+1))=lz:=f1;obtain⟨seq,⟨at_,fs⟩,Bx,cB⟩:=x;simp only at x0 x1 x2 a1 rp hq k2 v0 v3 k3 j3 r0 i0 n2;obtain⟨fl,g3⟩:∃fl,fl=fs.length:=⟨_,rfl⟩
    rw[<-g3]at x2 a1 rp;obtain⟨gd,m3⟩:∃gd,gd=wr.heap.size:=⟨_,rfl⟩
    rw[<-m3]at rp;have p0:=rp.cell 0 rfl;have p1:=rp.cell 1 rfl;have p2:=rp.cell 2 rfl;have pl:=u3.cell 0 rfl;replace g3:=ZA g3;replace m3:=ZA m3;replace a1:=ZA a1;replace rp:=ZA rp;replace u3:=ZA u3;replace o1:=ZA o1;replace q3:=ZA q3;replace k2:=ZA k2;replace v0:=ZA v0;replace hq:=ZA hq;replace v3:=ZA v3;replace n2:=ZA n2;replace r0:=ZA r0;replace i0:=ZA i0;replace p3:=ZA p3;replace y3:=ZA y3;replace i2:=ZA i2;clear c1 o0 f1;gi_wp2_with fail;rw[<-a1.out,<-m3.out];have q4:Tryz.prog.follows .mixedOrders=true:=by kernel_rfl
    have j6:IntKind.i64.wrap (seq - la)=seq - la:=ZAK (by omega) (by omega);have g6:IntKind.i64.wrap (seq - la - 1)=(q:Int):=by rw[ZAK (by omega) (by omega)];exact hq.out.symm
    have m6:=ZX (m:=q) (by have:=hq.out;omega);have g0:=ZA (j4.out A5 n5 c5 q Xb W5.drew u0.out.1 (u0.out.2.ext (o1.out.trans (Ext.refl W5).drew)).cells u0.out.nil_ (by omega) (by have:=hq.out;omega));rw[<-q3.out]at g0;obtain⟨n6,x3⟩:∃n6,n6=X1.length:=⟨_,rfl⟩
    have d1:Hid (∀A6 c6 W6,Buf W6 W5.drew.heap.size 5 A6 n6 c6 (X1.map B8)->Ext w0 W6->Calls Tryz.prog 133 #[.slice A6 n6 c6,.agg #[.int .i64 at_,.slice Bx fl cB]] W6 (fun e w'=>OkB' W6 X3 e w')):=ZA fun A6 c6 W6 hb he=>by
     have:=w3.out A6 n6 c6 X1 ⟨at_,fs⟩ Bx cB W6 x3 hb.cells hb.none_cap (by omega) (n2.out.1.ext he) v3.out n2.out.2.1;unfold Ev.val at this;rw[<-k2.out]at this;simp only at this;rw[<-g3.out]at this;exact this
    obtain⟨n8,p4⟩:∃n8,n8=X3.length:=⟨_,rfl⟩
    have b3:Hid (Ext w0 W5.drew):=ZA (u1.out.trans (o1.out.trans (Ext.refl W5).drew));have rpd:Hid (Row W5.drew gd 39 #[Value.int IntKind.i64 seq,Value.int IntKind.i64 at_,Value.slice Bx fl cB]):=ZA rp.out.drew;have i1:=ZA u3.out.drew;unfold NewB at g0;unfold OkB' at d1;rw[<-x3]at g0 v2;rw[<-p4]at d1 f3 v2;replace x3:=ZA x3;replace p4:=ZA p4;have a0:W5.drew.cell? ⟨gd,0,none⟩=some (.int .i64 seq)/\W5.drew.cell? ⟨gd,1,none⟩=some (.int .i64 at_)/\W5.drew.cell? ⟨gd,2,none⟩=some (.slice Bx fl cB)/\W5.drew.cell? ⟨gy+1,0,none⟩=some (.int .i64 la):=⟨p0,p1,p2,pl⟩
    refine ZFc (fun X=>X.cell? ⟨gd,0,none⟩=some (.int .i64 seq)/\X.cell? ⟨gd,1,none⟩=some (.int .i64 at_)/\X.cell? ⟨gd,2,none⟩=some (.slice Bx fl cB)/\X.cell? ⟨gy+1,0,none⟩=some (.int .i64 la)) q4 (by kernel_rfl) ?_;refine wpAnyH_take (i:=0) (v:=?_) rfl (by kernel_rfl) (by kernel_rfl) (by kernel_rfl) (fun _ _ _ h=>h) (Or.inl ⟨by rfl,?_⟩) a0 ?_;rotate_left
    ·intro wx q0;obtain⟨s0,s1,s2,s3⟩:=q0;go_simp
     try with_reducible rfl
    try simp only[Act.put,pz0,pz1,pz2]
    refine wpAnyH_take (i:=1) (v:=?_) rfl (by kernel_rfl) (by kernel_rfl) (by kernel_rfl) (fun _ _ _ h=>h) (Or.inl ⟨by rfl,?_⟩) a0 ?_;rotate_left
    ·intro wx q0;obtain⟨s0,s1,s2,s3⟩:=q0;go_simp
     try with_reducible rfl
    try simp only[Act.put,pz0,pz1,pz2]
    refine wpAnyH_take (i:=2) (v:=?_) rfl (by kernel_rfl) (by kernel_rfl) (by kernel_rfl) (fun _ _ _ h=>h) (Or.inl ⟨by rfl,?_⟩) a0 ?_;rotate_left
    ·intro wx q0;obtain⟨s0,s1,s2,s3⟩:=q0;go_simp
     try with_reducible rfl
    try simp only[Act.put,pz0,pz1,pz2]
    refine wpAnyH_take (i:=3) (v:=?_) rfl (by kernel_rfl) (by kernel_rfl) (by kernel_rfl) (fun _ _ _ h=>h) (Or.inl ⟨by rfl,?_⟩) a0 ?_;rotate_left
    ·intro wx q0;obtain⟨s0,s1,s2,s3⟩:=q0;go_simp
     try with_reducible rfl
    try simp only[Act.put,pz0,pz1,pz2]
    refine wpAnyH_take (i:=4) (v:=?_) rfl (by kernel_rfl) (by kernel_rfl) (by kernel_rfl) (fun _ _ _ h=>h) (Or.inl ⟨by rfl,?_⟩) a0 ?_;rotate_left
    ·intro wx q0;obtain⟨s0,s1,s2,s3⟩:=q0;go_simp
     try with_reducible rfl
    try simp only[Act.put,pz0,pz1,pz2]
    refine wpAnyH_take (i:=5) (v:=?_) rfl (by kernel_rfl) (by kernel_rfl) (by kernel_rfl) (fun _ _ _ h=>h) (Or.inl ⟨by rfl,?_⟩) a0 ?_;rotate_left
    ·intro wx q0;obtain⟨s0,s1,s2,s3⟩:=q0;go_simp
     try with_reducible rfl
    try simp only[Act.put,pz0,pz1,pz2]
    refine wpAnyH_take (i:=6) (v:=?_) rfl (by kernel_rfl) (by kernel_rfl) (by kernel_rfl) (fun _ _ _ h=>h) (Or.inl ⟨by rfl,?_⟩) a0 ?_;rotate_left
    ·intro wx q0;obtain⟨s0,s1,s2,s3⟩:=q0;go_simp
     try with_reducible rfl
    try simp only[Act.put,pz0,pz1,pz2]
    refine wpAnyH_take (i:=8) (v:=?_) rfl (by kernel_rfl) (by kernel_rfl) (by kernel_rfl) (fun _ _ _ h=>h) (Or.inl ⟨by rfl,?_⟩) a0 ?_;rotate_left
    ·intro wx q0;obtain⟨s0,s1,s2,s3⟩:=q0;go_simp
     try with_reducible rfl
    try simp only[Act.put,pz0,pz1,pz2]
    refine wpAnyH_take (i:=9) (v:=?_) rfl (by kernel_rfl) (by kernel_rfl) (by kernel_rfl) (fun _ _ _ h=>h) (Or.inl ⟨by rfl,?_⟩) a0 ?_;rotate_left
    ·intro wx q0;obtain⟨s0,s1,s2,s3⟩:=q0;go_simp
     try with_reducible rfl
    try simp only[Act.put,pz0,pz1,pz2]
    refine wpAnyH_ready (rs:= [7]) (by kernel_rfl) (by simp) ?_;refine AllReadyH.cons rfl (fun K hK=>?_) AllReadyH.nil;go_simp;refine g0.out.mono ?_;rintro e w6 ⟨A6,c6,rfl,a3,m0⟩;have m5:=ZA (d1.out A6 c6 w6 a3 (b3.out.trans m0));have s4:w6.cell? ⟨gd,0,none⟩=some (.int .i64 seq)/\w6.cell? ⟨gd,1,none⟩=some (.int .i64 at_)/\w6.cell? ⟨gd,2,none⟩=some (.slice Bx fl cB)/\w6.cell? ⟨gy+1,0,none⟩=some (.int .i64 la):=⟨(rpd.out.ext m0).cell 0 rfl,(rpd.out.ext m0).cell 1 rfl,(rpd.out.ext m0).cell 2 rfl,(i1.out.ext m0).cell 0 rfl⟩
    replace a3:=ZA a3;replace m0:=ZA m0;refine hK.out _ _ s4 (fun _=>?_);clear hK K
    try simp only[Act.put,pz0,pz1,pz2]
    refine wpAnyH_ready (rs:= [10]) (by kernel_rfl) (by simp) ?_;refine AllReadyH.cons rfl (fun K hK=>?_) AllReadyH.nil;go_simp;refine m5.out.mono ?_;rintro e w8 ⟨A8,c8,rfl,t2,j1⟩;have q2:w8.cell? ⟨gd,0,none⟩=some (.int .i64 seq)/\w8.cell? ⟨gd,1,none⟩=some (.int .i64 at_)/\w8.cell? ⟨gd,2,none⟩=some (.slice Bx fl cB)/\w8.cell? ⟨gy+1,0,none⟩=some (.int .i64 la):=⟨((rpd.out.ext m0.out).ext j1).cell 0 rfl,((rpd.out.ext m0.out).ext j1).cell 1 rfl,((rpd.out.ext m0.out).ext j1).cell 2 rfl,((i1.out.ext m0.out).ext j1).cell 0 rfl⟩
    have r8:=ZA ((i1.out.ext m0.out).ext j1);have v1:=r8.out.free 0;have c3:=ZA (o1.out.trans ((Ext.refl W5).drew.trans (m0.out.trans j1)));replace t2:=ZA t2;replace j1:=ZA j1;refine hK.out _ _ q2 (fun _=>?_);clear hK K
    try simp only[Act.put,pz0,pz1,pz2]
    refine wpAnyH_take (i:=11) (v:=?_) rfl (by kernel_rfl) (by kernel_rfl) (by kernel_rfl) (fun _ _ _ h=>h) (Or.inl ⟨by rfl,?_⟩) q2 ?_;rotate_left
    ·intro wx q0;obtain⟨s0,s1,s2,s3⟩:=q0;go_simp
     try with_reducible rfl
    try simp only[Act.put,pz0,pz1,pz2]
    refine wpAnyH_take (i:=12) (v:=?_) rfl (by kernel_rfl) (by kernel_rfl) (by kernel_rfl) (fun _ _ _ h=>h) (Or.inl ⟨by rfl,?_⟩) q2 ?_;rotate_left
    ·intro wx q0;obtain⟨s0,s1,s2,s3⟩:=q0;go_simp
     try with_reducible rfl
    try simp only[Act.put,pz0,pz1,pz2]
    refine wpAnyH_take (i:=13) (v:=?_) rfl (by kernel_rfl) (by kernel_rfl) (by kernel_rfl) (fun _ _ _ h=>h) (Or.inl ⟨by rfl,?_⟩) q2 ?_;rotate_left
    ·intro wx q0;obtain⟨s0,s1,s2,s3⟩:=q0;go_simp
     try with_reducible rfl
    try simp only[Act.put,pz0,pz1,pz2]
    refine wpAnyH_take (i:=14) (v:=?_) rfl (by kernel_rfl) (by kernel_rfl) (by kernel_rfl) (fun _ _ _ h=>h) (Or.inl ⟨by rfl,?_⟩) q2 ?_;rotate_left
    ·intro wx q0;obtain⟨s0,s1,s2,s3⟩:=q0;go_simp
     try with_reducible rfl
    try simp only[Act.put,pz0,pz1,pz2]
    refine wpAnyH_done (by kernel_rfl) ?_ _;dsimp only[OnlyN];obtain⟨z0,z1,z2,z3⟩:=q2;gi_wp2_with fail;have k4:Own8 (w8.setCell ⟨gy+1,0,none⟩ (.int .i64 seq)) 0 A8 n8 c8 X3:=⟨t2.out.1,(t2.out.2.lower (Nat.zero_le _)).setCell (t2.out.2.unlike r8.out (by decide)) _⟩
    have o3:Chg (fun k=>k=gy+1) X2 (w8.setCell ⟨gy+1,0,none⟩ (.int .i64 seq)):=(e0.out.trans (Chg.of_ext c3.out _) fun _ _ h=>h).trans (Chg.of_set (S:=fun k=>k=gy+1) w8 _ rfl) fun _ _ h=>h;exact⟨⟨i+1,n8,c8,A8,X3,seq,rfl,rfl,by omega,by omega,by omega,j3,v0,r0,i0,ZA k4,ZA (r8.out.put 0 _),ZA o3⟩,by simp only[intOf];omega⟩
   ·obtain rfl:i=j:=by omega
    have a4:bP.drop i = []:=List.drop_eq_nil_of_le (by rw[c0.out,List.length_map,d0.out];exact Nat.le_refl _);have i3:Y=Xb:=by have:=z4.out;rw[a4]at this;simpa [blockD]using this
    have f0:la=lz:=by have:=b4.out;rw[a4]at this;exact this
    have e3:=m2.out _ _ _ d3.out (StB.num (W:=W) e0.out (by omega) rrl.out);have ryr:=e0.out.row rry.out (by omega);have r0r:=e0.out.row rr0.out (fun e=>Row.unlike rr0.out rrl.out (by decide) e);have r1r:=e0.out.row rr1.out (fun e=>Row.unlike rr1.out rrl.out (by decide) e);have r2r:=e0.out.row rr2.out (by omega);have ky:=ryr.cell 0 rfl;have kl:=n1.out.cell 0 rfl;have k1:=t4.out;have l0:=u0.out.1;have f5:=hY.out xs ⟨la,Xb,A5,c5⟩ wr e3 ⟨by rw[k1];exact l1.out,by rw[k1,<-g2.out,<-t0.out,f0,a2.out],by rw[k1,<-g2.out,<-t0.out,<-i3,u2.out],0,by have:=u0.out.2;rw[l0]at this;exact this⟩;obtain⟨fn,tmps,assign,body,hy,y4⟩:=f5;simp only[Blk.args]at hy y4;rw[<-l0]at hy;replace l0:=ZA l0;replace e3:=ZA e3;replace ryr:=ZA ryr;replace r0r:=ZA r0r;replace r1r:=ZA r1r;replace r2r:=ZA r2r;replace i3:=ZA i3;replace f0:=ZA f0;clear hY;gi_wp2_with fail;refine RoundIn.mono (F:=Fence.wide.inRound l2) y4 ?_;rintro e W9 ⟨rfl,o4,g1,e4⟩;gi_wp2_with fail;have d4:(pre ++ [pre.length]).length=pre.length+1:=by rw[List.length_append];rfl
    refine⟨(e0.out.others fun k hk=>⟨3,#[.int .i64 lst],by rw[hk];exact rrl.out⟩).trans e4,KeepB.of rr1.out (g1.2 _ _ _ (by decide) (by decide) r1r.out) rr2.out (g1.2 _ _ _ (by decide) (by decide) r2r.out),⟨_,?_,o4⟩,g1.2 _ _ _ (by decide) (by decide) r0r.out,g1.2 _ _ _ (by decide) (by decide) r1r.out,g1.2 _ _ _ (by decide) (by decide) r2r.out,g1.2 _ _ _ (by decide) (by decide) ryr.out,?_,g1.1 w0 hB u1.out,?_⟩
    ·rw[List.length_append,k1,d4];rfl
    ·rw[d4,hR.out.last2,<-a2.out,<-f0.out];exact g1.2 _ _ _ (by decide) (by decide) n1.out
    ·have:=e0.out.size;have:=e4.size;omega
 case hdone =>
  rintro D xs X2 X3 X4 hD hI ⟨i4,l5,o5,x4⟩ u4 hk;have n4:=ZA (j0.out _ _ _ (q1.out _ _ _ hI x4) u4);replace hk:=ZA hk;clear hI u4 x4;gi_wp2_with fail;refine ZAO (B:=w4.heap.size) rfl hk.out hD fun Wz ha=>⟨_,results_none rfl _ _ _,?_⟩
  obtain⟨⟨bl,g5,hj⟩,_⟩:=j0.out _ _ _ n4.out ha;exact⟨⟨_,rfl⟩,bl,Wz,hj,by rw[g5,w1.out];exact i4,rfl⟩
end
end Go.Proofs.YtkdcnhnaiknaaaaGreat
