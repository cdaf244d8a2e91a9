/- Texts of one proof, joined. -/
import Derived.Test.YtkdcnhnaiknaaaaGreatPB08
import Derived.Test.YtkdcnhnaiknaaaaGreatPB06
import Derived.Test.YtkdcnhnaiknaaaaGreatPB03
import Derived.Test.YtkdcnhnaiknaaaaGreatPB01
import Derived.Deep.QuietTactic
import Derived.BigQuiet
import Derived.Deep.CutRange
import Derived.Deep.DeepCutAuto
import Derived.Test.YtkdcnhnaiknaaaaGreatPB02
import Derived.Test.YtkdcnhnaiknaaaaGreatPB05
import Derived.Test.YtkdcnhnaiknaaaaGreatPB04
import Derived.Laws.BitsAllLaws
import Derived.Laws.OwnMore
import Derived.Deep.RegionHeld3
set_option linter.unusedSimpArgs false
set_option linter.unusedVariables false
set_option maxRecDepth 100000
set_option maxHeartbeats 16000000
namespace Go.Proofs.YtkdcnhnaiknaaaaGreat
section
open Go.RowKit Go.Shelf
attribute [local go_sem] Oper.semAt_some Za ZAw
theorem HB.stb {base h1 h2:Nat} {Hd Bd:List UInt8} {W A B:World} (h:HB base h1 h2 Hd Bd A) (hs:StB W A B):HB base h1 h2 Hd Bd B:=by
 obtain⟨A1,A2,c1,c2,r1,r2,o1,o2,q0⟩:=h;have hb:∀ {X:Option Addr} {n c:Nat} {xs:List Value},Buf A base 5 X n c xs->Buf B base 5 X n c xs:=fun hb=>hb.chg hs fun a ha hn=>by
  rcases hb.2.2 with ⟨h0,_⟩ | ⟨g,cur,hA,_,hr,_⟩
  ·rw[h0]at ha;cases ha
  ·rw[hA]at ha;cases ha;exact absurd (hn.2 _ _ hr) (by decide)
 exact⟨A1,A2,c1,c2,hs.row r1 fun hn=>absurd (hn.2 _ _ r1) (by decide),hs.row r2 fun hn=>absurd (hn.2 _ _ r2) (by decide),⟨o1.1,hb o1.2⟩,⟨o2.1,hb o2.2⟩,q0⟩
def SEnc (base h1 h2:Nat) (Hd Bd:List UInt8) (w W:World):Prop:=HB base h1 h2 Hd Bd W/\Ext w W
theorem ZC7 (ds:List DocC) (A:Option Addr) (m c:Nat) (w:World) (hm:m=ds.length) (h:DocsOk w A ds) (p0:m<=1000000000) (k0:okDs (dcs ds)=false) :
 Calls Tryz.prog 38 #[.slice A m c] w fun e w'=>e = .returned (.tuple #[.slice none 0 0,.int .i64 120])/\Ext w w':=by
 have h0:=ZDF ds A m c w hm h p0;rw[k0,if_neg (by decide)]at h0;replace h0:=ZA h0;replace hm:=ZA hm;replace h:=ZA h;refine(callsIn_wide (n:=0)).1 ?_;refine callsIn_of_wp_marks Tryz.func38 rfl trivial ?_;simp only[Tryz.ntmps38,List.size_toArray,List.length_cons,List.length_nil,Nat.reduceAdd,Nat.reduceSub,Array.replicate_succ,Array.replicate_zero,List.push_toArray,List.append_toArray,List.nil_append,List.cons_append];gi_wp2_with fail;refine(callsIn_wide.2 h0.out).mono ?_;rintro e w1 ⟨rfl,q0⟩;gi_wp2_with fail;exact ZDJ rfl (results_tmp2 rfl _ _ _) ⟨rfl,q0⟩
theorem ZBD (ds:List DocC) (A:Option Addr) (m c:Nat) (w:World) (hm:m=ds.length) (h:DocsOk w A ds) (hA:∀a,A=some a->a.spot=none) (c4:m<=c) (c0:okDs (dcs ds)=true) (a0:(blockD 0 (dcs ds)).length<=50000000) :
 Calls Tryz.prog 38 #[.slice A m c] w fun e w'=>OkB w (encDs (dcs ds)) e w':=by
 have n4:m<=65536:=by
  have:=c0;unfold okDs at this;rw[Bool.and_eq_true]at this;have:=of_decide_eq_true this.1;unfold dcs at this;rw[List.length_map]at this;omega
 have b2:=ZDF ds A m c w hm h (by omega);rw[c0,if_pos rfl]at b2;have a2:=fun B b0 W hB hw hb=>ZHY ds A m c b0 B w W hm h hA c4 c0 a0 hB hw hb;obtain⟨P,hP⟩:∃P,P=dcs ds:=⟨_,rfl⟩
 have i1:P.length=m:=by rw[hP,hm];exact List.length_map ..
 rw[<-hP]at c0 a0 a2 ⊢;have l0:=ZA (fun A n c x l W h1 h2 h3 h4 h5=>ZA3 A n c x l W h1 h2 h3 h4 h5);have s4:=ZX (m:=m) (by omega);replace b2:=ZA b2;replace a2:=ZA a2;replace i1:=ZA i1;replace hm:=ZA hm;replace h:=ZA h;replace hP:=ZA hP;replace c0:=ZA c0;replace a0:=ZA a0;replace hA:=ZA hA;refine(callsIn_wide (n:=0)).1 ?_;refine callsIn_of_wp_marks Tryz.func38 rfl trivial ?_;simp only[Tryz.ntmps38,List.size_toArray,List.length_cons,List.length_nil,Nat.reduceAdd,Nat.reduceSub,Array.replicate_succ,Array.replicate_zero,List.push_toArray,List.append_toArray,List.nil_append,List.cons_append];gi_wp2_with fail;refine(callsIn_wide.2 b2.out).mono ?_;rintro e w1 ⟨rfl,w3⟩;gi_wp2_with fail;refine(callsIn_wide.2 (l0.out none 0 0 m [] w1 rfl (.inl rfl) (fun _=>rfl) (by omega) (by omega))).mono ?_;rintro e w2 e1;obtain⟨A2,c2,rfl,o0,x1⟩:=e1;rw[List.nil_append]at o0 ⊢;obtain⟨k2,m1⟩:∃k,k=(vb m).length:=⟨_,rfl⟩
 rw[<-m1]at o0 ⊢;replace o0:=ZA o0;replace m1:=ZA m1;replace x1:=ZA (w3.trans x1);gi_wp2_with fail;obtain⟨W3,k1⟩:∃W3,W3=(w2.alloc (Obj.cells #[Value.slice A2 k2 c2] 25)).alloc (Obj.cells #[Value.slice none 0 0] 25):=⟨_,rfl⟩
 rw[<-k1];obtain⟨h1,j1⟩:∃h1,h1=w2.heap.size:=⟨_,rfl⟩
 have q1:Row W3 h1 25 #[.slice A2 k2 c2]:=by rw[k1,j1];exact(Row.new w2 _ _).alloc _
 have q2:Row W3 (h1+1) 25 #[.slice none 0 0]:=by
  have:=Row.new (w2.alloc (Obj.cells #[Value.slice A2 k2 c2] 25)) 25 #[.slice none 0 0];rw[World.size_alloc,<-j1]at this;rw[k1];exact this
 have m0:Ext w2 W3:=by rw[k1];exact((Ext.refl w2).alloc _).alloc _
 have z3:w.heap.size<=h1:=by rw[j1];exact x1.out.size
 have x2:HB w.heap.size h1 (h1+1) (vb m) [] W3:=⟨A2,none,c2,0,by rw[<-m1.out];exact q1,q2,⟨rfl,by rw[<-m1.out];exact(o0.out.lower w3.size).ext m0⟩,⟨rfl,Buf.nil _ _ _⟩,fun _ _ _ e=>by cases e⟩
 replace m0:=ZA (x1.out.trans m0);rw[<-j1];refine(callsIn_wide.2 (ZJd A m c W3)).mono ?_;rintro e w4 ⟨b0,rfl,rb0,l4,v2⟩;have y2:SEnc w.heap.size h1 (h1+1) (vb m) [] w w4:=⟨x2.ext v2,m0.out.trans v2⟩
 have e2:=a2.out w.heap.size b0 w4 (Nat.le_refl _) (m0.out.trans v2) rb0;have n0:=y2.2.size;replace y2:=ZA y2;replace e2:=ZA e2;replace k1:=ZA k1;replace j1:=ZA j1;clear q1 q2 x2 v2 rb0 o0 m0 x1 m1;gi_wp2_with fail;unfold BlkIter at e2;have p1:∀Hd Bd X Y2,SEnc w.heap.size h1 (h1+1) Hd Bd w X->Alike w4.heap.size X Y2->SEnc w.heap.size h1 (h1+1) Hd Bd w Y2:=fun Hd Bd X Y2 hi ha=>⟨hi.1.alike ha,ha.ext hi.2 n0⟩
 have t3:∀Hd Bd W0 X Y2,Ext w4 W0->SEnc w.heap.size h1 (h1+1) Hd Bd w X->StB W0 X Y2->SEnc w.heap.size h1 (h1+1) Hd Bd w Y2:=fun Hd Bd W0 X Y2 h0 hi hs=>⟨hi.1.stb hs,hi.2.chg hs fun i hi hn=>by have:=hn.1;have:=h0.size;omega⟩
 replace p1:=ZA p1;replace t3:=ZA t3;refine ZIt (gf:=131) (lb:=#[.pointer (some ⟨b0,0,none⟩)]) rfl (enters_of Tryz.func131 (by kernel_rfl) rfl) e2.out (fun _=>rfl) (fun W A B h k o hk ho hc=>h.old k o hk ho hc) (fun _ _ _ h=>by rw[h.2];exact KeepsOthers.refl _) (KpB.trans w.heap.size) (KpB.alike n0)
  (fun xs X=>SEnc w.heap.size h1 (h1+1) (vb m++headD 0 ((chunkL 16 P).take xs.length)) (blockD 0 (P.take (xs.length*16))) w X) (fun xs A B h ha=>p1.out _ _ _ _ h ha) (fun W0 xs A B h0 h hs=>t3.out _ _ _ _ _ h0 h hs) ?h0 ?hround ?hdone
 case h0 =>
  intro X ha;have:=p1.out _ _ _ _ y2.out ha;simpa [headD,blockD]using this
 case hround =>
  rintro l xs ⟨la,Xb,A9,c9⟩ X hI ⟨b4,a3,v3,base0,r0⟩;simp only at a3 v3 r0;unfold Blk.args;simp only;have hR:=ZFX c0.out a0.out (r:=xs.length) b4;have d4:=hR.ne;have p0:=hR.head;have k0:=hR.body;have hlen:=hR.len;have l1:=hR.hlen;have f0:=hR.hi2;rw[<-a3]at d4 p0 f0;rw[<-v3]at p0 k0 hlen;clear hR a3 v3;obtain⟨Hd,t0⟩:∃Hd,Hd=vb m++headD 0 ((chunkL 16 P).take xs.length):=⟨_,rfl⟩
  obtain⟨Bd,v0⟩:∃Bd,Bd=blockD 0 (P.take (xs.length*16)):=⟨_,rfl⟩
  rw[<-t0,<-v0]at hI;rw[<-v0]at k0 hlen;have d3:(xs ++ [(⟨la,Xb,A9,c9⟩:Blk)]).length=xs.length+1:=by rw[List.length_append];rfl
  obtain⟨lN,z4⟩:∃lN:Nat,la=(lN:Int):=⟨la.toNat,by omega⟩
  subst z4;rw[Int.toNat_natCast]at p0;have a4:lN<1099511627777:=by have:=f0.2;omega
  obtain⟨n9,n1⟩:∃n9,n9=Xb.length:=⟨_,rfl⟩
  rw[<-n1]at p0 hlen r0 ⊢;have i4:n9<=50000000:=by have:=a0.out;omega
  have t4:Bd.length<=50000000:=by have:=a0.out;omega
  have r4:=ZX (m:=lN) (by omega);have o4:=ZX (m:=n9) (by omega);have j3:Hd.length<=2000000:=by
   have h2:=ZD (n:=m) (by omega);have h6:=i1.out;rw[t0,List.length_append];omega
  obtain⟨H1,z1⟩:∃H1,H1=Hd++vb lN:=⟨_,rfl⟩
  obtain⟨H2,a1⟩:∃H2,H2=H1++vb n9:=⟨_,rfl⟩
  have x4:=ZD (n:=lN) (by omega);have y4:=ZD (n:=n9) (by omega);have q3:H1.length<=2000010:=by rw[z1,List.length_append];omega
  have p3:H2.length<=2000020:=by rw[a1,List.length_append];omega
  replace hI:=ZA hI;replace r0:=ZA r0;replace t0:=ZA t0;replace v0:=ZA v0;replace z1:=ZA z1;replace a1:=ZA a1;replace n1:=ZA n1;replace p0:=ZA p0;replace k0:=ZA k0;replace d3:=ZA d3;clear x4 y4 hlen l1 f0;gi_wp2_with fail;refine⟨KeepsOthers.refl _,KpB.ext (Ext.refl _),fun W2 n2=>?_⟩;have v4:=p1.out _ _ _ _ hI.out n2;have v1:=ZA (n2.buf r0.out);clear n2 hI r0;obtain⟨g0,x0⟩:=v4;have k3:=g0;obtain⟨A1,B1,c1,d1,r1,r2,o1,o2,d2⟩:=k3;have f1:=r1.cell 0 rfl;obtain⟨nh,c3⟩:∃nh,nh=Hd.length:=⟨_,rfl⟩
  rw[<-c3]at f1 j3 o1;have l3:=x0.size;replace c3:=ZA c3;replace g0:=ZA g0;replace x0:=ZA x0;replace r1:=ZA r1;replace r2:=ZA r2;replace o1:=ZA o1;replace o2:=ZA o2;replace d2:=ZA d2;gi_wp2_with fail;refine(Zt (l0.out A1 nh c1 lN Hd W2 o1.out.1 o1.out.2.cells o1.out.nil_ (by omega) (by omega))).mono ?_;rintro e w7 e1;obtain⟨A7,c7,rfl,j2,y1⟩:=e1;rw[<-z1.out]at j2 ⊢;obtain⟨n7,i2⟩:∃n7,n7=H1.length:=⟨_,rfl⟩
  rw[<-i2]at j2 q3 ⊢;have e3:Hid (Own8 w7 w.heap.size A7 n7 c7 H1):=ZA ⟨i2,j2.lower l3⟩;replace i2:=ZA i2;replace y1:=ZA y1;clear j2;gi_wp2_with fail;refine(Zt (l0.out A7 n7 c7 n9 H1 w7 e3.out.1 e3.out.2.cells e3.out.nil_ (by omega) (by omega))).mono ?_;rintro e w8 e1;obtain⟨A8,c8,rfl,m2,q4⟩:=e1;rw[<-a1.out]at m2 ⊢;obtain⟨n8,l2⟩:∃n8,n8=H2.length:=⟨_,rfl⟩
  rw[<-l2]at m2 p3 ⊢;have q0:Hid (Ext W2 w8):=ZA (y1.out.trans q4);have r18:=r1.out.ext q0.out;have s0:=r18.cell 0 rfl;have s1:=r18.free 0;have b1:=ZA (g0.out.head (W6:=w8) (B1:=w7.heap.size) (by omega) q0.out l2 m2 y1.out.size (by have:=y1.out.size;omega));replace r18:=ZA r18;replace l2:=ZA l2;clear m2 q4;have y0:Ext w (w8.setCell ⟨h1,0,none⟩ (.slice A8 n8 c8)):=(x0.out.trans q0.out).setCell (by simpa using z3) _;have r28:Row (w8.setCell ⟨h1,0,none⟩ (.slice A8 n8 c8)) (h1+1) 25 #[.slice B1 Bd.length d1]:=(r2.out.ext q0.out).away (by simp) _;have s2:=(r2.out.ext q0.out).cell 0 rfl;have x3:Buf (w8.setCell ⟨h1,0,none⟩ (.slice A8 n8 c8)) w.heap.size 5 B1 Bd.length d1 (Bd.map B8):=(o2.out.2.ext q0.out).setCell ((o2.out.2.ext q0.out).unlike r18.out (by decide)) _;have r3:Cells (w8.setCell ⟨h1,0,none⟩ (.slice A8 n8 c8)) A9 (Xb.map B8):=((v1.out.ext q0.out).setCell ((v1.out.ext q0.out).unlike r18.out (by decide)) _).cells;have d0:(Xb.map B8).length=n9:=by rw[List.length_map];exact n1.out.symm
  have i3:=y0.size;replace y0:=ZA y0;replace r28:=ZA r28;replace x3:=ZA x3;replace r3:=ZA r3;replace d0:=ZA d0;gi_wp2_with (gi_at_builtin;refine Z3 ZV x3.out r3.out (.tmp 30) (.tmp 31) rfl rfl rfl rfl rfl d0.out (ZF _) (by omega) i3 (fun A10 c10 w10 e0 z0 p2 i0=>?_);have r210:=HB.rows b1.out r28.out z0 r28.out (by decide);have u0:=r210.cell 0 rfl;have u1:=r210.free 0;replace r210:=ZA r210;replace e0:=ZA e0;replace z0:=ZA z0;replace p2:=ZA p2;replace i0:=ZA i0);obtain⟨g1,g2,g3,g4⟩:=HB.body (x:=Xb) b1.out (by omega) r28.out z0.out (by rw[List.length_append,<-n1.out]) (by rw[List.map_append];exact e0.out) i0.out;refine⟨(q0.out.others.trans (KeepsOthers.setCell _ _ _)).trans g2,⟨fun w0 h0 he=>g4 w0 ((he.trans q0.out).setCell (p:=⟨h1,0,none⟩) (by show w0.heap.size<=h1;omega) _) (by omega) (by omega),fun g t cs t1 t2 hr=>?_⟩,?_,g4 _ y0.out (Nat.le_refl _) (by omega)⟩
  ·have j4:=hr.ext q0.out;have m4:=j4.away (p:=⟨h1,0,none⟩) (fun e=>Row.unlike j4 r18.out t1 e) (.slice A8 n8 c8);exact g3 _ _ _ m4 t2 (fun e=>Row.unlike m4 r28.out t1 e)
  ·rw[d3.out,p0.out,k0.out,<-List.append_assoc,<-List.append_assoc,<-t0.out,<-z1.out,<-a1.out];exact g1
 case hdone =>
  rintro D xs W2 W3 W5 hD hI ⟨p4,rfl⟩ s3 hk;have j0:=ZFr P xs.length p4;rw[i1.out]at j0;have m3:=p1.out _ _ _ _ hI s3;have x2:=m3.1;have u2:=m3.2;obtain⟨A1,B1,c1,d1,r1,r2,o1,o2,d2⟩:=x2;obtain⟨Hd,t0⟩:∃Hd,Hd=vb m++headD 0 ((chunkL 16 P).take xs.length):=⟨_,rfl⟩
  obtain⟨Bd,v0⟩:∃Bd,Bd=blockD 0 (P.take (xs.length*16)):=⟨_,rfl⟩
  rw[<-t0]at r1 o1 j0;rw[<-v0]at r2 o2 j0;have f1:=r1.cell 0 rfl;have f2:=r2.cell 0 rfl;have f4:Hd.length<=50000000:=by
   have h2:=ZD (n:=m) (by omega);have h1:=ZFM c0.out a0.out (chunkL 16 P).length;rw[List.take_length]at h1;have h3:(headD 0 ((chunkL 16 P).take xs.length)).length<=(headD 0 (chunkL 16 P)).length:=by
    have h4:=ZDz ((chunkL 16 P).take xs.length) ((chunkL 16 P).drop xs.length) 0;rw[List.take_append_drop]at h4;rw[h4,List.length_append];omega
   have h5:=ZZ (k:=16) (by omega) P;have h6:=i1.out;rw[t0,List.length_append];omega
  have e4:Bd.length<=50000000:=by have:=ZAX P (xs.length*16);have:=a0.out;rw[v0];omega
  have f3:=u2.size;have n3:=o2.2.cells;have z2:=o1.2;have b3:(Bd.map B8).length=Bd.length:=List.length_map ..;replace j0:=ZA j0;replace t0:=ZA t0;replace v0:=ZA v0;replace r1:=ZA r1;replace r2:=ZA r2;replace n3:=ZA n3;replace z2:=ZA z2;replace b3:=ZA b3;replace u2:=ZA u2;replace hk:=ZA hk;clear hI m3 p4 s3 o1 o2 d2;gi_wp2_with (gi_at_builtin;refine Z3 ZV z2.out n3.out (.tmp 33) (.tmp 34) rfl rfl rfl rfl rfl b3.out (ZF _) (by omega) f3 (fun A6 c6 w6 u3 y3 o3 k4=>?_);replace u3:=ZA u3;replace y3:=ZA y3;replace o3:=ZA o3;replace k4:=ZA k4);have u4:w6.heap[D]? = some (.deferred (some [])):=(ZAF z2.out y3.out).same _ _ hk.out rfl;refine ZAO (B:=w4.heap.size) rfl u4 hD fun W ha=>⟨_,results_tmp2 rfl _ _ _,?_⟩
  refine⟨A6,c6,?_,⟨rfl,?_⟩,ha.ext (o3.out w u2.out (Nat.le_refl _)) n0⟩
  ·rw[j0.out,List.length_append];rfl
  ·rw[j0.out,List.length_append,List.map_append];exact ha.buf u3.out
end
section
open Go.RowKit
theorem ZJT (a b:List UInt8) (w:World) (ha:a.length<=1000000000) (hb:b.length<=1000000000) :
 Calls Tryz.prog 146 #[.string ⟨a.toArray⟩,.string ⟨b.toArray⟩] w fun e w'=>e = .returned (.int .i64 (cpl a b:Int))/\Ext w w':=by
 obtain⟨Z,hZ⟩:∃Z,Z=cpl a b:=⟨_,rfl⟩
 rw[<-hZ];obtain⟨n,hn⟩:∃n,n=a.length:=⟨_,rfl⟩
 obtain⟨m,hm⟩:∃m,m=b.length:=⟨_,rfl⟩
 have x0:(⟨a.toArray⟩:ByteArray).size=n:=by rw[hn];exact ByteArray.size_mk_toArray a
 have y0:(⟨b.toArray⟩:ByteArray).size=m:=by rw[hm];exact ByteArray.size_mk_toArray b
 rw[<-hn]at ha;rw[<-hm]at hb;have t0:Z<=n/\Z<=m:=by have:=ZCp a b;omega
 replace hZ:=ZA hZ;replace hn:=ZA hn;replace hm:=ZA hm;go_enter Tryz.func146,Tryz.ntmps146;go_wp2_with fail
 go_loopw [5] (fun s5 wr=>∃i:Nat,s5 = .int .i64 (i:Int)/\i<=n/\i<=m/\Hid (a.take i=b.take i)/\Hid (Ext w wr)) (fun s5 _=>n - (intOf s5).toNat)
 case atStart=>exact⟨0,rfl,by omega,by omega,ZA (by simp),ZA (Ext.refl w)⟩
 case round =>
  obtain⟨i,rfl,g0,him,ht,hE⟩:=hrel;have p0:=ZFe i a b ht.out (by rw[<-hn.out];exact g0) (by rw[<-hm.out];exact him);rw[<-hZ.out]at p0;replace p0:=ZA p0;by_cases h1:i<n
  ·by_cases h2:i<m
   ·obtain⟨x,hx⟩:∃x,a[i]? = some x:=⟨_,List.getElem?_eq_getElem (by rw[<-hn.out];exact h1)⟩
    obtain⟨y,hy⟩:∃y,b[i]? = some y:=⟨_,List.getElem?_eq_getElem (by rw[<-hm.out];exact h2)⟩
    have v0:=fun W=>ZO hx (z:=(i:Int)) rfl W;have u0:=fun W=>ZO hy (z:=(i:Int)) rfl W;have k0:a.drop i=x::a.drop (i+1):=by
     rw[List.drop_eq_getElem_cons (List.getElem?_eq_some_iff.1 hx).1,(List.getElem?_eq_some_iff.1 hx).2]
    have j0:b.drop i=y::b.drop (i+1):=by
     rw[List.drop_eq_getElem_cons (List.getElem?_eq_some_iff.1 hy).1,(List.getElem?_eq_some_iff.1 hy).2]
    by_cases q0:x=y
    ·have q1:((x.toNat:Int)==(y.toNat:Int))=true:=by rw[q0];exact beq_self_eq_true _
     have m0:Hid (a.take (i+1)=b.take (i+1)):=ZA (by rw[List.take_add_one,List.take_add_one,hx,hy,ht.out,q0]);replace hx:=ZA hx;replace hy:=ZA hy;replace k0:=ZA k0;replace j0:=ZA j0;replace q0:=ZA q0;go_wp2_with fail;refine ZPw (fun K hK=>?_);go_wp2_with fail;refine⟨by kernel_rfl,?_⟩;go_wp2_with fail;exact⟨⟨i+1,by congr 1,by omega,by omega,m0,ZA hE.out.drew⟩,by simp only[intOf];omega⟩
    ·have q1:((x.toNat:Int)==(y.toNat:Int))=false:=beq_eq_false_iff_ne.2 fun h=>q0 (UInt8.toNat_inj.1 (by omega));have h0:Z=i:=by rw[p0.out,k0,j0,cpl,if_neg q0];rfl
     replace hx:=ZA hx;replace hy:=ZA hy;replace k0:=ZA k0;replace j0:=ZA j0;replace q0:=ZA q0;replace h0:=ZA h0;go_wp2_with fail;refine ZPw (fun K hK=>?_);go_wp2_with fail;refine⟨by kernel_rfl,?_⟩;go_wp2_with fail;go_ret;exact⟨by rw[h0.out];rfl,hE.out.drew⟩
   ·have h0:Z=i:=by have:=p0.out;omega
    replace h0:=ZA h0;go_wp2_with fail;refine ZPw (fun K hK=>?_);go_wp2_with fail;refine⟨by kernel_rfl,?_⟩;go_wp2_with fail;go_ret;exact⟨by rw[h0.out];rfl,hE.out.drew⟩
  ·have h0:Z=i:=by have:=p0.out;omega
   replace h0:=ZA h0;go_wp2_with fail;refine ZPw (fun K hK=>?_);go_wp2_with fail;refine⟨by kernel_rfl,?_⟩;go_wp2_with fail;go_ret;exact⟨by rw[h0.out];rfl,hE.out.drew⟩
def En.cells (e:En):List Value:= [.string ⟨e.t.toArray⟩,.int .i64 (e.off:Int),.int .i64 (e.len:Int),.int .i64 (e.n:Int)]
def encells (l:List En):List Value:=l.flatMap En.cells
theorem ZDv (l:List En):(encells l).length=l.length*4:=Ze (cellsA:=En.cells) (k:=4) (fun _=>rfl) l
theorem ZAv {l:List En} {i:Nat} {x:En} (h:l[i]? = some x) {j:Nat} (hj:j<4):(encells l)[i*4+j]? = x.cells[j]? :=Zj (cellsA:=En.cells) (k:=4) (fun _=>rfl) l i x j h hj
theorem Z0 {w:World} {A:Option Addr} {l:List En} (h:Cells w A (encells l)) {i:Nat} {x:En} (hx:l[i]? = some x):∃g o,A=some ⟨g,o,none⟩/\w.cell? ⟨g,o+i*4,none⟩=some (.string ⟨x.t.toArray⟩)/\w.cell? ⟨g,o+i*4+1,none⟩=some (.int .i64 (x.off:Int))/\w.cell? ⟨g,o+i*4+2,none⟩=some (.int .i64 (x.len:Int))/\w.cell? ⟨g,o+i*4+3,none⟩=some (.int .i64 (x.n:Int)):=by
 obtain⟨g,o,hA,hc⟩:=h.at_ (by rw[ZDv];have:=(List.getElem?_eq_some_iff.1 hx).1;omega);exact⟨g,o,hA,hc (i*4+0) _ (by rw[ZAv hx (by omega)];rfl),hc (i*4+1) _ (by rw[ZAv hx (by omega)];rfl),hc (i*4+2) _ (by rw[ZAv hx (by omega)];rfl),hc (i*4+3) _ (by rw[ZAv hx (by omega)];rfl)⟩
theorem Z1:∀(a b:List UInt8),Op.bytesLess a b=decide (a<b)
 | [],[]=>by simp[Op.bytesLess]
 | _::_,[]=>by simp[Op.bytesLess]
 | [],_::_=>by simp[Op.bytesLess]
 | x::a,y::b=>by
  rw[Op.bytesLess,Z1 a b,Bool.eq_iff_iff,decide_eq_true_iff,List.cons_lt_cons_iff];simp
theorem ZOc {l:List En} (h:OkEs l) {i:Nat} {x y:En} (hx:l[i]? = some x) (hy:l[i+1]? = some y):x.t<y.t:=by
 obtain⟨h1,rfl⟩:=List.getElem?_eq_some_iff.1 hx;obtain⟨h2,rfl⟩:=List.getElem?_eq_some_iff.1 hy;exact List.pairwise_iff_getElem.1 h.up i (i+1) h1 h2 (by omega)
theorem ZOZ {a:List UInt8} (h:a ≠ []) : []<a:=by
 cases a with
 | nil=>exact absurd rfl h
 | cons x t=>exact List.nil_lt_cons x t
def lastT (l:List En) (i:Nat):List UInt8:=match (l.take i).getLast? with
 | some e=>e.t
 | none=> []
theorem ZBP {l:List En} {i:Nat} {x:En} (h:l[i]? = some x):lastT l (i+1)=x.t:=by
 unfold lastT;rw[List.take_add_one,h];simp
theorem ZL5 {l:List En} (h:OkEs l) {i:Nat} {x:En} (hx:l[i]? = some x):lastT l i<x.t:=by
 cases i with
 | zero=>exact ZOZ (h.each x (List.mem_of_getElem? hx)).2
 | succ i =>
  obtain⟨y,hy⟩:∃y,l[i]? = some y:=⟨_,List.getElem?_eq_getElem (by have:=(List.getElem?_eq_some_iff.1 hx).1;omega)⟩
  rw[ZBP hy];exact ZOc h hy hx
def thr (a b c:Int) (i:Nat):Int:=if i=0 then a else if i=1 then b else c
theorem ZFu {a b c:Int} {i:Nat} (hi:i<3) (W:World):(Instr.index 218 (.agg #[.int .i64 a,.int .i64 b,.int .i64 c]) (.int .i64 (i:Int))).run Tryz.prog W = .ok (.int .i64 (thr a b c i)) W:=by
 rcases (show i=0\/i=1\/i=2 by omega)with rfl | rfl | rfl
 ·show _=_
  kernel_rfl
 ·show _=_
  kernel_rfl
 ·show _=_
  kernel_rfl
theorem ZND {a b c:Int} (i:Nat) (ha:0<=a/\a<=67108864) (hb:0<=b/\b<=67108864) (hc:0<=c/\c<=67108864):0<=thr a b c i/\thr a b c i<=67108864:=by
 unfold thr;split
 ·exact ha
 ·split
  ·exact hb
  ·exact hc
theorem ZIh (l:List En) (A:Option Addr) (m c:Nat) (w:World) (hm:m=l.length) (h:Cells w A (encells l)) (j0:OkEs l) :
 Calls Tryz.prog 85 #[.slice A m c] w fun e w'=>e = .returned (.bool true)/\Ext w w':=by
 have l0:m<=262144:=by rw[hm];exact j0.few
 replace hm:=ZA hm;replace h:=ZA h;replace j0:=ZA j0;go_enter Tryz.func85,Tryz.ntmps85;go_wp2_with fail
 go_loopw [3,11] (fun s3 s11 wr=>∃(i:Nat) (la:List UInt8),s3 = .string ⟨la.toArray⟩/\s11 = .int .i64 (i:Int)/\i<=m/\Hid (la=lastT l i)/\Hid (Ext w wr)) (fun _ s11 _=>m - (intOf s11).toNat)
 case atStart=>exact⟨0,[],rfl,rfl,by omega,ZA rfl,ZA (Ext.refl w)⟩
 case round =>
  obtain⟨i,la,rfl,rfl,hi,c0,hE⟩:=hrel;by_cases a0:i<m
  ·obtain⟨x,p0⟩:∃x,l[i]? = some x:=⟨_,List.getElem?_eq_getElem (by rw[<-hm.out];exact a0)⟩
   obtain⟨g,o,hA,x0,x1,x2,x3⟩:=Z0 (h.out.ext hE.out) p0;subst hA;have h0:=ZL5 j0.out p0;rw[<-c0.out]at h0;obtain⟨⟨b1,b2,b3,b4⟩,d0⟩:=j0.out.each x (List.mem_of_getElem? p0);have z0:Hid (x.t=lastT l (i+1)):=ZA (ZBP p0).symm;obtain⟨t,off,len,n⟩:=x;simp only at x0 x1 x2 x3 h0 b1 b2 b3 b4 z0;have e0:(⟨t.toArray⟩:ByteArray).size=t.length:=ByteArray.size_mk_toArray t;obtain⟨tl,v0⟩:∃tl,tl=t.length:=⟨_,rfl⟩
   rw[<-v0]at e0 b1;have q1:Op.bytesLess t la=false:=by rw[Z1];exact decide_eq_false fun h2=>List.lt_asymm h0 h2
   have q2:(t==la)=false:=beq_eq_false_iff_ne.2 fun e=>by rw[e]at h0;exact List.lt_irrefl _ h0
   obtain⟨W5,k0⟩:∃W5,W5=wr.alloc (.cells #[.string ⟨t.toArray⟩,.int .i64 (off:Int),.int .i64 (len:Int),.int .i64 (n:Int)] 97):=⟨_,rfl⟩
   obtain⟨g5,g0⟩:∃g5,g5=wr.heap.size:=⟨_,rfl⟩
   have q0:Row W5 g5 97 #[.string ⟨t.toArray⟩,.int .i64 (off:Int),.int .i64 (len:Int),.int .i64 (n:Int)]:=by rw[k0,g0];exact Row.new wr _ _
   have m0:Ext w W5:=by rw[k0];exact hE.out.alloc _
   have y0:=q0.cell 0 rfl;have y1:=q0.cell 1 rfl;have y2:=q0.cell 2 rfl;have y3:=q0.cell 3 rfl;replace p0:=ZA p0;replace h0:=ZA h0;replace v0:=ZA v0;replace q0:=ZA q0;replace m0:=ZA m0;replace k0:=ZA k0;replace g0:=ZA g0;clear d0;go_upto_region 5 with (fail)
   rw[<-k0.out,<-g0.out];go_wp2_with fail
   go_loopw [6,32] (fun s6 s32 wv=>∃j:Nat,s6 = .bool true/\s32 = .int .i64 (j:Int)/\j<=3/\wv=W5) (fun _ s32 _=>3 - (intOf s32).toNat)
   case atStart=>exact⟨0,rfl,rfl,by omega,rfl⟩
   case round =>
    obtain⟨j,rfl,rfl,hj,rfl⟩:=hrel;by_cases b0:j<3
    ·have hx:=fun W=>ZFu (a:=(off:Int)) (b:=(len:Int)) (c:=(n:Int)) b0 W;have u0:=ZND (a:=(off:Int)) (b:=(len:Int)) (c:=(n:Int)) j (by omega) (by omega) (by omega);obtain⟨v,hv⟩:∃v,v=thr (off:Int) (len:Int) (n:Int) j:=⟨_,rfl⟩
     rw[<-hv]at hx u0;obtain⟨f0,i0⟩:=u0;have t0:(j:Int)<3:=by omega
     replace hv:=ZA hv;go_wp2_with fail;exact⟨⟨j+1,rfl,by congr 1,by omega,trivial⟩,by simp only[intOf];omega⟩
    ·have t0:¬ (j:Int)<3:=by omega
     go_wp2_with fail;exact⟨⟨i+1,t,rfl,rfl,by omega,z0,m0⟩,by simp only[intOf];omega⟩
  ·obtain rfl:i=m:=by omega
   go_wp2_with fail;go_ret;exact⟨Zw (decide_eq_true (by omega)),hE.out⟩
end
section
open Go.RowKit
attribute [local go_sem] Oper.semAt_some Za
theorem ZJa (A:Option Addr) (n c k:Nat) (w:World) (hk:1<=k) (h0:k<=1000000) :
 Calls Tryz.prog 145 #[.slice A n c,.int .i64 (k:Int)] w fun e w'=>∃b1 b2,e = .returned (.func (.func 183) #[] #[.pointer (some ⟨b1,0,none⟩),.pointer (some ⟨b2,0,none⟩)])/\Row w' b1 94 #[.slice A n c]/\Row w' b2 3 #[.int .i64 (k:Int)]/\w.heap.size<=b1/\w.heap.size<=b2/\b1<b2/\Ext w w':=by
 go_enter Tryz.func145,Tryz.ntmps145;go_wp2_with fail;go_ret;have h1:=Row.new w 94 #[.slice A n c];have h2:=Row.new (w.alloc (.cells #[.slice A n c] 94)) 3 #[.int .i64 (k:Int)];rw[World.size_alloc]at h2;exact⟨w.heap.size,w.heap.size+1,rfl,h1.alloc _,h2,Nat.le_refl _,by omega,by omega,((Ext.refl w).alloc _).alloc _⟩
theorem ZHj {A:Option Addr} {n c i:Nat} {z:Int} (hz:z=(i:Int)) (hi:i<=n):∃A' c',∀W:World,(Instr.sliceAt 94 (.slice A n c) (some (.int .i64 z)) none none).run Tryz.prog W = .ok (.slice A' (n - i) c') W:=by
 subst hz;have ht:=Tryz.underlying94;have he:Tryz.prog.elem 94=97:=by unfold Program.elem;rw[ht]
 have hs:∀W:World,(sizeOf 97).run Tryz.prog W = .ok 4 W:=fun W=>by kernel_rfl
 refine⟨if c=i then A else A.map fun a=>a.add (i*4),c - i,fun W=>?_⟩;rw[run_sliceAt_slice W _ _ _ _ _ (by rw[ht,he]),run_slice_l W _ A n c (by rw[ht,he]) .i64 i (by omega) (by omega),he,hs];simp only[Result.andThen_ok,sliced];rfl
theorem ZHA {A:Option Addr} {n c i j:Nat} {z z1 z2:Int} (hz:z=(i:Int)) (h0:z1=((i+j:Nat):Int)) (q0:z2=((i+j:Nat):Int)) (hi:i+j<=c) (hj:0<j) (W:World) :
 (Instr.sliceAt 94 (.slice A n c) (some (.int .i64 z)) (some (.int .i64 z1)) (some (.int .i64 z2))).run Tryz.prog W = .ok (.slice (A.map fun a=>a.add (i*4)) j j) W:=by
 subst hz h0 q0;have ht:=Tryz.underlying94;have he:Tryz.prog.elem 94=97:=by unfold Program.elem;rw[ht]
 have hs:(sizeOf 97).run Tryz.prog W = .ok 4 W:=by kernel_rfl
 rw[run_sliceAt_slice W _ _ _ _ _ (by rw[ht,he]),run_slice_lhm W _ A n c (by rw[ht,he]) .i64 .i64 .i64 i ((i+j:Nat):Int) ((i+j:Nat):Int) (by omega) (by omega) (by omega) (by omega),he,hs];simp only[Result.andThen_ok];congr 1;unfold sliced;rw[if_neg (by omega),show ((i+j:Nat):Int).toNat - (i:Int).toNat=j by omega];rfl
def chunkVC (A:Option Addr) (n k i:Nat):Value:= .slice (A.map fun a=>a.add (i*k*4)) (min k (n - i*k)) (min k (n - i*k))
def ChIterC (A:Option Addr) (n k b1 b2:Nat) (w:World):Prop :=
 Iter Tryz.prog 183 #[.pointer (some ⟨b1,0,none⟩),.pointer (some ⟨b2,0,none⟩)] (fun i:Nat=>#[chunkVC A n k i]) Ext (fun pre i _=>i=pre.length/\i*k<n) (KeepB b1 b2) (fun xs W W'=>n<=xs.length*k/\xs=List.range xs.length/\(∀i∈xs,i*k<n)/\Ext W W') w
theorem ZG5 (A:Option Addr) (n c k b1 b2:Nat) (w:World) (p0:Row w b1 94 #[.slice A n c]) (k0:Row w b2 3 #[.int .i64 (k:Int)]) (hk:1<=k) (f0:k<=1000000) (hn:n<=1000000000) (hc:n<=c):ChIterC A n k b1 b2 w:=by
 intro l J W hE g0 hY h0;replace p0:=p0.ext hE;replace k0:=k0.ext hE;clear hE;replace p0:=ZA p0;replace k0:=ZA k0;replace hY:=ZA hY;replace g0:=ZA g0;replace h0:=ZA h0;refine(callsIn_wide (n:=0)).1 ?_;refine callsIn_of_wp Tryz.func183 rfl trivial ?_;simp only[Tryz.ntmps183,List.size_toArray,List.length_cons,List.length_nil,Nat.reduceAdd,Nat.reduceSub,Array.replicate_succ,Array.replicate_zero,List.push_toArray,List.append_toArray,List.nil_append,List.cons_append];gi_wp2_with fail
 gi_loopw [4] (fun s4 wr=>∃(i q:Nat) (pre:List Nat),s4 = .int .i64 (q:Int)/\Hid (q=i*k)/\q<=n+k/\Hid (pre.length=i)/\Hid (pre=List.range i)/\Hid (∀j∈pre,j*k<n)/\Hid (J pre wr)/\Hid (Row wr b1 94 #[.slice A n c])/\Hid (Row wr b2 3 #[.int .i64 (k:Int)])) (fun s4 _=>n - (intOf s4).toNat)
 case atStart=>exact⟨0,0,[],rfl,ZA (by simp),by omega,ZA rfl,ZA rfl,ZA nofun,h0,p0,k0⟩
 case round =>
  obtain⟨i,q,pre,rfl,hq,n0,q0,y0,x0,hJ,r1,r2⟩:=hrel;have k1:=r1.out.cell 0 rfl;have k2:=r2.out.cell 0 rfl;by_cases u0:q<n
  ·obtain⟨m,hm⟩:∃m:Nat,(m:Int)=min (k:Int) ((n - q:Nat):Int):=⟨min k (n - q),by omega⟩
   have b0:0<m:=by omega
   have i0:m<=k:=by omega
   have l0:m<=n - q:=by omega
   have d0:m=k\/m=n - q:=by omega
   have c0:=fun(W:World)=>Zf (P:=Tryz.prog) #[3,3] 3 hm W;have r0:=fun(W:World)=>ZHA (A:=A) (n:=n) (c:=c) (i:=q) (j:=m) (z:=(q:Int)) (z1:=(q:Int)+(m:Int)) (z2:=(q:Int)+(m:Int)) rfl (by omega) (by omega) (by omega) b0 W;obtain⟨A',c',o0⟩:=ZHj (A:=A) (n:=n) (c:=c) (i:=q) (z:=(q:Int)) rfl (by omega);replace hm:=ZA hm;have z0:=hY.out pre pre.length wr.drew (g0.out _ _ _ hJ.out (Ext.refl wr).drew) ⟨rfl,by rw[q0.out,<-hq.out];exact u0⟩;have j0:chunkVC A n k pre.length = .slice (A.map fun a=>a.add (q*4)) m m:=by
    unfold chunkVC;rw[q0.out,<-hq.out,show min k (n - q)=m by omega]
   rw[j0]at z0;obtain⟨fn,tmps,assign,body,hy,hR⟩:=z0;have m0:Hid (∀j∈pre ++ [pre.length],j*k<n):=ZA fun j hj=>by
    rcases List.mem_append.1 hj with h | h
    ·exact x0.out j h
    ·rw[List.mem_singleton.1 h,q0.out,<-hq.out];exact u0
   have t0:Hid (pre ++ [pre.length]=List.range (i+1)):=ZA (by rw[List.range_succ,q0.out,y0.out]);have e0:Hid (q+k=(i+1)*k):=ZA (by rw[Nat.succ_mul,hq.out]);clear j0 d0 hY g0;gi_wp2_with fail;refine wpIn_wide.2 (ZPw (fun K hK=>?_));go_wp2_with fail;refine⟨by kernel_rfl,?_⟩;gi_wp2_with fail;refine hR.mono ?_;rintro e W3 ⟨rfl,a0,v0⟩;have r13:=ZA (show Row W3 b1 94 #[.slice A n c] from v0.1 _ r1.out);have r23:=ZA (show Row W3 b2 3 #[.int .i64 (k:Int)] from v0.2 _ r2.out);have k23:=r23.out.cell 0 rfl;gi_wp2_with fail;exact⟨⟨i+1,q+k,pre ++ [pre.length],by congr 1,e0,by omega,ZA (by rw[List.length_append,q0.out];rfl),t0,m0,ZA a0,r13,r23⟩,by simp only[intOf];omega⟩
  ·gi_wp2_with fail
   go_end0
   exact⟨⟨_,rfl⟩,pre,_,hJ.out,by rw[q0.out,<-hq.out];omega,by rw[q0.out];exact y0.out,x0.out,Ext.refl _⟩
end
section
open Go.RowKit Go.Shelf
attribute [local go_sem] Oper.semAt_some Za ZAw
theorem ZGg {w:World} {A:Option Addr} {l:List En} (h:Cells w A (encells l)) (hA:∀a,A=some a->a.spot=none) (i m:Nat):Cells w (A.map fun a=>a.add (i*4)) (encells ((l.drop i).take m)):=by
 unfold encells;rw[Z4 (f:=En.cells) (k:=4) (fun _=>rfl),ZAE (f:=En.cells) (k:=4) (fun _=>rfl)];exact h.part hA _ _
def DEnc (base h1 b1 b2:Nat) (V:Value) (L:List UInt8) (w W:World):Prop :=
 (∃A c,Row W h1 25 #[.slice A L.length c]/\Own8 W base A L.length c L)/\Row W b1 94 #[V]/\Row W b2 3 #[.int .i64 16]/\Ext w W
theorem DEnc.alike {base h1 b1 b2 B:Nat} {V:Value} {L:List UInt8} {w W W1:World} (h:DEnc base h1 b1 b2 V L w W) (ha:Alike B W W1) (hB:w.heap.size<=B):DEnc base h1 b1 b2 V L w W1:=by
 obtain⟨⟨A,c,r,o⟩,r1,r2,hE⟩:=h;exact⟨⟨A,c,ha.row r,o.1,ha.buf o.2⟩,ha.row r1,ha.row r2,ha.ext hE hB⟩
theorem DEnc.ext {base h1 b1 b2:Nat} {V:Value} {L:List UInt8} {w W W1:World} (h:DEnc base h1 b1 b2 V L w W) (ha:Ext W W1):DEnc base h1 b1 b2 V L w W1:=by
 obtain⟨⟨A,c,r,o⟩,r1,r2,hE⟩:=h;exact⟨⟨A,c,r.ext ha,o.ext ha⟩,r1.ext ha,r2.ext ha,hE.trans ha⟩
def thrB (a b c:Nat) (j:Nat):List UInt8:=if j=0 then [] else if j=1 then vb a else if j=2 then vb a++vb b else vb a++vb b++vb c
theorem ZJp {a b c j:Nat} (hj:j<3) {v:Nat} (hv:(v:Int)=thr (a:Int) (b:Int) (c:Int) j):thrB a b c (j+1)=thrB a b c j++vb v:=by
 rcases (show j=0\/j=1\/j=2 by omega)with rfl | rfl | rfl
 ·have:v=a:=by unfold thr at hv;simp at hv;omega
  subst this;simp[thrB]
 ·have:v=b:=by unfold thr at hv;simp at hv;omega
  subst this;simp[thrB]
 ·have:v=c:=by unfold thr at hv;simp at hv;omega
  subst this;simp[thrB]
theorem ZEZ (l:List En) (A:Option Addr) (m c:Nat) (w:World) (hm:m=l.length) (h:Cells w A (encells l)) (hA:∀a,A=some a->a.spot=none) (y5:m<=c) (g2:OkEs l) :
 Calls Tryz.prog 86 #[.slice A m c] w fun e w'=>OwnB w w.heap.size (encEs l) e w':=by
 have i5:m<=262144:=by rw[hm];exact g2.few
 have w0:=ZA (fun A n c x l W h1 h2 h3 h4 h5=>ZA3 A n c x l W h1 h2 h3 h4 h5);have j4:=ZA (fun A n c l s W h1 h2 h3 h4 h5=>ZBx A n c l s W h1 h2 h3 h4 h5);have b5:=ZA (fun a b W h1 h2=>ZJT a b W h1 h2);have p6:=ZX (m:=m) (by omega);replace hm:=ZA hm;replace h:=ZA h;replace g2:=ZA g2;replace hA:=ZA hA;refine(callsIn_wide (n:=0)).1 ?_;refine callsIn_of_wp_marks Tryz.func86 rfl trivial ?_;simp only[Tryz.ntmps86,List.size_toArray,List.length_cons,List.length_nil,Nat.reduceAdd,Nat.reduceSub,Array.replicate_succ,Array.replicate_zero,List.push_toArray,List.append_toArray,List.nil_append,List.cons_append];gi_wp2_with fail;refine(callsIn_wide.2 (w0.out none 0 0 m [] w rfl (.inl rfl) (fun _=>rfl) (by omega) (by omega))).mono ?_;rintro e w2 d0;obtain⟨A2,c2,rfl,n1,m2⟩:=d0;rw[List.nil_append]at n1 ⊢;obtain⟨k2,t1⟩:∃k,k=(vb m).length:=⟨_,rfl⟩
 rw[<-t1]at n1 ⊢;replace n1:=ZA n1;replace t1:=ZA t1;replace m2:=ZA m2;gi_wp2_with fail;obtain⟨W3,w1⟩:∃W3,W3=w2.alloc (Obj.cells #[Value.slice A2 k2 c2] 25):=⟨_,rfl⟩
 rw[<-w1];obtain⟨h1,p2⟩:∃h1,h1=w2.heap.size:=⟨_,rfl⟩
 have q1:Row W3 h1 25 #[.slice A2 k2 c2]:=by rw[w1,p2];exact Row.new w2 _ _
 have k1:Ext w2 W3:=by rw[w1];exact(Ext.refl w2).alloc _
 have o2:W3.heap.size=h1+1:=by rw[w1,p2];simp
 have q4:w.heap.size<=h1:=by rw[p2];exact m2.out.size
 have b4:Own8 W3 w.heap.size A2 k2 c2 (vb m):=⟨t1.out,n1.out.ext k1⟩
 rw[<-p2];refine(callsIn_wide.2 (ZJa A m c 16 W3 (by omega) (by omega))).mono ?_;rintro e w4 ⟨b1,b2,rfl,rb1,rb2,k5,j5,f2,j3⟩;have s1:DEnc w.heap.size h1 b1 b2 (.slice A m c) (vb m) w w4:=⟨⟨A2,c2,by rw[<-t1.out];exact q1.ext j3,by rw[<-t1.out];exact b4.ext j3⟩,rb1,rb2,(m2.out.trans k1).trans j3⟩
 have z3:=ZG5 A m c 16 b1 b2 w4 rb1 rb2 (by omega) (by omega) (by omega) y5;rw[o2]at k5 j5;have z0:=s1.2.2.2.size;replace s1:=ZA s1;replace z3:=ZA z3;replace w1:=ZA w1;replace p2:=ZA p2;clear q1 j3 rb1 rb2 n1 k1 m2 t1 o2 b4;gi_wp2_with fail;unfold ChIterC at z3;refine ZBC (gf:=183) (lb:=#[.pointer (some ⟨b1,0,none⟩),.pointer (some ⟨b2,0,none⟩)]) rfl (enters_of Tryz.func183 (by kernel_rfl) rfl) z3.out (fun _=>rfl) (fun _ _ h=>h.others) (fun _ _ _ h=>h.2.2.2.others) (KeepB.trans b1 b2) ?kb
  (fun pre W=>DEnc w.heap.size h1 b1 b2 (.slice A m c) (vb m++partsE ((chunkL 16 l).take pre.length)) w W) (fun pre A B h ha=>h.alike ha z0) (fun pre A B h hE=>h.ext hE) ?h0 ?hround ?hdone
 case kb =>
  have s3:=(s1.out.2.1).lt;have w3:=(s1.out.2.2.1).lt;exact KeepB.alike s3 w3
 case h0 =>
  intro W ha;have:=s1.out.alike ha z0;simpa [partsE]using this
 case hround =>
  rintro rl pre i W hI ⟨hi,x5⟩;subst hi;have l2:=ZDk (l:=l) (r:=pre.length) (by rw[<-hm.out];exact x5);obtain⟨j,hj⟩:∃j,j=min 16 (m - pre.length*16):=⟨_,rfl⟩
  obtain⟨cb,q2⟩:∃cb,cb=(l.drop (pre.length*16)).take 16:=⟨_,rfl⟩
  have i0:cb.length=j:=by rw[q2,hj,List.length_take,List.length_drop,hm.out]
  obtain⟨A',k3⟩:∃A':Option Addr,A'=A.map fun a=>a.add (pre.length*16*4):=⟨_,rfl⟩
  have z1:Cells w A' (encells cb):=by rw[k3,q2];exact ZGg h.out hA.out _ _
  have s2:chunkVC A m 16 pre.length = .slice A' j j:=by unfold chunkVC;rw[k3,hj]
  have l0:∀x∈cb,okEn x:=fun x hx=>by rw[q2]at hx;exact(g2.out.each x (List.mem_of_mem_drop (List.mem_of_mem_take hx))).1
  rw[<-q2]at l2;obtain⟨L,hL⟩:∃L,L=vb m++partsE ((chunkL 16 l).take pre.length):=⟨_,rfl⟩
  rw[<-hL]at hI;have s4:L.length<=60000010:=by
   have h1:=ZDa (fun e he=>(g2.out.each e he).1) g2.out.few pre.length;have h2:=ZD (n:=m) (by omega);rw[hL,List.length_append];omega
  have m5:j<=16:=by omega
  obtain⟨Y,hY⟩:∃Y,Y=blockE [] cb:=⟨_,rfl⟩
  have p5:Y.length<=3200:=by have:=ZBU (l:=cb) (last:= []) l0;rw[hY];omega
  rw[<-hY]at l2;rw[s2];clear s2;replace hI:=ZA hI;replace z1:=ZA z1;replace k3:=ZA k3;replace q2:=ZA q2;replace hj:=ZA hj;replace hL:=ZA hL;replace i0:=ZA i0;replace l2:=ZA l2;replace l0:=ZA l0;replace hY:=ZA hY;gi_wp2_with fail;refine⟨KeepsOthers.refl _,KeepB.refl _ _ _,fun W2 v4=>?_⟩;have m3:=ZA (hI.out.alike v4 z0);clear v4 hI;have e3:=ZA m3.out.2.2.2;gi_wp2_with fail
  gi_loopw [5,6,21] (fun s5 s6 s21 wr=>∃(i n5 c5:Nat) (A5:Option Addr) (X la:List UInt8),s5 = .slice A5 n5 c5/\s6 = .string ⟨la.toArray⟩/\s21 = .int .i64 (i:Int)/\i<=j/\n5<=3200/\la.length<=65/\Hid (Y=X++blockE la (cb.drop i))/\Hid (Own8 wr w.heap.size A5 n5 c5 X)/\Hid (Ext W2 wr)) (fun _ _ s21 _=>j - (intOf s21).toNat)
  case atStart=>exact⟨0,0,0,none,[],[],rfl,rfl,rfl,by omega,by omega,by simp,ZA (by rw[hY.out];rfl),ZA ⟨rfl,Buf.nil _ _ _⟩,ZA (Ext.refl _)⟩
  case round =>
   obtain⟨i,n5,c5,A5,X,la,rfl,rfl,rfl,f5,l5,u5,z4,a1,hE⟩:=hrel;have k0:Hid (Ext w wr):=ZA (e3.out.trans hE.out);by_cases g5:i<j
   ·obtain⟨x,p3⟩:∃x,cb[i]? = some x:=⟨_,List.getElem?_eq_getElem (by rw[i0.out];exact g5)⟩
    obtain⟨g,o,n4,x0,x1,x2,x3⟩:=Z0 (z1.out.ext k0.out) p3;subst n4;have e5:=l0.out x (List.mem_of_getElem? p3);have m1:=z4.out;rw[Zo p3]at m1;obtain⟨t,off,len,n⟩:=x;obtain⟨b0,b1',b2',b3'⟩:=e5;simp only at x0 x1 x2 x3 b0 b1' b2' b3';obtain⟨k,hk⟩:∃k,k=cpl la t:=⟨_,rfl⟩
    have v5:k<=t.length:=by rw[hk];exact(ZCp la t).2
    obtain⟨X1,t3⟩:∃X1,X1=X++vb k:=⟨_,rfl⟩
    obtain⟨X2,d2⟩:∃X2,X2=X1++txL (t.drop k):=⟨_,rfl⟩
    obtain⟨X3,e2⟩:∃X3,X3=X2++thrB off len n 3:=⟨_,rfl⟩
    have e0:Y=X3++blockE t (cb.drop (i+1)):=by
     rw[m1,e2,d2,t3,hk];show X++(enB la _++blockE t _)=_;unfold enB thrB;simp
    have q5:X3.length<=3200:=by rw[e0,List.length_append]at p5;omega
    have l3:X2.length<=X3.length:=by rw[e2,List.length_append];omega
    have i3:X1.length<=X2.length:=by rw[d2,List.length_append];omega
    have l4:=fun W=>ZD2 t k v5 (z:=(k:Int)) rfl W;have t5:k<=65:=by omega
    have q6:=ZX (m:=k) (by omega);have f4:=ZA (fun W=>b5.out la t W (by omega) (by omega));rw[<-hk]at f4;obtain⟨W5,z2⟩:∃W5,W5=wr.alloc (.cells #[.string ⟨t.toArray⟩,.int .i64 (off:Int),.int .i64 (len:Int),.int .i64 (n:Int)] 97):=⟨_,rfl⟩
    obtain⟨g8,u3⟩:∃g8,g8=wr.heap.size:=⟨_,rfl⟩
    have g4:Row W5 g8 97 #[.string ⟨t.toArray⟩,.int .i64 (off:Int),.int .i64 (len:Int),.int .i64 (n:Int)]:=by rw[z2,u3];exact Row.new wr _ _
    have j1:Ext wr W5:=by rw[z2];exact(Ext.refl wr).alloc _
    have i4:(⟨t.toArray⟩:ByteArray).size=t.length:=ByteArray.size_mk_toArray t;replace t3:=ZA t3;replace d2:=ZA d2;replace e2:=ZA e2;replace e0:=ZA e0;replace hk:=ZA hk;replace p3:=ZA p3;replace g4:=ZA g4;replace j1:=ZA j1;replace z2:=ZA z2;replace u3:=ZA u3;replace i4:=ZA i4;clear m1;gi_wp2_with fail;rw[<-z2.out,<-u3.out];refine(Zt (f4.out W5)).mono ?_;rintro e w6 ⟨rfl,c3⟩;have d4:=ZA (g4.out.ext c3);have g1:=ZA (j1.out.trans c3);have y0:=d4.out.cell 0 rfl;have p0:=a1.out.ext g1.out;have m4:w.heap.size<=w6.heap.size:=(k0.out.trans g1.out).size;replace p0:=ZA p0;clear c3;gi_wp2_with fail;refine(Zt (w0.out A5 n5 c5 k X w6 p0.out.1 p0.out.2.cells p0.out.nil_ (by omega) (by omega))).mono ?_;rintro e w7 d0;obtain⟨A7,c7,rfl,c0,a0⟩:=d0;rw[<-t3.out]at c0 ⊢;have e4:=ZA (d4.out.ext a0);have y0:=e4.out.cell 0 rfl;have t2:=ZA (g1.out.trans a0);have a3:Hid (Own8 w7 w.heap.size A7 X1.length c7 X1):=ZA ⟨rfl,c0.lower m4⟩;obtain⟨n7,r0⟩:∃n7,n7=X1.length:=⟨_,rfl⟩
    rw[<-r0]at a3 i3 ⊢;replace r0:=ZA r0;have i1:w.heap.size<=w7.heap.size:=(k0.out.trans t2.out).size;clear c0 a0;gi_wp2_with fail;refine(Zt (j4.out A7 n7 c7 X1 (t.drop k) w7 a3.out.1 a3.out.2.cells a3.out.nil_ (by omega) (by rw[List.length_drop];omega))).mono ?_;rintro e w8 d0;obtain⟨A8,c8,rfl,b3,d3⟩:=d0;rw[<-d2.out]at b3 ⊢;have n2:=ZA (e4.out.ext d3);have y0:=n2.out.cell 0 rfl;have y1:=n2.out.cell 1 rfl;have y2:=n2.out.cell 2 rfl;have y3:=n2.out.cell 3 rfl;have v2:=ZA (t2.out.trans d3);have c4:Hid (Own8 w8 w.heap.size A8 X2.length c8 X2):=ZA ⟨rfl,b3.lower i1⟩;obtain⟨n8,p4⟩:∃n8,n8=X2.length:=⟨_,rfl⟩
    rw[<-p4]at c4 l3 ⊢;replace p4:=ZA p4;clear b3 d3;gi_wp2_with fail
    gi_loopw [5,46] (fun s5 s46 wv=>∃(q n9 c9:Nat) (A9:Option Addr),s5 = .slice A9 n9 c9/\s46 = .int .i64 (q:Int)/\q<=3/\n9<=3300+20*q/\Hid (Own8 wv w.heap.size A9 n9 c9 (X2++thrB off len n q))/\Hid (Ext w8 wv)) (fun _ s46 _=>3 - (intOf s46).toNat)
    case atStart=>exact⟨0,n8,c8,A8,rfl,rfl,by omega,by omega,ZA (by rw[show thrB off len n 0 = [] from rfl,List.append_nil];exact c4.out),ZA (Ext.refl _)⟩
    case round =>
     obtain⟨q,n9,c9,A9,rfl,rfl,r5,o5,j2,g3⟩:=hrel;by_cases hq:q<3
     ·have hx:=fun W=>ZFu (a:=(off:Int)) (b:=(len:Int)) (c:=(n:Int)) hq W;have a4:=ZND (a:=(off:Int)) (b:=(len:Int)) (c:=(n:Int)) q (by omega) (by omega) (by omega);obtain⟨v,hv⟩:∃v:Nat,(v:Int)=thr (off:Int) (len:Int) (n:Int) q:=⟨(thr (off:Int) (len:Int) (n:Int) q).toNat,by omega⟩
      rw[<-hv]at hx a4;have w5:v<=67108864:=by omega
      have a5:(q:Int)<3:=by omega
      have k6:=ZX (m:=v) (by omega);have k4:=ZJp hq hv;have t0:=ZD (n:=v) (by omega);obtain⟨X9,v3⟩:∃X9,X9=X2++thrB off len n q:=⟨_,rfl⟩
      obtain⟨X10,m0⟩:∃X10,X10=X9++vb v:=⟨_,rfl⟩
      rw[<-v3]at j2;have n3:X10=X2++thrB off len n (q+1):=by rw[m0,v3,k4,List.append_assoc]
      have a2:X10.length<=3300+20*(q+1):=by have:=j2.out.1;rw[m0,List.length_append];omega
      have l1:w.heap.size<=wr.heap.size:=((k0.out.trans v2.out).trans g3.out).size;clear a4 t0;replace hv:=ZA hv;replace k4:=ZA k4;replace v3:=ZA v3;replace m0:=ZA m0;replace n3:=ZA n3;gi_wp2_with fail;refine(Zt (w0.out A9 n9 c9 v X9 wr j2.out.1 j2.out.2.cells j2.out.nil_ (by omega) (by omega))).mono ?_;rintro e w10 d0;obtain⟨A10,c10,rfl,p1,q0⟩:=d0;rw[<-m0.out]at p1 ⊢;have v0:Hid (Own8 w10 w.heap.size A10 X10.length c10 (X2++thrB off len n (q+1))):=ZA (by rw[<-n3.out];exact⟨rfl,p1.lower l1⟩);obtain⟨n10,v1⟩:∃n10,n10=X10.length:=⟨_,rfl⟩
      rw[<-v1]at v0 a2 ⊢;replace v1:=ZA v1;have g0:=ZA (g3.out.trans q0);clear p1 q0;gi_wp2_with fail;exact⟨⟨q+1,n10,c10,A10,rfl,by congr 1,by omega,by omega,v0,g0⟩,by simp only[intOf];omega⟩
     ·have a5:¬ (q:Int)<3:=by omega
      have d1:q=3:=by omega
      have v0:Hid (Own8 wr w.heap.size A9 n9 c9 X3):=ZA (by rw[e2.out];have:=j2.out;rw[d1]at this;exact this);have z5:n9<=3200:=by have:=v0.out.1;omega
      have e1:=n2.out.ext g3.out;have y0:=e1.cell 0 rfl;have g0:Hid (Ext W2 wr):=ZA ((hE.out.trans v2.out).trans g3.out);have r2:t.length<=65:=b0;replace e1:=ZA e1;replace d1:=ZA d1;clear y1 y2 y3;gi_wp2_with fail;exact⟨⟨i+1,n9,c9,A9,X3,t,rfl,rfl,by congr 1,by omega,by omega,r2,e0,v0,g0⟩,by simp only[intOf];omega⟩
   ·have r3:Y=X:=by rw[z4.out,List.drop_eq_nil_of_le (by rw[i0.out];omega),blockE,List.append_nil]
    obtain⟨⟨A1,c1,r1,o1⟩,rb1,rb2,_⟩:=m3.out.ext hE.out;have f1:=r1.cell 0 rfl;have j0:=a1.out.1;obtain⟨nl,s0⟩:∃nl,nl=L.length:=⟨_,rfl⟩
    rw[<-s0]at f1 o1 s4 r1;obtain⟨L1,u2⟩:∃L1,L1=L++vb n5:=⟨_,rfl⟩
    have t0:=ZD (n:=n5) (by omega);have f3:L1.length<=60000020:=by rw[u2,List.length_append];omega
    have h6:=ZX (m:=n5) (by omega);have l1:=k0.out.size;have o0:L1++X=vb m++partsE ((chunkL 16 l).take (pre.length+1)):=by
     rw[l2.out,u2,hL.out,r3,<-j0];simp
    have t4:=a1.out.2.cells;have o3:(X.map B8).length=n5:=by rw[List.length_map];exact j0.symm
    replace s0:=ZA s0;replace u2:=ZA u2;replace r3:=ZA r3;replace r1:=ZA r1;replace o1:=ZA o1;replace rb1:=ZA rb1;replace rb2:=ZA rb2;replace j0:=ZA j0;replace o0:=ZA o0;replace t4:=ZA t4;replace o3:=ZA o3;clear t0;gi_wp2_with fail;refine(Zt (w0.out A1 nl c1 n5 L wr o1.out.1 o1.out.2.cells o1.out.nil_ (by omega) (by omega))).mono ?_;rintro e w7 d0;obtain⟨A7,c7,rfl,c0,a0⟩:=d0;rw[<-u2.out]at c0 ⊢;obtain⟨n7,r0⟩:∃n7,n7=L1.length:=⟨_,rfl⟩
    rw[<-r0]at c0 f3 ⊢;have i1:=a0.size;have d5:=ZA (Cells.ext t4.out a0);replace r0:=ZA r0;replace c0:=ZA c0;replace a0:=ZA a0;have r17:=ZA (r1.out.ext a0.out);gi_wp2_with (gi_at_builtin;refine Z3 ZV c0.out d5.out (.tmp 61) (.tmp 62) rfl rfl rfl rfl rfl o3.out (ZF _) (by omega) i1 (fun A10 c10 w10 f0 i2 q3 t0=>?_);have q0:=q3 wr a0.out (Nat.le_refl _);have r210:=r1.out.ext q0;have u0:=r210.cell 0 rfl;have u1:=r210.free 0;replace r210:=ZA r210;replace f0:=ZA f0;replace i2:=ZA i2;replace q0:=ZA q0;clear q3 t0);have f2:Buf (w10.setCell ⟨h1,0,none⟩ (.slice A10 (n7+n5) c10)) w.heap.size 5 A10 (n7+n5) c10 ((L1++X).map B8):=by
     rw[List.map_append];exact(f0.out.setCell (f0.out.unlike r210.out (by decide)) _).lower l1
    refine⟨((hE.out.others).trans q0.out.others).trans (KeepsOthers.setCell _ _ _),KeepB.of m3.out.2.1 ((rb1.out.ext q0.out).away (by simp;omega) _) m3.out.2.2.1 ((rb2.out.ext q0.out).away (by simp;omega) _),⟨A10,c10,?_,?_⟩,(rb1.out.ext q0.out).away (by simp;omega) _,(rb2.out.ext q0.out).away (by simp;omega) _,(k0.out.trans q0.out).setCell (by simpa using q4) _⟩
    ·rw[show (pre ++ [pre.length]).length=pre.length+1 by simp,<-o0.out,List.length_append,<-r0.out,<-j0.out];exact r210.out.put 0 _
    ·rw[show (pre ++ [pre.length]).length=pre.length+1 by simp,<-o0.out];refine⟨rfl,?_⟩;rw[List.length_append,<-r0.out,<-j0.out];exact f2
 case hdone =>
  rintro D xs W2 W3 W5 hD hI ⟨x4,o4,r4,y4⟩ u4 hk;have n0:=ZF6 l xs.length (by rw[<-hm.out];exact x4);rw[<-hm.out]at n0;obtain⟨⟨A1,c1,r1,o1⟩,rb1,rb2,j1⟩:=(hI.ext y4).alike u4 z0;rw[<-n0]at r1 o1;have f1:=r1.cell 0 rfl;obtain⟨nl,s0⟩:∃nl,nl=(encEs l).length:=⟨_,rfl⟩
  rw[<-s0]at f1 o1;replace s0:=ZA s0;replace r1:=ZA r1;replace o1:=ZA o1;replace rb1:=ZA rb1;replace rb2:=ZA rb2;replace j1:=ZA j1;replace n0:=ZA n0;replace hk:=ZA hk;clear hI x4 o4 r4 y4 u4;gi_wp2_with fail;refine ZAO (B:=w4.heap.size) rfl hk.out hD fun W ha=>⟨_,results_tmp rfl _ _ _,?_⟩
  exact⟨A1,c1,by rw[<-s0.out];rfl,by rw[<-s0.out];exact⟨o1.out.1,ha.buf o1.out.2⟩,ha.ext j1.out z0⟩
end
section
open Go.RowKit
theorem ZHV (l:List En) (A:Option Addr) (m c:Nat) (w:World) (hm:m=l.length) (h:Cells w A (encells l)) (hA:∀a,A=some a->a.spot=none) (k0:m<=c) (h0:OkEs l) :
 Calls Tryz.prog 41 #[.slice A m c] w fun e w'=>OkB w (encEs l) e w':=by
 have h1:=ZA (ZIh l A m c w hm h h0);have h2:=ZA (fun W (hE:Ext w W)=>ZEZ l A m c W hm (h.ext hE) hA k0 h0);replace hm:=ZA hm;replace h0:=ZA h0;replace hA:=ZA hA;replace h:=ZA h;go_enter Tryz.func41,Tryz.ntmps41;go_wp2_with fail;refine h1.out.mono ?_;rintro e w1 ⟨rfl,q0⟩;go_wp2_with fail;refine(h2.out _ q0).mono ?_;rintro e w2 ⟨A2,c2,rfl,ho,p0⟩;go_wp2_with fail;go_ret2;exact⟨A2,c2,rfl,⟨ho.1,ho.2.lower q0.size⟩,q0.trans p0⟩
def RdD (w0:World) (g:Nat) (r:List UInt8) (W:World):Prop:=∃A c,Row W g 176 #[.slice A r.length c,.bool false]/\In8 w0 A r.length c r/\Ext w0 W
theorem RdD.ext {w0:World} {g:Nat} {r:List UInt8} {W W1:World} (h:RdD w0 g r W) (hE:Ext W W1):RdD w0 g r W1:=by
 obtain⟨A,c,r1,hi,h0⟩:=h;exact⟨A,c,r1.ext hE,hi,h0.trans hE⟩
def NumD (w0:World) (g q:Nat) (r:List UInt8) (W:World) (e:Ending) (W':World):Prop:=e = .returned (.int .i64 (q:Int))/\RdD w0 g r W'/\Chg (fun k=>k=g) W W'
theorem ZBu (w0 W:World) (g q:Nat) (r:List UInt8) (z:Int) (h:RdD w0 g (vb q++r) W) (hg:w0.heap.size<=g) (hz:(q:Int)<=z) (m0:z<=1099511627776) (p0:(vb q++r).length<=1000000000) :
 Calls Tryz.prog 97 #[.pointer (some ⟨g,0,none⟩),.int .i64 z] W fun e W'=>NumD w0 g q r W e W':=by
 obtain⟨A,c,r1,hi,hE⟩:=h;have q0:=ZA1 A (vb q++r).length c (vb q++r) w0 W hi hE p0;rw[Zm (by omega)]at q0;obtain⟨n,hn⟩:∃n,n=(vb q++r).length:=⟨_,rfl⟩
 rw[<-hn]at q0 r1 p0;obtain⟨b,hb⟩:∃b:Nat,z=(b:Int):=⟨z.toNat,by omega⟩
 subst hb;have k1:=r1.cell 0 rfl;have j0:=ZX (m:=b) (by omega);have g0:=wrap_i64 (q:=q) (by omega);have k0:¬ (b:Int)<(q:Int):=by omega
 replace q0:=ZA q0;replace r1:=ZA r1;replace hi:=ZA hi;replace hE:=ZA hE;replace hn:=ZA hn;go_enter Tryz.func97,Tryz.ntmps97;go_wp2_with fail;refine q0.out.mono ?_;rintro e w1 ⟨h0,A1,c1,rfl,hi1⟩;have r11:=r1.out.ext h0;have k3:=r11.cell 1 rfl;have k4:=r11.free 0;have k5:=r11.cell 0 rfl;replace r11:=ZA r11;replace h0:=ZA h0;replace hi1:=ZA hi1;go_wp2_with fail;go_ret;exact⟨rfl,⟨A1,c1,r11.out.put 0 _,hi1.out,(hE.out.trans h0.out).setCell hg _⟩,(Chg.of_ext h0.out _).trans (Chg.of_set (S:=fun k=>k=g) w1 _ rfl) fun _ _ h=>h⟩
def TxtD (w0:World) (g:Nat) (s r:List UInt8) (W:World) (e:Ending) (W':World):Prop:=e = .returned (.string ⟨s.toArray⟩)/\RdD w0 g r W'/\Chg (fun k=>k=g) W W'
theorem ZKs (w0 W:World) (g:Nat) (s r:List UInt8) (h:RdD w0 g (txL s++r) W) (hg:w0.heap.size<=g) (hs:s.length<=65) (p0:(txL s++r).length<=1000000000) :
 Calls Tryz.prog 155 #[.pointer (some ⟨g,0,none⟩)] W fun e W'=>TxtD w0 g s r W e W':=by
 obtain⟨A,c,r1,hi,hE⟩:=h;have q0:=ZBr A (txL s++r).length c 65 (txL s++r) w0 W hi hE p0 (by omega);rw[ZFI hs (by omega)]at q0;obtain⟨n,hn⟩:∃n,n=(txL s++r).length:=⟨_,rfl⟩
 rw[<-hn]at q0 r1 p0;have k1:=r1.cell 0 rfl;replace q0:=ZA q0;replace r1:=ZA r1;replace hi:=ZA hi;replace hE:=ZA hE;replace hn:=ZA hn;go_enter Tryz.func155,Tryz.ntmps155;go_wp2_with fail;refine q0.out.mono ?_;rintro e w1 ⟨h0,A1,c1,rfl,hi1⟩;have r11:=r1.out.ext h0;have k3:=r11.cell 1 rfl;have k4:=r11.free 0;have k5:=r11.cell 0 rfl;replace r11:=ZA r11;replace h0:=ZA h0;replace hi1:=ZA hi1;go_wp2_with fail;go_ret;exact⟨rfl,⟨A1,c1,r11.out.put 0 _,hi1.out,(hE.out.trans h0.out).setCell hg _⟩,(Chg.of_ext h0.out _).trans (Chg.of_set (S:=fun k=>k=g) w1 _ rfl) fun _ _ h=>h⟩
def FilR (w:World) (g:Nat) (f:List UInt8):Prop:=∃A c,Row w g 166 #[.slice A f.length c]/\In8 w A f.length c f
theorem FilR.ext {w w1:World} {g:Nat} {f:List UInt8} (h:FilR w g f) (hE:Ext w w1):FilR w1 g f:=by
 obtain⟨A,c,hr,hi⟩:=h;exact⟨A,c,hr.ext hE,hi.ext hE⟩
theorem ZBL {f:List UInt8} {i:Nat} (h:i<f.length):f.getD i 0=f[i]:=by rw[List.getD_eq_getElem?_getD,List.getElem?_eq_getElem h];rfl
theorem ZMF {y:Nat} (h:y<256):bits .and .u8 (y:Int) 1=((y%2:Nat):Int):=by
 have hf:∀k:Fin 256,bits .and .u8 ((k.val:Nat):Int) 1=((k.val%2:Nat):Int):=by decide +kernel
 exact hf ⟨y,h⟩
theorem ZLG (g k:Nat) (f:List UInt8) (w:World) (h:FilR w g f) (hk:k<8*f.length) (j0:k<1048576) :
 Calls Tryz.prog 109 #[.pointer (some ⟨g,0,none⟩),.int .u64 (k:Int)] w fun e w'=>e = .returned (.bool (hasB f k))/\Ext w w':=by
 obtain⟨A,c,hr,hi⟩:=h;obtain⟨b,o,rfl,hc⟩:=hi.bytes.at_ (by omega);have q0:k / 8<f.length:=by omega
 have h0:=hc (k / 8) q0;have p0:=ZBL q0;have hb:hasB f k=decide ((f[k / 8].toNat / 2^(k%8)%2=1)):=by unfold hasB;rw[p0]
 obtain⟨x,hx⟩:∃x,x=f[k / 8].toNat:=⟨_,rfl⟩
 have k0:x<256:=by rw[hx];exact f[k / 8].toNat_lt
 rw[<-hx]at h0 hb;rw[hb];have r0:=hr.cell 0 rfl;obtain⟨q,hq⟩:∃q,q=k / 8:=⟨_,rfl⟩
 obtain⟨m,hm⟩:∃m,m=k%8:=⟨_,rfl⟩
 rw[<-hq]at h0 q0;rw[<-hm];have g0:m<8:=by omega
 have t0:(k:Int) / 8=(q:Int):=by omega
 have m0:(k:Int)%8=(m:Int):=by omega
 obtain⟨n,hn⟩:∃n,n=f.length:=⟨_,rfl⟩
 rw[<-hn]at r0 q0;replace hn:=ZA hn;replace hq:=ZA hq;replace hm:=ZA hm;replace hx:=ZA hx;clear hb p0 hc;go_enter Tryz.func109,Tryz.ntmps109;go_wp2_with fail;go_ret;refine⟨Zw ?_,Ext.refl _⟩;have hy:x / 2^m<256:=Nat.lt_of_le_of_lt (Nat.div_le_self _ _) k0;have e:(x:Int) / 2^m=((x / 2^m:Nat):Int):=by simp
 rw[e,ZMF hy];rw[Bool.eq_iff_iff,beq_iff_eq,decide_eq_true_iff];omega
theorem ZIP {f:List UInt8} {k:Nat} (hk:k / 8<f.length) (h:hasB f k=true):setB f k=f:=by
 unfold setB;have hx:(f.getD (k / 8) 0).toNat ||| 2^(k%8)=(f.getD (k / 8) 0).toNat:=by
  unfold hasB at h;have ht:(f.getD (k / 8) 0).toNat.testBit (k%8)=true:=by rw[Nat.testBit_eq_decide_div_mod_eq];exact h
  apply Nat.eq_of_testBit_eq;intro i;rw[Nat.testBit_or,Nat.testBit_two_pow];by_cases hi:k%8=i
  ·rw[<-hi,ht];rfl
  ·rw[decide_eq_false hi,Bool.or_false]
 rw[hx,UInt8.ofNat_toNat];apply List.ext_getElem (by rw[List.length_set]);intro i h1 h2;rw[List.getElem_set];split
 ·rename_i e;subst e;exact ZBL hk
 ·rfl
def FilO (w:World) (base g:Nat) (f:List UInt8):Prop:=∃b c cur,Row w g 166 #[.slice (some ⟨b,0,none⟩) f.length c]/\base<=b/\Row w b 5 cur/\f.length<=c/\c<=cur.size/\cur.toList.take f.length=f.map B8
theorem FilO.ext {w w1:World} {base g:Nat} {f:List UInt8} (h:FilO w base g f) (hE:Ext w w1):FilO w1 base g f:=by
 obtain⟨b,c,cur,hr,hb,h0,h1,h2,h3⟩:=h;exact⟨b,c,cur,hr.ext hE,hb,h0.ext hE,h1,h2,h3⟩
theorem FilO.buf {w:World} {base g:Nat} {f:List UInt8} (h:FilO w base g f):∃A c,Row w g 166 #[.slice A f.length c]/\Buf w base 5 A f.length c (f.map B8):=by
 obtain⟨b,c,cur,hr,hb,h0,h1,h2,h3⟩:=h;exact⟨_,c,hr,List.length_map ..,h1,.inr ⟨b,cur,rfl,hb,h0,h2,h3⟩⟩
theorem FilO.fil {w:World} {base g:Nat} {f:List UInt8} (h:FilO w base g f):FilR w g f:=by
 obtain⟨A,c,hr,hb⟩:=h.buf;exact⟨A,c,hr,hb.in8⟩
def SetP (w:World) (base g:Nat) (f:List UInt8) (w':World):Prop:=FilO w' base g f/\∀w0,Ext w0 w->w0.heap.size<=base->Ext w0 w'
theorem ZNt (g k base:Nat) (f:List UInt8) (w:World) (h:FilO w base g f) (hk:k<8*f.length) (u0:k<1048576) :
 Calls Tryz.prog 150 #[.pointer (some ⟨g,0,none⟩),.int .u64 (k:Int)] w fun e w'=>e = .returned (.bool (!hasB f k))/\SetP w base g (setB f k) w':=by
 have hh:=ZLG g k f w h.fil hk u0;have q0:k / 8<f.length:=by omega
 cases hv:hasB f k with
 | true =>
  rw[hv]at hh;have hs:=ZIP q0 hv;rw[hs];replace hh:=ZA hh;replace hs:=ZA hs;replace hv:=ZA hv;replace h:=ZA h;go_enter Tryz.func150,Tryz.ntmps150;go_wp2_with fail;refine hh.out.mono ?_;rintro e w1 ⟨rfl,hE⟩;go_wp2_with fail;go_ret;exact⟨rfl,h.out.ext hE,fun w0 h0 _=>h0.trans hE⟩
 | false =>
  rw[hv]at hh;replace hv:=ZA hv;obtain⟨b,c,cur,hr,hb,p0,h1,h2,h3⟩:=h;have k0:cur[k / 8]? = some (B8 f[k / 8]):=by
   have:(cur.toList.take f.length)[k / 8]? = some (B8 f[k / 8]):=by rw[h3,List.getElem?_map,List.getElem?_eq_getElem q0];rfl
   rw[List.getElem?_take,if_pos q0]at this;simpa using this
  have v0:=ZBL q0;obtain⟨x,hx⟩:∃x,x=f[k / 8].toNat:=⟨_,rfl⟩
  have g0:x<256:=by rw[hx];exact f[k / 8].toNat_lt
  unfold B8 at k0;rw[<-hx]at k0;obtain⟨q,hq⟩:∃q,q=k / 8:=⟨_,rfl⟩
  obtain⟨m,hm⟩:∃m,m=k%8:=⟨_,rfl⟩
  rw[<-hq]at q0;have j0:m<8:=by omega
  have c0:(k:Int) / 8=(q:Int):=by omega
  have b0:(k:Int)%8=(m:Int):=by omega
  obtain⟨n,hn⟩:∃n,n=f.length:=⟨_,rfl⟩
  rw[<-hn]at hr q0;have t0:g≠b:=Row.unlike hr p0 (by decide);replace hn:=ZA hn;replace hq:=ZA hq;replace hm:=ZA hm;replace hx:=ZA hx;replace hh:=ZA hh;go_enter Tryz.func150,Tryz.ntmps150;go_wp2_with fail;refine hh.out.mono ?_;rintro e w1 ⟨rfl,hE⟩;have r0:=(hr.ext hE).cell 0 rfl;have r1:=(p0.ext hE).cell (k / 8) k0;rw[<-hq.out]at r1;have r2:=(p0.ext hE).free q;replace hE:=ZA hE;go_wp2_with fail;go_ret;have z0:bits BinOp.or IntKind.u8 (x:Int) (2^m%256)=((x ||| 2^m:Nat):Int):=by
   have hp:2^m<256:=Nat.pow_lt_pow_right (n:=8) (by omega) j0;have e:(2:Int)^m%256=((2^m:Nat):Int):=by
    have:∀k:Fin 8,(2:Int)^k.val%256=((2^k.val:Nat):Int):=by decide
    exact this ⟨m,j0⟩
   rw[e,u8_or_nat _ _ g0 hp]
  rw[z0];have x0:=(p0.ext hE.out).put q (.int .u8 ((x ||| 2^m:Nat):Int));have y0:=(hr.ext hE.out).away (p:=⟨b,q,none⟩) (by simpa using t0) (.int .u8 ((x ||| 2^m:Nat):Int));have m0:B8 (UInt8.ofNat ((f.getD (k / 8) 0).toNat ||| 2^(k%8))) = .int .u8 ((x ||| 2^m:Nat):Int):=by
   unfold B8;rw[v0,<-hx.out,<-hm.out,UInt8.toNat_ofNat',Nat.mod_eq_of_lt (ZN9 g0 j0)]
  refine⟨rfl,⟨b,c,_,by rw[ZAa,<-hn.out];exact y0,hb,x0,by rw[ZAa];exact h1,by rw[Array.size_setIfInBounds];exact h2,?_⟩,fun w0 h0 a0=>(h0.trans hE.out).setCell (by simp only;omega) _⟩;unfold setB;rw[List.length_set,<-hq.out,Array.toList_setIfInBounds,List.take_set,h3,List.map_set,hq.out,m0]
theorem ZH0 (g:Nat) (f:List UInt8) (w:World) (h:FilR w g f) (hf:f.length<=1000000000):Calls Tryz.prog 108 #[.pointer (some ⟨g,0,none⟩)] w fun e w'=>e = .returned (.int .i64 ((8*f.length:Nat):Int))/\w'=w:=by
 obtain⟨A,c,hr,hi⟩:=h;have r0:=hr.cell 0 rfl;obtain⟨n,hn⟩:∃n,n=f.length:=⟨_,rfl⟩
 rw[<-hn]at r0 hf ⊢;replace hn:=ZA hn;go_enter Tryz.func108,Tryz.ntmps108;go_wp2_with fail;go_ret;exact⟨ZCc (by omega),rfl⟩
theorem ZFY (g:Nat) (f:List UInt8) (w:World) (h:FilR w g f) (hf:0<f.length):Calls Tryz.prog 91 #[.pointer (some ⟨g,0,none⟩)] w fun e w'=>e = .returned (.bool false)/\w'=w:=by
 obtain⟨A,c,hr,hi⟩:=h;have r0:=hr.cell 0 rfl;obtain⟨n,hn⟩:∃n,n=f.length:=⟨_,rfl⟩
 rw[<-hn]at r0 hf;have h0:((n:Int)==0)=false:=beq_eq_false_iff_ne.2 (by omega);replace hn:=ZA hn;go_enter Tryz.func91,Tryz.ntmps91;go_wp2_with fail;go_ret;exact⟨rfl,rfl⟩
def fplA (s:List UInt8) (m:Nat):Array Value:=#[.int .u64 (fpl s m 0:Int),.int .u64 (fpl s m 1:Int),.int .u64 (fpl s m 2:Int),.int .u64 (fpl s m 3:Int)]
theorem ZBS (y:Int):IntKind.u64.wrap y=y%18446744073709551616:=by simp[IntKind.wrap,IntKind.bits,IntKind.signed]
theorem ZAr {m:Nat} (h:m<18446744073709551616):IntKind.u64.wrap (m:Int)=(m:Int):=by rw[ZBS];omega
theorem ZEb (s:List UInt8) (m:Nat) (w:World) (hs:s.length<=1000000000) (hm:0<m) (e2:m<=1048576) :
 Calls Tryz.prog 107 #[.string ⟨s.toArray⟩,.int .i64 (m:Int)] w fun e w'=>e = .returned (.agg (fplA s m))/\Ext w w':=by
 obtain⟨W0,t0⟩:∃W0,W0=w.alloc (.cells #[.int .u64 0,.int .u64 0,.int .u64 0,.int .u64 0] 186):=⟨_,rfl⟩
 obtain⟨c,w1,a0,hb,c0,a1⟩:=ZDf s W0;clear a1;obtain⟨g4,x0⟩:∃g4,g4=w.heap.size:=⟨_,rfl⟩
 have y1:Row W0 g4 186 #[.int .u64 0,.int .u64 0,.int .u64 0,.int .u64 0]:=by rw[t0,x0];exact Row.new w _ _
 have n1:=ZA (y1.ext c0);have q1:Ext w W0:=by rw[t0];exact(Ext.refl w).alloc _
 have m0:=ZA (q1.trans c0);obtain⟨b8,k1⟩:∃b8,b8=W0.heap.size:=⟨_,rfl⟩
 rw[<-k1]at a0 hb;obtain⟨n,hn⟩:∃n,n=s.length:=⟨_,rfl⟩
 rw[<-hn]at a0 hs;obtain⟨h0,y0⟩:∃h0:Nat,h0=14695981039346656037:=⟨_,rfl⟩
 have z0:h0<18446744073709551616:=by omega
 have d0:h0=fnv []:=y0;replace hb:=ZA hb;replace hn:=ZA hn;replace k1:=ZA k1;replace t0:=ZA t0;replace x0:=ZA x0;replace q1:=ZA q1;replace c0:=ZA c0;replace y1:=ZA y1;replace y0:=ZA y0;replace d0:=ZA d0;go_enter Tryz.func107,Tryz.ntmps107;go_upto_region 2 with (fail)
 rw[<-t0.out,<-x0.out];go_wp2_with fail
 go_loopw [5,15] (fun s5 s15 wr=>∃(i h:Nat),s5 = .int .u64 (h:Int)/\s15 = .int .i64 (i:Int)/\i<=n/\h<18446744073709551616/\Hid (h=fnv (s.take i))/\wr=w1) (fun _ s15 _=>n - (intOf s15).toNat)
 case atStart=>exact⟨0,h0,by rw[y0.out];rfl,rfl,by omega,z0,d0,rfl⟩
 case round =>
  obtain⟨i,h,rfl,rfl,hi,hh,hf,rfl⟩:=hrel;by_cases e1:i<n
  ·obtain⟨x,w0⟩:∃x,s[i]? = some x:=⟨_,List.getElem?_eq_getElem (by rw[<-hn.out];exact e1)⟩
   obtain⟨g,o,hA,c1⟩:=hb.out.at_ (by rw[<-hn.out];omega);obtain⟨rfl,rfl⟩:g=b8/\o=0:=by injection hA with hA;injection hA with h1 h2;exact⟨h1.symm,h2.symm⟩
   have i1:=c1 i (by rw[<-hn.out];exact e1);rw[(List.getElem?_eq_some_iff.1 w0).2,Nat.zero_add]at i1;have g0:=hf.out;have i0:fnv (s.take (i+1))=fnvS h x:=by rw[List.take_add_one,w0,g0];exact ZHz _ x
   obtain⟨y,hy⟩:∃y,y=x.toNat:=⟨_,rfl⟩
   rw[<-hy]at i1;have o2:y<256:=by rw[hy];exact x.toNat_lt
   have b1:=u64_xor_nat h y hh (by omega);obtain⟨z,hz⟩:∃z,z=h ^^^ y:=⟨_,rfl⟩
   rw[<-hz]at b1;have u1:IntKind.u64.wrap ((z:Int)*1099511628211)=((fnvS h x:Nat):Int):=by
    rw[ZBS];unfold fnvS;rw[<-hy,<-hz];omega
   obtain⟨h2,f0⟩:∃h2,h2=fnvS h x:=⟨_,rfl⟩
   have t1:h2<18446744073709551616:=by rw[f0];exact ZHf h x
   rw[<-f0]at u1 i0;replace i0:=ZA i0.symm;replace f0:=ZA f0;replace hz:=ZA hz;replace hy:=ZA hy;replace w0:=ZA w0;clear g0 c1 hA;go_wp2_with fail;exact⟨⟨i+1,h2,rfl,rfl,by omega,t1,i0,trivial⟩,by simp only[intOf];omega⟩
  ·obtain rfl:i=n:=by omega
   have g0:h=fnv s:=by rw[hf.out,List.take_of_length_le (by rw[<-hn.out];exact Nat.le_refl _)]
   obtain⟨fs,e0⟩:∃fs,fs=h%4294967296:=⟨_,rfl⟩
   obtain⟨d,hd⟩:∃d,d=h / 4294967296:=⟨_,rfl⟩
   obtain⟨sd,b0⟩:∃sd,sd=d ||| 1:=⟨_,rfl⟩
   have g1:d<4294967296:=by omega
   have o1:sd<4294967296:=by rw[b0];exact Nat.or_lt_two_pow (n:=32) g1 (by decide)
   have d1:fs<4294967296:=by omega
   have q2:bits .and .u64 (h:Int) 4294967295=(fs:Int):=by
    rw[show (4294967295:Int)=((4294967295:Nat):Int)from rfl,u64_and_nat h 4294967295 hh (by omega),e0];exact congrArg _ (Nat.and_two_pow_sub_one_eq_mod h 32)
   have y2:(h:Int) / 4294967296=(d:Int):=by omega
   have f2:bits .or .u64 (d:Int) 1=(sd:Int):=by rw[b0];exact u64_or_nat d 1 (by omega) (by omega)
   have x1:∀i,fpl s m i=(fs+i*sd)%m:=fun i=>by unfold fpl;rw[<-g0,<-e0,<-hd,<-b0]
   have l2:=ZAr (m:=m) (by omega);replace e0:=ZA e0;replace hd:=ZA hd;replace b0:=ZA b0;replace x1:=ZA x1;replace g0:=ZA g0;clear y0 d0 z0;go_wp2_with fail;obtain⟨W2,j0⟩:∃W2,W2=wr.alloc (.cells #[.int .u64 0,.int .u64 0,.int .u64 0,.int .u64 0] 186):=⟨_,rfl⟩
   obtain⟨g10,q0⟩:∃g10,g10=wr.heap.size:=⟨_,rfl⟩
   rw[<-j0,<-q0];have z1:Row W2 g10 186 #[.int .u64 0,.int .u64 0,.int .u64 0,.int .u64 0]:=by rw[j0,q0];exact Row.new wr _ _
   have p1:Ext w W2:=by rw[j0];exact m0.out.alloc _
   have k0:Row W2 g4 186 #[.int .u64 0,.int .u64 0,.int .u64 0,.int .u64 0]:=by rw[j0];exact n1.out.alloc _
   have t2:g4≠g10:=by have:=n1.out.lt;omega
   have k2:w.heap.size<=g10:=by rw[q0];exact m0.out.size
   have p0:w.heap.size<=g4:=by have:=x0.out;omega
   replace z1:=ZA z1;replace p1:=ZA p1;replace k0:=ZA k0;replace j0:=ZA j0;replace q0:=ZA q0
   go_loopw [30] (fun s30 wv=>∃(j:Nat) (cs:Array Value),s30 = .int .i64 (j:Int)/\j<=4/\Hid (cs.size=4/\∀k,k<j->cs[k]? = some (.int .u64 (fpl s m k:Int)))/\Hid (Row wv g10 186 cs)/\Hid (Row wv g4 186 #[.int .u64 0,.int .u64 0,.int .u64 0,.int .u64 0])/\Hid (Ext w wv)) (fun s30 _=>4 - (intOf s30).toNat)
   case atStart=>exact⟨0,_,rfl,by omega,ZA ⟨rfl,fun k hk=>by omega⟩,z1,k0,p1⟩
   case round =>
    obtain⟨j,cs,rfl,hj,u0,hr,l0,hE⟩:=hrel;by_cases f1:j<4
    ·obtain⟨p,hp⟩:∃p,p=j*sd:=⟨_,rfl⟩
     have u2:p<17179869184:=by
      have:j*sd<=3*4294967296:=Nat.mul_le_mul (by omega) (by omega);omega
     obtain⟨t,ht⟩:∃t,t=fs+p:=⟨_,rfl⟩
     obtain⟨v,hv⟩:∃v,v=t%m:=⟨_,rfl⟩
     have m1:v=fpl s m j:=by rw[x1.out,hv,ht,hp]
     have i2:=ZAr (m:=j) (by omega);have l1:IntKind.u64.wrap ((j:Int)*(sd:Int))=(p:Int):=by
      rw[show (j:Int)*(sd:Int)=(p:Int)by rw[hp];simp];exact ZAr (by omega)
     have s1:(fs:Int)+(p:Int)=(t:Int):=by omega
     have n2:=ZAr (m:=t) (by omega);have m2:(t:Int)%(m:Int)=(v:Int):=by rw[hv];simp
     have d2:((m:Int)==0)=false:=beq_eq_false_iff_ne.2 (by omega);have p2:∃u,cs[j]? = some u:=⟨_,Array.getElem?_eq_getElem (by rw[u0.out.1];exact f1)⟩
     obtain⟨u,hu⟩:=p2;have b2:=hr.out.cell j hu;have c2:=hr.out.free j;have j2:(j:Int)<4:=by omega
     replace hp:=ZA hp;replace ht:=ZA ht;replace hv:=ZA hv;replace m1:=ZA m1;replace hu:=ZA hu;go_wp2_with fail;refine⟨⟨j+1,cs.setIfInBounds j (.int .u64 (v:Int)),by congr 1,by omega,ZA ⟨by rw[Array.size_setIfInBounds];exact u0.out.1,fun k hk=>?_⟩,ZA (hr.out.put j _),ZA (l0.out.away t2 _),ZA (hE.out.setCell k2 _)⟩,by simp only[intOf];omega⟩;rw[Array.getElem?_setIfInBounds];split
     ·rename_i e;subst e;rw[if_pos (by rw[u0.out.1];exact f1),m1.out]
     ·exact u0.out.2 k (by omega)
    ·have g2:¬ (j:Int)<4:=by omega
     have j1:cs=fplA s m:=by
      obtain⟨h1,h2⟩:=u0.out;apply Array.ext_getElem?;intro k;by_cases hk:k<4
      ·rw[h2 k (by omega)];rcases (show k=0\/k=1\/k=2\/k=3 by omega)with rfl | rfl | rfl | rfl <;> rfl
      ·rw[Array.getElem?_eq_none (by omega),Array.getElem?_eq_none (by show 4<=k;omega)]
     rw[j1]at hr;unfold fplA at hr;obtain⟨v0,n0⟩:∃v0,v0=fpl s m 0:=⟨_,rfl⟩
     obtain⟨v1,o0⟩:∃v1,v1=fpl s m 1:=⟨_,rfl⟩
     obtain⟨v2,r0⟩:∃v2,v2=fpl s m 2:=⟨_,rfl⟩
     obtain⟨v3,s0⟩:∃v3,v3=fpl s m 3:=⟨_,rfl⟩
     rw[<-n0,<-o0,<-r0,<-s0]at hr;have z2:=l0.out.get;have a2:=l0.out.free;replace n0:=ZA n0;replace o0:=ZA o0;replace r0:=ZA r0;replace s0:=ZA s0;replace j1:=ZA j1;go_wp2_with (refine wpList_load_row rfl 186 (.tmp 10) rfl g10 rfl 186 _ (0,0) _ hr.out Tryz.underlying186 rfl (by kernel_rfl) ?_);have x2:=(((l0.out.put 0 (.int .u64 (v0:Int))).put 1 (.int .u64 (v1:Int))).put 2 (.int .u64 (v2:Int))).put 3 (.int .u64 (v3:Int));have r1:=(((hE.out.setCell (p:=⟨g4,0,none⟩) p0 (.int .u64 (v0:Int))).setCell (p:=⟨g4,1,none⟩) p0 (.int .u64 (v1:Int))).setCell (p:=⟨g4,2,none⟩) p0 (.int .u64 (v2:Int))).setCell (p:=⟨g4,3,none⟩) p0 (.int .u64 (v3:Int));exact bodyPost_ret (results_cell_row rfl _ _ g4 186 #[.int .u64 (v0:Int),.int .u64 (v1:Int),.int .u64 (v2:Int),.int .u64 (v3:Int)] (0,0) _ rfl x2 Tryz.underlying186 rfl (by kernel_rfl)) rfl ⟨by unfold fplA;rw[<-n0.out,<-o0.out,<-r0.out,<-s0.out],r1⟩
theorem ZLX {s:List UInt8} {m i:Nat} (hi:i<4) (W:World):(Instr.index 186 (.agg (fplA s m)) (.int .i64 (i:Int))).run Tryz.prog W = .ok (.int .u64 (fpl s m i:Int)) W:=by
 unfold fplA;generalize fpl s m=F;rcases (show i=0\/i=1\/i=2\/i=3 by omega)with rfl | rfl | rfl | rfl
 ·show _=_
  kernel_rfl
 ·show _=_
  kernel_rfl
 ·show _=_
  kernel_rfl
 ·show _=_
  kernel_rfl
theorem ZMX {f s:List UInt8} (h:∀j,j<4->hasB f (fpl s (8*f.length) j)=true):mayB f s=true:=by
 unfold mayB;rw[h 0 (by omega),h 1 (by omega),h 2 (by omega),h 3 (by omega)];rfl
theorem ZNq {f s:List UInt8} {j:Nat} (hj:j<4) (h:hasB f (fpl s (8*f.length) j)=false):mayB f s=false:=by
 unfold mayB;rcases (show j=0\/j=1\/j=2\/j=3 by omega)with rfl | rfl | rfl | rfl <;> rw[h] <;> simp
theorem ZNa (g:Nat) (f s:List UInt8) (w:World) (h:FilR w g f) (hf:0<f.length) (f0:f.length<=131072) (hs:s.length<=1000000000) :
 Calls Tryz.prog 60 #[.pointer (some ⟨g,0,none⟩),.string ⟨s.toArray⟩] w fun e w'=>e = .returned (.bool (mayB f s))/\Ext w w':=by
 have b0:=ZA (ZFY g f w h hf);have y0:=ZA (ZH0 g f w h (by omega));obtain⟨m,hm⟩:∃m,m=8*f.length:=⟨_,rfl⟩
 have t0:0<m:=by omega
 have x0:m<=1048576:=by omega
 have c0:=ZA (fun W=>ZEb s m W hs t0 x0);have a0:=ZA (fun i (hi:i<4) W=>ZLX (s:=s) (m:=m) hi W);have z0:=ZA (fun W j (hE:Ext w W)=>ZLG g (fpl s m j) f W (h.ext hE) (by rw[<-hm];exact ZGh s j t0) (Nat.lt_of_lt_of_le (ZGh s j t0) x0));have q0:=ZA (fun hh=>ZMX (f:=f) (s:=s) hh);have hn:=ZA (fun j hj hh=>ZNq (f:=f) (s:=s) (j:=j) hj hh);rw[<-hm]at y0 q0 hn;obtain⟨Z,hZ⟩:∃Z,Z=mayB f s:=⟨_,rfl⟩
 rw[<-hZ]at q0 hn ⊢;replace hZ:=ZA hZ;replace hm:=ZA hm;replace h:=ZA h;go_enter Tryz.func60,Tryz.ntmps60;go_wp2_with fail;refine b0.out.mono ?_;rintro e w1 ⟨rfl,hw⟩;obtain rfl:=hw.symm;have r0:=h.out;obtain⟨A,c,hr,_⟩:=r0;have k0:=hr.cell 0 rfl;replace hr:=ZA hr;go_wp2_with fail;refine y0.out.mono ?_;rintro e w1 ⟨rfl,hw⟩;obtain rfl:=hw.symm;go_wp2_with fail;refine(c0.out _).mono ?_;rintro e w2 ⟨rfl,j0⟩;replace j0:=ZA j0;go_wp2_with fail
 go_loopw [15] (fun s15 wr=>∃i:Nat,s15 = .int .i64 (i:Int)/\i<=4/\Hid (∀j,j<i->hasB f (fpl s m j)=true)/\Hid (Ext w wr)) (fun s15 _=>4 - (intOf s15).toNat)
 case atStart=>exact⟨0,rfl,by omega,ZA (fun j hj=>by omega),j0⟩
 case round =>
  obtain⟨i,rfl,hi,p0,hE⟩:=hrel;by_cases u0:i<4
  ·have hx:=a0.out i u0;have m0:(i:Int)<4:=by omega
   have hc:=z0.out wr i hE.out;obtain⟨p,hp⟩:∃p,p=fpl s m i:=⟨_,rfl⟩
   rw[<-hp]at hx hc;obtain⟨v,hv⟩:∃v,v=hasB f p:=⟨_,rfl⟩
   rw[<-hv]at hc;replace hc:=ZA hc;have k1:=hE.out.cell k0;have v0:Hid (v=true->∀j,j<i+1->hasB f (fpl s m j)=true):=ZA fun e0 j hj=>by
    by_cases e:j=i
    ·rw[e,<-hp,<-hv,e0]
    ·exact p0.out j (by omega)
   have g0:Hid (v=false->Z=false):=ZA fun d0=>hn.out i u0 (by rw[<-hp,<-hv,d0]);replace hp:=ZA hp;replace hv:=ZA hv;cases v with
   | true =>
    replace v0:=ZA (v0.out rfl);go_wp2_with fail;refine hc.out.mono ?_;rintro e w3 ⟨rfl,h0⟩;replace h0:=ZA (hE.out.trans h0);go_wp2_with fail;exact⟨⟨i+1,by congr 1,by omega,v0,h0⟩,by simp only[intOf];omega⟩
   | false =>
    obtain rfl:Z=false:=g0.out rfl;go_wp2_with fail;refine hc.out.mono ?_;rintro e w3 ⟨rfl,h0⟩;replace h0:=ZA (hE.out.trans h0);go_wp2_with fail;go_ret;exact⟨rfl,h0.out⟩
  ·have m0:¬ (i:Int)<4:=by omega
   obtain rfl:Z=true:=q0.out fun j hj=>p0.out j (by omega);go_wp2_with fail;go_ret;exact⟨rfl,hE.out⟩
def pAdd (f s:List UInt8) (m:Nat):Nat->List UInt8
 | 0=>f
 | j+1=>setB (pAdd f s m j) (fpl s m j)
theorem ZIV (f s:List UInt8) (m:Nat):∀j,(pAdd f s m j).length=f.length
 | 0=>rfl
 | j+1=>by rw[pAdd,ZAa,ZIV f s m j]
theorem ZMJ (f s:List UInt8):pAdd f s (8*f.length) 4=addB f s:=rfl
theorem ZKY (f:List UInt8):∀l:List (List UInt8),(l.foldl addB f).length=f.length:=by
 intro l
 induction l generalizing f with
 | nil=>rfl
 | cons c l ih=>rw[List.foldl_cons,ih,ZCx]
theorem ZIp (f:List UInt8) {l:List (List UInt8)} {i:Nat} {x:List UInt8} (h:l[i]? = some x):(l.take (i+1)).foldl addB f=addB ((l.take i).foldl addB f) x:=by
 rw[List.take_add_one,h,List.foldl_append];rfl
def AddP (w0:World) (base g:Nat) (f:List UInt8) (e:Ending) (w':World):Prop:=∃z:Int,e = .returned (.int .i64 z)/\FilO w' base g f/\Ext w0 w'
theorem ZNo (g base:Nat) (f:List UInt8) (A:Option Addr) (n c:Nat) (ts:List (List UInt8)) (w0 w:World) (h:FilO w base g f) (hf:0<f.length) (z1:f.length<=131072) (hn:n=ts.length) (f0:Cells w0 A (ts.map strV)) (hE:Ext w0 w) (hb:w0.heap.size<=base) (a1:n<=1000000000) (hlen:∀t∈ts,t.length<=1000000000) :
 Calls Tryz.prog 90 #[.pointer (some ⟨g,0,none⟩),.slice A n c] w fun e w'=>AddP w0 base g (ts.foldl addB f) e w':=by
 have t1:=ZA (ZFY g f w h.fil hf);obtain⟨m,hm⟩:∃m,m=8*f.length:=⟨_,rfl⟩
 have d0:0<m:=by omega
 have n0:m<=1048576:=by omega
 have x1:=ZA (fun W (F:List UInt8) (hF:FilO W base g F) (hl:F.length=f.length)=>ZH0 g F W hF.fil (by omega));have v1:=ZA (fun s W (hs:s.length<=1000000000)=>ZEb s m W hs d0 n0);have j1:=ZA (fun s i (hi:i<4) W=>ZLX (s:=s) (m:=m) hi W);have u1:=ZA (fun s j W (F:List UInt8) (hF:FilO W base g F) (hl:F.length=f.length)=>ZNt g (fpl s m j) base F W hF (by rw[hl,<-hm];exact ZGh s j d0) (Nat.lt_of_lt_of_le (ZGh s j d0) n0));obtain⟨Z,hZ⟩:∃Z,Z=ts.foldl addB f:=⟨_,rfl⟩
 rw[<-hZ];have r0:=h;obtain⟨b,cc,cur,hr,_⟩:=r0;have k0:=hr.cell 0 rfl;clear hr;replace hZ:=ZA hZ;replace hm:=ZA hm;replace h:=ZA h;replace hn:=ZA hn;replace f0:=ZA f0;replace hE:=ZA hE;replace hlen:=ZA hlen;go_enter Tryz.func90,Tryz.ntmps90;go_wp2_with fail;refine t1.out.mono ?_;rintro e w1 ⟨rfl,hw⟩;obtain rfl:=hw.symm;go_wp2_with fail
 go_loopw [5,14] (fun s5 s14 wr=>∃(i:Nat) (z:Int),s5 = .int .i64 z/\s14 = .int .i64 (i:Int)/\i<=n/\Hid (FilO wr base g ((ts.take i).foldl addB f))/\Hid (Ext w0 wr)) (fun _ s14 _=>n - (intOf s14).toNat)
 case atStart=>exact⟨0,0,rfl,rfl,by omega,h,hE⟩
 case round =>
  obtain⟨i,z,rfl,rfl,hi,hF,u0⟩:=hrel;by_cases k1:i<n
  ·obtain⟨x,g0⟩:∃x,ts[i]? = some x:=⟨_,List.getElem?_eq_getElem (by rw[<-hn.out];exact k1)⟩
   obtain⟨ga,o,hA,l0⟩:=f0.out.at_ (by rw[List.length_map,<-hn.out];omega);subst hA;have m1:=u0.out.cell (l0 i (strV x) (by rw[List.getElem?_map,g0];rfl));unfold strV at m1;have y1:=hlen.out x (List.mem_of_getElem? g0);have t0:=ZIp f g0;obtain⟨F,m0⟩:∃F,F=(ts.take i).foldl addB f:=⟨_,rfl⟩
   rw[<-m0]at hF t0;have j0:F.length=f.length:=by rw[m0];exact ZKY _ _
   have i0:=ZA (x1.out wr F hF.out j0);rw[j0,<-hm.out]at i0;have p1:=ZA (fun W=>v1.out x W y1);have e0:=hF.out;obtain⟨b2,cc2,cur2,s0,_⟩:=e0;have k2:=s0.cell 0 rfl;clear s0 l0;replace g0:=ZA g0;replace m0:=ZA m0;replace t0:=ZA t0;replace j0:=ZA j0;go_wp2_with fail;refine i0.out.mono ?_;rintro e w3 ⟨rfl,hw⟩;obtain rfl:=hw.symm;go_wp2_with fail;refine(p1.out _).mono ?_;rintro e w4 ⟨rfl,x0⟩;have q1:=ZA (hF.out.ext x0);have v0:=ZA (u0.out.trans x0);clear x0;go_wp2_with fail
   go_loopw [5,24] (fun s5 s24 wv=>∃(j:Nat) (z:Int),s5 = .int .i64 z/\s24 = .int .i64 (j:Int)/\j<=4/\Hid (FilO wv base g (pAdd F x m j))/\Hid (Ext w0 wv)) (fun _ s24 _=>4 - (intOf s24).toNat)
   case atStart=>exact⟨0,_,rfl,rfl,by omega,q1,v0⟩
   case round =>
    obtain⟨j,z2,rfl,rfl,hj,a0,y0⟩:=hrel;by_cases g1:j<4
    ·have hx:=j1.out x j g1;have c0:(j:Int)<4:=by omega
     have p0:=u1.out x j wr (pAdd F x m j) a0.out (by rw[ZIV];exact j0.out);have o0:setB (pAdd F x m j) (fpl x m j)=pAdd F x m (j+1):=rfl;rw[o0]at p0;obtain⟨p,hp⟩:∃p,p=fpl x m j:=⟨_,rfl⟩
     rw[<-hp]at hx p0;obtain⟨v,hv⟩:∃v,v = !hasB (pAdd F x m j) p:=⟨_,rfl⟩
     rw[<-hv]at p0;have e0:=a0.out;obtain⟨b3,cc3,cur3,h1,_⟩:=e0;have k3:=h1.cell 0 rfl;clear h1 o0;replace p0:=ZA p0;replace hp:=ZA hp;replace hv:=ZA hv;cases v with
     | true =>
      go_wp2_with fail;refine p0.out.mono ?_;rintro e w5 ⟨rfl,q0,h0⟩;replace q0:=ZA q0;replace h0:=ZA (h0 w0 y0.out hb);go_wp2_with fail;exact⟨⟨j+1,_,rfl,by congr 1,by omega,q0,h0⟩,by simp only[intOf];omega⟩
     | false =>
      go_wp2_with fail;refine p0.out.mono ?_;rintro e w5 ⟨rfl,q0,h0⟩;replace q0:=ZA q0;replace h0:=ZA (h0 w0 y0.out hb);go_wp2_with fail;exact⟨⟨j+1,_,rfl,by congr 1,by omega,q0,h0⟩,by simp only[intOf];omega⟩
    ·have c0:¬ (j:Int)<4:=by omega
     have z0:Hid (FilO wr base g ((ts.take (i+1)).foldl addB f)):=ZA (by
      rw[t0.out,<-ZMJ,j0.out,<-hm.out];have:=a0.out;rw[show j=4 by omega]at this;exact this)
     go_wp2_with fail;exact⟨⟨i+1,_,rfl,rfl,by omega,z0,y0⟩,by simp only[intOf];omega⟩
  ·obtain rfl:i=n:=by omega
   have b0:FilO wr base g Z:=by
    have:=hF.out;rw[List.take_of_length_le (by rw[<-hn.out];exact Nat.le_refl _)]at this;rw[hZ.out];exact this
   replace b0:=ZA b0;go_wp2_with fail;go_ret;exact⟨_,rfl,b0.out,u0.out⟩
def NewF (w:World) (f:List UInt8) (e:Ending) (w':World):Prop:=∃g,e = .returned (.tuple #[.pointer (some ⟨g,0,none⟩),.int .i64 0])/\w.heap.size<=g/\FilO w' w.heap.size g f/\Ext w w'
theorem ZMn (n:Nat) (w:World) (hn:n<=262144):Calls Tryz.prog 89 #[.int .i64 (n:Int)] w fun e w'=>NewF w (List.replicate (filL n) 0) e w':=by
 obtain⟨x,hx⟩:∃x:Nat,(x:Int)=max ((n*10:Nat):Int) 64:=⟨max (n*10) 64,by omega⟩
 have q0:(x:Int)=max (10*(n:Int)) 64:=by omega
 obtain⟨y,hy⟩:∃y:Nat,(y:Int)=min (x:Int) 1048576:=⟨min x 1048576,by omega⟩
 have p0:=fun(W:World)=>ZBH (P:=Tryz.prog) #[3,3] 3 q0 W;have k0:=fun(W:World)=>Zf (P:=Tryz.prog) #[3,3] 3 hy W;obtain⟨k,hk⟩:∃k,k=(y+7) / 8:=⟨_,rfl⟩
 have h0:k=filL n:=by unfold filL;omega
 have t0:y<=1048576:=by omega
 have g0:((y:Int)+7) / 8=(k:Int):=by omega
 have j0:k<=131072:=by omega
 have m0:∀W:World,(Instr.makeSlice 25 (.int .i64 (k:Int)) (.int .i64 (k:Int))).run Tryz.prog W = .ok (.slice (some ⟨W.heap.size,0,none⟩) k k) (W.alloc (.cells (madeCells #[.int .u8 0] k) 5)):=fun W=>by
  have h:=run_make (P:=Tryz.prog) W 25 5 _ _ Tryz.underlying25 rfl rfl .i64 .i64 (k:Int) (k:Int) (by omega) (by omega) (by show (1:Int)*k<=_;omega) (by omega);rw[h];simp only[Int.toNat_natCast];show Result.ok _ (W.alloc (.cells (madeCells #[.int .u8 0] (k*1)) 5))=_;rw[Nat.mul_one]
 replace hx:=ZA hx;replace q0:=ZA q0;replace hy:=ZA hy;replace hk:=ZA hk;replace h0:=ZA h0;go_enter Tryz.func89,Tryz.ntmps89;go_wp2_with fail;go_ret2;have h1:=Row.new w 5 (madeCells #[.int .u8 0] k);have h2:=Row.new (w.alloc (.cells (madeCells #[.int .u8 0] k) 5)) 166 #[.slice (some ⟨w.heap.size,0,none⟩) k k];rw[World.size_alloc]at h2;refine⟨w.heap.size+1,rfl,by omega,⟨w.heap.size,k,_,by rw[List.length_replicate,<-h0.out];exact h2,Nat.le_refl _,h1.alloc _,by rw[List.length_replicate,<-h0.out];exact Nat.le_refl _,by rw[size_madeCells];exact Nat.le_refl _,?_⟩,((Ext.refl w).alloc _).alloc _⟩;rw[List.length_replicate,<-h0.out,toList_madeCells_one,List.take_of_length_le (by simp),List.map_replicate];rfl
def NewF1 (w:World) (f:List UInt8) (e:Ending) (w':World):Prop:=∃g,e = .returned (.pointer (some ⟨g,0,none⟩))/\w.heap.size<=g/\FilO w' w.heap.size g f/\Ext w w'
theorem ZNI (A:Option Addr) (n c:Nat) (ts:List (List UInt8)) (w:World) (hn:n=ts.length) (j0:Cells w A (ts.map strV)) (t0:n<=1000000000) (hlen:∀t∈ts,t.length<=1000000000) :
 Calls Tryz.prog 45 #[.slice A n c] w fun e w'=>NewF1 w (ofB ts) e w':=by
 obtain⟨x,hx⟩:∃x:Nat,(x:Int)=min (n:Int) 262144:=⟨min n 262144,by omega⟩
 have m0:=fun(W:World)=>Zf (P:=Tryz.prog) #[3,3] 3 hx W;have g0:x=min ts.length 262144:=by omega
 have v0:=ZA (fun W=>ZMn x W (by omega));have h0:=ZA (fun g W (h:FilO W w.heap.size g (List.replicate (filL x) 0)) (hE:Ext w W)=>ZNo g w.heap.size (List.replicate (filL x) 0) A n c ts w W h (by rw[List.length_replicate];have:=ZDU x;omega) (by rw[List.length_replicate];have:=ZDU x;omega) hn j0 hE (Nat.le_refl _) t0 hlen);have k0:ts.foldl addB (List.replicate (filL x) 0)=ofB ts:=by unfold ofB;rw[g0]
 rw[k0]at h0;replace hx:=ZA hx;replace g0:=ZA g0;replace hn:=ZA hn;replace k0:=ZA k0;replace j0:=ZA j0;replace hlen:=ZA hlen;go_enter Tryz.func45,Tryz.ntmps45;go_wp2_with fail;refine(v0.out _).mono ?_;rintro e w1 ⟨g,rfl,hg,hF,hE⟩;replace hF:=ZA hF;replace hE:=ZA hE;go_wp2_with fail;refine(h0.out g _ hF.out hE.out).mono ?_;rintro e w2 ⟨z,rfl,p0,q0⟩;replace p0:=ZA p0;replace q0:=ZA q0;go_wp2_with fail;go_ret;exact⟨g,rfl,hg,p0.out,q0.out⟩
theorem ZJB (g:Nat) (f:List UInt8) (w:World) (h:FilR w g f) (hf:0<f.length) (p0:f.length<=131072) :
 Calls Tryz.prog 46 #[.pointer (some ⟨g,0,none⟩)] w fun e w'=>NewB w f e w':=by
 have q0:=ZA (ZFY g f w h hf);obtain⟨A,c,hr,hi⟩:=h;have k0:=hr.cell 0 rfl;have h0:=ZA (ZAq A f.length c f w rfl hi.bytes hi.nil_ (by omega));obtain⟨n,hn⟩:∃n,n=f.length:=⟨_,rfl⟩
 rw[<-hn]at k0 h0;replace hn:=ZA hn;replace hr:=ZA hr;replace hi:=ZA hi;go_enter Tryz.func46,Tryz.ntmps46;go_wp2_with fail;refine q0.out.mono ?_;rintro e w1 ⟨rfl,hw⟩;obtain rfl:=hw.symm;go_wp2_with fail;refine h0.out.mono ?_;rintro e w2 ⟨A1,c1,rfl,hB,hE⟩;replace hB:=ZA hB;replace hE:=ZA hE;go_wp2_with fail;go_ret;exact⟨A1,c1,by rw[<-hn.out];rfl,by rw[<-hn.out];exact hB.out,hE.out⟩
theorem ZKh (A:Option Addr) (n c:Nat) (f:List UInt8) (w:World) (h:In8 w A n c f) (hf:8<=n) (p0:n<=131072) :
 Calls Tryz.prog 53 #[.slice A n c] w fun e w'=>NewF w f e w':=by
 have q0:=ZA (ZAq A n c f w h.len h.bytes h.nil_ (by omega));have h0:=ZA h.len;replace h:=ZA h;go_enter Tryz.func53,Tryz.ntmps53;go_wp2_with fail;refine q0.out.mono ?_;rintro e w1 ⟨A1,c1,rfl,hB,hE⟩;replace hB:=ZA hB;replace hE:=ZA hE;go_wp2_with fail;go_ret2;have h2:=Row.new w1 166 #[.slice A1 n c1];obtain⟨h3,h4,h5⟩:=hB.out;rcases h5 with ⟨_,h6⟩ | ⟨b,cur,rfl,hb,hr,hc,ht⟩
 ·omega
 ·exact⟨w1.heap.size,rfl,hE.out.size,⟨b,c1,cur,by rw[<-h0.out];exact h2,hb,hr.alloc _,by rw[<-h0.out];exact h4,hc,by rw[<-h0.out];exact ht⟩,hE.out.alloc _⟩
end
section
open Go.RowKit
def dstOf (ops:Array Oper) (j:Nat):Option Tmp:=(ops[j]?).bind (·.dst)
structure KnowOps (md:Region.Mode) (ops:Array Oper) (base:Array Bool) (N:Nat):Prop where
  acyc:(List.range ops.size).all (fun i=>((ops[i]?).map fun o=>o.after.all fun e=> !Region.binds md e || decide (e.on<i)).getD true)=true
  nodup:(ops.toList.filterMap (·.dst)).Nodup
  bound:ops.toList.all (fun o=>match o.dst with | some d=>decide (d<N) | none=>true)=true
  size:base.size=ops.size
def lack (ops:Array Oper) (listed:Array Bool):List Nat:=(List.range ops.size).filter fun i=> !listed.getD i true
theorem ZE9 {ops:Array Oper} {listed:Array Bool} {i:Nat} (hi:i∈lack ops listed):(lack ops (listed.setIfInBounds i true)).length<(lack ops listed).length:=by
 unfold lack at hi ⊢;obtain⟨hr,hl⟩:=List.mem_filter.1 hi;have h0:i<listed.size:=by
  apply Decidable.byContradiction;intro h;rw[Array.getD_eq_getD_getElem?,Array.getElem?_eq_none (by omega)]at hl;simp at hl
 have h1:((List.range ops.size).filter fun j=> !(listed.setIfInBounds i true).getD j true)=(((List.range ops.size).filter fun j=> !listed.getD j true).filter fun j=>decide (j≠i)):=by
  rw[List.filter_filter];refine List.filter_congr fun j _=>?_;rw[Array.getD_eq_getD_getElem?,Array.getD_eq_getD_getElem?,Array.getElem?_setIfInBounds];by_cases h:i=j
  ·subst h;simp[h0]
  ·have:¬ j=i:=fun e=>h e.symm;simp[h,this]
 rw[h1];exact List.length_filter_lt_length_iff_exists.2 ⟨i,hi,by simp⟩
theorem ZAQ {md:Region.Mode} {ops:Array Oper} {listed:Array Bool} {i:Nat} (hi:i∈Region.ready md ops listed):i∈lack ops listed/\∃o,ops[i]? = some o/\∀e∈o.after,Region.binds md e=true->listed.getD e.on false=true:=by
 unfold Region.ready at hi;obtain⟨hr,hl⟩:=List.mem_filter.1 hi;rw[Bool.and_eq_true]at hl;refine⟨List.mem_filter.2 ⟨hr,hl.1⟩,?_⟩;cases ho:ops[i]? with
 | none=>rw[ho]at hl;simp at hl
 | some o =>
  rw[ho]at hl;simp only[Option.map_some,Option.getD_some]at hl;refine⟨o,rfl,fun e he hb=>?_⟩;have h2:=hl.2;rw[Array.all_eq_true_iff_forall_mem]at h2;have:=h2 e he;rw[hb]at this;simpa using this
theorem ZCP {md:Region.Mode} {ops:Array Oper} {base listed:Array Bool} {N:Nat} (hk:KnowOps md ops base N) (hs:listed.size=ops.size) (h0:Region.ready md ops listed = []):lack ops listed = []:=by
 apply Decidable.byContradiction;intro g0;have key:∀i,i∉lack ops listed:=by
  intro i
  induction i using Nat.strongRecOn with
  | ind i ih =>
   intro hi;obtain⟨hr,hl⟩:=List.mem_filter.1 hi;have j0:i<ops.size:=List.mem_range.1 hr;have:i∈Region.ready md ops listed:=by
    unfold Region.ready;refine List.mem_filter.2 ⟨hr,?_⟩;rw[hl,Bool.true_and];have ho:ops[i]? = some ops[i]:=Array.getElem?_eq_getElem j0;rw[ho,Option.map_some,Option.getD_some];rw[Array.all_eq_true_iff_forall_mem];intro e he;have p0:=hk.acyc;rw[List.all_eq_true]at p0;have h1:=p0 i hr;rw[ho,Option.map_some,Option.getD_some,Array.all_eq_true_iff_forall_mem]at h1;cases k0:Region.binds md e with
    | false=>simp
    | true =>
    have q0:=h1 e he;rw[k0]at q0;have h2:e.on<i:=by simpa using q0
    have h3:=ih e.on h2;have h4:listed.getD e.on true=true:=by
     apply Decidable.byContradiction;intro h5;exact h3 (List.mem_filter.2 ⟨List.mem_range.2 (by omega),by simpa using h5⟩)
    have h6:e.on<listed.size:=by omega
    rw[Array.getD_eq_getD_getElem?,Array.getElem?_eq_getElem h6]at h4;rw[Array.getD_eq_getD_getElem?,Array.getElem?_eq_getElem h6];simp at h4 ⊢;rw[h4]
    try simp
   rw[h0]at this;cases this
 cases hl:lack ops listed with
 | nil=>exact g0 hl
 | cons i t=>exact key i (by rw[hl];exact List.mem_cons_self ..)
theorem ZC8 {ops:Array Oper} (h:(ops.toList.filterMap (·.dst)).Nodup) {i j:Nat} {d:Tmp} (hi:dstOf ops i=some d) (hj:dstOf ops j=some d):i=j:=by
 unfold dstOf at hi hj;obtain⟨oi,k0,h0⟩:=Option.bind_eq_some_iff.1 hi;obtain⟨oj,j0,q0⟩:=Option.bind_eq_some_iff.1 hj;have h1:ops.toList[i]? = some oi:=by simpa using k0
 have h2:ops.toList[j]? = some oj:=by simpa using j0
 generalize ops.toList=l at h h1 h2;clear k0 j0 hi hj
 induction l generalizing i j with
 | nil=>simp at h1
 | cons x t ih =>
  have p0:∀ {k:Nat} {o:Oper},t[k]? = some o->o.dst=some d->d∈t.filterMap (·.dst):=fun {k o} hk ho=>List.mem_filterMap.2 ⟨o,List.mem_of_getElem? hk,ho⟩;cases hx:x.dst with
  | none =>
   rw[List.filterMap_cons_none hx]at h;cases i with
   | zero=>simp at h1;subst h1;rw[hx]at h0;cases h0
   | succ i =>
    cases j with
    | zero=>simp at h2;subst h2;rw[hx]at q0;cases q0
    | succ j=>exact congrArg (· + 1) (ih h (by simpa using h1) (by simpa using h2))
  | some dx =>
   rw[List.filterMap_cons_some hx,List.nodup_cons]at h;cases i with
   | zero =>
    simp at h1;subst h1;rw[hx]at h0;cases h0;cases j with
    | zero=>rfl
    | succ j=>exact absurd (p0 (by simpa using h2) q0) h.1
   | succ i =>
    cases j with
    | zero =>
     simp at h2;subst h2;rw[hx]at q0;cases q0;exact absurd (p0 (by simpa using h1) h0) h.1
    | succ j=>exact congrArg (· + 1) (ih h.2 (by simpa using h1) (by simpa using h2))
structure KnowA (ops:Array Oper) (base:Array Bool) (a0:Act) (wx:World) (a:Act) (w:World):Prop where
  size:a.tmps.size=a0.tmps.size
  defers:a.defers=a0.defers
  same:∀(d:Nat) (_:(List.range ops.size).all (fun j=>base.getD j true || decide (dstOf ops j≠some d))=true:=by kernel_rfl),a.tmps[d]? = a0.tmps[d]?
  ext:Ext wx w
theorem ZHI {P:Program} {md:Region.Mode} {ops:Array Oper} {Q:Exit->Act->World->Prop} {S:World->Prop} {base:Array Bool} {a0:Act} {wx:World} (hk:KnowOps md ops base a0.tmps.size) (H:Nat->Value->World->Prop)
 (hm:∀j v w w',H j v w->Ext w w'->H j v w') (hS:∀w,Ext wx w->S w)
 (j0:∀i o,ops[i]? = some o->base.getD i true=false->∀a w,KnowA ops base a0 wx a w->(∀e∈o.after,Region.binds md e=true->base.getD e.on true=false->∀d,dstOf ops e.on=some d->H e.on (a.tmps.getD d undef) w) ->
  if Region.wanted o (yielded ops a.tmps)=true then Oper.wp P o a w (fun a' w'=>∃v,a'=a.put o.dst v/\H i v w'/\Ext w w') Q else H i undef w)
 (u0:∀a w,KnowA ops base a0 wx a w->(∀j d,base.getD j true=false->dstOf ops j=some d->H j (a.tmps.getD d undef) w)->Q .normal a w) :
 ∀(fuel:Nat) (listed:Array Bool) (a:Act) (w:World),listed.size=ops.size->(lack ops listed).length<=fuel->(∀j,base.getD j true=true->listed.getD j true=true)->KnowA ops base a0 wx a w ->
  (∀j d,base.getD j true=false->listed.getD j true=true->dstOf ops j=some d->H j (a.tmps.getD d undef) w)->wpAnyH P md ops Q S fuel listed a w:=by
 have p0:∀(listed:Array Bool) (a:Act) (w:World),lack ops listed = []->listed.size=ops.size->KnowA ops base a0 wx a w->(∀j d,base.getD j true=false->listed.getD j true=true->dstOf ops j=some d->H j (a.tmps.getD d undef) w)->Q .normal a w:=fun listed a w hl hs ha hh=>u0 a w ha fun j d hb hd=>hh j d hb (by
  apply Decidable.byContradiction;intro hn;have hj:j<ops.size:=by
   unfold dstOf at hd;obtain⟨o,ho,_⟩:=Option.bind_eq_some_iff.1 hd;exact(Array.getElem?_eq_some_iff.1 ho).1
  have:j∈lack ops listed:=List.mem_filter.2 ⟨List.mem_range.2 hj,by simpa using hn⟩;rw[hl]at this;cases this) hd
 intro fuel
 induction fuel with
 | zero =>
  intro listed a w hs hf hb ha hh;have h0:lack ops listed = []:=List.length_eq_zero_iff.1 (by omega);refine⟨?_,p0 listed a w h0 hs ha hh⟩;cases hr:Region.ready md ops listed with
  | nil=>rfl
  | cons i t =>
   have:=(ZAQ (md:=md) (ops:=ops) (listed:=listed) (i:=i) (by rw[hr];exact List.mem_cons_self ..)).1;rw[h0]at this;cases this
 | succ fuel ih =>
  intro listed a w hs hf hb ha hh;refine⟨fun h0=>p0 listed a w (ZCP hk hs h0) hs ha hh,fun i hi=>?_⟩;obtain⟨g0,o,ho,t0⟩:=ZAQ hi;have b0:=(List.mem_filter.1 g0).2;have x0:i<listed.size:=by rw[hs];exact List.mem_range.1 (List.mem_filter.1 g0).1
  have z0:base.getD i true=false:=by
   apply Decidable.byContradiction;intro hn;have:=hb i (by simpa using hn);rw[this]at b0;cases b0
  have m0:=j0 i o ho z0 a w ha fun e he c0 d0 d hd=>hh e.on d d0 (by
   have h1:=t0 e he c0;rw[Array.getD_eq_getD_getElem?]at h1 ⊢;cases hx:listed[e.on]? with
   | none=>simp
   | some b=>rw[hx]at h1;simpa using h1) hd
  have q0:∀v w',H i v w'->Ext w w'->S w'/\wpAnyH P md ops Q S fuel (listed.setIfInBounds i true) (a.put o.dst v) w':=fun v w' hv hE=>by
   have i0:∀j,(listed.setIfInBounds i true).getD j true=true->j=i\/listed.getD j true=true:=fun j hj=>by
    by_cases e:j=i
    ·exact .inl e
    ·rw[Array.getD_eq_getD_getElem?,Array.getElem?_setIfInBounds_ne (fun h=>e h.symm),<-Array.getD_eq_getD_getElem?]at hj;exact .inr hj
   have k0:∀d,o.dst≠some d->(a.put o.dst v).tmps[d]? = a.tmps[d]? :=fun d hd=>by
    unfold Act.put;cases r0:o.dst with
    | none=>rfl
    | some d' =>
     simp only;rw[Array.getElem?_setIfInBounds_ne];intro e;exact hd (by rw[r0,e])
   have s0:(a.put o.dst v).tmps.size=a.tmps.size:=by
    unfold Act.put;cases o.dst with
    | none=>rfl
    | some d'=>simp
   have f0:(a.put o.dst v).defers=a.defers:=by
    unfold Act.put;cases o.dst <;> rfl
   have v0:dstOf ops i=o.dst:=by unfold dstOf;rw[ho];rfl
   refine⟨hS _ (ha.ext.trans hE),ih _ _ _ (by simpa using hs) (by have:=ZE9 g0;omega) (fun j hj=>?_) ⟨by rw[s0];exact ha.size,by rw[f0];exact ha.defers,fun d hd=>?_,ha.ext.trans hE⟩ fun j d e0 l0 hd=>?_⟩
   ·have:=hb j hj;by_cases e:j=i
    ·subst e;rw[Array.getD_eq_getD_getElem?,Array.getElem?_setIfInBounds,if_pos rfl,if_pos x0];rfl
    ·rw[Array.getD_eq_getD_getElem?,Array.getElem?_setIfInBounds_ne (fun h=>e h.symm),<-Array.getD_eq_getD_getElem?];exact this
   ·rw[k0 d (by
     rw[List.all_eq_true]at hd;have:=hd i (List.mem_filter.1 g0).1;rw[z0,Bool.false_or]at this;rw[<-v0];exact of_decide_eq_true this)]
    exact ha.same d hd
   ·by_cases e:j=i
    ·subst e;rw[v0]at hd;have n0:d<a.tmps.size:=by
      have y0:=hk.bound;rw[List.all_eq_true]at y0;have:=y0 o (by simpa using Array.mem_of_getElem? ho);rw[hd]at this;rw[ha.size];exact of_decide_eq_true this
     have:(a.put o.dst v).tmps.getD d undef=v:=by
      unfold Act.put;rw[hd,Array.getD_eq_getD_getElem?,Array.getElem?_setIfInBounds,if_pos rfl,if_pos n0];rfl
     rw[this];exact hv
    ·have o0:o.dst≠some d:=fun h=>e (ZC8 hk.nodup hd (v0.trans h));rw[Array.getD_eq_getD_getElem?,k0 d o0,<-Array.getD_eq_getD_getElem?];exact hm j _ _ _ (hh j d e0 ((i0 j l0).resolve_left e) hd) hE
  unfold wpOp;rw[ho];simp only;split
  ·rename_i hw;rw[if_pos hw]at m0;exact .inl (Oper.wp_mono (fun a' w' ⟨v,he,hv,hE⟩=>by rw[he];exact q0 v w' hv hE) m0)
  ·rename_i hw;rw[if_neg hw]at m0;exact q0 undef w m0 (Ext.refl w)
section
variable {P:Program} {ops:Array Oper} {Q:Exit->Act->World->Prop} {o:Oper} {a:Act} {w:World} {H:Value->World->Prop} {E0:Prop}
theorem ZD0 {f:Nat} {xs:Array Operand} {ts:Array TypeId} {vs:Array Value} (ho:o.op = .call { callee:= .value (.func f),args:=xs,argTypes:=ts }) (h0:o.guard=none) (eg:∀args w,(callFunc f args).run P w = .ok (.enter f args) w) (hx:xs.map a.eval=vs)
 (hc:Calls P f vs w fun e w'=>∃u,e = .returned u/\H u w'/\Ext w w'):if Region.wanted o (yielded ops a.tmps)=true then Oper.wp P o a w (fun a' w'=>∃v,a'=a.put o.dst v/\H v w'/\Ext w w') Q else E0:=by
 rw[if_pos (by simp[Region.wanted,h0])];have hr:(execOp a.eval o).run P w = .ok (.enter f vs) w:=by
  unfold execOp;simp[ho,resolve,invoke,go_sem,eg,hx]
 unfold Oper.wp;rw[hr,Oper.upon_enter];refine hc.mono ?_;rintro e w' ⟨u,rfl,h,hE⟩;exact⟨u,rfl,h,hE⟩
theorem ZQ {v:Value} {w':World} (hr:(execOp a.eval o).run P w = .ok (.value v) w') (h0:o.guard=none) (h:H v w') (hE:Ext w w'):if Region.wanted o (yielded ops a.tmps)=true then Oper.wp P o a w (fun a' w'=>∃v,a'=a.put o.dst v/\H v w'/\Ext w w') Q else E0:=by
 rw[if_pos (by simp[Region.wanted,h0])];unfold Oper.wp;rw[hr,Oper.upon_value];exact⟨v,rfl,h,hE⟩
theorem ZP {x:Operand} {v:Value} (ho:o.op = .move x\/o.op = .assign x) (hx:a.eval x=v):(execOp a.eval o).run P w = .ok (.value v) w:=by
 unfold execOp;rcases ho with ho | ho <;> simp[ho,hx]
theorem Zi {t:TypeId} {x:Operand} {q v:Value} (ho:o.op = .load t x) (hx:a.eval x=q) (hr:(Instr.loadAt t q).run P w = .ok v w):(execOp a.eval o).run P w = .ok (.value v) w:=by
 unfold execOp;simp[ho,hx,hr,Result.andThen]
theorem ZL {t:TypeId} {x:Operand} {k:Nat} {q v:Value} (ho:o.op = .fieldAddr t x k) (hx:a.eval x=q) (hr:(Instr.fieldAt t q k).run P w = .ok v w):(execOp a.eval o).run P w = .ok (.value v) w:=by
 unfold execOp;simp[ho,hx,hr,Result.andThen]
theorem ZEl {x:Operand} {k:Nat} {vs:Array Value} {v:Value} (ho:o.op = .extract x k) (hx:a.eval x = .tuple vs) (hv:(Instr.extract (.tuple vs) k).run P w = .ok v w):(execOp a.eval o).run P w = .ok (.value v) w:=by
 unfold execOp;simp[ho,hx,hv,Result.andThen]
theorem ZCE {t:TypeId} {n:Nat} {parts:Array (Nat×Operand)} {vs:Array (Nat×Value)} {v:Value} {w':World} (ho:o.op = .buildSlice t n parts) (hx:parts.map (fun p=>(p.1,a.eval p.2))=vs) (hr:(Instr.buildSlice t n vs).run P w = .ok v w'):(execOp a.eval o).run P w = .ok (.value v) w':=by
 unfold execOp;simp[ho,hx,hr,Result.andThen]
theorem ZE {t:Tmp} {v:Value} (h:a.tmps.getD t undef=v):a.eval (.tmp t)=v:=h
theorem ZI {a0:Act} {t:Tmp} (h:a.tmps[t]? = a0.tmps[t]?):a.eval (.tmp t)=a0.eval (.tmp t):=by
 show a.tmps.getD t undef=a0.tmps.getD t undef;rw[Array.getD_eq_getD_getElem?,Array.getD_eq_getD_getElem?,h]
end
def KStep (P:Program) (md:Region.Mode) (ops:Array Oper) (Q:Exit->Act->World->Prop) (base:Array Bool) (a0:Act) (wx:World) (H:Nat->Value->World->Prop) (i:Nat) (o:Oper):Prop :=
 ∀a w,KnowA ops base a0 wx a w->(∀(j d:Nat) (_:(o.after.any fun e=>e.on==j&&Region.binds md e)=true:=by kernel_rfl) (_:base.getD j true=false:=by kernel_rfl) (_:dstOf ops j=some d:=by kernel_rfl),H j (a.tmps.getD d undef) w) ->
  if Region.wanted o (yielded ops a.tmps)=true then Oper.wp P o a w (fun a' w'=>∃v,a'=a.put o.dst v/\H i v w'/\Ext w w') Q else H i undef w
def KSteps (P:Program) (md:Region.Mode) (ops:Array Oper) (Q:Exit->Act->World->Prop) (base:Array Bool) (a0:Act) (wx:World) (H:Nat->Value->World->Prop) (l:List Nat):Prop :=
 ∀i∈l,∀o,ops[i]? = some o->KStep P md ops Q base a0 wx H i o
section
variable {P:Program} {md:Region.Mode} {ops:Array Oper} {Q:Exit->Act->World->Prop} {base:Array Bool} {a0:Act} {wx:World} {H:Nat->Value->World->Prop}
theorem KSteps.nil:KSteps P md ops Q base a0 wx H []:=fun _ h=>absurd h List.not_mem_nil
theorem KSteps.cons {i:Nat} {o:Oper} {l:List Nat} (h0:ops[i]? = some o) (h:KStep P md ops Q base a0 wx H i o) (hs:KSteps P md ops Q base a0 wx H l):KSteps P md ops Q base a0 wx H (i::l):=fun j hj o' q0=>by
 rcases List.mem_cons.1 hj with rfl | hj
 ·rw[h0]at q0;cases q0;exact h
 ·exact hs j hj o' q0
theorem KSteps.all {l:List Nat} (hs:KSteps P md ops Q base a0 wx H l) (hl:(List.range ops.size).all (fun i=>base.getD i true || l.contains i)=true) :
 ∀i o,ops[i]? = some o->base.getD i true=false->∀a w,KnowA ops base a0 wx a w->(∀e∈o.after,Region.binds md e=true->base.getD e.on true=false->∀d,dstOf ops e.on=some d->H e.on (a.tmps.getD d undef) w) ->
  if Region.wanted o (yielded ops a.tmps)=true then Oper.wp P o a w (fun a' w'=>∃v,a'=a.put o.dst v/\H i v w'/\Ext w w') Q else H i undef w:=fun i o ho hb a w ha hd=>by
 rw[List.all_eq_true]at hl;have h1:=hl i (List.mem_range.2 (Array.getElem?_eq_some_iff.1 ho).1);rw[hb,Bool.false_or]at h1;refine hs i (by simpa using h1) o ho a w ha fun j d hj q0 p0=>?_;rw[Array.any_eq_true']at hj;obtain⟨e,he,h0⟩:=hj;rw[Bool.and_eq_true]at h0;have k0:e.on=j:=by simpa using h0.1
 subst k0;exact hd e he h0.2 q0 d p0
def dsK (ops:Array Oper) (base:Array Bool):List Tmp:=(List.range ops.size).filterMap fun j=>if base.getD j true then none else dstOf ops j
theorem KnowA.act {a:Act} {w:World} (h:KnowA ops base a0 wx a w) (ds:List Tmp) (q0:dsK ops base=ds):a = { tmps:=ds.foldl (fun t d=>t.setIfInBounds d (a.tmps.getD d undef)) a0.tmps,defers:=a0.defers }:=by
 have key:∀(ds:List Tmp) (t0:Array Value),t0.size=a.tmps.size->(∀d,d∉ds->a.tmps[d]? = t0[d]?)->a.tmps=ds.foldl (fun t d=>t.setIfInBounds d (a.tmps.getD d undef)) t0:=by
  intro ds
  induction ds with
  | nil =>
   intro t0 hs hn;exact Array.ext_getElem? fun d=>hn d List.not_mem_nil
  | cons x xs ih =>
   intro t0 hs hn;refine ih _ (by simpa using hs) fun d hd=>?_;rw[Array.getElem?_setIfInBounds];by_cases e:x=d
   ·subst e;rw[if_pos rfl];by_cases h0:x<t0.size
    ·rw[if_pos h0,Array.getD_eq_getD_getElem?,Array.getElem?_eq_getElem (by rw[<-hs];exact h0)];rfl
    ·rw[if_neg h0,Array.getElem?_eq_none (by rw[<-hs];exact Nat.le_of_not_lt h0)]
   ·rw[if_neg e];exact hn d fun hm=>by
     rcases List.mem_cons.1 hm with h | h
     ·exact e h.symm
     ·exact hd h
 have h1:=key ds a0.tmps h.size.symm fun d hd=>h.same d (by
  rw[List.all_eq_true];intro j hj;cases hb:base.getD j true with
  | true=>rfl
  | false =>
   rw[Bool.false_or];refine decide_eq_true fun he=>hd ?_;rw[<-q0];exact List.mem_filterMap.2 ⟨j,hj,by rw[hb];exact he⟩)
 rw[<-h1,<-h.defers]
theorem ZKQ {Hs:List (Value->World->Prop)} (h:∀p∈Hs,∀v w w',p v w->Ext w w'->p v w') (j:Nat) (v:Value) (w w':World) (hp:(Hs.getD j fun _ _=>True) v w) (hE:Ext w w'):(Hs.getD j fun _ _=>True) v w':=by
 rw[List.getD_eq_getElem?_getD]at hp ⊢;cases hj:Hs[j]? with
 | none=>trivial
 | some p =>
  rw[hj]at hp;exact h p (List.mem_of_getElem? hj) v w w' hp hE
end
end
section
open Go.RowKit
theorem ZAJ {w:World} {b k:Nat} {v:Value} (h:w.cell? ⟨b,k,none⟩=some v):(Instr.loadAt 3 (.pointer (some ⟨b,k,none⟩))).run Tryz.prog w = .ok v w:=by
 go_simp
theorem ZAC (w:World) (b:Nat):(Instr.fieldAt 74 (.pointer (some ⟨b,0,none⟩)) 2).run Tryz.prog w = .ok (.pointer (some ⟨b,2,none⟩)) w/\(Instr.fieldAt 74 (.pointer (some ⟨b,0,none⟩)) 3).run Tryz.prog w = .ok (.pointer (some ⟨b,3,none⟩)) w/\(Instr.fieldAt 74 (.pointer (some ⟨b,0,none⟩)) 4).run Tryz.prog w = .ok (.pointer (some ⟨b,4,none⟩)) w/\(Instr.fieldAt 74 (.pointer (some ⟨b,0,none⟩)) 5).run Tryz.prog w = .ok (.pointer (some ⟨b,5,none⟩)) w/\(Instr.fieldAt 74 (.pointer (some ⟨b,0,none⟩)) 6).run Tryz.prog w = .ok (.pointer (some ⟨b,6,none⟩)) w:=by
 refine⟨?_,?_,?_,?_,?_⟩ <;> go_simp
theorem ZNX (w:World) (a b c d e:Int):(Instr.buildSlice 40 5 #[(0,.int .i64 a),(1,.int .i64 b),(2,.int .i64 c),(3,.int .i64 d),(4,.int .i64 e)]).run Tryz.prog w = .ok (.slice (some ⟨w.heap.size,0,none⟩) 5 5) (w.alloc (.cells #[.int .i64 a,.int .i64 b,.int .i64 c,.int .i64 d,.int .i64 e] 3)):=by
 go_simp
theorem ZN8 (w:World) (a b c d e f:Option Addr) (na nb nc nd ne nf ca cb cc cd ce cf:Nat):(Instr.buildSlice 109 6 #[(0,.slice a na ca),(1,.slice b nb cb),(2,.slice c nc cc),(3,.slice d nd cd),(4,.slice e ne ce),(5,.slice f nf cf)]).run Tryz.prog w = .ok (.slice (some ⟨w.heap.size,0,none⟩) 6 6) (w.alloc (.cells #[.slice a na ca,.slice b nb cb,.slice c nc cc,.slice d nd cd,.slice e ne ce,.slice f nf cf] 25)):=by
 go_simp
def kEq (u:Value) (v:Value) (_:World):Prop:=v=u
def kSl (D:List UInt8) (v:Value) (w:World):Prop:=∃A c b,v = .slice A D.length c/\Buf w b 5 A D.length c (D.map B8)
def kFi (D:List UInt8) (v:Value) (w:World):Prop:=∃g b,v = .pointer (some ⟨g,0,none⟩)/\FilO w b g D
def kRi (a b c d e:Int) (v:Value) (w:World):Prop:=∃g,v = .slice (some ⟨g,0,none⟩) 5 5/\Row w g 3 #[.int .i64 a,.int .i64 b,.int .i64 c,.int .i64 d,.int .i64 e]
def kSx (v1 v3 v4:Value) (DT D7 DV:List UInt8) (v:Value) (w:World):Prop:=∃g BT cT bT BY cY bY BV cV bV,v = .slice (some ⟨g,0,none⟩) 6 6/\Cells w (some ⟨g,0,none⟩) [v1,.slice BT DT.length cT,v3,v4,.slice BY D7.length cY,.slice BV DV.length cV] /\
 Buf w bT 5 BT DT.length cT (DT.map B8)/\Buf w bY 5 BY D7.length cY (D7.map B8)/\Buf w bV 5 BV DV.length cV (DV.map B8)
def kTu (base:Nat) (J:List UInt8) (v:Value) (w:World):Prop:=∃A c,v = .tuple #[.slice A J.length c,.int .i64 0]/\Own8 w base A J.length c J
def kSj (base:Nat) (J:List UInt8) (v:Value) (w:World):Prop:=∃A c,v = .slice A J.length c/\Own8 w base A J.length c J
theorem ZOv (u:Value) (v:Value) (w w':World) (h:kEq u v w) (_:Ext w w'):kEq u v w':=h
theorem ZOl (D:List UInt8) (v:Value) (w w':World) (h:kSl D v w) (hE:Ext w w'):kSl D v w':=by obtain⟨A,c,b,h1,h2⟩:=h;exact⟨A,c,b,h1,h2.ext hE⟩
theorem ZOm (D:List UInt8) (v:Value) (w w':World) (h:kFi D v w) (hE:Ext w w'):kFi D v w':=by obtain⟨g,b,h1,h2⟩:=h;exact⟨g,b,h1,h2.ext hE⟩
theorem ZOw (a b c d e:Int) (v:Value) (w w':World) (h:kRi a b c d e v w) (hE:Ext w w'):kRi a b c d e v w':=by obtain⟨g,h1,h2⟩:=h;exact⟨g,h1,h2.ext hE⟩
theorem ZOr (v1 v3 v4:Value) (DT D7 DV:List UInt8) (v:Value) (w w':World) (h:kSx v1 v3 v4 DT D7 DV v w) (hE:Ext w w'):kSx v1 v3 v4 DT D7 DV v w':=by
 obtain⟨g,BT,cT,bT,BY,cY,bY,BV,cV,bV,h1,h2,h3,h4,h5⟩:=h;exact⟨g,BT,cT,bT,BY,cY,bY,BV,cV,bV,h1,h2.ext hE,h3.ext hE,h4.ext hE,h5.ext hE⟩
theorem ZOi (base:Nat) (J:List UInt8) (v:Value) (w w':World) (h:kTu base J v w) (hE:Ext w w'):kTu base J v w':=by obtain⟨A,c,h1,h2⟩:=h;exact⟨A,c,h1,h2.1,h2.2.ext hE⟩
theorem ZOn (base:Nat) (J:List UInt8) (v:Value) (w w':World) (h:kSj base J v w) (hE:Ext w w'):kSj base J v w':=by obtain⟨A,c,h1,h2⟩:=h;exact⟨A,c,h1,h2.1,h2.2.ext hE⟩
theorem ZLP {X:World} {D:List UInt8} {f:Nat} {vs:Array Value} (h:Calls Tryz.prog f vs X fun e w'=>NewB X D e w'):Calls Tryz.prog f vs X fun e w'=>∃u,e = .returned u/\kSl D u w'/\Ext X w':=h.mono (by
 rintro e w' ⟨A,c,rfl,hb,hE⟩;exact⟨_,rfl,⟨A,c,_,rfl,hb⟩,hE⟩)
end
end Go.Proofs.YtkdcnhnaiknaaaaGreat
