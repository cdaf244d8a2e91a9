/- Texts of one proof, joined. -/
import Derived.Test.YtpnlihgcboepeaaGreatPN03
import Derived.RangeFuncNested
import Derived.RangeFuncBound
import Derived.RangeFuncCalls
import Derived.RangeFuncLeaves
import Derived.OwnWalkIn
import Derived.TacticsInMore
import Derived.LoopNIn
import Derived.LoopIn
import Derived.Shelf.Abstract
import Derived.Maps.Keyed
import Derived.Maps.OwnOps
set_option linter.unusedSimpArgs false
set_option linter.unusedVariables false
set_option maxRecDepth 100000
set_option maxHeartbeats 16000000
namespace Go.Proofs.YtpnlihgcboepeaaGreat
open _root_.Go.Proofs.Tryz
variable {a:Act} {ops:Array Oper} {cs lb:Array Value} {Q:Exit → Act → World → Prop} {z z1 z2:Int} {ps:List (List UInt8)} {Hd' l p:List UInt8} {news xs:List Value} {B B1 X b1 b2 base c c' c2 c3 cl g gf i j k m m' n n3 q:Nat} {S:Nat → Prop} {o:Oper} {A A2 A3:Option Addr} {P:Program} {E e t t1 t2:TypeId} {V v:Value} {W W' W1 W6 w w' w0 w1:World}
section
open Go.RowKit
def Own8 (w:World) (base:Nat) (A:Option Addr) (n c:Nat) (l:List UInt8):Prop:=n=l.length/\Buf w base 5 A n c (l.map B8)
theorem Own8.nil_ (h:Own8 w base A n c l):A=none->c=0:=fun Y=>by
 obtain⟨_,_,_,d⟩:=h;rcases d with ⟨_,d⟩ | ⟨g,cur,H,_⟩
 ·exact d
 ·rw[Y]at H;cases H
theorem NewB.own {e:Ending} (h:NewB w l e w') (hb:w0.heap.size<=w.heap.size):∃A c,e = .returned (.slice A l.length c)/\Own8 w' w0.heap.size A l.length c l/\Ext w w':=by
 obtain⟨A,c,Y,d,H⟩:=h;exact⟨A,c,Y,⟨rfl,d.lower hb⟩,H⟩
theorem AH (h:m<18446744073709551616):IntKind.u64.wrap (m:Int)=(m:Int):=by
 simp[IntKind.wrap,IntKind.bits,IntKind.signed];omega
theorem Hc {fs:List Fd} {f:Fd} (h:fs[i]? = some f):putFs (fs.take (i+1))=putFs (fs.take i)++txL f.1++txL f.2:=by
 unfold putFs;rw[Ei h,List.flatMap_append];simp[putF]
theorem DQ {fs:List Fd} (h:∀f∈fs,f.1.length<=32/\f.2.length<=4096) (i:Nat):(putFs (fs.take i)).length<=5000*fs.length:=by
 have h1:=IR (fs:=fs.take i) fun f d=>h f (List.mem_of_mem_take d);have h2:=I7 (fs:=fs.take i) fun f d=>h f (List.mem_of_mem_take d);have U:=List.length_take_le i fs;have Y:∀ {gs:List Fd},(∀f∈gs,f.1.length<=32/\f.2.length<=4096)->sizeFs gs<=4128*gs.length:=by
  intro gs
  induction gs with
  | nil=>intro _;simp[sizeFs]
  | cons f gs ih =>
   intro h;have h1:=ih fun x J=>h x (by simp[J]);have d:=h f (by simp);have H:sizeFs (f::gs)=f.1.length+f.2.length+sizeFs gs:=by unfold sizeFs;rw[List.map_cons,List.sum_cons];rfl
   rw[H,List.length_cons];omega
 have H:=Y (gs:=fs.take i) fun f d=>h f (List.mem_of_mem_take d);have O:(fs.take i).length<=fs.length:=by rw[List.length_take];omega
 omega
theorem NG (A:Option Addr) (n c:Nat) (l:List UInt8) (e:Ev) (B:Option Addr) (d:Nat) (w:World) (hn:n=l.length) (hl:Bs w A l) (hz:A=none->c=0) (r3:n<=100000000) (h:e.Ok w B) (hk:checkE e.fs=0) (ha:I64ok' e.at_) :
 Calls prog 259 #[.slice A n c,e.val B d] w fun en w'=>NewB w (l++putE e) en w':=by
 obtain⟨x2,y0⟩:=AM hk;have p1:l++putE e=(l++vb (zig e.at_)++vb e.fs.length)++putFs (e.fs.take e.fs.length):=by unfold putE;rw[List.take_length];simp
 rw[p1];obtain⟨at_,fs⟩:=e;obtain⟨hc,_,_⟩:=h;unfold Ev.val;simp only at hc x2 y0 ha ⊢;have o0:=DQ y0;obtain⟨m,hm⟩:=Ab fs.length;rw[<-hm]at x2 o0 ⊢;obtain⟨W,hW⟩:=Ab (w.alloc (.cells #[.int .i64 at_,.slice B m d] 93));have p0:Ext w W:=by rw[hW];exact(Ext.refl w).alloc _
 have hr:Row W w.heap.size 93 #[.int .i64 at_,.slice B m d]:=by rw[hW];exact Row.new w _ _
 obtain⟨b,hb⟩:=Ab w.heap.size;rw[<-hb]at hr;have h3:=Co (CM ha.1 ha.2);have m2:=Co (n:=m) (by omega);obtain⟨L1,b0⟩:=Ab (l++vb (zig at_));obtain⟨L2,c0⟩:=Ab (L1++vb m);have o1:L1.length<=100000010:=by rw[b0,List.length_append];omega
 have i3:L2.length<=100000020:=by rw[c0,List.length_append];omega
 rw[<-b0,<-c0];have f1:W.cell? ⟨b,0,none⟩=some (.int .i64 at_)/\W.cell? ⟨b,1,none⟩=some (.slice B m d)/\Ext W W:=⟨hr.cell 0 rfl,hr.cell 1 rfl,Ext.refl W⟩
 have e0:W.drew.cell? ⟨b,0,none⟩=some (.int .i64 at_)/\W.drew.cell? ⟨b,1,none⟩=some (.slice B m d)/\Ext W W.drew:=⟨hr.cell 0 rfl,hr.cell 1 rfl,(Ext.refl W).drew⟩
 have l0:∀x,(x.cell? ⟨b,0,none⟩=some (.int .i64 at_)/\x.cell? ⟨b,1,none⟩=some (.slice B m d)/\Ext W x)->Calls prog 164 #[.slice A n c,.int .i64 at_] x fun e y=>∃A1 c1,e = .returned (.slice A1 L1.length c1)/\Own8 y w.heap.size A1 L1.length c1 L1/\(y.cell? ⟨b,0,none⟩=some (.int .i64 at_)/\y.cell? ⟨b,1,none⟩=some (.slice B m d)/\Ext W y):=fun x ⟨h0,h1,hE⟩ =>
  (EF A n c at_ l x hn (hl.ext (p0.trans hE)) hz (by omega) ha.1 ha.2).mono fun e y hy=>by
   obtain⟨A1,c1,he,J,Y⟩:=NewB.own hy (p0.trans hE).size;rw[<-b0]at he J;exact⟨A1,c1,he,J,Y.cell h0,Y.cell h1,hE.trans Y⟩
 have n0:∀x A1 c1,Own8 x w.heap.size A1 L1.length c1 L1->(x.cell? ⟨b,0,none⟩=some (.int .i64 at_)/\x.cell? ⟨b,1,none⟩=some (.slice B m d)/\Ext W x)->Calls prog 157 #[.slice A1 L1.length c1,.int .u64 (m:Int)] x fun e y=>∃A2 c2,e = .returned (.slice A2 L2.length c2)/\Own8 y w.heap.size A2 L2.length c2 L2/\(y.cell? ⟨b,0,none⟩=some (.int .i64 at_)/\y.cell? ⟨b,1,none⟩=some (.slice B m d)/\Ext W y):=fun x A1 c1 J ⟨h0,h1,hE⟩ =>
  (Cm A1 L1.length c1 m L1 x rfl J.2.cells J.nil_ (by omega) (by omega)).mono fun e y hy=>by
   obtain⟨A2,c2,he,I,Y⟩:=NewB.own hy (p0.trans hE).size;rw[<-c0]at he I;exact⟨A2,c2,he,I,Y.cell h0,Y.cell h1,hE.trans Y⟩
 replace l0:=Aa l0;replace n0:=Aa n0;replace f1:=Aa f1;replace e0:=Aa e0;have q4:=AH (m:=m) (by omega);replace hW:=Aa hW;replace hm:=Aa hm;replace y0:=Aa y0;replace o0:=Aa o0;replace hb:=Aa hb;clear b0 c0 p1 h3 m2 hl hz hn
 go_in
 go_wp2_with fail;rw[<-hW.out,<-hb.out];refine wp_region_held_drew (S:=fun x=>x.cell? ⟨b,0,none⟩=some (.int .i64 at_)/\x.cell? ⟨b,1,none⟩=some (.slice B m d)/\Ext W x) (by kernel_rfl) e0.out (fun j0=>?_);refine wpAnyH_take (i:=0) (v:= .slice A n c) rfl (by kernel_rfl) (by kernel_rfl) (by kernel_rfl) (fun _ _ _ h=>h) (Or.inl ⟨by rfl,?_⟩) (by assumption) ?_
 ·intro w' H
  (try dsimp only at H)
  obtain⟨z1,z2,z3⟩:=H;go_simp
  try with_reducible rfl
  all_goals omega
 (try simp only[Act.put,Bv,Bw,By,CN,CO,CP])
 refine wpAnyH_take (i:=1) (v:= .pointer (some ⟨b,0,none⟩)) rfl (by kernel_rfl) (by kernel_rfl) (by kernel_rfl) (fun _ _ _ h=>h) (Or.inl ⟨by rfl,?_⟩) (by assumption) ?_
 ·intro w' H
  (try dsimp only at H)
  obtain⟨z1,z2,z3⟩:=H;go_simp
  try with_reducible rfl
  all_goals omega
 (try simp only[Act.put,Bv,Bw,By,CN,CO,CP])
 refine wpAnyH_take (i:=2) (v:= .int .i64 at_) rfl (by kernel_rfl) (by kernel_rfl) (by kernel_rfl) (fun _ _ _ h=>h) (Or.inl ⟨by rfl,?_⟩) (by assumption) ?_
 ·intro w' H
  (try dsimp only at H)
  obtain⟨z1,z2,z3⟩:=H;go_simp
  try with_reducible rfl
  all_goals omega
 (try simp only[Act.put,Bv,Bw,By,CN,CO,CP])
 refine wpAnyH_take (i:=4) (v:= .pointer (some ⟨b,1,none⟩)) rfl (by kernel_rfl) (by kernel_rfl) (by kernel_rfl) (fun _ _ _ h=>h) (Or.inl ⟨by rfl,?_⟩) (by assumption) ?_
 ·intro w' H
  (try dsimp only at H)
  obtain⟨z1,z2,z3⟩:=H;go_simp
  try with_reducible rfl
  all_goals omega
 (try simp only[Act.put,Bv,Bw,By,CN,CO,CP])
 refine wpAnyH_take (i:=5) (v:= .slice B m d) rfl (by kernel_rfl) (by kernel_rfl) (by kernel_rfl) (fun _ _ _ h=>h) (Or.inl ⟨by rfl,?_⟩) (by assumption) ?_
 ·intro w' H
  (try dsimp only at H)
  obtain⟨z1,z2,z3⟩:=H;go_simp
  try with_reducible rfl
  all_goals omega
 (try simp only[Act.put,Bv,Bw,By,CN,CO,CP])
 refine wpAnyH_take (i:=6) (v:= .int .i64 (m:Int)) rfl (by kernel_rfl) (by kernel_rfl) (by kernel_rfl) (fun _ _ _ h=>h) (Or.inl ⟨by rfl,?_⟩) (by assumption) ?_
 ·intro w' H
  (try dsimp only at H)
  obtain⟨z1,z2,z3⟩:=H;go_simp
  try with_reducible rfl
  all_goals omega
 (try simp only[Act.put,Bv,Bw,By,CN,CO,CP])
 refine wpAnyH_take (i:=7) (v:= .int .u64 (m:Int)) rfl (by kernel_rfl) (by kernel_rfl) (by kernel_rfl) (fun _ _ _ h=>h) (Or.inl ⟨by rfl,?_⟩) (by assumption) ?_
 ·intro w' H
  (try dsimp only at H)
  obtain⟨z1,z2,z3⟩:=H;go_simp
  try with_reducible rfl
  all_goals omega
 (try simp only[Act.put,Bv,Bw,By,CN,CO,CP])
 refine wpAnyH_ready (rs:= [3]) (by kernel_rfl) (by simp) ?_;refine AllReadyH.cons rfl (fun K hK=>?_) AllReadyH.nil
 (first | go_at_call 164 | (go_simp;go_at_call 164));(refine(l0.out _ ‹_›).mono ?_;rintro en w3 ⟨A1,c1,rfl,J,g0⟩)
 refine hK.out _ _ ?_ (fun Z=>?_)
 ·exact g0
 clear hK K
 (try simp only[Act.put,Bv,Bw,By,CN,CO,CP])
 refine wpAnyH_ready (rs:= [8]) (by kernel_rfl) (by simp) ?_;refine AllReadyH.cons rfl (fun K hK=>?_) AllReadyH.nil
 (first | go_at_call 157 | (go_simp;go_at_call 157));(refine(n0.out _ _ _ J g0).mono ?_;rintro en w4 ⟨A2,c2,rfl,I,U⟩)
 refine hK.out _ _ ?_ (fun G=>?_)
 ·exact U
 clear hK K
 (try simp only[Act.put,Bv,Bw,By,CN,CO,CP])
 refine wpAnyH_take (i:=9) (v:= .slice A2 L2.length c2) rfl (by kernel_rfl) (by kernel_rfl) (by kernel_rfl) (fun _ _ _ h=>h) (Or.inl ⟨by rfl,?_⟩) (by assumption) ?_
 ·intro w' H
  (try dsimp only at H)
  obtain⟨z1,z2,z3⟩:=H;go_simp
  try with_reducible rfl
  all_goals omega
 (try simp only[Act.put,Bv,Bw,By,CN,CO,CP])
 refine wpAnyH_done (by kernel_rfl) ?_ _;clear j0 Z G g0 J l0 n0 f1 e0;have O:Ext W w4:=U.2.2;have y1:w4.cell? ⟨b,1,none⟩=some (.slice B m d):=U.2.1;have b3:w.heap.size<=w4.heap.size:=(p0.trans O).size;replace I:=Aa I;replace O:=Aa O;clear U;go_wp2_with fail
 go_loopw [0,19] (fun s0 s19 wr=>∃(i n4 c4:Nat) (A4:Option Addr) (L:List UInt8),s19 = .int .i64 (i:Int)/\s0 = .slice A4 n4 c4/\i<=m/\n4<=100100000/\Hid (L=L2++putFs (fs.take i))/\Hid (Own8 wr w.heap.size A4 n4 c4 L)/\Hid (Ext w4 wr)) (fun _ s19 _=>m - (intOf s19).toNat)
 case atStart=>exact⟨0,L2.length,c2,A2,L2,rfl,rfl,by omega,by omega,Aa (by simp[putFs]),I,Aa (Ext.refl w4)⟩
 case round =>
  obtain⟨i,n4,c4,A4,L,rfl,rfl,hi,h4,hL,f0,hE⟩:=hrel;by_cases him:i<m
  ·obtain⟨f,hf⟩:∃f,fs[i]? = some f:=⟨_,List.getElem?_eq_getElem (by rw[<-hm.out];exact him)⟩
   obtain⟨g,o,rfl,k0,k1⟩:=Bg (((hc.ext p0).ext O.out).ext hE.out) hf;have o1:=y0.out f (List.mem_of_getElem? hf);have k2:=Hc hf;obtain⟨nm,tx⟩:=f;unfold strV at k0 k1;simp only at k0 k1 o1 k2;obtain⟨x3,y3⟩:=o1;obtain⟨g2,i0⟩:=Ab wr.heap.size;obtain⟨Wf,t0⟩:=Ab (wr.alloc (.cells #[.string ⟨nm.toArray⟩,.string ⟨tx.toArray⟩] 90));have x1:Ext wr Wf:=by rw[t0];exact(Ext.refl wr).alloc _
   have p2:Row Wf g2 90 #[.string ⟨nm.toArray⟩,.string ⟨tx.toArray⟩]:=by rw[t0,i0];exact Row.new wr _ _
   obtain⟨L5,d0⟩:=Ab (L++txL nm);obtain⟨L6,d1⟩:=Ab (L5++txL tx);have e1:L.length=n4:=f0.out.1.symm;have k3:=Dy (s:=nm) (by omega);have j3:=Dy (s:=tx) (by omega);have l3:L5.length<=100200000:=by rw[d0,List.length_append];omega
   have r0:Hid (L6=L2++putFs (fs.take (i+1))):=Aa (by rw[d1,d0,hL.out,k2];simp);have o3:L6.length<=100100000:=by
    rw[r0.out,List.length_append];have:=o0.out (i+1);omega
   have m1:Ext w Wf:=(p0.trans O.out).trans (hE.out.trans x1);have i1:Wf.drew.cell? ⟨g2,0,none⟩=some (.string ⟨nm.toArray⟩)/\Wf.drew.cell? ⟨g2,1,none⟩=some (.string ⟨tx.toArray⟩)/\Ext Wf Wf.drew:=⟨p2.cell 0 rfl,p2.cell 1 rfl,(Ext.refl Wf).drew⟩
   have q1:Buf Wf w.heap.size 5 A4 n4 c4 (L.map B8):=f0.out.2.ext x1;have h2:∀x,(x.cell? ⟨g2,0,none⟩=some (.string ⟨nm.toArray⟩)/\x.cell? ⟨g2,1,none⟩=some (.string ⟨tx.toArray⟩)/\Ext Wf x)->Calls prog 183 #[.slice A4 n4 c4,.string ⟨nm.toArray⟩] x fun e y=>∃A5 c5,e = .returned (.slice A5 L5.length c5)/\Own8 y w.heap.size A5 L5.length c5 L5/\(y.cell? ⟨g2,0,none⟩=some (.string ⟨nm.toArray⟩)/\y.cell? ⟨g2,1,none⟩=some (.string ⟨tx.toArray⟩)/\Ext Wf y):=fun x ⟨h0,h1,hE⟩ =>
    (DR A4 n4 c4 L nm x e1.symm (q1.cells.ext hE) f0.out.nil_ (by omega) (by omega)).mono fun e y hy=>by
     obtain⟨A1,c1,he,J,Y⟩:=NewB.own hy (m1.trans hE).size;rw[<-d0]at he J;exact⟨A1,c1,he,J,Y.cell h0,Y.cell h1,hE.trans Y⟩
   have q2:∀x A5 c5,Own8 x w.heap.size A5 L5.length c5 L5->(x.cell? ⟨g2,0,none⟩=some (.string ⟨nm.toArray⟩)/\x.cell? ⟨g2,1,none⟩=some (.string ⟨tx.toArray⟩)/\Ext Wf x)->Calls prog 183 #[.slice A5 L5.length c5,.string ⟨tx.toArray⟩] x fun e y=>∃A6 c6,e = .returned (.slice A6 L6.length c6)/\Own8 y w.heap.size A6 L6.length c6 L6/\(y.cell? ⟨g2,0,none⟩=some (.string ⟨nm.toArray⟩)/\y.cell? ⟨g2,1,none⟩=some (.string ⟨tx.toArray⟩)/\Ext Wf y):=fun x A5 c5 J ⟨h0,h1,hE⟩ =>
    (DR A5 L5.length c5 L5 tx x rfl J.2.cells J.nil_ (by omega) (by omega)).mono fun e y hy=>by
     obtain⟨A2,c2,he,I,Y⟩:=NewB.own hy (m1.trans hE).size;rw[<-d1]at he I;exact⟨A2,c2,he,I,Y.cell h0,Y.cell h1,hE.trans Y⟩
   have e3:(0:Int)<=i:=by omega
   have f3:(i:Int)<m:=by omega
   have y2:=Aa (hE.out.trans x1);replace h2:=Aa h2;replace q2:=Aa q2;replace i1:=Aa i1;replace i0:=Aa i0;replace e1:=Aa e1;replace t0:=Aa t0;clear hf d0 d1 k2 k3 j3 p2 m1 q1;go_wp2_with fail;rw[<-t0.out,<-i0.out];refine wp_region_held_drew (S:=fun x=>x.cell? ⟨g2,0,none⟩=some (.string ⟨nm.toArray⟩)/\x.cell? ⟨g2,1,none⟩=some (.string ⟨tx.toArray⟩)/\Ext Wf x) (by kernel_rfl) i1.out (fun j0=>?_);refine wpAnyH_take (i:=0) (v:= .slice A4 n4 c4) rfl (by kernel_rfl) (by kernel_rfl) (by kernel_rfl) (fun _ _ _ h=>h) (Or.inl ⟨by rfl,?_⟩) (by assumption) ?_
   ·intro w' H
    (try dsimp only at H)
    obtain⟨z1,z2,z3⟩:=H;go_simp
    try with_reducible rfl
    all_goals omega
   (try simp only[Act.put,Bv,Bw,By,CN,CO,CP])
   refine wpAnyH_take (i:=1) (v:= .pointer (some ⟨g2,0,none⟩)) rfl (by kernel_rfl) (by kernel_rfl) (by kernel_rfl) (fun _ _ _ h=>h) (Or.inl ⟨by rfl,?_⟩) (by assumption) ?_
   ·intro w' H
    (try dsimp only at H)
    obtain⟨z1,z2,z3⟩:=H;go_simp
    try with_reducible rfl
    all_goals omega
   (try simp only[Act.put,Bv,Bw,By,CN,CO,CP])
   refine wpAnyH_take (i:=2) (v:= .string ⟨nm.toArray⟩) rfl (by kernel_rfl) (by kernel_rfl) (by kernel_rfl) (fun _ _ _ h=>h) (Or.inl ⟨by rfl,?_⟩) (by assumption) ?_
   ·intro w' H
    (try dsimp only at H)
    obtain⟨z1,z2,z3⟩:=H;go_simp
    try with_reducible rfl
    all_goals omega
   (try simp only[Act.put,Bv,Bw,By,CN,CO,CP])
   refine wpAnyH_take (i:=4) (v:= .pointer (some ⟨g2,1,none⟩)) rfl (by kernel_rfl) (by kernel_rfl) (by kernel_rfl) (fun _ _ _ h=>h) (Or.inl ⟨by rfl,?_⟩) (by assumption) ?_
   ·intro w' H
    (try dsimp only at H)
    obtain⟨z1,z2,z3⟩:=H;go_simp
    try with_reducible rfl
    all_goals omega
   (try simp only[Act.put,Bv,Bw,By,CN,CO,CP])
   refine wpAnyH_take (i:=5) (v:= .string ⟨tx.toArray⟩) rfl (by kernel_rfl) (by kernel_rfl) (by kernel_rfl) (fun _ _ _ h=>h) (Or.inl ⟨by rfl,?_⟩) (by assumption) ?_
   ·intro w' H
    (try dsimp only at H)
    obtain⟨z1,z2,z3⟩:=H;go_simp
    try with_reducible rfl
    all_goals omega
   (try simp only[Act.put,Bv,Bw,By,CN,CO,CP])
   refine wpAnyH_ready (rs:= [3]) (by kernel_rfl) (by simp) ?_;refine AllReadyH.cons rfl (fun K hK=>?_) AllReadyH.nil
   (first | go_at_call 183 | (go_simp;go_at_call 183));(refine(h2.out _ ‹_›).mono ?_;rintro en w5 ⟨A5,c5,rfl,e2,g0⟩)
   refine hK.out _ _ ?_ (fun Z=>?_)
   ·exact g0
   clear hK K
   (try simp only[Act.put,Bv,Bw,By,CN,CO,CP])
   refine wpAnyH_ready (rs:= [6]) (by kernel_rfl) (by simp) ?_;refine AllReadyH.cons rfl (fun K hK=>?_) AllReadyH.nil
   (first | go_at_call 183 | (go_simp;go_at_call 183));(refine(q2.out _ _ _ e2 g0).mono ?_;rintro en w6 ⟨A6,c6,rfl,l1,U⟩)
   refine hK.out _ _ ?_ (fun G=>?_)
   ·exact U
   clear hK K
   (try simp only[Act.put,Bv,Bw,By,CN,CO,CP])
   refine wpAnyH_take (i:=7) (v:= .slice A6 L6.length c6) rfl (by kernel_rfl) (by kernel_rfl) (by kernel_rfl) (fun _ _ _ h=>h) (Or.inl ⟨by rfl,?_⟩) (by assumption) ?_
   ·intro w' H
    (try dsimp only at H)
    obtain⟨z1,z2,z3⟩:=H;go_simp
    try with_reducible rfl
    all_goals omega
   (try simp only[Act.put,Bv,Bw,By,CN,CO,CP])
   refine wpAnyH_done (by kernel_rfl) ?_ _;have q3:=Aa (y2.out.trans U.2.2);replace l1:=Aa l1;clear j0 Z G g0 U e2;go_wp2_with fail;go_roundw
   case rel=>exact⟨i+1,L6.length,c6,A6,L6,by go_num,rfl,by omega,by omega,r0,l1,q3⟩
   case measure=>simp[intOf];omega
  ·obtain rfl:i=m:=by omega
   obtain⟨n1,f2⟩:=f0.out;have a1:=Aa ((p0.trans O.out).trans hE.out);have x0:NewB w (L2++putFs (fs.take i)) (.returned (.slice A4 n4 c4)) wr:=⟨A4,c4,by rw[<-hL.out,n1],by rw[<-hL.out,<-n1];exact f2,a1.out⟩
   replace x0:=Aa x0;clear f2 n1;go_wp2_with fail;go_ret;exact x0.out
def joinL (ps:List (List UInt8)):List UInt8:=ps.flatMap frameL
theorem Et (h:p.length<=16777216):(frameL p).length<=p.length+20:=by
 have h1:=Ag (n:=p.length) (by omega);have h2:(be4 (cnext 0 (vb p.length++p))).length=4:=rfl;unfold frameL;rw[List.length_append,List.length_append,h2];omega
theorem Cv:∀ {ps:List (List UInt8)},(∀p∈ps,p.length<=16777216)->(joinL ps).length<=16777236*ps.length
 | [],_=>by simp[joinL]
 | p::ps,h=>by
  have h1:=Et (h p (List.mem_cons_self ..));have h2:=Cv (ps:=ps) fun q d=>h q (List.mem_cons_of_mem _ d);have H:=h p (List.mem_cons_self ..);show (frameL p++joinL ps).length<=_;rw[List.length_append,List.length_cons];omega
theorem GT (h:ps[i]? = some p):joinL (ps.take (i+1))=joinL (ps.take i)++frameL p:=by
 unfold joinL;rw[List.take_add_one,h,List.flatMap_append];simp
def OkB' (w:World) (l:List UInt8) (e:Ending) (w':World):Prop:=∃A c,e = .returned (.tuple #[.slice A l.length c,.int .i64 0])/\Own8 w' w.heap.size A l.length c l/\Ext w w'
theorem NL (B:Option Addr) (k c2:Nat) (ps:List (Option Addr×Nat×List UInt8)) (w:World) (hk:k=ps.length) (hB:Cells w B (ps.map fun p=> .slice p.1 p.2.2.length p.2.1)) (Z:∀p∈ps,In8 w p.1 p.2.2.length p.2.1 p.2.2/\p.2.2.length<=16777216) (q1:k<=50) :
 Calls prog 107 #[.slice B k c2] w fun e w'=>OkB' w (joinL (ps.map (·.2.2))) e w':=by
 have v0:=Aa (fun A n c l B m d p W h1 h2 h3 h4=>Ph A n c l B m d p W h1 h2 h3 h4);obtain⟨P,hP⟩:=Ab (ps.map (·.2.2));rw[<-hP];have I:∀p∈P,p.length<=16777216:=fun p hp=>by
  rw[hP]at hp;obtain⟨q,hq,rfl⟩:=List.mem_map.1 hp;exact(Z q hq).2
 have O:P.length=k:=by rw[hP,List.length_map,hk]
 replace hk:=Aa hk;replace hB:=Aa hB;replace Z:=Aa Z;replace hP:=Aa hP;replace I:=Aa I;replace O:=Aa O
 go_in
 go_wp2_with fail
 go_loopw [4,11] (fun s4 s11 wr=>∃(i n c:Nat) (A:Option Addr),s4 = .slice A n c/\s11 = .int .i64 (i:Int)/\i<=k/\n<=16777236*i/\Hid (Own8 wr w.heap.size A n c (joinL (P.take i)))/\Hid (Ext w wr)) (fun _ s11 _=>k - (intOf s11).toNat)
 case atStart=>exact⟨0,0,0,none,rfl,rfl,by omega,by omega,Aa ⟨rfl,Buf.nil _ _ _⟩,Aa (Ext.refl w)⟩
 case round =>
  obtain⟨i,n,c,A,rfl,rfl,hi,hn,ho,hE⟩:=hrel;by_cases f0:i<k
  ·obtain⟨x,hx⟩:∃x,ps[i]? = some x:=⟨_,List.getElem?_eq_getElem (by rw[<-hk.out];exact f0)⟩
   obtain⟨g,o,hA,m0⟩:=hB.out.at_ (by rw[List.length_map,<-hk.out];omega);subst hA;have t0:=hE.out.cell (m0 i _ (by rw[List.getElem?_map,hx];rfl));have H:=Z.out x (List.mem_of_getElem? hx);have h0:P[i]? = some x.2.2:=by rw[hP.out,List.getElem?_map,hx];rfl
   have J:=GT h0;obtain⟨XA,xc,xl⟩:=x;simp only at t0 H J;have e0:=Et H.2;have q0:=Cv (ps:=P.take (i+1)) fun p hp=>I.out p (List.mem_of_mem_take hp);have y0:(P.take (i+1)).length=i+1:=by rw[List.length_take,O.out];omega
   rw[y0]at q0;obtain⟨L2,U⟩:=Ab (joinL (P.take (i+1)));rw[<-U]at J q0;have Y:=v0.out A n c (joinL (P.take i)) XA xl.length xc xl wr (by have:=ho.out.2.in8;rwa [ho.out.1]at this ⊢) (H.1.ext hE.out) (by omega) H.2;rw[<-J]at Y;obtain⟨m,hm⟩:=Ab xl.length;rw[<-hm]at Y t0;have x0:=hE.out.size;replace Y:=Aa Y;replace hm:=Aa hm;replace hx:=Aa hx;replace H:=Aa H;replace h0:=Aa h0;replace J:=Aa J;replace U:=Aa U;clear m0 e0 y0;go_wp2_with fail;refine Y.out.mono ?_;rintro e w2 ⟨A2,c3,rfl,j0,G⟩;have h:Hid (Own8 w2 w.heap.size A2 L2.length c3 (joinL (P.take (i+1)))):=Aa (by rw[<-U.out];exact⟨rfl,j0.lower x0⟩);obtain⟨n2,p0⟩:=Ab L2.length;rw[<-p0]at h q0 ⊢;replace p0:=Aa p0;replace G:=Aa (hE.out.trans G);clear j0;go_wp2_with fail;exact⟨⟨i+1,n2,c3,A2,rfl,rfl,by omega,by omega,h,G⟩,by simp only[intOf];omega⟩
  ·obtain rfl:i=k:=by omega
   have h:=ho.out;rw[List.take_of_length_le (by rw[O.out];exact Nat.le_refl _)]at h;replace h:=Aa h;go_wp2_with fail;go_ret2;have hl:=h.out.1;subst hl;exact⟨A,c,rfl,h.out,hE.out⟩
theorem ND (A:Option Addr) (n c:Nat) (l:List UInt8) (e:Ev) (B:Option Addr) (d:Nat) (w:World) (hn:n=l.length) (hl:Bs w A l) (hz:A=none->c=0) (m0:n<=100000000) (h:e.Ok w B) (hk:checkE e.fs=0) (ha:I64ok' e.at_) :
 Calls prog 215 #[.slice A n c,e.val B d] w fun en w'=>OkB' w (l++putE e) en w':=by
 obtain⟨W1,Y⟩:=Ab (w.alloc (.cells #[.int .i64 e.at_,.slice B e.fs.length d] 93));obtain⟨g,hg⟩:=Ab w.heap.size;have I:Row W1 g 93 #[.int .i64 e.at_,.slice B e.fs.length d]:=by rw[Y,hg];exact Row.new w _ _
 have U:Ext w W1:=by rw[Y];exact(Ext.refl w).alloc _
 have Z:=Aa (Dj e B d W1 (h.ext U));rw[hk]at Z;have J:=Aa (fun W (hE:Ext w W)=>NG A n c l e B d W hn (hl.ext hE) hz m0 (h.ext hE) hk ha);obtain⟨L,hL⟩:=Ab (l++putE e);rw[<-hL]at J ⊢;unfold Ev.val at Z J ⊢;have k0:=I.cell 0 rfl;have k1:=I.cell 1 rfl;replace I:=Aa I;replace U:=Aa U;replace Y:=Aa Y;replace hg:=Aa hg;replace hL:=Aa hL;replace hk:=Aa hk;replace h:=Aa h;replace hn:=Aa hn;replace hl:=Aa hl;clear hz
 go_in
 go_upto_region 1 with (fail)
 rw[<-Y.out,<-hg.out];go_wp2_with fail;refine Z.out.mono ?_;rintro en w2 ⟨rfl,H⟩;have r2:=I.out.ext H;have q0:=r2.cell 0 rfl;have q1:=r2.cell 1 rfl;replace r2:=Aa r2;replace H:=Aa (U.out.trans H);go_wp2_with fail;refine(J.out w2 H.out).mono ?_;rintro en w3 j0;obtain⟨A3,c3,rfl,G,O⟩:=j0;have ho:=Aa (show Own8 w3 w.heap.size A3 L.length c3 L from⟨rfl,G.lower H.out.size⟩);replace O:=Aa (H.out.trans O);clear G;go_wp2_with fail;go_ret2;exact⟨A3,c3,rfl,ho.out,O.out⟩
def timesD:Int->List Dc->List UInt8
 | _,[]=> []
 | a,d::t=>vb (zig (wrap64 (d.2.at_ - a)))++timesD d.2.at_ t
def lastAt:Int->List Dc->Int
 | a,[]=>a
 | _,d::t=>lastAt d.2.at_ t
def lowD:Int->List Dc->Int
 | m,[]=>m
 | m,d::t=>lowD (min m d.2.at_) t
def highD:Int->List Dc->Int
 | m,[]=>m
 | m,d::t=>highD (max m d.2.at_) t
def partD:List Dc->List Int
 | []=> [0,0,0,0,0]
 | d::t=> [lowD d.2.at_ (d::t),highD d.2.at_ (d::t),d.1,lastD d.1 t,((d::t).length:Int)]
def pairsD:Nat->List Dc->List (List UInt8×Po)
 | _,[]=> []
 | i,d::t=>(termsL d.2).map (fun p=>(p.1,((i:Int),p.2)))++pairsD (i+1) t
def rowsD (l:List Dc):List (List UInt8×List Po):=grp (pairsD 0 l)
def enOf:Nat->List (List UInt8×List Po)->List En
 | _,[]=> []
 | o,r::t=>⟨r.1,o,(encPs r.2).length,r.2.length⟩::enOf (o+(encPs r.2).length) t
def postB (rs:List (List UInt8×List Po)):List UInt8:=rs.flatMap fun r=>encPs r.2
def framesD (l:List Dc):List (List UInt8):= [encDs l,timesD 0 l,postB (rowsD l),encEs (enOf 0 (rowsD l)),ofB ((rowsD l).map (·.1)),vall (partD l)]
def segL (l:List Dc):List UInt8:= [76,83,69,71]++joinL (framesD l)
theorem EI:∀(a b:List Dc) (x:Int),timesD x (a++b)=timesD x a++timesD (lastAt x a) b
 | [],b,x=>rfl
 | d::t,b,x=>by
  show _++timesD d.2.at_ (t++b)=(_++timesD d.2.at_ t)++_;rw[EI t b,List.append_assoc];rfl
theorem Ez:∀(a b:List Dc) (x:Int),lastAt x (a++b)=lastAt (lastAt x a) b
 | [],b,x=>rfl
 | d::t,b,x=>Ez t b d.2.at_
theorem GY:∀(a b:List Dc) (x:Int),lowD x (a++b)=lowD (lowD x a) b
 | [],b,x=>rfl
 | d::t,b,x=>GY t b _
theorem FE:∀(a b:List Dc) (x:Int),highD x (a++b)=highD (highD x a) b
 | [],b,x=>rfl
 | d::t,b,x=>FE t b _
theorem CG:∀(a b:List Dc) (i:Nat),pairsD i (a++b)=pairsD i a++pairsD (i+a.length) b
 | [],b,i=>rfl
 | d::t,b,i=>by
  show _++pairsD (i+1) (t++b)=(_++pairsD (i+1) t)++_;rw[CG t b,List.append_assoc,List.length_cons,show i+1+t.length=i+(t.length+1)by omega]
theorem GG:∀(a b:List (List UInt8×List Po)) (o:Nat),enOf o (a++b)=enOf o a++enOf (o+(postB a).length) b
 | [],b,o=>rfl
 | r::t,b,o=>by
  show _::enOf _ (t++b)=_::enOf _ t++_;rw[GG t b];unfold postB;rw[List.flatMap_cons,List.length_append,Nat.add_assoc];rfl
theorem Cx (a b:List (List UInt8×List Po)):postB (a++b)=postB a++postB b:=by unfold postB;rw[List.flatMap_append]
theorem Fw (n:Int) : -9223372036854775808<=wrap64 n/\wrap64 n<=9223372036854775807:=by
 unfold wrap64;omega
theorem Dx:∀(l:List Dc) (a:Int),(timesD a l).length<=10*l.length
 | [],a=>by simp[timesD]
 | d::t,a=>by
  have h1:=Dx t d.2.at_;have h2:=CM (Fw (d.2.at_ - a)).1 (Fw (d.2.at_ - a)).2;have h:=Ag h2;unfold timesD;rw[List.length_append,List.length_cons];omega
end
section
open Go.RowKit
theorem AP:Fence.wide.depth=none:=rfl
theorem Cp (f:FuncId):Fence.wide.fn f=True:=rfl
def NC (B:Nat) (W:World) (k:Nat):Prop:=B<=k/\∃o,W.heap[k]? = some o/\o.isCells=false
theorem NC.not_row (h:Row W g t cs):¬ NC B W g:=fun⟨_,o,d,H⟩=>by
 unfold Row at h;rw[h]at d;injection d with d;subst d;cases H
def Alike (B:Nat) (W W':World):Prop:=Chg (NC B W) W W'
theorem Alike.refl (B:Nat) (W:World):Alike B W W:=Chg.refl _ _
theorem Alike.row (h:Alike B W W') (d:Row W g t cs):Row W' g t cs:=Chg.row h d (NC.not_row d)
theorem Alike.ext (h:Alike B W W') (d:Ext w W) (Y:w.heap.size<=B):Ext w W':=d.chg h fun i hi H=>by have:=H.1;omega
theorem Alike.owns (h:Alike B W W') {size:Nat} (d:W.ownsRow base e size v n xs):W'.ownsRow base e size v n xs :=
 Chg.owns h d fun g H=>by obtain⟨cur,Y,_⟩:=Ae d H;exact NC.not_row Y
theorem Alike.buf (h:Alike B W W') (hb:Buf W base e A n c xs):Buf W' base e A n c xs :=
 hb.keep fun g d=>by
  rcases hb.2.2 with ⟨J,_⟩ | ⟨g',cur,H,_,Y,_⟩
  ·rw[J]at d;cases d
  ·rw[H]at d;cases d;exact h.block _ Y.lt (NC.not_row Y)
theorem Alike.others {o:Obj} (hk:W.heap[k]? = some o) (d:o.isCells=false) (H:B<=k) (o':Obj):Alike B W (W.putObj k o') :=
 ⟨rfl,rfl,rfl,by simp,fun j _ h=>World.putObj_heap_other (fun e=>h ⟨by omega,o,by rw[e];exact hk,d⟩)⟩
def Iter {α:Type} (P:Program) (gf:Nat) (lb:Array Value) (encs:α->Array Value) (St:World->World->Prop) (Nx:List α->α->World->Prop) (Kp:World->World->Prop) (Fin:List α->World->World->Prop) (w:World):Prop :=
 ∀(l:Nat) (J:List α->World->Prop) (W:World),Ext w W->(∀pre A B,J pre A->St A B->J pre B) ->
  (∀pre x W1,J pre W1->Nx pre x W1->YieldAt Fence.wide 0 P l (encs x) W1 fun e W'=>e = .returned (.bool true)/\J (pre ++ [x]) W'/\Kp W1 W')->J [] W ->
  Calls P gf (#[.func (.yield l) #[] #[]]++lb) W fun e W'=>(∃v,e = .returned v)/\∃xs W2,J xs W2/\Fin xs W2 W'
def roundDone {α:Type} (Kp:World->World->Prop) (I:List α->World->Prop) (xs:List α) (W:World):Exit->Act->World->Prop
 | .normal,_,W'=>KeepsOthers W W'/\Kp W W'/\I xs W'
 | _,_,_=>False
def roundGo {α:Type} (B:Nat) (P:Program) (l:Nat) (body:Code) (Kp:World->World->Prop) (I:List α->World->Prop) (xs:List α) (W:World) (a:Act) (W1:World):Prop :=
 KeepsOthers W W1/\Kp W W1/\∀W2,Alike B W1 W2->body.wpIn (Fence.wide.inRound l) 0 P (roundDone Kp I xs W2) a W2
theorem C8 {α:Type} {g:Operand} {ps:Array Tmp} {assign body:Code}
 (hg:a.eval g = .func (.func gf) #[] lb) (eg:∀args w,(callFunc gf args).run P w = .ok (.enter gf args) w)
 {encs:α->Array Value} {St:World->World->Prop} {Nx:List α->α->World->Prop} {Kp:World->World->Prop} {Fin:List α->World->World->Prop} (r0:Iter P gf lb encs St Nx Kp Fin w)
 (x1:∀x,(encs x).size=ps.size) (x0:∀A B,St A B->KeepsOthers A B) (U:∀xs A B,Fin xs A B->KeepsOthers A B)
 (Z:∀A B C,Kp A B->Kp B C->Kp A C) (v0:∀A B,Alike w.heap.size A B->Kp A B)
 (I:List α->World->Prop) (hI:∀pre A B,I pre A->Alike w.heap.size A B->I pre B) (e0:∀pre A B,I pre A->St A B->I pre B) (h0:∀W,Alike w.heap.size w W->I [] W)
 (J:∀(l:Nat) (pre:List α) (x:α) (W:World),I pre W->Nx pre x W->assign.wpIn (Fence.wide.inRound l) 0 P (Exit.then (roundGo w.heap.size P l body Kp I (pre ++ [x]) W) (fun _ _ _=>False)) { tmps:=(ps.zip (encs x)).foldl (fun t (p,v)=>t.setIfInBounds p v) a.tmps,defers:= [] } W)
 (p0:∀(D:Nat) (xs:List α) (W2 W3 W4:World),w.heap.size<=D->I xs W2->Fin xs W2 W3->Alike w.heap.size W3 W4->W4.heap[D]? = some (.deferred (some []))->Q .normal { a with defers:= { target:= .collected D,args:=#[] }::a.defers } W4) :
 (Code.rangeFunc g ps assign body).wpIn Fence.wide 0 P Q a w:=by
 refine wpIn_rangeFunc ?_;intro fn n0;show ∃_,_;obtain⟨rec,d⟩:=Ab (fun st pe=> { state:=st,pending:=pe,fn,tmps:=a.tmps,params:=ps,assign,body,defers:=w.heap.size }:LoopState->Option Code->Loop);obtain⟨W1,Y⟩:∃W1,(w.alloc (.deferred (some []))).alloc (.loop (rec .ready none))=W1:=⟨_,rfl⟩
 have i0:W1.heap[w.heap.size+1]? = some (.loop (rec .ready none)):=by
  rw[<-Y];have:=World.alloc_heap_new (w.alloc (.deferred (some []))) (.loop (rec .ready none));rwa [World.size_alloc]at this
 have f0:W1.heap[w.heap.size]? = some (.deferred (some [])):=by
  rw[<-Y];exact(Below.heap_alloc _ _ _ (by simp)).trans (World.alloc_heap_new w _)
 have t0:Ext w W1:=by rw[<-Y];exact((Ext.refl w).alloc _).alloc _
 refine⟨w.heap.size+1,[{ target:= .collected w.heap.size,args:=#[] }],W1,{ target:= .fn (.func gf) lb,args:=#[.func (.yield (w.heap.size+1)) #[] #[]] },W1,gf,
  #[.func (.yield (w.heap.size+1)) #[] #[]]++lb,W1,?_,?_,?_,?_,fun h=>(by cases h),?_⟩
 ·rw[<-Y,d];exact run_enterLoop_outer _ _ _ _ _
 ·simp only[resolve,hg];simp[go_sem]
 ·intro f' _;trivial
 ·simp[invoke,go_sem,eg]
 ·refine callsIn_wide.2 ((r0 (w.heap.size+1)
   (fun pre W=>I pre W/\W.heap[w.heap.size+1]? = some (.loop (rec .ready none))/\W.heap[w.heap.size]? = some (.deferred (some [])))
   W1 t0 (fun pre A B h hs=>⟨e0 pre A B h.1 hs,(x0 A B hs).same _ _ h.2.1 rfl,(x0 A B hs).same _ _ h.2.2 rfl⟩)
   ?_ ⟨h0 W1 (Chg.of_ext t0 _),i0,f0⟩).mono ?_)
  ·rintro pre x W ⟨hi,hl,hk⟩ m1;have n1:w.heap.size+1<W.heap.size:=(Array.getElem?_eq_some_iff.1 hl).1;have hy:=run_yield (P:=P) (args:=encs x) hl (by rw[d];exact x1 x);rw[d]at hy;refine⟨fn,_,assign,body,hy,roundIn_of_wpIn n0 ?_⟩;refine wpIn_mono (J _ pre x W hi m1) ?_;rintro e a1 W2 hq;cases e with
   | normal =>
    obtain⟨y0,p1,q0⟩:=hq;have H:=y0.same _ _ hl rfl;have k0:=y0.same _ _ hk rfl;have d0:w.heap.size+1<W2.heap.size:=(Array.getElem?_eq_some_iff.1 H).1;refine⟨W2.putObj (w.heap.size+1) (.loop { rec .ready none with state:= .busy }),run_beginRound H (by rw[d]),?_⟩;have ha:=Alike.others (B:=w.heap.size) H rfl (by omega) (.loop { rec .ready none with state:= .busy });have j1:(W2.putObj (w.heap.size+1) (.loop { rec .ready none with state:= .busy })).heap[w.heap.size+1]? = some (.loop { rec .ready none with state:= .busy }):=World.putObj_heap_same d0;have h1:(W2.putObj (w.heap.size+1) (.loop { rec .ready none with state:= .busy })).heap[w.heap.size]? = some (.deferred (some [])):=(World.putObj_heap_other (by omega)).trans k0;refine wpIn_mono (q0 _ ha) ?_;rintro e a3 W3 hp;cases e with
    | normal =>
     obtain⟨O,b0,o0⟩:=hp;have j0:=O.same _ _ j1 rfl;have q1:=O.same _ _ h1 rfl;have hr:=run_endRound (P:=P) none j0;rw[d]at hr;have G:=Alike.others (B:=w.heap.size) j0 rfl (by omega) (.loop (rec .ready none));rw[d]at G;refine⟨_,_,hr,rfl,⟨hI _ _ _ o0 G,?_,?_⟩,Z _ _ _ (Z _ _ _ p1 (v0 _ _ ha)) (Z _ _ _ b0 (v0 _ _ G))⟩
     ·rw[d];exact World.putObj_heap_same (Array.getElem?_eq_some_iff.1 j0).1
     ·exact(World.putObj_heap_other (by omega)).trans q1
    | ret=>exact hp.elim
    | exit id=>exact hp.elim
    | goto t=>exact hp.elim
    | panic ch=>exact hp.elim
    | outgrown=>exact hp.elim
   | ret=>exact hq.elim
   | exit id=>exact hq.elim
   | goto t=>exact hq.elim
   | panic ch=>exact hq.elim
   | outgrown=>exact hq.elim
  ·rintro e W2 ⟨⟨v,rfl⟩,xs,W3,⟨hi,hl,hk⟩,hf⟩;have H:=(U _ _ _ hf).same _ _ hl rfl;have k0:=(U _ _ _ hf).same _ _ hk rfl;refine⟨none,_,by have:=run_endLoop (P:=P) H (by rw[d];simp);rw[d]at this;exact this,p0 _ xs W3 W2 _ (Nat.le_refl _) hi hf ?_ ((World.putObj_heap_other (by omega)).trans k0)⟩;rw[d]at H;exact Alike.others H rfl (by omega) _
section
variable {F:Fence} {n:Nat} {P:Program}
theorem DA {rest:List Oper} {t e size bytes:Nat} (E:Elem P t e size bytes) (H:w.ownsRow base e size v k xs) (hr:Cells w A news) (s x:Operand)
 (O:o.op = .call { callee:= .builtin .append,args:=#[s,x],argTypes:=#[t,t] }) (U:o.guard=none)
 (hs:a.eval s=v) (hx:a.eval x = .slice A m' c) (hm:m'=m) (hl:news.length=m*size) (h1:∀u∈news,u.oneCell'=true) (Z:k+m<=4294967296) (d:base<=w.heap.size)
 (h:∀A1 c1 w',w'.ownsRow base e size (.slice A1 (k+m) c1) (k+m) (xs++news)->w.grownBy w' v.ownBlock->((Value.slice A1 (k+m) c1).ownBlock=v.ownBlock\/(Value.slice A1 (k+m) c1).ownBlock=some w.heap.size)->wpListIn F n P ops Q rest (a.put o.dst (.slice A1 (k+m) c1)) w'):wpListIn F n P ops Q (o::rest) a w :=
 wpListIn_plain U fun K hK=>by
  subst hm;obtain⟨A1,c1,w',Y,h2,G,I⟩:=Ds (P:=P) E w o.type H (c:=c) hr hl h1 Z d;unfold Oper.wpIn;refine⟨by simp[Oper.about,O,resolve,Target.leads,Sem.run_pure],?_⟩;rw[Oper.semAt_plain F _ _ (by rw[O];intro c J;cases J)];unfold execOp;simp only[O,resolve,invoke,builtin,Sem.run_bind,Sem.run_pure,Result.andThen_ok,List.map_toArray,List.map_cons,List.map_nil,hs,hx,Y];exact hK _ _ (h A1 c1 w' h2 G I)
theorem Bu {rest:List Oper} {t e bytes:Nat} (E:Elem P t e 1 bytes) {A B:Option Addr} (hb:Buf w base e A k c xs) (hr:Cells w B news) (s x:Operand)
 (O:o.op = .call { callee:= .builtin .append,args:=#[s,x],argTypes:=#[t,t] }) (U:o.guard=none)
 (hs:a.eval s = .slice A k c) (hx:a.eval x = .slice B m' c') (hm:m'=m) (hl:news.length=m) (h1:∀u∈news,u.oneCell'=true) (Z:k+m<=4294967296) (d:base<=w.heap.size)
 (h:∀A1 c1 w',Buf w' base e A1 (k+m) c1 (xs++news)->w.grownBy w' (Value.slice A k c).ownBlock->(∀w0,Ext w0 w->w0.heap.size<=base->Ext w0 w')->(A1=A\/A1=some ⟨w.heap.size,0,none⟩)->wpListIn F n P ops Q rest (a.put o.dst (.slice A1 (k+m) c1)) w'):wpListIn F n P ops Q (o::rest) a w :=
 wpListIn_plain U fun K hK=>by
  subst hm;obtain⟨A1,c1,w',H,h2,G,I⟩:=Gx (P:=P) E w o.type hb (c':=c') hr hl h1 Z d;unfold Oper.wpIn;refine⟨by simp[Oper.about,O,resolve,Target.leads,Sem.run_pure],?_⟩;rw[Oper.semAt_plain F _ _ (by rw[O];intro c J;cases J)];unfold execOp;simp only[O,resolve,invoke,builtin,Sem.run_bind,Sem.run_pure,Result.andThen_ok,List.map_toArray,List.map_cons,List.map_nil,hs,hx,H];refine hK _ _ (h A1 c1 w' h2 G (fun w0 hE hw=>hE.grown G fun k hk=>?_) I);have Y:=hb.base_le;cases A with
  | none=>simp[Value.ownBlock]at hk
  | some b =>
   have:=Y b rfl;simp[Value.ownBlock]at hk;omega
end
theorem Bb {l n f:Nat} {args:Array Value} {R:Ending->World->Prop} (h:Calls P f args w R):CallsIn (Fence.wide.inRound l) n P f args w R:=CallsIn.inRound l (callsIn_wide.2 h)
theorem F3 {fn:Func} {R:Ending->World->Prop} (hd:a.defers = []) (d:(results fn a.tmps).run P w = .ok v w) (h:R (.returned v) w):bodyPostM Fence.wide 0 P fn R .ret a w:=by
 show LeavesInM _ _ _ _ _ _ a.defers _ _;rw[hd];exact⟨v,d,h⟩
theorem BR {fn:Func} {R:Ending->World->Prop} {B D:Nat} (hd:a.defers = [{ target:= .collected D,args:=#[] }]) (hk:w.heap[D]? = some (.deferred (some []))) (d:B<=D)
 (h:∀W,Alike B w W->∃v,(results fn a.tmps).run P W = .ok v W/\R (.returned v) W):bodyPostM Fence.wide 0 P fn R .ret a w:=by
 show LeavesInM _ _ _ _ _ _ a.defers _ _;rw[hd];exact⟨by simp,.inl ⟨D,_,rfl,run_takeDeferred hk,h _ (Alike.others hk rfl d _)⟩⟩
theorem BL (hb:Buf w base e A k c xs) (U:w.grownBy w' (Value.slice A k c).ownBlock):KeepsOthers w w' :=
 KeepsOthers.of_grownBy U fun j o H h=>by
  rcases hb.2.2 with ⟨J,_⟩ | ⟨g',cur,d,_,Y,_⟩
  ·subst J;simp[Value.ownBlock]at H
  ·subst d;simp[Value.ownBlock]at H;subst H;unfold Row at Y;rw[Y]at h;injection h with h;subst h;rfl
theorem Ext.others (h:Ext w w'):KeepsOthers w w':=⟨h.size,fun _ _ hk _=>h.block hk⟩
end
section
open Go.RowKit
def OwnB (w:World) (base:Nat) (l:List UInt8) (e:Ending) (w':World):Prop:=∃A c,e = .returned (.slice A l.length c)/\Own8 w' base A l.length c l/\Ext w w'
theorem Own8.ext (h:Own8 w base A n c l) (d:Ext w w1):Own8 w1 base A n c l:=⟨h.1,h.2.ext d⟩
theorem RS (h:z=(q:Int)) (d:q<18446744073709551616):IntKind.u64.wrap z=(q:Int):=by rw[h];exact AH d
theorem AY {α:Type} {l:List α} {x:α} (h:l[i]? = some x):l.drop i=x::l.drop (i+1):=by
 obtain⟨hi,rfl⟩:=List.getElem?_eq_some_iff.1 h;exact List.drop_eq_getElem_cons hi
theorem BW {n lo x:Int} {t:List Int} (h:risB n lo (x::t)=true):lo<x/\x<n/\risB n x t=true:=by
 unfold risB at h;rw[Bool.and_eq_true,Bool.and_eq_true]at h;exact⟨of_decide_eq_true h.1.1,of_decide_eq_true h.1.2,h.2⟩
theorem OJ (base:Nat) (A B:Option Addr) (n c k c2:Nat) (l:List UInt8) (last N:Int) (xs:List Int) (w:World) (hb:Own8 w base A n c l) (q0:base<=w.heap.size) (hk:k=xs.length) (hx:Cells w B (xs.map IV))
 (hr:risB N last xs=true) (j0 : -1<=last) (J:last<=1099511627776) (hN:N<=1099511627776) (e1:n+10*k<=1000000000) :
 Calls prog 162 #[.slice A n c,.int .i64 last,.slice B k c2] w fun e w'=>OwnB w base (l++stepsL last xs) e w':=by
 have y0:=Aa (fun A n c x l W h1 h2 h3 h4 h5=>Cm A n c x l W h1 h2 h3 h4 h5);obtain⟨Z,hZ⟩:=Ab (l++stepsL last xs);rw[<-hZ];replace hZ:=Aa hZ;replace hb:=Aa hb;replace hk:=Aa hk;replace hx:=Aa hx;replace hr:=Aa hr
 go_in
 go_wp2_with fail
 go_loopw [0,1,11] (fun s0 s1 s11 wr=>∃(i n1 c1:Nat) (A1:Option Addr) (L:List UInt8) (p:Int),s0 = .slice A1 n1 c1/\s1 = .int .i64 p/\s11 = .int .i64 (i:Int)/\i<=k /\ -1<=p/\p<=1099511627776/\n1<=n+10*i/\Hid (Z=L++stepsL p (xs.drop i))/\Hid (risB N p (xs.drop i)=true)/\Hid (Own8 wr base A1 n1 c1 L)/\Hid (Ext w wr)) (fun _ _ s11 _=>k - (intOf s11).toNat)
 case atStart=>exact⟨0,n,c,A,l,last,rfl,rfl,rfl,by omega,j0,J,by omega,Aa (by rw[hZ.out];rfl),hr,hb,Aa (Ext.refl w)⟩
 case round =>
  obtain⟨i,n1,c1,A1,L,p,rfl,rfl,rfl,hi,i1,l1,f1,t0,q1,d,hE⟩:=hrel;by_cases h:i<k
  ·obtain⟨x,U⟩:∃x,xs[i]? = some x:=⟨_,List.getElem?_eq_getElem (by rw[<-hk.out];exact h)⟩
   obtain⟨g,o,hA,p0⟩:=hx.out.at_ (by rw[List.length_map,<-hk.out];omega);subst hA;have o0:=hE.out.cell (p0 i (IV x) (by rw[List.getElem?_map,U];rfl));unfold IV at o0;have k0:=AY U;have H:=q1.out;have I:=t0.out;rw[k0]at H I;obtain⟨o1,p2,Y⟩:=BW H;obtain⟨q,hq⟩:∃q:Nat,(q:Int)=x - p - 1:=⟨(x - p - 1).toNat,by omega⟩
   have q2:=RS (z:=x - p - 1) hq.symm (by omega);have b0:q<18446744073709551616:=by omega
   have i0:Hid (Z=(L++vb q)++stepsL x (xs.drop (i+1))):=Aa (by
    rw[I,List.append_assoc];show _++(vb (x - p - 1).toNat++_)=_;rw[<-hq];rfl)
   have v0:=Ag b0;have n0:=Aa (y0.out A1 n1 c1 q L wr d.out.1 d.out.2.cells (d.out.nil_) (by omega) b0);have G:L.length=n1:=d.out.1.symm;have l0:=Nat.le_trans q0 hE.out.size;have hlen:(L++vb q).length<=n+10*(i+1):=by rw[List.length_append,G];omega
   replace p0:=Aa p0;replace U:=Aa U;replace k0:=Aa k0;replace G:=Aa G;replace Y:=Aa Y;clear H I v0;replace hq:=Aa hq;go_wp2_with fail;refine n0.out.mono ?_;rintro e w2 f0;obtain⟨A2,c2,rfl,m0,O⟩:=f0;have x0:Hid (Own8 w2 base A2 (L++vb q).length c2 (L++vb q)):=Aa ⟨rfl,m0.lower l0⟩;obtain⟨n2,g0⟩:=Ab ((L++vb q).length);rw[<-g0]at x0 hlen ⊢;replace g0:=Aa g0;replace O:=Aa (hE.out.trans O);clear m0;go_wp2_with fail;exact⟨⟨i+1,n2,c2,A2,L++vb q,x,rfl,rfl,rfl,by omega,by omega,by omega,by omega,i0,Y,x0,O⟩,by simp only[intOf];omega⟩
  ·obtain rfl:i=k:=by omega
   have h0:Z=L:=by rw[t0.out,List.drop_eq_nil_of_le (by rw[<-hk.out];exact Nat.le_refl _),stepsL,List.append_nil]
   replace h0:=Aa h0;go_wp2_with fail;go_ret;have ho:=d.out;have hl:=ho.1;rw[h0.out];subst hl;exact⟨A1,c1,rfl,ho,hE.out⟩
end
section
open Go.RowKit
theorem Cells.part (h:Cells w A xs) (Y:∀a,A=some a->a.spot=none) (k m:Nat):Cells w (A.map fun a=>a.add k) ((xs.drop k).take m):=by
 rcases h with h | ⟨g,o,rfl,H⟩
 ·subst h;exact .inl (by simp)
 ·refine .inr ⟨g,o+k,by rw[Option.map_some,Addr.add_lit],fun j v d=>?_⟩;rw[List.getElem?_take]at d;split at d
  ·rw[List.getElem?_drop]at d;have:=H _ v d
   rwa [Nat.add_assoc]
  ·cases d
theorem Chg.others (h:Chg S w w1) (H:∀k,S k->∃t cs,Row w k t cs):KeepsOthers w w1 :=
 ⟨h.size,fun k o hk Y=>(h.block k (Array.getElem?_eq_some_iff.1 hk).1 fun hs=>by
  obtain⟨t,cs,d⟩:=H k hs;unfold Row at d;rw[d]at hk;injection hk with hk;subst hk;cases Y).trans hk⟩
theorem Bo {α:Type} {f:α->List Value} (h:∀x,(f x).length=k):∀(l:List α) (i:Nat),(l.drop i).flatMap f=(l.flatMap f).drop (i*k)
 | [],i=>by simp
 | x::l,0=>by simp
 | x::l,i+1=>by
  rw[List.drop_succ_cons,List.flatMap_cons,Bo h l i,Nat.succ_mul,Nat.add_comm,<-List.drop_drop,List.drop_left' (h x)]
theorem Bh {α:Type} {f:α->List Value} (h:∀x,(f x).length=k):∀(l:List α) (i:Nat),(l.take i).flatMap f=(l.flatMap f).take (i*k)
 | [],i=>by simp
 | x::l,0=>by simp
 | x::l,i+1=>by
  rw[List.take_succ_cons,List.flatMap_cons,Bh h l i,List.flatMap_cons,Nat.succ_mul,Nat.add_comm,show k+i*k=(f x).length+i*k by rw[h x],List.take_length_add_append]
theorem BN {size n c:Nat} (h:w.ownsRow base e size (.slice A n c) n xs):n<=c/\∀a,A=some a->a.spot=none:=by
 rcases h.2 with ⟨H,J⟩ | ⟨g,cap,cur,H,_,_,d,_⟩
 ·injection H with h1 h2 h3;subst h1 h3;exact⟨by omega,nofun⟩
 ·injection H with h1 h2 h3;subst h1 h3;exact⟨d,fun a Y=>by cases Y;rfl⟩
def HB (base h1 h2:Nat) (Hd Bd:List UInt8) (W:World):Prop:=∃(A1 A2:Option Addr) (c1 c2:Nat),Row W h1 25 #[.slice A1 Hd.length c1]/\Row W h2 25 #[.slice A2 Bd.length c2]/\Own8 W base A1 Hd.length c1 Hd/\Own8 W base A2 Bd.length c2 Bd/\∀a1 a2,A1=some a1->A2=some a2->a1.block≠a2.block
section
variable {base h1 h2:Nat} {Hd Bd:List UInt8} {W W1:World}
theorem HB.ext (h:HB base h1 h2 Hd Bd W) (d:Ext W W1):HB base h1 h2 Hd Bd W1:=by
 obtain⟨A1,A2,c1,c2,r1,r2,o1,o2,H⟩:=h;exact⟨A1,A2,c1,c2,r1.ext d,r2.ext d,o1.ext d,o2.ext d,H⟩
theorem HB.alike (h:HB base h1 h2 Hd Bd W) (d:Alike B W W1):HB base h1 h2 Hd Bd W1:=by
 obtain⟨A1,A2,c1,c2,r1,r2,o1,o2,H⟩:=h;exact⟨A1,A2,c1,c2,d.row r1,d.row r2,⟨o1.1,d.buf o1.2⟩,⟨o2.1,d.buf o2.2⟩,H⟩
theorem HB.chg (h:HB base h1 h2 Hd Bd W) (H:Chg S W W1) (J:∀k,S k->∃t cs,Row W k t cs/\t≠25/\t≠5):HB base h1 h2 Hd Bd W1:=by
 obtain⟨A1,A2,c1,c2,r1,r2,o1,o2,Y⟩:=h;have U:∀ {g:Nat} {cs:Array Value},Row W g 25 cs->¬ S g:=fun Z hs=>by
  obtain⟨t,cs,d,ht,_⟩:=J _ hs;exact Row.unlike Z d (fun e=>ht e.symm) rfl
 have hb:∀ {A:Option Addr} {n c:Nat} {xs:List Value},Buf W base 5 A n c xs->∀a,A=some a->¬ S a.block:=fun hb a O hs=>by
  obtain⟨t,cs,d,_,ht⟩:=J _ hs;exact hb.unlike d (fun e=>ht e.symm) a O rfl
 exact⟨A1,A2,c1,c2,H.row r1 (U r1),H.row r2 (U r2),⟨o1.1,o1.2.chg H (hb o1.2)⟩,⟨o2.1,o2.2.chg H (hb o2.2)⟩,Y⟩
theorem HB.head (h:HB base h1 h2 Hd Bd W) (Y:h1≠h2) (H:Ext W W6) (J:n=Hd'.length) (hb:Buf W6 B1 5 A n c (Hd'.map B8)) (Z:W.heap.size<=B1) (d:base<=B1) :
 HB base h1 h2 Hd' Bd (W6.setCell ⟨h1,0,none⟩ (.slice A n c)):=by
 subst J;obtain⟨A1,A2,c1,c2,r1,r2,o1,o2,hd⟩:=h;have r16:=r1.ext H;refine⟨A,A2,c,c2,r16.put 0 _,(r2.ext H).away (fun e=>Y e.symm) _,⟨rfl,(hb.lower d).setCell (hb.unlike r16 (by decide)) _⟩,⟨o2.1,(o2.2.ext H).setCell ((o2.2.ext H).unlike r16 (by decide)) _⟩,fun a1 a2 e1 e2 e=>?_⟩;have U:=hb.base_le a1 e1;have O:=o2.2.lt a2 e2;omega
theorem HB.rows (h:HB base h1 h2 Hd Bd W) (d:Row W h2 25 #[.slice A2 Bd.length c2]) (J:W.grownBy W1 (Value.slice A2 Bd.length c2).ownBlock) (H:Row W g t cs) (ht:t≠5):Row W1 g t cs:=by
 obtain⟨A1,A2',c1,c2',r1,r2,o1,o2,hd⟩:=h;have Y:A2'=A2/\c2'=c2:=by
  have e:=r2.cell 0 rfl;rw[d.cell 0 rfl]at e;injection e with e;injection e with e1 _ e2;exact⟨e1.symm,e2.symm⟩
 obtain⟨rfl,rfl⟩:=Y;refine H.grown J fun e=>?_;cases A2' with
 | none=>simp[Value.ownBlock]at e
 | some a=>exact o2.2.unlike H (fun e=>ht e.symm) a rfl (by simpa [Value.ownBlock]using e.symm)
theorem HB.body {x:List UInt8} (h:HB base h1 h2 Hd Bd W) (G:h1≠h2) (I:Row W h2 25 #[.slice A2 Bd.length c2]) (J:W.grownBy W1 (Value.slice A2 Bd.length c2).ownBlock) (hn:n3=(Bd++x).length) (hb:Buf W1 base 5 A3 n3 c3 ((Bd++x).map B8))
 (hA:A3=A2\/A3=some ⟨W.heap.size,0,none⟩) :
 HB base h1 h2 Hd (Bd++x) (W1.setCell ⟨h2,0,none⟩ (.slice A3 n3 c3))/\KeepsOthers W (W1.setCell ⟨h2,0,none⟩ (.slice A3 n3 c3))/\(∀g t cs,Row W g t cs->t≠5->g≠h2->Row (W1.setCell ⟨h2,0,none⟩ (.slice A3 n3 c3)) g t cs) /\
  (∀w0,Ext w0 W->w0.heap.size<=base->w0.heap.size<=h2->Ext w0 (W1.setCell ⟨h2,0,none⟩ (.slice A3 n3 c3))):=by
 subst hn;obtain⟨A1,A2',c1,c2',r1,r2,o1,o2,hd⟩:=h;have he:A2'=A2/\c2'=c2:=by
  have e:=r2.cell 0 rfl;rw[I.cell 0 rfl]at e;injection e with e;injection e with e1 _ e2;exact⟨e1.symm,e2.symm⟩
 obtain⟨rfl,rfl⟩:=he;have d:∀k,(Value.slice A2' Bd.length c2').ownBlock=some k->∃a,A2'=some a/\a.block=k:=fun k hk=>by
  cases A2' with
  | none=>simp[Value.ownBlock]at hk
  | some a=>exact⟨a,rfl,by simpa [Value.ownBlock]using hk⟩
 have H:∀g t cs,Row W g t cs->t≠5->Row W1 g t cs:=fun g t cs U ht=>U.grown J fun e=>by
  obtain⟨a,O,hk⟩:=d g e.symm;exact o2.2.unlike U (fun e=>ht e.symm) a O hk
 have r1':=H _ _ _ r1 (by decide);have r2':=H _ _ _ r2 (by decide);have o1':Buf W1 base 5 A1 Hd.length c1 (Hd.map B8):=o1.2.grown J fun a O e=>by
  obtain⟨a2,Y,hk⟩:=d _ e;exact hd a a2 O Y hk.symm
 refine⟨⟨A1,A3,c1,c3,r1'.away G _,r2'.put 0 _,⟨rfl,o1'.setCell (o1'.unlike r2' (by decide)) _⟩,⟨rfl,hb.setCell (hb.unlike r2' (by decide)) _⟩,fun a1 a3 e1 e3 e=>?_⟩,(BL o2.2 J).trans (KeepsOthers.setCell _ _ _),fun g t cs U ht Z=>(H g t cs U ht).away Z _,fun w0 hE p0 hh=>(hE.grown J fun k hk=>?_).setCell hh _⟩
 ·rcases hA with rfl | rfl
  ·exact hd a1 a3 e1 e3 e
  ·have:=o1.2.lt a1 e1;injection e3 with e3;subst e3;simp only at e;omega
 ·obtain⟨a2,Y,rfl⟩:=d _ hk;have:=o2.2.base_le a2 Y;omega
end
end
section
open Go.RowKit
attribute [local go_sem] Oper.semAt_some AP
def KeepB (b1 b2:Nat) (W W':World):Prop:=(∀o,W.heap[b1]? = some o->W'.heap[b1]? = some o)/\∀o,W.heap[b2]? = some o->W'.heap[b2]? = some o
theorem KeepB.trans (b1 b2:Nat) (A B C:World) (h:KeepB b1 b2 A B) (k:KeepB b1 b2 B C):KeepB b1 b2 A C:=⟨fun o d=>k.1 o (h.1 o d),fun o d=>k.2 o (h.2 o d)⟩
theorem KeepB.refl (b1 b2:Nat) (A:World):KeepB b1 b2 A A:=⟨fun _ h=>h,fun _ h=>h⟩
theorem KeepB.of {c1 c2:Array Value} (h1:Row W b1 t1 c1) (h:Row W' b1 t1 c1) (h2:Row W b2 t2 c2) (d:Row W' b2 t2 c2):KeepB b1 b2 W W' :=
 ⟨fun o H=>by unfold Row at h1 h;rw[h] ;rw[h1]at H;exact H,fun o H=>by unfold Row at h2 d;rw[d];rw[h2]at H;exact H⟩
theorem KeepB.alike (h1:b1<B) (h2:b2<B) (A C:World) (h:Alike B A C):KeepB b1 b2 A C :=
 ⟨fun _ d=>(h.block b1 (Array.getElem?_eq_some_iff.1 d).1 (fun H=>by have:=H.1;omega)).trans d,fun _ d=>(h.block b2 (Array.getElem?_eq_some_iff.1 d).1 (fun H=>by have:=H.1;omega)).trans d⟩
theorem Ln (A:Option Addr) (n c k:Nat) (w:World) (hk:1<=k) (h:k<=1000000) :
 Calls prog 161 #[.slice A n c,.int .i64 (k:Int)] w fun e w'=>∃b1 b2,e = .returned (.func (.func 221) #[] #[.pointer (some ⟨b1,0,none⟩),.pointer (some ⟨b2,0,none⟩)])/\Row w' b1 66 #[.slice A n c]/\Row w' b2 3 #[.int .i64 (k:Int)]/\w.heap.size<=b1/\w.heap.size<=b2/\b1<b2/\Ext w w':=by
 go_in
 go_wp2_with fail;go_ret;have h1:=Row.new w 66 #[.slice A n c];have h2:=Row.new (w.alloc (.cells #[.slice A n c] 66)) 3 #[.int .i64 (k:Int)];rw[World.size_alloc]at h2;exact⟨w.heap.size,w.heap.size+1,rfl,h1.alloc _,h2,Nat.le_refl _,by omega,by omega,((Ext.refl w).alloc _).alloc _⟩
theorem KO (d:z=(i:Int)) (hi:i<=n):∃A' c',∀W:World,(Instr.sliceAt 66 (.slice A n c) (some (.int .i64 z)) none none).run prog W = .ok (.slice A' (n - i) c') W:=by
 subst d;have ht:=underlying66;have h:prog.elem 66=127:=by unfold Program.elem;rw[ht]
 have hs:∀W:World,(sizeOf 127).run prog W = .ok 2 W:=fun W=>by kernel_rfl
 refine⟨if c=i then A else A.map fun a=>a.add (i*2),c - i,fun W=>?_⟩;rw[run_sliceAt_slice W _ _ _ _ _ (by rw[ht,h]),run_slice_l W _ A n c (by rw[ht,h]) .i64 i (by omega) (by omega),h,hs];simp only[Result.andThen_ok,sliced];rfl
theorem KP (Y:z=(i:Int)) (d:z1=((i+j:Nat):Int)) (H:z2=((i+j:Nat):Int)) (hi:i+j<=c) (J:0<j) (W:World) :
 (Instr.sliceAt 66 (.slice A n c) (some (.int .i64 z)) (some (.int .i64 z1)) (some (.int .i64 z2))).run prog W = .ok (.slice (A.map fun a=>a.add (i*2)) j j) W:=by
 subst Y d H;have ht:=underlying66;have h:prog.elem 66=127:=by unfold Program.elem;rw[ht]
 have hs:(sizeOf 127).run prog W = .ok 2 W:=by kernel_rfl
 rw[run_sliceAt_slice W _ _ _ _ _ (by rw[ht,h]),run_slice_lhm W _ A n c (by rw[ht,h]) .i64 .i64 .i64 i ((i+j:Nat):Int) ((i+j:Nat):Int) (by omega) (by omega) (by omega) (by omega),h,hs];simp only[Result.andThen_ok];congr 1;unfold sliced;rw[if_neg (by omega),show ((i+j:Nat):Int).toNat - (i:Int).toNat=j by omega];rfl
def chunkVA (A:Option Addr) (n k i:Nat):Value:= .slice (A.map fun a=>a.add (i*k*2)) (min k (n - i*k)) (min k (n - i*k))
def ChIterA (A:Option Addr) (n k b1 b2:Nat) (w:World):Prop :=
 Iter prog 221 #[.pointer (some ⟨b1,0,none⟩),.pointer (some ⟨b2,0,none⟩)] (fun i:Nat=>#[chunkVA A n k i]) Ext (fun pre i _=>i=pre.length/\i*k<n) (KeepB b1 b2) (fun xs W W'=>n<=xs.length*k/\xs=List.range xs.length/\(∀i∈xs,i*k<n)/\Ext W W') w
theorem JT (A:Option Addr) (n c k b1 b2:Nat) (w:World) (H:Row w b1 66 #[.slice A n c]) (Y:Row w b2 3 #[.int .i64 (k:Int)]) (hk:1<=k) (n0:k<=1000000) (hn:n<=1000000000) (hc:n<=c):ChIterA A n k b1 b2 w:=by
 intro l J W hE U hY h0;replace H:=H.ext hE;replace Y:=Y.ext hE;clear hE;replace H:=Aa H;replace Y:=Aa Y;replace hY:=Aa hY;replace U:=Aa U;replace h0:=Aa h0;refine(callsIn_wide (n:=0)).1 ?_;refine callsIn_of_wp func221 rfl trivial ?_;simp only[ntmps221,List.size_toArray,List.length_cons,List.length_nil,Nat.reduceAdd,Nat.reduceSub,Array.replicate_succ,Array.replicate_zero,List.push_toArray,List.append_toArray,List.nil_append,List.cons_append];gi_wp2_with fail
 gi_loopw [4] (fun s4 wr=>∃(i q:Nat) (pre:List Nat),s4 = .int .i64 (q:Int)/\Hid (q=i*k)/\q<=n+k/\Hid (pre.length=i)/\Hid (pre=List.range i)/\Hid (∀j∈pre,j*k<n)/\Hid (J pre wr)/\Hid (Row wr b1 66 #[.slice A n c])/\Hid (Row wr b2 3 #[.int .i64 (k:Int)])) (fun s4 _=>n - (intOf s4).toNat)
 case atStart=>exact⟨0,0,[],rfl,Aa (by simp),by omega,Aa rfl,Aa rfl,Aa nofun,h0,H,Y⟩
 case round =>
  obtain⟨i,q,pre,rfl,hq,h1,d,p0,I,hJ,r1,r2⟩:=hrel;have k1:=r1.out.cell 0 rfl;have k2:=r2.out.cell 0 rfl;by_cases G:q<n
  ·obtain⟨m,hm⟩:∃m:Nat,(m:Int)=min (k:Int) ((n - q:Nat):Int):=⟨min k (n - q),by omega⟩
   have b0:0<m:=by omega
   have o0:m<=k:=by omega
   have r0:m<=n - q:=by omega
   have c0:m=k\/m=n - q:=by omega
   have f0:=fun(W:World)=>AQ (P:=prog) #[3,3] 3 hm W;have p1:=fun(W:World)=>KP (A:=A) (n:=n) (c:=c) (i:=q) (j:=m) (z:=(q:Int)) (z1:=(q:Int)+(m:Int)) (z2:=(q:Int)+(m:Int)) rfl (by omega) (by omega) (by omega) b0 W;obtain⟨A',c',q1⟩:=KO (A:=A) (n:=n) (c:=c) (i:=q) (z:=(q:Int)) rfl (by omega);replace hm:=Aa hm;have g0:=hY.out pre pre.length wr.drew (U.out _ _ _ hJ.out (Ext.refl wr).drew) ⟨rfl,by rw[d.out,<-hq.out];exact G⟩;have O:chunkVA A n k pre.length = .slice (A.map fun a=>a.add (q*2)) m m:=by
    unfold chunkVA;rw[d.out,<-hq.out,show min k (n - q)=m by omega]
   rw[O]at g0;obtain⟨fn,tmps,assign,body,hy,hR⟩:=g0;have q0:Hid (∀j∈pre ++ [pre.length],j*k<n):=Aa fun j hj=>by
    rcases List.mem_append.1 hj with h | h
    ·exact I.out j h
    ·rw[List.mem_singleton.1 h,d.out,<-hq.out];exact G
   have k0:Hid (pre ++ [pre.length]=List.range (i+1)):=Aa (by rw[List.range_succ,d.out,p0.out]);have d0:Hid (q+k=(i+1)*k):=Aa (by rw[Nat.succ_mul,hq.out]);clear O c0 hY U;gi_wp2_with fail;refine wpIn_wide.2 (AE (fun K hK=>?_));go_wp2_with fail;refine⟨by kernel_rfl,?_⟩;gi_wp2_with fail;refine hR.mono ?_;rintro e W3 ⟨rfl,x0,Z⟩;have r13:=Aa (show Row W3 b1 66 #[.slice A n c] from Z.1 _ r1.out);have r23:=Aa (show Row W3 b2 3 #[.int .i64 (k:Int)] from Z.2 _ r2.out);have k23:=r23.out.cell 0 rfl;gi_wp2_with fail;exact⟨⟨i+1,q+k,pre ++ [pre.length],by congr 1,d0,by omega,Aa (by rw[List.length_append,d.out];rfl),k0,q0,Aa x0,r13,r23⟩,by simp only[intOf];omega⟩
  ·gi_wp2_with fail
   go_end0
   exact⟨⟨_,rfl⟩,pre,_,hJ.out,by rw[d.out,<-hq.out];omega,by rw[d.out];exact p0.out,I.out,Ext.refl _⟩
end
section
open Go.RowKit Go.Shelf
attribute [local go_sem] Oper.semAt_some AP Cp
def psP (ps:List PoC):List Po:=ps.map PoC.po
def OkB (w:World) (l:List UInt8) (e:Ending) (w':World):Prop:=∃A c,e = .returned (.tuple #[.slice A l.length c,.int .i64 0])/\Own8 w' w.heap.size A l.length c l/\Ext w w'
theorem E6 {l:List Po} (h:okPs l=true):l.length<=65536:=by
 rw[Ed,Bool.and_eq_true]at h;have:=DU h.1 (by omega);rw[List.length_map]at this;omega
theorem PosOk.part {ps:List PoC} (h:PosOk w A ps) (d:∀a,A=some a->a.spot=none) (i m:Nat):PosOk w (A.map fun a=>a.add (i*2)) ((ps.drop i).take m):=by
 refine⟨?_,fun x H=>h.each x (List.mem_of_mem_drop (List.mem_of_mem_take H))⟩;unfold pcells;rw[Bh (f:=PoC.cells) (k:=2) (fun _=>rfl),Bo (f:=PoC.cells) (k:=2) (fun _=>rfl)];exact h.cells.part d _ _
def PEnc (base h1 h2 h3 b1 b2:Nat) (V:Value) (Hd Bd:List UInt8) (last:Int) (w W:World):Prop :=
 HB base h1 h2 Hd Bd W/\Row W h3 3 #[.int .i64 last]/\Row W b1 66 #[V]/\Row W b2 3 #[.int .i64 32]/\Ext w W
theorem PEnc.alike {base h1 h2 H b1 b2 B:Nat} {Hd Bd:List UInt8} {last:Int} (h:PEnc base h1 h2 H b1 b2 V Hd Bd last w W) (d:Alike B W W1) (Y:w.heap.size<=B):PEnc base h1 h2 H b1 b2 V Hd Bd last w W1 :=
 ⟨h.1.alike d,d.row h.2.1,d.row h.2.2.1,d.row h.2.2.2.1,d.ext h.2.2.2.2 Y⟩
theorem PEnc.ext {base h1 h2 H b1 b2:Nat} {Hd Bd:List UInt8} {last:Int} (h:PEnc base h1 h2 H b1 b2 V Hd Bd last w W) (d:Ext W W1):PEnc base h1 h2 H b1 b2 V Hd Bd last w W1 :=
 ⟨h.1.ext d,h.2.1.ext d,h.2.2.1.ext d,h.2.2.2.1.ext d,h.2.2.2.2.trans d⟩
theorem E7 (ps:List PoC) (A:Option Addr) (m c:Nat) (w:World) (hm:m=ps.length) (h:PosOk w A ps) (hA:∀a,A=some a->a.spot=none) (k9:m<=c) (d0:okPs (psP ps)=true) (j0:(blockPo (-1) (psP ps)).length<=50000000) :
 Calls prog 105 #[.slice A m c] w fun e w'=>OkB w (encPs (psP ps)) e w':=by
 have ja:m<=65536:=by have:=E6 d0;unfold psP at this;rw[List.length_map]at this;omega
 have q5:=Ku ps A m c w hm h (by omega);rw[show ps.map PoC.po=psP ps from rfl,d0,if_pos rfl]at q5;obtain⟨P,hP⟩:=Ab (psP ps);rw[<-hP]at d0 j0 ⊢;have m2:=Aa (fun A n c x l W h1 h2 h3 h4 h5=>Cm A n c x l W h1 h2 h3 h4 h5);have xa:=AH (m:=m) (by omega);replace q5:=Aa q5;replace hm:=Aa hm;replace h:=Aa h;replace hP:=Aa hP;replace d0:=Aa d0;replace j0:=Aa j0;replace hA:=Aa hA;refine(callsIn_wide (n:=0)).1 ?_;refine callsIn_of_wp_marks func105 rfl trivial ?_;simp only[ntmps105,List.size_toArray,List.length_cons,List.length_nil,Nat.reduceAdd,Nat.reduceSub,Array.replicate_succ,Array.replicate_zero,List.push_toArray,List.append_toArray,List.nil_append,List.cons_append];gi_wp2_with fail;refine(callsIn_wide.2 q5.out).mono ?_;rintro e w1 ⟨rfl,n6⟩;gi_wp2_with fail;refine(callsIn_wide.2 (m2.out none 0 0 m [] w1 rfl (.inl rfl) (fun _=>rfl) (by omega) (by omega))).mono ?_;rintro e w2 n0;obtain⟨A2,c2,rfl,d2,x3⟩:=n0;rw[List.nil_append]at d2 ⊢;obtain⟨k2,k3⟩:∃k,k=(vb m).length:=⟨_,rfl⟩
 rw[<-k3]at d2 ⊢;replace d2:=Aa d2;replace k3:=Aa k3;replace x3:=Aa (n6.trans x3);gi_wp2_with fail;obtain⟨W3,y0⟩:=Ab (((w2.alloc (Obj.cells #[Value.slice A2 k2 c2] 25)).alloc (Obj.cells #[Value.slice none 0 0] 25)).alloc (Obj.cells #[Value.int IntKind.i64 (-1)] 3));rw[<-y0];obtain⟨h1,b0⟩:=Ab w2.heap.size;have q1:Row W3 h1 25 #[.slice A2 k2 c2]:=by rw[y0,b0];exact((Row.new w2 _ _).alloc _).alloc _
 have q2:Row W3 (h1+1) 25 #[.slice none 0 0]:=by
  have:=Row.new (w2.alloc (Obj.cells #[Value.slice A2 k2 c2] 25)) 25 #[.slice none 0 0];rw[World.size_alloc,<-b0]at this;rw[y0];exact this.alloc _
 have q3:Row W3 (h1+2) 3 #[.int .i64 (-1)]:=by
  have:=Row.new ((w2.alloc (Obj.cells #[Value.slice A2 k2 c2] 25)).alloc (Obj.cells #[Value.slice none 0 0] 25)) 3 #[.int .i64 (-1)];rw[World.size_alloc,World.size_alloc,<-b0]at this;rw[y0];exact this
 have m0:Ext w2 W3:=by rw[y0];exact(((Ext.refl w2).alloc _).alloc _).alloc _
 have b5:W3.heap.size=h1+3:=by rw[y0,b0];simp
 have i7:w.heap.size<=h1:=by rw[b0];exact x3.out.size
 have e4:HB w.heap.size h1 (h1+1) (vb m) [] W3:=⟨A2,none,c2,0,by rw[<-k3.out];exact q1,q2,⟨rfl,by rw[<-k3.out];exact(d2.out.lower n6.size).ext m0⟩,⟨rfl,Buf.nil _ _ _⟩,fun _ _ _ e=>by cases e⟩
 replace m0:=Aa (x3.out.trans m0);rw[<-b0];refine(callsIn_wide.2 (Ln A m c 32 W3 (by omega) (by omega))).mono ?_;rintro e w4 ⟨b1,b2,rfl,rb1,rb2,d8,e8,m9,d4⟩;have i2:PEnc w.heap.size h1 (h1+1) (h1+2) b1 b2 (.slice A m c) (vb m) [] (-1) w w4:=⟨e4.ext d4,q3.ext d4,rb1,rb2,m0.out.trans d4⟩
 have j5:=JT A m c 32 b1 b2 w4 rb1 rb2 (by omega) (by omega) (by omega) k9;rw[b5]at d8 e8;have f0:=i2.2.2.2.2.size;replace i2:=Aa i2;replace j5:=Aa j5;replace y0:=Aa y0;replace b0:=Aa b0;clear q1 q2 q3 e4 d4 rb1 rb2 d2 m0 x3 k3 b5;gi_wp2_with fail;unfold ChIterA at j5;refine C8 (gf:=221) (lb:=#[.pointer (some ⟨b1,0,none⟩),.pointer (some ⟨b2,0,none⟩)]) rfl (enters_of func221 (by kernel_rfl) rfl) j5.out (fun _=>rfl) (fun _ _ h=>h.others) (fun _ _ _ h=>h.2.2.2.others) (KeepB.trans b1 b2) ?kb
  (fun pre W=>PEnc w.heap.size h1 (h1+1) (h1+2) b1 b2 (.slice A m c) (vb m++headPo (-1) ((chunkL 32 P).take pre.length)) (blockPo (-1) (P.take (pre.length*32))) (lastPo (-1) (P.take (pre.length*32))) w W) (fun pre A B h ha=>h.alike ha f0) (fun pre A B h hE=>h.ext hE) ?h0 ?hround ?hdone
 case kb =>
  have a7:=(i2.out.2.2.1).lt;have b7:=(i2.out.2.2.2.1).lt;exact KeepB.alike a7 b7
 case h0 =>
  intro W ha;have:=i2.out.alike ha f0;simpa [headPo,blockPo,lastPo]using this
 case hround =>
  rintro l pre i W hI ⟨hi,p9⟩;subst hi;have l2:P.length=m:=by rw[hP.out,hm.out];exact List.length_map ..
  have hR:=Hb d0.out j0.out (r:=pre.length) (by rw[l2];exact p9);obtain⟨j,hj⟩:=Ab (min 32 (m - pre.length*32));obtain⟨cb,r3⟩:=Ab ((ps.drop (pre.length*32)).take 32);have l1:cb.length=j:=by rw[r3,hj,List.length_take,List.length_drop,hm.out]
  obtain⟨A',c4⟩:=Ab (A.map fun a=>a.add (pre.length*32*2):Option Addr);have j2:PosOk w A' cb:=by rw[c4,r3];exact h.out.part hA.out _ _
  have c5:chunkVA A m 32 pre.length = .slice A' j j:=by unfold chunkVA;rw[c4,hj]
  obtain⟨bP,n4⟩:=Ab ((P.drop (pre.length*32)).take 32);have i1:bP=cb.map PoC.po:=by rw[n4,r3,hP.out,psP,<-List.map_drop,<-List.map_take]
  obtain⟨lst,p4⟩:=Ab (lastPo (-1) (P.take (pre.length*32)));rw[<-n4,<-p4]at hR;rw[hR.last]at hI;obtain⟨Hd,q0⟩:=Ab (vb m++headPo (-1) ((chunkL 32 P).take pre.length));obtain⟨Bd,G⟩:=Ab (blockPo (-1) (P.take (pre.length*32)));rw[<-q0,<-G]at hI;have t9:j<=32:=by omega
  replace hI:=Aa hI;replace hR:=Aa hR;rw[c5];clear c5;replace j2:=Aa j2;replace c4:=Aa c4;replace r3:=Aa r3;replace hj:=Aa hj;replace n4:=Aa n4;replace p4:=Aa p4;replace q0:=Aa q0;replace G:=Aa G;replace l1:=Aa l1;replace i1:=Aa i1;replace l2:=Aa l2;gi_wp2_with fail;refine⟨KeepsOthers.refl _,KeepB.refl _ _ _,fun W2 i6=>?_⟩;have m7:=Aa (hI.out.alike i6 f0);clear i6 hI;obtain⟨d3,x4,x2,y2,y3⟩:=m7.out;obtain⟨Y,hY⟩:=Ab (blockPo lst bP);obtain⟨lz,j3⟩:=Ab (lastPo lst bP);have q9:=hR.out.lo;have f8:=hR.out.hi;have b8:Y.length<=50000000:=by have:=hR.out.len;have:=j0.out;rw[hY];omega
  have q8:=Aa (fun base A B n c k c2 l last N xs W h1 h2 h3 h4 h5 h6 h7 h8 h9=>OJ base A B n c k c2 l last N xs W h1 h2 h3 h4 h5 h6 h7 h8 h9);replace d3:=Aa d3;replace x4:=Aa x4;replace x2:=Aa x2;replace y2:=Aa y2;replace y3:=Aa y3;replace hY:=Aa hY;replace j3:=Aa j3;clear m7;gi_wp2_with fail
  gi_loopw [9,26] (fun s9 s26 wr=>∃(i n9 c9:Nat) (A9:Option Addr) (X:List UInt8) (la:Int),s9 = .slice A9 n9 c9/\s26 = .int .i64 (i:Int)/\i<=j/\n9<=50000000 /\ -1<=la/\la<65536/\Hid (Y=X++blockPo la (bP.drop i))/\Hid (risB 65536 la ((bP.drop i).map (·.1))=true)/\Hid (lastPo la (bP.drop i)=lz)/\Hid (Own8 wr w.heap.size A9 n9 c9 X)/\Hid (Row wr (h1+2) 3 #[.int .i64 la])/\Hid (Chg (fun k=>k=h1+2) W2 wr)) (fun _ s26 _=>j - (intOf s26).toNat)
  case atStart=>exact⟨0,0,0,none,[],lst,rfl,rfl,by omega,by omega,q9,f8,Aa (by rw[hY.out];rfl),Aa hR.out.ris,Aa (by rw[j3.out];rfl),Aa ⟨rfl,Buf.nil _ _ _⟩,x4,Aa (Chg.refl _ _)⟩
  case round =>
   obtain⟨i,n9,c9,A9,X,la,rfl,rfl,ka,ga,x9,y9,z7,j9,o7,p0,e0,r0⟩:=hrel;have J:Hid (Ext w wr):=Aa (y3.out.chg r0.out fun k hk e=>by omega);by_cases i8:i<j
   ·obtain⟨x,b4⟩:∃x,cb[i]? = some x:=⟨_,List.getElem?_eq_getElem (by rw[l1.out];exact i8)⟩
    obtain⟨g,o,y8,x0,x1⟩:=Bc (j2.out.cells.ext J.out) b4;subst y8;have z6:=j2.out.each x (List.mem_of_getElem? b4);have o4:bP[i]? = some x.po:=by rw[i1.out,List.getElem?_map,b4];rfl
    have t6:=hR.out.pos x.po (List.mem_of_getElem? o4);have j1:=z7.out;have a2:=j9.out;have p2:=o7.out;rw[AY o4]at j1 a2 p2;rw[List.map_cons]at a2;obtain⟨r5,w5,z4⟩:=BW a2;have o6:=fun o=>J.out.alloc o;have f7:=fun o=>r0.out.trans (Chg.of_ext ((Ext.refl wr).alloc o) _) fun _ _ h=>h;have f6:=fun o=>e0.out.alloc o;have d9:=fun o=>(e0.out.alloc o).cell 0 rfl;replace b4:=Aa b4;replace o4:=Aa o4;replace t6:=Aa t6;replace j1:=Aa j1;replace p2:=Aa p2;replace z4:=Aa z4;replace z6:=Aa z6;clear a2;obtain⟨d,pos,B,cB⟩:=x;have r5:la<d:=r5;have w5:d<65536:=w5;simp only at x0 x1;obtain⟨pl,t3⟩:=Ab pos.length;rw[<-t3]at x1;replace t3:=Aa t3;replace o6:=Aa o6;replace f7:=Aa f7;replace f6:=Aa f6;obtain⟨z9,v4⟩:0<pos.length/\risB 1048576 (-1) pos=true:=by
     have:=t6.out;unfold okPo at this;rw[Bool.and_eq_true]at this;exact⟨of_decide_eq_true this.1,this.2⟩
    obtain⟨q,hq⟩:∃q:Nat,(q:Int)=d - la - 1:=⟨(d - la - 1).toNat,by omega⟩
    obtain⟨X1,i4⟩:=Ab (X++stepsL la [d]);obtain⟨X2,i3⟩:=Ab (X1++vb pl);obtain⟨X3,p3⟩:=Ab (X2++stepsL (-1) pos);have m1:Y=X3++blockPo d (bP.drop (i+1)):=by
     rw[j1.out,p3,i3,i4,t3.out];show X++((vb (d - la - 1).toNat++vb pos.length++stepsL (-1) pos)++_)=_;simp[stepsL,PoC.po]
    have x7:X3.length<=50000000:=by rw[m1,List.length_append]at b8;omega
    have v7:X2.length<=X3.length:=by rw[p3,List.length_append];omega
    have t7:X1.length<=X2.length:=by rw[i3,List.length_append];omega
    have a9:pl<=50000000:=by
     have:=FR pos (-1);rw[p3,List.length_append,<-t3.out]at *;omega
    have ya:=AH (m:=pl) (by omega);replace i4:=Aa i4;replace i3:=Aa i3;replace p3:=Aa p3;replace m1:=Aa m1;replace hq:=Aa hq;replace v4:=Aa v4;gi_wp2_with fail;obtain⟨W5,e3⟩:=Ab ((wr.alloc (Obj.cells #[Value.int IntKind.i64 d,Value.slice B pl cB] 127)).alloc (Obj.cells #[Value.int IntKind.i64 d] 3));have I:Ext wr W5:=by rw[e3];exact((Ext.refl wr).alloc _).alloc _
    have rp:Row W5 wr.heap.size 127 #[Value.int IntKind.i64 d,Value.slice B pl cB]:=by rw[e3];exact(Row.new wr _ _).alloc _
    have d7:Cells W5 (some ⟨wr.heap.size+1,0,none⟩) ([d].map IV):=by
     rw[e3];refine .inr ⟨_,0,rfl,fun u v hv=>?_⟩;have:=heap_alloc_new (wr.alloc (Obj.cells #[Value.int IntKind.i64 d,Value.slice B pl cB] 127)) (Obj.cells #[Value.int IntKind.i64 d] 3);rw[World.size_alloc]at this;rw[Nat.zero_add,cell_of_row _ _ _ _ _ _ this];simpa [IV]using hv
    rw[<-e3];have Z:=p0.out.1;refine(Bb (q8.out w.heap.size A9 _ n9 c9 1 1 X la 65536 [d] W5 (p0.out.ext I) (by have:=(J.out.trans I).size;omega) rfl d7 (by simp[risB,r5,w5]) (by omega) (by omega) (by omega) (by omega))).mono ?_;rintro e w6 i5;obtain⟨A6,c6,rfl,i0,e5⟩:=i5;rw[<-i4.out]at i0 ⊢;obtain⟨gp,p6⟩:=Ab wr.heap.size;rw[<-p6]at rp ⊢;have rp6:=rp.ext e5;have y1:=rp6.cell 1 rfl;have a4:w.heap.size<=W5.heap.size:=(J.out.trans I).size;have x5:Hid (Ext wr w6):=Aa (I.trans e5);have p8:w.heap.size<=w6.heap.size:=(J.out.trans x5.out).size;obtain⟨n10,j4⟩:=Ab X1.length;rw[<-j4]at i0 t7 ⊢;replace j4:=Aa j4;replace rp6:=Aa rp6;replace i0:=Aa i0;replace p6:=Aa p6;clear e3 I rp d7 Z e5 a4;gi_wp2_with fail;refine(Bb (m2.out A6 n10 c6 pl X1 w6 i0.out.1 i0.out.2.cells i0.out.nil_ (by omega) (by omega))).mono ?_;rintro e w7 n0;obtain⟨A7,c7,rfl,g0,k0⟩:=n0;rw[<-i3.out]at g0 ⊢;have rp7:=rp6.out.ext k0;have z1:=rp7.cell 1 rfl;have z0:=rp7.cell 0 rfl;have m3:Hid (Own8 w7 w.heap.size A7 X2.length c7 X2):=Aa ⟨rfl,g0.lower p8⟩;have z3:Hid (Ext wr w7):=Aa (x5.out.trans k0);have k8:w.heap.size<=w7.heap.size:=(J.out.trans z3.out).size;obtain⟨n11,m4⟩:=Ab X2.length;rw[<-m4]at m3 v7 ⊢;replace m4:=Aa m4;replace rp7:=Aa rp7;clear g0 k0 y1;gi_wp2_with fail;refine(Bb (q8.out w.heap.size A7 B n11 c7 pl cB X2 (-1) 1048576 pos w7 m3.out k8 t3.out ((z6.out.1.ext J.out).ext z3.out) v4.out (by omega) (by omega) (by omega) (by omega))).mono ?_;rintro e w8 i5;obtain⟨A8,c8,rfl,U,e2⟩:=i5;rw[<-p3.out]at U ⊢;have rp8:=rp7.out.ext e2;have v0:=rp8.cell 0 rfl;have y5:Hid (Ext wr w8):=Aa (z3.out.trans e2);have r38:=e0.out.ext y5.out;have t0:=r38.cell 0 rfl;have t1:=r38.free 0;obtain⟨n12,t4⟩:=Ab X3.length;rw[<-t4]at U x7 ⊢;replace t4:=Aa t4;replace U:=Aa U;replace r38:=Aa r38;clear z0 z1 e2 rp8;gi_wp2_with fail;have r7:=r38.out.put 0 (.int .i64 d);have g6:Own8 (w8.setCell ⟨h1+2,0,none⟩ (.int .i64 d)) w.heap.size A8 n12 c8 X3:=⟨U.out.1,U.out.2.setCell (U.out.2.unlike r38.out (by decide)) _⟩
    have e7:Chg (fun k=>k=h1+2) W2 (w8.setCell ⟨h1+2,0,none⟩ (.int .i64 d)):=(r0.out.trans (Chg.of_ext y5.out _) fun _ _ h=>h).trans (Chg.of_set (S:=fun k=>k=h1+2) w8 _ rfl) fun _ _ h=>h;exact⟨⟨i+1,n12,c8,A8,X3,d,rfl,by congr 1,by omega,by omega,by omega,by omega,m1,z4,p2,Aa g6,Aa r7,Aa e7⟩,by simp only[intOf];omega⟩
   ·have r4:bP.length=j:=by rw[i1.out,List.length_map];exact l1.out
    have l5:Y=X:=by rw[z7.out,List.drop_eq_nil_of_le (by rw[r4];omega),blockPo,List.append_nil]
    have c0:la=lz:=by rw[<-o7.out,List.drop_eq_nil_of_le (by rw[r4];omega),lastPo]
    have a5:HB w.heap.size h1 (h1+1) Hd Bd wr:=d3.out.chg r0.out fun k hk=>⟨3,#[.int .i64 lst],by rw[hk];exact x4.out,by decide,by decide⟩
    have l0:=a5;obtain⟨A1,B1,c1,d1,r1,r2,o1,o2,p5⟩:=a5;have f1:=r1.cell 0 rfl;have f3:=e0.out.cell 0 rfl;obtain⟨lN,g5⟩:∃lN:Nat,la=(lN:Int):=⟨la.toNat,by have:=hR.out.ne;rw[c0,j3.out];omega⟩
    have v9:lN<65536:=by omega
    have va:=AH (m:=lN) (by omega);have ta:=AH (m:=n9) (by omega);rw[g5]at f3;have g7:Hd.length<=100000:=by
     have h1:=hR.out.hlen;have h2:=Ag (n:=m) (by omega);rw[q0.out,List.length_append];omega
    obtain⟨nh,v5⟩:=Ab Hd.length;rw[<-v5]at f1 g7 o1;obtain⟨H1,a3⟩:=Ab (Hd++vb lN);obtain⟨H2,b3⟩:=Ab (H1++vb n9);have o8:=Ag (n:=lN) (by omega);have r8:=Ag (n:=n9) (by omega);have p7:H1.length<=100010:=by rw[a3,List.length_append,<-v5];omega
    have j7:H2.length<=100020:=by rw[b3,List.length_append];omega
    have Z:=p0.out.1;have g8:=J.out.size;replace v5:=Aa v5;replace a3:=Aa a3;replace b3:=Aa b3;replace g5:=Aa g5;replace l5:=Aa l5;replace c0:=Aa c0;replace l0:=Aa l0;replace r1:=Aa r1;replace r2:=Aa r2;replace o1:=Aa o1;replace o2:=Aa o2;replace p5:=Aa p5;replace Z:=Aa Z;replace r4:=Aa r4;clear o8 r8;gi_wp2_with fail;refine(Bb (m2.out A1 nh c1 lN Hd wr o1.out.1 o1.out.2.cells o1.out.nil_ (by omega) (by omega))).mono ?_;rintro e w7 n0;obtain⟨A7,c7,rfl,g0,k0⟩:=n0;rw[<-a3.out]at g0 ⊢;obtain⟨n7,m5⟩:=Ab H1.length;rw[<-m5]at g0 p7 ⊢;have m3:Hid (Own8 w7 w.heap.size A7 n7 c7 H1):=Aa ⟨m5,g0.lower g8⟩;replace m5:=Aa m5;replace k0:=Aa k0;clear g0;gi_wp2_with fail;refine(Bb (m2.out A7 n7 c7 n9 H1 w7 m3.out.1 m3.out.2.cells m3.out.nil_ (by omega) (by omega))).mono ?_;rintro e w8 n0;obtain⟨A8,c8,rfl,U,e2⟩:=n0;rw[<-b3.out]at U ⊢;obtain⟨n8,t5⟩:=Ab H2.length;rw[<-t5]at U j7 ⊢;have H:Hid (Ext wr w8):=Aa (k0.out.trans e2);have r18:=r1.out.ext H.out;have s0:=r18.cell 0 rfl;have s1:=r18.free 0;have z5:=Aa (l0.out.head (W6:=w8) (B1:=w7.heap.size) (by omega) H.out t5 U k0.out.size (by have:=k0.out.size;omega));replace r18:=Aa r18;replace t5:=Aa t5;clear U e2;have m6:Hid (Own8 (w8.setCell ⟨h1,0,none⟩ (.slice A8 n8 c8)) w.heap.size A9 n9 c9 X):=Aa ⟨p0.out.1,((p0.out.2.ext H.out)).setCell ((p0.out.2.ext H.out).unlike r18.out (by decide)) _⟩;have w3:KeepsOthers W2 (w8.setCell ⟨h1,0,none⟩ (.slice A8 n8 c8)):=((r0.out.others fun k hk=>⟨3,#[.int .i64 lst],by rw[hk];exact x4.out⟩).trans H.out.others).trans (KeepsOthers.setCell _ _ _);have a1:Row (w8.setCell ⟨h1,0,none⟩ (.slice A8 n8 c8)) b1 66 #[.slice A m c]:=(((r0.out.row x2.out (by omega)).ext H.out)).away (by simp;omega) _;have e1:Row (w8.setCell ⟨h1,0,none⟩ (.slice A8 n8 c8)) b2 3 #[.int .i64 32]:=(((r0.out.row y2.out (by omega)).ext H.out)).away (by simp;omega) _;have y4:Row (w8.setCell ⟨h1,0,none⟩ (.slice A8 n8 c8)) (h1+2) 3 #[.int .i64 la]:=(e0.out.ext H.out).away (by simp) _;have p1:Ext w (w8.setCell ⟨h1,0,none⟩ (.slice A8 n8 c8)):=(J.out.trans H.out).setCell (by simpa using i7) _;replace w3:=Aa w3;replace a1:=Aa a1;replace e1:=Aa e1;replace y4:=Aa y4;replace p1:=Aa p1;have g9:Bd.length<=50000000:=by have:=hR.out.len;have:=j0.out;rw[G.out];omega
    have r28:Row (w8.setCell ⟨h1,0,none⟩ (.slice A8 n8 c8)) (h1+1) 25 #[.slice B1 Bd.length d1]:=(r2.out.ext H.out).away (by simp) _;have s2:=(r2.out.ext H.out).cell 0 rfl;have o5:Buf (w8.setCell ⟨h1,0,none⟩ (.slice A8 n8 c8)) w.heap.size 5 B1 Bd.length d1 (Bd.map B8):=(o2.out.2.ext H.out).setCell ((o2.out.2.ext H.out).unlike r18.out (by decide)) _;have y6:Cells (w8.setCell ⟨h1,0,none⟩ (.slice A8 n8 c8)) A9 (X.map B8):=m6.out.2.cells;have l3:(X.map B8).length=n9:=by rw[List.length_map];exact Z.out.symm
    have j8:=p1.out.size;replace r28:=Aa r28;replace o5:=Aa o5;replace y6:=Aa y6;replace l3:=Aa l3;gi_wp2_with (gi_at_builtin;refine Bu Aw o5.out y6.out (.tmp 57) (.tmp 58) rfl rfl rfl rfl rfl l3.out (Ai _) (by omega) j8 (fun A10 c10 w10 o3 n1 d5 q4=>?_);have r210:=HB.rows z5.out r28.out n1 r28.out (by decide);have u0:=r210.cell 0 rfl;have u1:=r210.free 0;replace r210:=Aa r210;replace o3:=Aa o3;replace n1:=Aa n1;replace d5:=Aa d5;replace q4:=Aa q4);obtain⟨g1,g2,g3,g4⟩:=HB.body (x:=X) z5.out (by omega) r28.out n1.out (by rw[List.length_append,<-Z.out]) (by rw[List.map_append];exact o3.out) q4.out;refine⟨w3.out.trans g2,KeepB.of x2.out (g3 _ _ _ a1.out (by decide) (by omega)) y2.out (g3 _ _ _ e1.out (by decide) (by omega)),?_,g3 _ _ _ ?_ (by decide) (by omega),g3 _ _ _ a1.out (by decide) (by omega),g3 _ _ _ e1.out (by decide) (by omega),g4 _ p1.out (Nat.le_refl _) (by omega)⟩
    ·rw[List.length_append,List.length_singleton,hR.out.head,hR.out.body,<-G.out,<-List.append_assoc,<-List.append_assoc,<-q0.out,<-hY.out,l5.out,<-j3.out,<-c0.out,<-Z.out,g5.out,Int.toNat_natCast,<-a3.out,<-b3.out];exact g1
    ·rw[List.length_append,List.length_singleton,hR.out.last2,<-j3.out,<-c0.out];exact y4.out
 case hdone =>
  rintro D xs W2 W3 W5 hD hI ⟨r6,z8,a8,q7⟩ l6 hk;have l2:P.length=m:=by rw[hP.out,hm.out];exact List.length_map ..
  have O:=Iu P xs.length (by rw[l2];exact r6);rw[l2]at O;have f5:=(hI.ext q7).alike l6 f0;have e4:=f5.1;have I:=f5.2.2.2.2;obtain⟨A1,B1,c1,d1,r1,r2,o1,o2,p5⟩:=e4;obtain⟨Hd,q0⟩:=Ab (vb m++headPo (-1) ((chunkL 32 P).take xs.length));obtain⟨Bd,G⟩:=Ab (blockPo (-1) (P.take (xs.length*32)));rw[<-q0]at r1 o1 O;rw[<-G]at r2 o2 O;have f1:=r1.cell 0 rfl;have f2:=r2.cell 0 rfl;have pa:Hd.length<=50000000:=by
   have h1:=E8 d0.out j0.out xs.length;have h2:=Ag (n:=m) (by omega);have h3:(headPo (-1) ((chunkL 32 P).take xs.length)).length<=20*(chunkL 32 P).length:=by
    have:=E8 d0.out j0.out (chunkL 32 P).length;rw[List.take_length]at this;refine Nat.le_trans ?_ this;have h4:=Ew ((chunkL 32 P).take xs.length) ((chunkL 32 P).drop xs.length) (-1);rw[List.take_append_drop]at h4;rw[h4,List.length_append];omega
   have h5:=AO (k:=32) (by omega) P;rw[q0,List.length_append];omega
  have o9:Bd.length<=50000000:=by have:=DO P (xs.length*32);have:=j0.out;rw[G];omega
  have a4:=I.size;have v6:=o2.2.cells;have l4:=o1.2;have j6:(Bd.map B8).length=Bd.length:=List.length_map ..;replace O:=Aa O;replace q0:=Aa q0;replace G:=Aa G;replace r1:=Aa r1;replace r2:=Aa r2;replace v6:=Aa v6;replace l4:=Aa l4;replace j6:=Aa j6;replace I:=Aa I;replace hk:=Aa hk;clear hI f5 r6 z8 a8 q7 l6 o1 o2 p5;gi_wp2_with (gi_at_builtin;refine Bu Aw l4.out v6.out (.tmp 60) (.tmp 61) rfl rfl rfl rfl rfl j6.out (Ai _) (by omega) a4 (fun A6 c6 w6 n5 q6 x6 l7=>?_);replace n5:=Aa n5;replace q6:=Aa q6;replace x6:=Aa x6;replace l7:=Aa l7);have l8:w6.heap[D]? = some (.deferred (some [])):=(BL l4.out q6.out).same _ _ hk.out rfl;refine BR (B:=w4.heap.size) rfl l8 hD fun W ha=>⟨_,results_tmp2 rfl _ _ _,?_⟩
  refine⟨A6,c6,?_,⟨rfl,?_⟩,ha.ext (x6.out w I.out (Nat.le_refl _)) f0⟩
  ·rw[O.out,List.length_append];rfl
  ·rw[O.out,List.length_append,List.map_append];exact ha.buf n5.out
end
section
open Go.RowKit
theorem wrap_i64 (h:q<9223372036854775808):IntKind.i64.wrap (q:Int)=(q:Int):=by
 simp[IntKind.wrap,IntKind.bits,IntKind.signed];omega
theorem GJ (A B:Option Addr) (n m c c2:Nat) (a b:List UInt8) (w:World) (ha:In8 w A n c a) (hb:In8 w B m c2 b) (hn:n<=1000000000) (hm:m<=1000000000) :
 Calls prog 35 #[.slice A n c,.slice B m c2] w fun e w'=>e = .returned (.bool (decide (a=b)))/\Ext w w':=by
 have d:=ha.len;have H:=hb.len;have Y:((n:Int) != (m:Int))=true->decide (a=b)=false:=fun h=>decide_eq_false fun e=>by rw[e]at d;simp at h;omega
 replace Y:=Aa Y;by_cases j0:n=m
 ·subst j0;replace d:=Aa d;replace H:=Aa H;clear Y
  go_in
  go_wp2_with fail
  go_loopw [13] (fun s13 wr=>∃i:Nat,s13 = .int .i64 i/\i<=n/\Hid (a.take i=b.take i)/\Hid (Ext w wr)) (fun s13 _=>n - (intOf s13).toNat)
  case atStart=>exact⟨0,rfl,by omega,rfl,Aa (Ext.refl w)⟩
  case round =>
   obtain⟨i,rfl,hi,hab,J⟩:=hrel;by_cases q0:i<n
   ·have I:i<a.length:=by rw[<-d.out];exact q0
    have h0:i<b.length:=by rw[<-H.out];exact q0
    obtain⟨g,o,rfl,hc⟩:=ha.bytes.at_ (by omega);obtain⟨g2,o2,rfl,G⟩:=hb.bytes.at_ (by omega);have k0:=J.out.cell (hc i I);have k1:=J.out.cell (G i h0);have O:a[i]=b[i]->a.take (i+1)=b.take (i+1):=fun h=>by rw[List.take_succ_eq_append_getElem I,List.take_succ_eq_append_getElem h0,hab.out,h]
    have Z:a[i]≠b[i]->decide (a=b)=false:=fun h=>decide_eq_false fun e=>h (by subst e;rfl);obtain⟨p,hp⟩:=Ab (a[i]);obtain⟨q,hq⟩:=Ab (b[i]);rw[<-hp,<-hq]at O Z;rw[<-hp]at k0;rw[<-hq]at k1;have y0:(0:Int)<=i:=by omega
    have b0:(i:Int)<n:=by omega
    replace O:=Aa O;replace Z:=Aa Z;clear hp hq hc G;by_cases U:p=q
    ·subst U;have t0:=Aa (O.out rfl);clear O Z;go_wp2_with fail;go_quiet (fail);go_wp2_with fail;go_roundw
     case rel=>exact⟨i+1,by go_num,by omega,t0,by first | exact Aa J.out.drew | exact Aa (J.out.drewN _)⟩
     case measure=>simp[intOf];omega
    ·have v0:=Aa (Z.out U);have c0:(((p.toNat:Int)) != (q.toNat:Int))=true:=by simp;exact fun h=>U (UInt8.toNat_inj.1 (by omega))
     clear O Z;go_wp2_with fail;go_quiet (fail);go_wp2_with fail;go_ret;exact⟨Bf v0.out.symm,by first | exact J.out.drew | exact J.out.drewN _⟩
   ·obtain rfl:i=n:=by omega
    have hd:decide (a=b)=true:=decide_eq_true (by
     have h:=hab.out;rw[List.take_of_length_le (by rw[<-d.out];exact Nat.le_refl _),List.take_of_length_le (by rw[<-H.out];exact Nat.le_refl _)]at h;exact h)
    replace hd:=Aa hd;go_wp2_with fail;go_ret;exact⟨Bf hd.out.symm,J.out⟩
 ·have hd:=Aa (Y.out (by simp;omega));clear Y d H ha hb
  go_in
  go_wp2_with fail;go_ret;exact⟨Bf hd.out.symm,Ext.refl w⟩
theorem In8.take (h:In8 w A n c l) (hk:k<=n):In8 w A k c (l.take k):=by
 refine⟨by rw[List.length_take,<-h.len];omega,?_,by have:=h.cap;omega,h.nil_,h.at_⟩;rcases h.bytes with hb | ⟨g,o,H,hb⟩
 ·left;have:l = []:=by simpa using hb
  rw[this];simp
 ·refine .inr ⟨g,o,H,fun i v d=>hb i v ?_⟩;rw[List.getElem?_map]at d ⊢;rw[List.getElem?_take]at d;split at d
  ·exact d
  ·cases d
theorem AN (w:World) (us:List Value) (T:TypeId):Cells (w.alloc (.cells us.toArray T)) (some ⟨w.heap.size,0,none⟩) us :=
 .inr ⟨w.heap.size,0,rfl,fun i u h=>by
  rw[Nat.zero_add,cell_of_row _ _ _ _ _ _ (heap_alloc_new w _)];simpa using h⟩
theorem Cu (hb:Buf w base e A n c xs) (H:w.grownBy w1 (Value.slice A n c).ownBlock) (d:Row w g t cs) (ht:t≠e):Row w1 g t cs :=
 d.grown H fun h=>by
  cases A with
  | none=>simp[Value.ownBlock]at h
  | some a=>exact hb.unlike d (fun e=>ht e.symm) a rfl (by simpa [Value.ownBlock]using h.symm)
end
section
open Go.RowKit Go.Maps
open Go
structure MapL (P:Program) (k:TypeId) (w:World) (m:Nat) (L:List (Value×Value)):Prop where
  ex:∃es clock,w.heap[m]? = some (.map es clock)/\es.toList.map (fun e=>(e.key,e.val))=L/\es.toList.Pairwise (fun a b=>a.born≠b.born)/\∀e∈es.toList,e.born<clock
  keys:∀p∈L,∃l,keyOf P k p.1=some l
  nodup:(L.map Prod.fst).Nodup
section
variable {P:Program} {k:TypeId} {w w1:World} {m:Nat} {L:List (Value×Value)}
theorem MapL.keep (h:MapL P k w m L) (hb:w1.heap[m]? = w.heap[m]?):MapL P k w1 m L:=by
 obtain⟨⟨es,cl,h1,h2⟩,d,H⟩:=h;exact⟨⟨es,cl,hb.trans h1,h2⟩,d,H⟩
theorem MapL.lt (h:MapL P k w m L):m<w.heap.size:=by
 obtain⟨⟨es,cl,h1,_⟩,_⟩:=h;exact(Array.getElem?_eq_some_iff.1 h1).1
theorem MapL.ext (h:MapL P k w m L) (d:Ext w w1):MapL P k w1 m L:=h.keep (Below.block d m h.lt)
theorem MapL.grown {row:Option Nat} (h:MapL P k w m L) (H:w.grownBy w1 row) (d:row≠some m):MapL P k w1 m L:=h.keep (H.block m h.lt (fun e=>d e.symm))
theorem MapL.drew (h:MapL P k w m L):MapL P k w.drew m L:=h.keep rfl
theorem MapL.alloc (h:MapL P k w m L) (o:Obj):MapL P k (w.alloc o) m L:=h.keep (Below.heap_alloc w o m h.lt)
theorem MapL.made (w:World):MapL P k (w.alloc (.map #[] 0)) w.heap.size [] :=
 ⟨⟨#[],0,heap_alloc_new w _,rfl,List.Pairwise.nil,by simp⟩,by simp,by simp⟩
theorem MapL.unique {x u v:Value} (h:MapL P k w m L) (H:(x,u)∈L) (Y:(x,v)∈L):u=v:=by
 have d:=h.nodup;clear h
 induction L with
 | nil=>cases H
 | cons p L ih =>
  simp only[List.map_cons,List.nodup_cons]at d;rcases List.mem_cons.1 H with h1 | h1 <;> rcases List.mem_cons.1 Y with h2 | h2
  ·rw[<-h1]at h2;exact(Prod.mk.inj h2).2.symm
  ·exfalso;apply d.1;rw[<-h1];exact List.mem_map.2 ⟨_,h2,rfl⟩
  ·exfalso;apply d.1;rw[<-h2];exact List.mem_map.2 ⟨_,h1,rfl⟩
  ·exact ih h1 h2 d.2
theorem MapL.find (h:MapL P k w m L) (K:Keyed P k) {x:Value} {l:Lit} (Z:keyOf P k x=some l) {es:Array MapEntry} (hb:w.heap[m]? = some (.map es cl)) (W:World) :
 ((Instr.findKey k x es.toList).run P W = .ok none W/\∀p∈L,p.1≠x) \/
 ∃j e,(Instr.findKey k x es.toList).run P W = .ok (some (j,e.val)) W/\es[j]? = some e/\e.key=x/\(x,e.val)∈L:=by
 obtain⟨⟨es',cl',h1,h2,_⟩,O,_⟩:=h;rw[hb]at h1;cases h1;have hk:∀e∈es.toList,∃l,keyOf P k e.key=some l:=fun e d=>O (e.key,e.val) (by rw[<-h2];exact List.mem_map.2 ⟨e,d,rfl⟩);rcases K.find W Z es.toList hk with ⟨Y,H⟩ | ⟨j,e,Y,J,d⟩
 ·refine .inl ⟨Y,fun p U=>?_⟩;rw[<-h2]at U;obtain⟨e,d,rfl⟩:=List.mem_map.1 U;exact H e d
 ·refine .inr ⟨j,e,Y,by simpa using J,d,?_⟩;rw[<-h2];exact List.mem_map.2 ⟨e,List.mem_of_getElem? J,by rw[d]⟩
theorem MapL.look (h:MapL P k w m L) (K:Keyed P k) (ht:P.underlying t=some (.map k E)) {x z:Value} {l:Lit} (Y:keyOf P k x=some l) (O:(zeroValue E).run P w = .ok z w) (ok:Bool) :
 (∃v,(x,v)∈L/\(Instr.lookup t (.map (some m)) x ok).run P w = .ok (if ok then .tuple #[v,.bool true] else v) w) \/
 ((∀p∈L,p.1≠x)/\(Instr.lookup t (.map (some m)) x ok).run P w = .ok (if ok then .tuple #[z,.bool false] else z) w):=by
 obtain⟨es,cl,hb,_⟩:=h.ex;have J:(getObj m).run P w = .ok (.map es cl) w:=by simp[getObj,Sem.run,hb]
 rcases h.find K Y hb w with ⟨H,d⟩ | ⟨j,e,H,G,Z,U⟩
 ·refine .inr ⟨d,?_⟩;simp only[Instr.lookup,Sem.run_bind,run_underlying ht,Result.andThen_ok,J,Sem.run_pure,K.check w es.isEmpty Y,H,O]
 ·refine .inl ⟨e.val,U,?_⟩;simp only[Instr.lookup,Sem.run_bind,run_underlying ht,Result.andThen_ok,J,Sem.run_pure,K.check w es.isEmpty Y,H]
structure Put (L:List (Value×Value)) (x v:Value) (L':List (Value×Value)):Prop where
  mem:∀p,p∈L'↔p=(x,v)\/(p∈L/\p.1≠x)
  len:(∃u,(x,u)∈L)/\L'.length=L.length\/(∀p∈L,p.1≠x)/\L'.length=L.length+1
theorem CI {es:Array MapEntry} (hb:w.heap[m]? = some (.map es cl)) (o:Obj):(setObj m o).run P w = .ok () { w with heap:=w.heap.setIfInBounds m o }:=by
 simp[setObj,Sem.run,hb]
theorem BH {o:Obj} (h:m<w.heap.size):({ w with heap:=w.heap.setIfInBounds m o }:World).heap[m]? = some o:=by
 simp[h]
theorem Br (o : Obj) : w.grownBy { w with heap := w.heap.setIfInBounds m o } (some m) :=
  ⟨rfl, rfl, rfl, by simp, fun i _ hi => by
    have : m ≠ i := fun e => hi (by rw [e])
    simp [Array.getElem?_setIfInBounds_ne this]⟩
theorem CE {es:Array MapEntry} {e0:MapEntry} (H:es[j]? = some e0) (f:MapEntry->MapEntry) (e:MapEntry) :
 e∈(es.modify j f).toList↔e=f e0\/∃i,i≠j/\es[i]? = some e:=by
 have Y:j<es.size:=(Array.getElem?_eq_some_iff.1 H).1;constructor
 ·intro h;obtain⟨i,hi⟩:=List.mem_iff_getElem?.1 h;rw[Array.getElem?_toList,Array.getElem?_modify]at hi;split at hi
  ·rename_i d;subst d;rw[H]at hi;exact .inl (Option.some.inj hi).symm
  ·rename_i d;exact .inr ⟨i,fun h=>d h.symm,hi⟩
 ·rintro(rfl | ⟨i,hi,d⟩)
  ·refine List.mem_iff_getElem?.2 ⟨j,?_⟩;rw[Array.getElem?_toList,Array.getElem?_modify,if_pos rfl,H];rfl
  ·refine List.mem_iff_getElem?.2 ⟨i,?_⟩;rw[Array.getElem?_toList,Array.getElem?_modify,if_neg (fun h=>hi h.symm)];exact d
theorem GZ {es:Array MapEntry} {β:Type} (f:MapEntry->MapEntry) (g:MapEntry->β) (H:∀e,es[j]? = some e->g (f e)=g e):(es.modify j f).toList.map g=es.toList.map g:=by
 refine List.ext_getElem? fun i=>?_;rw[List.getElem?_map,List.getElem?_map,Array.getElem?_toList,Array.getElem?_toList,Array.getElem?_modify];split
 ·rename_i h;subst h;cases d:es[j]? with
  | none=>rfl
  | some e=>simp[H e d]
 ·rfl
theorem Kr {es:Array MapEntry} (H:(es.toList.map (·.key)).Nodup) {a b:MapEntry} (hi:es[i]? = some a) (d:es[j]? = some b) (hk:a.key=b.key):i=j:=by
 have h1:(es.toList.map (·.key))[i]? = some a.key:=by simp[hi]
 have h2:(es.toList.map (·.key))[j]? = some b.key:=by simp[d]
 have h:i<(es.toList.map (·.key)).length:=(List.getElem?_eq_some_iff.1 h1).1;exact(List.getElem?_inj h H).1 (by rw[h1,h2,hk])
theorem MM {es:Array MapEntry} (Y:es.toList.Pairwise (fun a b=>a.born≠b.born)) {a b:MapEntry} (hi:es[i]? = some a) (H:es[j]? = some b) (hk:a.born=b.born):i=j:=by
 have d:(es.toList.map (·.born)).Nodup:=by rw[List.nodup_iff_pairwise_ne,List.pairwise_map];exact Y
 have h1:(es.toList.map (·.born))[i]? = some a.born:=by simp[hi]
 have h2:(es.toList.map (·.born))[j]? = some b.born:=by simp[H]
 have h:i<(es.toList.map (·.born)).length:=(List.getElem?_eq_some_iff.1 h1).1;exact(List.getElem?_inj h d).1 (by rw[h1,h2,hk])
theorem MapL.modify (h:MapL P k w m L) {es:Array MapEntry} (hb:w.heap[m]? = some (.map es cl)) {e0:MapEntry} (H:es[j]? = some e0) (v:Value) {f:MapEntry->MapEntry}
 (J:(f e0).key=e0.key) (O:(f e0).val=v) (Z:(f e0).born=e0.born) (hw:w1.heap[m]? = some (.map (es.modify j f) cl)):∃L',MapL P k w1 m L'/\Put L e0.key v L':=by
 obtain⟨⟨es',cl',h1,h2,h4,h5⟩,h3,h6⟩:=h;rw[hb]at h1;cases h1;have Y:(es.toList.map (·.key)).Nodup:=by
  rw[<-h2,List.map_map]at h6;exact h6
 refine⟨(es.modify j f).toList.map (fun e=>(e.key,e.val)),⟨⟨es.modify j f,cl,hw,rfl,?_,fun e d=>?_⟩,fun p U=>?_,?_⟩,fun p=>?_,.inl ⟨⟨e0.val,?_⟩,?_⟩⟩
 ·have I:(es.modify j f).toList.map (·.born)=es.toList.map (·.born):=GZ f (·.born) (fun e d=>by rw[H]at d;cases d;exact Z);have hn:(es.toList.map (·.born)).Nodup:=by rw[List.nodup_iff_pairwise_ne,List.pairwise_map];exact h4
  rw[<-I,List.nodup_iff_pairwise_ne,List.pairwise_map]at hn;exact hn
 ·rcases (CE H f e).1 d with rfl | ⟨i,_,hi⟩
  ·rw[Z];exact h5 e0 (by simpa using Array.mem_of_getElem? H)
  ·exact h5 e (by simpa using Array.mem_of_getElem? hi)
 ·obtain⟨e,d,rfl⟩:=List.mem_map.1 U;rcases (CE H f e).1 d with rfl | ⟨i,_,hi⟩
  ·rw[J];exact h3 (e0.key,e0.val) (by rw[<-h2];exact List.mem_map.2 ⟨e0,by simpa using Array.mem_of_getElem? H,rfl⟩)
  ·exact h3 (e.key,e.val) (by rw[<-h2];exact List.mem_map.2 ⟨e,by simpa using Array.mem_of_getElem? hi,rfl⟩)
 ·rw[List.map_map];have:(es.modify j f).toList.map (Prod.fst∘fun e=>(e.key,e.val))=es.toList.map (·.key):=GZ f _ (fun e d=>by rw[H]at d;cases d;exact J);rw[this];exact Y
 ·constructor
  ·intro U;obtain⟨e,d,rfl⟩:=List.mem_map.1 U;rcases (CE H f e).1 d with rfl | ⟨i,hi,G⟩
   ·exact .inl (by rw[J,O])
   ·refine .inr ⟨by rw[<-h2];exact List.mem_map.2 ⟨e,by simpa using Array.mem_of_getElem? G,rfl⟩,fun hk=>hi (Kr Y G H hk)⟩
  ·rintro(rfl | ⟨U,q0⟩)
   ·exact List.mem_map.2 ⟨f e0,(CE H f _).2 (.inl rfl),by rw[J,O]⟩
   ·rw[<-h2]at U;obtain⟨e,d,rfl⟩:=List.mem_map.1 U;obtain⟨i,hi⟩:=List.mem_iff_getElem?.1 d;rw[Array.getElem?_toList]at hi;exact List.mem_map.2 ⟨e,(CE H f e).2 (.inr ⟨i,fun h0=>q0 (by subst h0;rw[H]at hi;cases hi;rfl),hi⟩),rfl⟩
 ·rw[<-h2];exact List.mem_map.2 ⟨e0,by simpa using Array.mem_of_getElem? H,rfl⟩
 ·rw[<-h2];simp
theorem MapL.push (h:MapL P k w m L) {es:Array MapEntry} (hb:w.heap[m]? = some (.map es cl)) {x v:Value} {l:Lit} (hx:keyOf P k x=some l) (Y:∀p∈L,p.1≠x)
 (hw:w1.heap[m]? = some (.map (es.push { key:=x,val:=v,born:=cl }) (cl+1))):∃L',MapL P k w1 m L'/\Put L x v L':=by
 obtain⟨⟨es',cl',h1,h2,G,O⟩,Z,I⟩:=h;rw[hb]at h1;cases h1;refine⟨L ++ [(x,v)],⟨⟨_,_,hw,by simp[h2],?_,fun e J=>?_⟩,fun p d=>?_,?_⟩,fun p=>?_,.inr ⟨Y,by simp⟩⟩
 ·simp only[Array.toList_push];rw[List.pairwise_append];exact⟨G,List.pairwise_singleton ..,fun a U b H=>by
   obtain rfl:=List.mem_singleton.1 H;have:=O a U;simp only;omega⟩
 ·simp only[Array.toList_push]at J;rcases List.mem_append.1 J with J | J
  ·have:=O e J;omega
  ·obtain rfl:=List.mem_singleton.1 J;simp only;omega
 ·rcases List.mem_append.1 d with d | d
  ·exact Z p d
  ·obtain rfl:=List.mem_singleton.1 d;exact⟨l,hx⟩
 ·rw[List.map_append,List.nodup_append];refine⟨I,by simp,fun a U b H=>?_⟩;simp at H;obtain⟨p,d,rfl⟩:=List.mem_map.1 U;rw[H];exact Y p d
 ·constructor
  ·intro d;rcases List.mem_append.1 d with d | d
   ·exact .inr ⟨d,Y p d⟩
   ·exact .inl (List.mem_singleton.1 d)
  ·rintro(rfl | ⟨d,_⟩)
   ·simp
   ·exact List.mem_append_left _ d
theorem MapL.update (h:MapL P k w m L) (K:Keyed P k) (ht:P.underlying t=some (.map k E)) {x:Value} {l:Lit} (d:keyOf P k x=some l) (v:Value) :
 ∃w' L',(Instr.mapUpdate t (.map (some m)) x v).run P w = .ok () w'/\MapL P k w' m L'/\Put L x v L'/\w.grownBy w' (some m)/\w'.heap.size=w.heap.size:=by
 obtain⟨es,cl,hb,_⟩:=h.ex;have J:(getObj m).run P w = .ok (.map es cl) w:=by simp[getObj,Sem.run,hb]
 rcases h.find K d hb w with ⟨Y,H⟩ | ⟨j,e,Y,U,O,Z⟩
 ·obtain⟨L',h1,h2⟩:=h.push (w1:= { w with heap:=w.heap.setIfInBounds m (.map (es.push { key:=x,val:=v,born:=cl }) (cl+1)) }) hb d H (BH h.lt);refine⟨_,L',?_,h1,h2,Br _,by simp⟩;simp only[Instr.mapUpdate,Sem.run_bind,run_underlying ht,Result.andThen_ok,J,K.check w false d,Y,CI hb]
 ·subst O;obtain⟨L',h1,h2⟩:=h.modify (w1:= { w with heap:=w.heap.setIfInBounds m (.map (es.modify j fun e'=> { e' with key:=e.key,val:=v }) cl) }) hb U v (f:=fun e'=> { e' with key:=e.key,val:=v }) rfl rfl rfl (BH h.lt);refine⟨_,L',?_,h1,h2,Br _,by simp⟩;simp only[Instr.mapUpdate,Sem.run_bind,run_underlying ht,Result.andThen_ok,J,K.check w false d,Y,U,Option.map_some,Option.getD_some,K.stays w d,CI hb]
theorem MapL.entry (h:MapL P k w m L) (K:Keyed P k) (ht:P.underlying t=some (.map k E)) {x z:Value} {l:Lit} (hx:keyOf P k x=some l) (hz:(zeroValue E).run P w = .ok z w) :
 ∃w' v n,(Instr.mapEntry t (.map (some m)) x).run P w = .ok (.tuple #[v,.int .i64 n]) w'/\((x,v)∈L\/(∀p∈L,p.1≠x)/\v=z)/\w.grownBy w' (some m)/\w'.heap.size=w.heap.size/\(∃L1,MapL P k w' m L1) /\
  ∀(w2:World) (u:Value),w2.heap[m]? = w'.heap[m]? ->
   ∃w3 L',(Instr.entryStore t (.map (some m)) (.int .i64 n) u).run P w2 = .ok () w3/\MapL P k w3 m L'/\Put L x u L'/\w2.grownBy w3 (some m)/\w3.heap.size=w2.heap.size:=by
 obtain⟨es,cl,hb,_,Z,l0⟩:=h.ex;have hg:(getObj m).run P w = .ok (.map es cl) w:=by simp[getObj,Sem.run,hb]
 have back:∀(es2:Array MapEntry) (cl2 j:Nat) (e0:MapEntry) (w2:World) (u:Value),w2.heap[m]? = some (.map es2 cl2)->es2[j]? = some e0->es2.toList.Pairwise (fun a b=>a.born≠b.born) ->
  (Instr.entryStore t (.map (some m)) (.int .i64 (e0.born:Int)) u).run P w2 = .ok () { w2 with heap:=w2.heap.setIfInBounds m (.map (es2.modify j fun e=> { e with val:=u }) cl2) }:=by
  intro es2 cl2 j e0 w2 u d G c0;have b0:(getObj m).run P w2 = .ok (.map es2 cl2) w2:=by simp[getObj,Sem.run,d]
  have Y:j<es2.size:=(Array.getElem?_eq_some_iff.1 G).1;have y0:es2.findIdx? (fun e=>(e.born:Int)==(e0.born:Int))=some j:=by
   rw[Array.findIdx?_eq_some_iff_getElem];refine⟨Y,?_,fun i hi=>?_⟩
   ·have:es2[j]=e0:=by
     have:=Array.getElem?_eq_getElem Y;rw[G]at this;exact(Option.some.inj this).symm
    simp[this]
   ·have J:es2[i].born≠e0.born:=fun he=>by
     have:=MM c0 (Array.getElem?_eq_getElem (by omega:i<es2.size)) G he;omega
    simp;omega
  simp only[Instr.entryStore,Sem.run_bind,b0,Result.andThen_ok,asInt,asIntOf,Sem.run_pure,y0,CI d]
 rcases h.find K hx hb w with ⟨hr,O⟩ | ⟨j,e,hr,hj,he,hm⟩
 ·let w':World:= { w with heap:=w.heap.setIfInBounds m (.map (es.push { key:=x,val:=z,born:=cl }) (cl+1)) }
  have H:w'.heap[m]? = some (.map (es.push { key:=x,val:=z,born:=cl }) (cl+1)):=BH h.lt;obtain⟨L1,h1,h2⟩:=h.push (w1:=w') hb hx O H;refine⟨w',z,(cl:Int),?_,.inr ⟨O,rfl⟩,Br _,by simp[w'],⟨L1,h1⟩,fun w2 u d=>?_⟩
  ·simp only[Instr.mapEntry,Sem.run_bind,run_underlying ht,Result.andThen_ok,hg,K.check w false hx,hr,hz,CI hb,Sem.run_pure,goInt];rfl
  ·have q0:(es.push { key:=x,val:=z,born:=cl })[es.size]? = some { key:=x,val:=z,born:=cl }:=by simp
   obtain⟨⟨es1,cl1,j0,_,v0,_⟩,_⟩:=id h1;rw[H]at j0;cases j0;have I:=back _ _ _ _ w2 u (d.trans H) q0 v0;have Y:m<w2.heap.size:=(Array.getElem?_eq_some_iff.1 (d.trans H)).1;obtain⟨L2,h3,h4⟩:=(h1.keep d).modify (w1:= { w2 with heap:=w2.heap.setIfInBounds m (.map ((es.push { key:=x,val:=z,born:=cl }).modify es.size fun e=> { e with val:=u }) (cl+1)) }) (d.trans H) q0 u (f:=fun e=> { e with val:=u }) rfl rfl rfl (BH Y);refine⟨_,L2,I,h3,⟨fun p=>?_,?_⟩,Br _,by simp⟩
   ·rw[h4.mem p];constructor
    ·rintro(rfl | ⟨hp,J⟩)
     ·exact .inl rfl
     ·rcases (h2.mem p).1 hp with rfl | hp
      ·exact absurd rfl J
      ·exact .inr hp
    ·rintro(rfl | ⟨hp,J⟩)
     ·exact .inl rfl
     ·exact .inr ⟨(h2.mem p).2 (.inr ⟨hp,J⟩),J⟩
   ·refine .inr ⟨O,?_⟩;rcases h2.len with ⟨⟨u',f0⟩,_⟩ | ⟨_,hl⟩
    ·exact absurd rfl (O _ f0)
    ·rcases h4.len with ⟨_,n0⟩ | ⟨p0,_⟩
     ·omega
     ·exact absurd rfl (p0 (x,z) ((h2.mem _).2 (.inl rfl)))
 ·subst he
  let w':World:= { w with heap:=w.heap.setIfInBounds m (.map (es.modify j fun e'=> { e' with key:=e.key }) cl) }
  have o0:j<es.size:=(Array.getElem?_eq_some_iff.1 hj).1;have U:es.modify j (fun e'=> { e' with key:=e.key })=es:=by
   apply Array.ext_getElem?;intro i;rw[Array.getElem?_modify];split
   ·rename_i hi;subst hi;rw[hj];rfl
   ·rfl
  have H:w'.heap[m]? = some (.map es cl):=by
   have:=BH (w:=w) (m:=m) (o:= .map (es.modify j fun e'=> { e' with key:=e.key }) cl) h.lt;rw[U]at this;simpa [w',U]using this
  refine⟨w',e.val,(e.born:Int),?_,.inl hm,Br _,by simp[w'],⟨L,h.keep (H.trans hb.symm)⟩,fun w2 u d=>?_⟩
  ·simp only[Instr.mapEntry,Sem.run_bind,run_underlying ht,Result.andThen_ok,hg,K.check w false hx,hr,hj,Option.map_some,Option.getD_some,K.stays w hx,CI hb,Sem.run_pure,goInt];rfl
  ·have I:=back es cl j e w2 u (d.trans H) hj Z;have Y:m<w2.heap.size:=(Array.getElem?_eq_some_iff.1 (d.trans H)).1;obtain⟨L2,h3,h4⟩:=(h.keep ((d.trans H).trans hb.symm)).modify (w1:= { w2 with heap:=w2.heap.setIfInBounds m (.map (es.modify j fun e=> { e with val:=u }) cl) }) (d.trans H) hj u (f:=fun e=> { e with val:=u }) rfl rfl rfl (BH Y);exact⟨_,L2,I,h3,h4,Br _,by simp⟩
end
end
section
open Go.RowKit
attribute [local go_sem] Oper.semAt_some AP Cp
def KpT (B:Nat) (W W':World):Prop:=(∀w0:World,w0.heap.size<=B->Ext w0 W->Ext w0 W')/\∀g t cs,t≠122->t≠125->Row W g t cs->Row W' g t cs
theorem KpT.trans (B:Nat) (A C D:World) (h:KpT B A C) (k:KpT B C D):KpT B A D:=⟨fun w0 d H=>k.1 w0 d (h.1 w0 d H),fun g t cs h1 h2 Y=>k.2 g t cs h1 h2 (h.2 g t cs h1 h2 Y)⟩
theorem KpT.alike (Y:B<=X) (A C:World) (h:Alike X A C):KpT B A C:=⟨fun _ hs d=>h.ext d (by omega),fun _ _ _ _ _ H=>h.row H⟩
theorem KpT.ext {A C:World} (h:Ext A C):KpT B A C:=⟨fun _ _ d=>d.trans h,fun _ _ _ _ _ H=>H.ext h⟩
def fdV (f:Fd):Value:= .agg #[.string ⟨f.1.toArray⟩,.string ⟨f.2.toArray⟩]
def BsIter (fs:List Fd) (B b0:Nat) (w:World):Prop :=
 Iter prog 150 #[.pointer (some ⟨b0,0,none⟩)] (fun x:Nat×Fd=>#[.int .i64 (x.1:Int),fdV x.2]) Ext (fun pre x _=>fs[pre.length]? = some x.2/\x.1=baseT 0 (fs.take pre.length)) (KpT B) (fun xs A C=>xs.length=fs.length/\Ext A C) w
theorem Nk (at_:Int) (A:Option Addr) (n c:Nat) (w:World) :
 Calls prog 98 #[.agg #[.int .i64 at_,.slice A n c]] w fun e w'=>∃b0,e = .returned (.func (.func 150) #[] #[.pointer (some ⟨b0,0,none⟩)])/\Row w' b0 93 #[.int .i64 at_,.slice A n c]/\w.heap.size<=b0/\Ext w w':=by
 go_in
 go_wp2_with fail;go_ret;exact⟨w.heap.size,rfl,Row.new w _ _,Nat.le_refl _,(Ext.refl w).alloc _⟩
theorem Lf (at_:Int) (fs:List Fd) (A:Option Addr) (n c b0 B:Nat) (w0 w:World) (hn:n=fs.length) (hc:Cells w0 A (fcells fs)) (hB:w0.heap.size<=B) (hw:Ext w0 w) (n1:n<=1000) (j0:∀f∈fs,f.2.length<=1000000)
 (U:Row w b0 93 #[.int .i64 at_,.slice A n c]):BsIter fs B b0 w:=by
 intro l J W hE I hY h0;have j1:=Aa (fun l W h=>HL l W h);replace U:=Aa (U.ext hE);replace hw:=Aa (hw.trans hE);clear hE;replace hY:=Aa hY;replace I:=Aa I;replace h0:=Aa h0;replace hn:=Aa hn;replace hc:=Aa hc;replace j0:=Aa j0;refine(callsIn_wide (n:=0)).1 ?_;refine callsIn_of_wp func150 rfl trivial ?_;simp only[ntmps150,List.size_toArray,List.length_cons,List.length_nil,Nat.reduceAdd,Nat.reduceSub,Array.replicate_succ,Array.replicate_zero,List.push_toArray,List.append_toArray,List.nil_append,List.cons_append];have k0:=U.out.cell 0 rfl;have k1:=U.out.cell 1 rfl;gi_wp2_with fail
 gi_loopw [3,9] (fun s3 s9 wr=>∃(i bs:Nat) (pre:List (Nat×Fd)),s3 = .int .i64 (bs:Int)/\s9 = .int .i64 (i:Int)/\i<=n/\bs<=i*1000100/\Hid (pre.length=i)/\Hid (bs=baseT 0 (fs.take i))/\Hid (J pre wr)/\Hid (Ext w0 wr)) (fun _ s9 _=>n - (intOf s9).toNat)
 case atStart=>exact⟨0,0,[],rfl,rfl,by omega,by omega,Aa rfl,Aa rfl,h0,hw⟩
 case round =>
  obtain⟨i,bs,pre,rfl,rfl,hi,l1,G,y0,hJ,hE⟩:=hrel;by_cases h1:i<n
  ·obtain⟨f,hf⟩:∃f,fs[i]? = some f:=⟨_,List.getElem?_eq_getElem (by rw[<-hn.out];exact h1)⟩
   obtain⟨g,o,hA,x0,x1⟩:=Bg (hc.out.ext hE.out) hf;subst hA;have r0:=j0.out f (List.mem_of_getElem? hf);obtain⟨W2,d⟩:=Ab (wr.alloc (.cells #[.string ⟨f.1.toArray⟩,.string ⟨f.2.toArray⟩] 90));have Y:Ext wr W2:=by rw[d];exact(Ext.refl wr).alloc _
   have r2:Row W2 wr.heap.size 90 #[.string ⟨f.1.toArray⟩,.string ⟨f.2.toArray⟩]:=by rw[d];exact Row.new wr _ _
   obtain⟨gd,O⟩:=Ab wr.heap.size;rw[<-O]at r2;have p0:=r2.cell 0 rfl;have p1:=r2.cell 1 rfl;have a1:=hY.out pre (bs,f) W2 (I.out _ _ _ hJ.out Y) ⟨by rw[G.out];exact hf,by rw[G.out];exact y0.out⟩;obtain⟨fn,tmps,assign,body,hy,v0⟩:=a1;simp only[fdV]at hy v0;have d0:=CK f.2;have H:baseT 0 (fs.take (i+1))=bs+(64+(tokL f.2).length):=by
    rw[List.take_add_one,hf,Fx,<-y0.out];rfl
   obtain⟨nm,tx⟩:=f;simp only at x0 x1 r0 d r2 p0 p1 hy d0 H;unfold strV at x0 x1;obtain⟨nt,Z⟩:=Ab ((tokL tx).length);rw[<-Z]at d0 H;rw[d]at hy;replace hf:=Aa hf;replace d:=Aa d;replace O:=Aa O;replace r2:=Aa r2;replace Y:=Aa (hE.out.trans Y);replace Z:=Aa Z;replace H:=Aa H;clear hY;gi_wp2_with fail;rw[<-d.out,<-O.out];refine v0.mono ?_;rintro e W3 ⟨rfl,q0,c0⟩;have r3:=c0.2 _ _ _ (by decide) (by decide) r2.out;have q1:=r3.cell 1 rfl;have l0:=Aa (c0.1 w0 hB Y.out);have o0:=Aa (j1.out tx W3 (by omega));replace q0:=Aa q0;gi_wp2_with fail;refine(callsIn_wide.2 o0.out).mono ?_;rintro e w4 hT;obtain⟨A4,c4,rfl,_,t0⟩:=hT;rw[<-Z.out];gi_wp2_with fail;exact⟨⟨i+1,bs+(64+nt),pre ++ [(bs,(nm,tx))],by first | rfl | (congr 1;omega),by go_num,by omega,by omega,Aa (by rw[List.length_append,G.out];rfl),Aa H.out.symm,Aa (I.out _ _ _ q0.out t0),Aa (l0.out.trans t0)⟩,by simp only[intOf];omega⟩
  ·gi_wp2_with fail
   go_end0
   exact⟨⟨_,rfl⟩,pre,_,hJ.out,by rw[G.out,<-hn.out];omega,Ext.refl _⟩
end
end Go.Proofs.YtpnlihgcboepeaaGreat
